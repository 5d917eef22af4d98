/- The abstract machine's quiet operations are sound. -/
import Derived.Test.YtlkoaemljkdioaaDoorWA
import Derived.MapKept
section
/- Equality of structs; choices; all operations that leave memory as it is. -/
namespace Go.Ew

section
variable {P : Program} {T : Tab} {W0 : World} {M : Nat → Prop} {S0 S : Addr → Prop} {γ : Gh} {σ : St} {a : Act} {W : World} {gl : List Bool}

theorem eqV_ok {t : TypeId} {x y : Value} {b : Bool} (h : eqV P t x y = some b) (d : Nat) (w : World) : (Op.equalIn (d + 1) t x y).run P w = .ok b w := by
  cases x <;> cases y <;> simp only [eqV] at h <;> try (cases h; done)
  · split at h
    · rename_i hk
      injection h with h; subst h
      rename_i a b _
      rw [run_equalIn_bool' w d t _ _ hk]
      cases a <;> cases b <;> rfl
    · cases h
  · split at h
    · rename_i k0 hk
      simp only [Option.ite_none_right_eq_some, Option.some.injEq] at h
      obtain ⟨rfl, rfl⟩ := h
      rw [run_equalIn_int w d t _ k0 _ _ hk]
      rfl
    · cases h
  · split at h
    · rename_i hk
      injection h with h; subst h
      rw [run_equalIn_string w d t _ _ hk]
      rename_i a b _
      have : (a.toList == b.toList) = decide (a.toList = b.toList) := by by_cases hab : a.toList = b.toList <;> simp [hab]
      rw [this]
    · cases h
theorem part_one {ft : TypeId} (h : pureIn P (isAgg ft) = some false) {xs : Array Value} {i : Nat} {x : Value} (hx : xs[i]? = some x) (w : World) : (part ft xs i).run P w = .ok x w := by
  unfold part
  rw [Sem.run_bind, pureIn_run h]
  simp [hx]
theorem eqFs_ok {xs ys : Array Value} (d : Nat) (w : World) : ∀ (fs : List Field) (cs ds : List CV) (i : Nat) (b : Bool), CsRel W S γ cs (xs.toList.drop i) → CsRel W S γ ds (ys.toList.drop i) →
    eqFs P fs cs ds i = some b → (Op.eqFields (d + 1) xs ys fs).run P w = .ok b w := by
  intro fs
  induction fs with
  | nil =>
    intro cs ds i b hc hd h
    cases cs <;> cases ds <;> simp only [eqFs] at h <;> try (cases h; done)
    injection h with h; subst h; rfl
  | cons f fs ih =>
    intro cs ds i b hc hd h
    cases cs with
    | nil => simp [eqFs] at h
    | cons c cs =>
      cases ds with
      | nil => simp [eqFs] at h
      | cons e ds =>
        simp only [eqFs] at h
        split at h
        · rename_i x y hx hy
          split at h
          · rename_i hcond
            obtain ⟨ho, hn, ht⟩ := hcond
            split at h
            · rename_i a1 b1 ha hb
              injection h with h; subst h
              obtain ⟨v, vs, hv, hv1, hv2⟩ := hc.cons_inv
              obtain ⟨u, us, hu, hu1, hu2⟩ := hd.cons_inv
              have hv1' : v = x := (show TRel W S γ (.u (.one c)) v from hv1).flat (by cases c <;> simp [CV.flat] at hx; rename_i p; cases p <;> simp at hx; subst hx; rfl)
              have hu1' : u = y := (show TRel W S γ (.u (.one e)) u from hu1).flat (by cases e <;> simp [CV.flat] at hy; rename_i p; cases p <;> simp at hy; subst hy; rfl)
              subst hv1' hu1'
              have hget : ∀ (zs : Array Value) (z : Value) (zz : List Value), zs.toList.drop i = z :: zz → zs[i]? = some z ∧ zs.toList.drop (i + 1) = zz := fun zs z zz hz => by
                have h1 : (zs.toList.drop i)[0]? = some z := by rw [hz]; rfl
                rw [List.getElem?_drop] at h1
                refine ⟨by simpa using h1, ?_⟩
                have h2 : (zs.toList.drop i).drop 1 = zz := by rw [hz]; rfl
                rwa [List.drop_drop] at h2
              obtain ⟨hx1, hx2⟩ := hget xs _ _ hv
              obtain ⟨hy1, hy2⟩ := hget ys _ _ hu
              subst ho
              have hne : f.name ≠ "_" := by simpa using hn
              simp only [Op.eqFields, if_pos hne, Sem.run_bind, part_one ht hx1, part_one ht hy1, Result.andThen_ok, eqV_ok ha d]
              rw [← hx2] at hv2
              rw [← hy2] at hu2
              have := ih cs ds (f.offset + 1) b1 hv2 hu2 hb
              cases a1
              · simp
              · simp [this]
            · cases h
          · cases h
        · cases h
theorem eqAgg_ok {op : BinOp} {t : TypeId} {x y r : TV} {u v : Value} (hx : TRel W S γ x u) (hy : TRel W S γ y v) (h : eqAgg P op t x y = some r) (ox oy : Operand) :
    ∃ z, (∀ w, (do eqGuard op t ox oy u v; binOp op t u v : Sem Value).run P w = .ok z w) ∧ TRel W S γ r z := by
  unfold eqAgg at h
  split at h
  · rename_i cs ds
    obtain ⟨xs, rfl, hxs⟩ := hx
    obtain ⟨ys, rfl, hys⟩ := hy
    split at h
    · rename_i hc
      split at h
      · rename_i fields hu
        have hf : P.underlying t = some (.struct (P.fieldsOf t)) := by rw [Program.fieldsOf, hu]
        have hfe : P.fieldsOf t = fields := by rw [Program.fieldsOf, hu]
        split at h
        · rename_i b hb
          have key : ∀ w, (Op.equalIn 10000 t (.agg xs) (.agg ys)).run P w = .ok b w := fun w => by
            rw [run_equalIn_struct w 9999 t xs ys hf hc.1, hfe]
            exact eqFs_ok (W := W) (S := S) (γ := γ) 9998 w _ cs ds 0 b (by simpa using hxs) (by simpa using hys) hb
          split at h
          · injection h with h; subst h
            refine ⟨.bool b, fun w => ?_, PRel.v _ rfl⟩
            rw [Sem.run_bind, run_eqGuard_agg w _ t ox oy xs ys hc.2]
            simp only [Result.andThen_ok, run_eql_struct, key]
          · injection h with h; subst h
            refine ⟨.bool (!b), fun w => ?_, PRel.v _ rfl⟩
            rw [Sem.run_bind, run_eqGuard_agg w _ t ox oy xs ys hc.2]
            simp only [Result.andThen_ok, run_neq_struct, key]
          · cases h
        · cases h
      · cases h
    · cases h
  · cases h

theorem pick_ok (hR : Rel T W0 M S0 S γ σ a W) (hg : gl.all id = true) {c x y : Operand} {r : TV} (h : pickOp T gl σ c x y = some r) :
    ∃ g, a.eval c = .bool g ∧ TRel W S γ r (if g then a.eval x else a.eval y) := by
  unfold pickOp at h
  split at h
  · cases h
  · rename_i g hb
    have hc := (hR.opg hg c).bool hb
    refine ⟨g, hc, ?_⟩
    split at h
    · rename_i u v hu hv
      injection h with h; subst h
      cases g with
      | true =>
        have := (hR.opg (gl := gl ++ [true]) (by simp [hg]) x).bool hu
        simp only [if_true, cond_true, this]
        exact PRel.v _ rfl
      | false =>
        have := (hR.opg (gl := gl ++ [!false]) (by simp [hg]) y).bool hv
        simp only [Bool.false_eq_true, if_false, cond_false, this]
        exact PRel.v _ rfl
    · cases g with
      | true => simp only [cond_true, Option.some.injEq] at h; subst h; exact hR.opg hg x
      | false => simp only [cond_false, Option.some.injEq] at h; subst h; exact hR.opg hg y

theorem len_ok (hT : TabOK P T) (hM : MemOK W0 M S γ σ.mem W) {t : TypeId} {x r : TV} {v : Value} (hx : TRel W S γ x v) (h : lenOp T σ t x = some r) : ∃ (n : Nat) (A : Option Addr) (c : Nat) (e : TypeId), v = .slice A n c ∧ P.underlying t = some (.slice e) ∧ r = .val (.int .i64 (n : Int)) := by
  unfold lenOp at h
  split at h
  · cases h
  rename_i e he
  split at h
  · cases h
  split at h
  · rename_i es hes
    injection h with h; subst h
    obtain ⟨A, c, hv, _⟩ := sl_inv (hx.els hes)
    exact ⟨_, A, c, e, hv, hT.elem t e he, rfl⟩
  · split at h
    · rename_i o off π m hv
      injection h with h; subst h
      obtain ⟨A, c, m', hv', _⟩ := view_inv hM hx hv
      exact ⟨_, A, c, e, hv', hT.elem t e he, rfl⟩
    · cases h

/-- It reads an object of the call's own. -/
theorem eqKey_now {kd : Option IntKind} {x k : Value} (hx : keyOK kd x = true) (hk : keyOK kd k = true) : Instr.sameNow (kindD kd) x k = some (eqKey x k) := by
  cases kd with
  | none =>
    cases x <;> simp only [keyOK] at hx <;> try (cases hx; done)
    cases k <;> simp only [keyOK] at hk <;> try (cases hk; done)
    rename_i a b
    simp only [Instr.sameNow, eqKey, kindD, beq_toListBytes]
    congr 1
    by_cases h : a.toList = b.toList <;> simp [h]
  | some kd =>
    cases x <;> simp only [keyOK] at hx <;> try (cases hx; done)
    cases k <;> simp only [keyOK] at hk <;> try (cases hk; done)
    rename_i a _ b
    simp only [decide_eq_true_eq] at hx hk
    subst hx hk
    simp only [Instr.sameNow, eqKey, kindD, if_true]
    congr 1
theorem findNow_eq {kd : Option IntKind} {x : Value} (hx : keyOK kd x = true) : ∀ (es : List MapEntry) (i : Nat), keysOf kd (es.map (·.key)) = true →
    Instr.findNow (kindD kd) x es i = some (match findK x (es.map (·.key)) with | some j => (es[j]?).map fun e => (i + j, e.val) | none => none)
  | [], i, _ => rfl
  | e :: es, i, h => by
    simp only [List.map_cons, keysOf, Bool.and_eq_true] at h
    simp only [Instr.findNow, eqKey_now hx h.1, List.map_cons, findK]
    cases he : eqKey x e.key with
    | true => simp
    | false =>
      simp only [findNow_eq hx es (i + 1) h.2]
      cases findK x (es.map (·.key)) with
      | none => rfl
      | some j => simp [Nat.add_assoc, Nat.add_comm 1 j]
theorem findK_lt {x : Value} : ∀ {ks : List Value} {j : Nat}, findK x ks = some j → j < ks.length
  | [], j, h => by cases h
  | k :: ks, j, h => by
    simp only [findK] at h
    split at h
    · injection h with h; subst h; simp
    · cases hf : findK x ks with
      | none => rw [hf] at h; cases h
      | some i =>
        rw [hf] at h
        simp only [Option.map_some, Option.some.injEq] at h
        subst h
        have := findK_lt hf
        simp; omega
theorem findK_eq {x : Value} : ∀ {ks : List Value} {j : Nat}, findK x ks = some j → ∃ k, ks[j]? = some k ∧ eqKey x k = true
  | [], j, h => by cases h
  | k :: ks, j, h => by
    simp only [findK] at h
    split at h
    · rename_i he; injection h with h; subst h; exact ⟨k, rfl, he⟩
    · cases hf : findK x ks with
      | none => rw [hf] at h; cases h
      | some i =>
        rw [hf] at h
        simp only [Option.map_some, Option.some.injEq] at h
        subst h
        simpa using findK_eq hf
theorem run_findKey {kd : Option IntKind} {kt : TypeId} (hu : P.underlying kt = some (kindD kd)) {x : Value} (hx : keyOK kd x = true) {es : List MapEntry} (hk : keysOf kd (es.map (·.key)) = true) (w : World) :
    (Instr.findKey kt x es).run P w = .ok (match findK x (es.map (·.key)) with | some j => (es[j]?).map fun e => (j, e.val) | none => none) w := by
  unfold Instr.findKey
  rw [Sem.run_bind, run_und hu]
  simp only [Result.andThen_ok, findNow_eq hx es 0 hk, Nat.zero_add]
  rfl
theorem run_checkKey {kd : Option IntKind} {kt : TypeId} (hu : P.underlying kt = some (kindD kd)) {x : Value} (hx : keyOK kd x = true) (b : Bool) (w : World) : (Instr.checkKey b 10000 kt x).run P w = .ok () w := by
  unfold Instr.checkKey
  rw [Sem.run_bind, run_und hu]
  simp only [Result.andThen_ok]
  cases kd with
  | none => cases x <;> simp only [keyOK] at hx <;> first | rfl | cases hx
  | some k => cases x <;> simp only [keyOK] at hx <;> first | rfl | cases hx
/-- A map's contents. -/
theorem mapOf_ok (hM : MemOK W0 M S γ σ.mem W) {x : TV} {v : Value} {ks : List Value} {cs : List CV} (h : TRel W S γ x v) (hm : mapOf σ.mem x = some (ks, cs)) :
    (v = .map none ∧ ks = [] ∧ cs = []) ∨ ∃ (r : Nat) (es : Array MapEntry), v = .map (some r) ∧ (∀ w, Agr S x.isMap W w → w.heap[r]? = some (.map es es.size)) ∧ es.toList.map (·.key) = ks ∧ cs.length = es.size ∧
      ∀ (i : Nat) (c : CV) (e : MapEntry), cs[i]? = some c → es[i]? = some e → CRel W S γ c e.val := by
  unfold mapOf at hm
  split at hm
  · rename_i o
    split at hm
    · rename_i ks' cs' hl
      simp only [Option.some.injEq, Prod.mk.injEq] at hm
      obtain ⟨rfl, rfl⟩ := hm
      obtain ⟨es, h1, h2, h3, h4, h5⟩ := hM.maps o _ _ hl
      have h' : v = .map (some (γ.base o)) := h
      exact .inr ⟨_, es, h', fun w hw => by rw [hw.2 rfl]; exact h1, h2, h3, h5⟩
    · cases hm
  · rename_i ks' vs
    simp only [Option.some.injEq, Prod.mk.injEq] at hm
    obtain ⟨rfl, rfl⟩ := hm
    have h' : PRel W S (.mp ks' vs) v := h
    cases h' with
    | mp _ _ r es hS hh hk hl hb hr =>
      refine .inr ⟨r, es, rfl, fun w hw => (hw.1 _ hS).trans hh, hk, by simpa using hl, fun i c e hc he => ?_⟩
      rw [List.getElem?_map] at hc
      obtain ⟨p, hp, rfl⟩ := Option.map_eq_some_iff.1 hc
      exact hr i p e hp he
  · simp only [Option.some.injEq, Prod.mk.injEq] at hm
    obtain ⟨rfl, rfl⟩ := hm
    have h' : PRel W S (.v (.map none)) v := h
    cases h'
    exact .inl ⟨rfl, rfl, rfl⟩
  · cases hm
theorem run_getMap {w : World} {r c : Nat} {es : Array MapEntry} (h : w.heap[r]? = some (.map es c)) : (getObj r).run P w = .ok (.map es c) w := by simp [getObj, Sem.run, h]
theorem lookup_ok (hT : TabOK P T) (hM : MemOK W0 M S γ σ.mem W) {t : TypeId} {x k r : TV} {ok : Bool} {v kv : Value} (hx : TRel W S γ x v) (hk : TRel W S γ k kv) (h : lookupOp T σ t x k ok = some r) :
    ∃ u, (∀ w, Agr S x.isMap W w → (Instr.lookup t v kv ok).run P w = .ok u w) ∧ TRel W S γ r u := by
  unfold lookupOp at h
  split at h
  · cases h
  rename_i kd z hmt
  split at h
  case h_2 => cases h
  rename_i ks cs kv' hmo hkf
  have := hk.flat hkf
  subst this
  split at h
  case isFalse => cases h
  rename_i hc
  obtain ⟨hkv, hks⟩ := hc
  obtain ⟨kt, e, info, hu, hkt, hP, hz, hone⟩ := hT.mapT t kd z hmt
  have hzero : ∀ w, (zeroValue e).run P w = .ok z w := fun w => by simp [zeroValue, typeInfo, hP, hz]
  -- what is found
  have key : ∃ (val : Value) (b : Bool), CRel W S γ (lookC z cs (findK kv ks)) val ∧ b = (findK kv ks).isSome ∧ ∀ w, Agr S x.isMap W w → (Instr.lookup t v kv ok).run P w = .ok (if ok then .tuple #[val, .bool b] else val) w := by
    rcases mapOf_ok hM hx hmo with ⟨rfl, rfl, rfl⟩ | ⟨r0, es, rfl, hh, hkey, hlen, hrel⟩
    · refine ⟨z, false, PRel.v z hone, rfl, fun w _ => ?_⟩
      have h1 := run_findKey hkt hkv (es := []) rfl w
      simp only [List.map_nil, findK] at h1
      simp [Instr.lookup, run_und hu, run_checkKey hkt hkv, h1, hzero]
    · subst hkey
      have h1 := run_findKey hkt hkv (es := es.toList) hks
      cases hf : findK kv (es.toList.map (·.key)) with
      | none =>
        simp only [hf] at h1
        refine ⟨z, false, PRel.v z hone, rfl, fun w hw => ?_⟩
        simp [Instr.lookup, run_und hu, run_checkKey hkt hkv, run_getMap (hh w hw), h1, hzero]
      | some j =>
        simp only [hf] at h1
        have hj : j < es.size := by simpa using findK_lt hf
        have he : es[j]? = some es[j] := Array.getElem?_eq_getElem hj
        have hcj : cs[j]? = some (cs[j]'(by rw [hlen]; exact hj)) := List.getElem?_eq_getElem _
        refine ⟨es[j].val, true, ?_, rfl, fun w hw => ?_⟩
        · simp only [lookC, List.getD_eq_getElem?_getD, hcj, Option.getD_some]
          exact hrel j _ _ hcj he
        · simp [Instr.lookup, run_und hu, run_checkKey hkt hkv, run_getMap (hh w hw), h1, he]
  obtain ⟨val, b, h1, rfl, h2⟩ := key
  cases ok with
  | true =>
    simp only [if_true, Option.some.injEq] at h
    subst h
    refine ⟨_, h2, #[val, .bool (findK kv ks).isSome], rfl, rfl, fun i x y hx hy => ?_⟩
    match i with
    | 0 => simp at hx hy; subst hx hy; exact h1
    | 1 => simp at hx hy; subst hx hy; exact PRel.v _ rfl
    | i + 2 => simp at hx
  | false =>
    simp only [Bool.false_eq_true, if_false, Option.some.injEq] at h
    subst h
    exact ⟨_, h2, h1⟩
theorem mapLen_ok (hT : TabOK P T) (hM : MemOK W0 M S γ σ.mem W) {t : TypeId} {x r : TV} {v : Value} (hx : TRel W S γ x v) (h : mapLenOp T σ t x = some r) :
    ∃ u, (∀ w ty, Agr S x.isMap W w → (Builtin.len_ #[t] ty #[v]).run P w = .ok u w) ∧ TRel W S γ r u := by
  unfold mapLenOp at h
  split at h
  case h_2 => cases h
  rename_i kz ks cs hmt hmo
  injection h with h; subst h
  obtain ⟨kd, z⟩ := kz
  obtain ⟨kt, e, info, hu, _⟩ := hT.mapT t kd z hmt
  refine ⟨_, fun w ty hw => ?_, PRel.v _ rfl⟩
  rcases mapOf_ok hM hx hmo with ⟨rfl, rfl, rfl⟩ | ⟨r0, es, rfl, hh, hkey, hlen, hrel⟩
  · simp [Builtin.len_, run_und hu, goInt]
  · subst hkey
    simp [Builtin.len_, run_und hu, run_getMap (hh w hw), goInt]
def busy (T : Tab) (gl : List Bool) (σ : St) (o : Oper) : Bool :=
  match o.op with
  | .load _ x => (opg T gl σ x).isPtr
  | .lookup _ x _ _ => (opg T gl σ x).isMap
  | .call { callee := .builtin .len, args, .. } => match args.toList with
    | [x] => (opg T gl σ x).isMap
    | _ => false
  | _ => false
theorem quiet_ok (hT : TabOK P T) (hR : Rel T W0 M S0 S γ σ a W) (hg : gl.all id = true) {o : Oper} {r : TV} (h : quiet P T gl σ o = some r) : ∃ u, (∀ w, Agr S (busy T gl σ o) W w → (execOp a.eval o).run P w = .ok (.value u) w) ∧ TRel W S γ r u := by
  have hM := hR.core.mem
  unfold quiet at h
  split at h
  · rename_i x hx
    injection h with h; subst h
    exact ⟨_, fun w _ => by simp [execOp, hx], hR.opg hg x⟩
  · rename_i x hx
    injection h with h; subst h
    exact ⟨_, fun w _ => by simp [execOp, hx], hR.opg hg x⟩
  · rename_i c x y hx
    obtain ⟨g, h1, h2⟩ := pick_ok hR hg h
    exact ⟨_, fun w _ => by simp [execOp, hx, h1, asBool], h2⟩
  · rename_i t x hx
    have h' : loadOp T ⟨[], σ.mem⟩ t (opg T gl σ x) = some r := h
    obtain ⟨u, h1, h2⟩ := load_ok hT hR.core (hR.opg hg x) h'
    exact ⟨u, fun w hw => by simp only [execOp, hx]; exact lift_value (h1 w (by simpa only [busy, hx] using hw)), h2⟩
  · rename_i s x f hx
    obtain ⟨u, h1, h2⟩ := fieldAddr_ok hT (hR.opg hg x) h
    exact ⟨u, fun w hw => by simp only [execOp, hx]; exact lift_value (h1 w), h2⟩
  · rename_i s x f hx
    obtain ⟨u, h1, h2⟩ := field_ok hT (hR.opg hg x) h
    exact ⟨u, fun w hw => by simp only [execOp, hx]; exact lift_value (h1 w), h2⟩
  · rename_i t x ix hx
    obtain ⟨u, h1, h2⟩ := indexAddr_ok hT hM (hR.opg hg x) (hR.opg hg ix) h
    exact ⟨u, fun w hw => by simp only [execOp, hx]; exact lift_value (h1 w), h2⟩
  · rename_i x n hx
    obtain ⟨u, h1, h2⟩ := extract_ok (P := P) (hR.opg hg x) h
    exact ⟨u, fun w hw => by simp only [execOp, hx]; exact lift_value (h1 w), h2⟩
  · rename_i x hx
    obtain ⟨u, h1, h2⟩ := nilCheck_ok (P := P) hx (hR.opg hg x) h
    exact ⟨u, fun w _ => h1 w, h2⟩
  · rename_i t parts hx
    obtain ⟨u, h1, h2⟩ := build_ok hT hR hg h
    exact ⟨u, fun w hw => by simp only [execOp, hx]; exact lift_value (h1 w), h2⟩
  · rename_i t x lo hi hx
    rcases orElse_some h with hr | h
    · have hb : ∀ l : Option Operand, BRel W S γ (l.map (opg T gl σ)) (l.map a.eval) := fun l => by
        cases l with
        | none => rfl
        | some y => exact ⟨_, rfl, hR.opg hg y⟩
      obtain ⟨u, h1, h2⟩ := slice_ok hT hM (hR.opg hg x) (hb lo) (hb hi) hr
      exact ⟨u, fun w hw => by simp only [execOp, hx]; exact lift_value (h1 w), h2⟩
    · (obtain ⟨u, h1, h2⟩ := flat_ok hR hg h; exact ⟨u, fun w _ => h1 w, h2⟩)
  · rename_i op t x y yt hx
    rcases orElse_some h with hr | h
    · rcases orElse_some hr with hr | hr
      · obtain ⟨u, h1, rfl⟩ := one2_ok (hR.opg hg x) (hR.opg hg y) hr
        exact ⟨u, fun w hw => by simp only [execOp, hx]; exact lift_value (bin_ok h1 t x y w).1, PRel.v _ (bin_ok (P := P) h1 t x y W).2⟩
      · obtain ⟨u, h1, h2⟩ := eqAgg_ok (hR.opg hg x) (hR.opg hg y) hr x y
        exact ⟨u, fun w hw => by simp only [execOp, hx]; exact lift_value (h1 w), h2⟩
    · (obtain ⟨u, h1, h2⟩ := flat_ok hR hg h; exact ⟨u, fun w _ => h1 w, h2⟩)
  · rename_i op t x hx
    obtain ⟨u, h1, rfl⟩ := one1_ok (hR.opg hg x) h
    exact ⟨u, fun w hw => by simp only [execOp, hx]; exact lift_value (un_ok h1 w).1, PRel.v _ (un_ok (P := P) h1 W).2⟩
  · rename_i s d x hx
    rcases orElse_some h with hr | h
    · obtain ⟨u, h1, rfl⟩ := one1_ok (hR.opg hg x) hr
      split at h1 <;> try (cases h1; done)
      rename_i hs
      exact ⟨u, fun w hw => by simp only [execOp, hx]; exact lift_value (conv_ok (Option.isSome_iff_exists.1 hs) h1 w).1, PRel.v _ (conv_ok (P := P) (Option.isSome_iff_exists.1 hs) h1 W).2⟩
    · (obtain ⟨u, h1, h2⟩ := flat_ok hR hg h; exact ⟨u, fun w _ => h1 w, h2⟩)
  · rename_i t x ix hx
    rcases orElse_some h with hr | h
    · obtain ⟨u, h1, rfl⟩ := one2_ok (hR.opg hg x) (hR.opg hg ix) hr
      exact ⟨u, fun w hw => by simp only [execOp, hx]; exact lift_value (idx_ok h1 w).1, PRel.v _ (idx_ok (P := P) h1 W).2⟩
    · (obtain ⟨u, h1, h2⟩ := flat_ok hR hg h; exact ⟨u, fun w _ => h1 w, h2⟩)
  · rename_i args argTypes hx
    split at h
    · rename_i x t ha ht
      have ha' : args = #[x] := by rw [← ha]
      have ht' : argTypes = #[t] := by rw [← ht]
      subst ha' ht'
      rcases orElse_some h with hr | hr
      rcases orElse_some hr with hr | hr
      · obtain ⟨n, A, c, e, hv, hu, rfl⟩ := len_ok hT hM (hR.opg hg x) hr
        refine ⟨.int .i64 (n : Int), fun w _ => ?_, PRel.v _ rfl⟩
        simp only [execOp, hx, resolve, invoke, builtin]
        simp [Builtin.len_, hv, run_und hu, goInt]
      · obtain ⟨u, h1, rfl⟩ := one1_ok (hR.opg hg x) hr
        generalize hv : a.eval x = v at h1
        cases v <;> simp only [strLen] at h1 <;> try (cases h1; done)
        split at h1
        · rename_i hu
          injection h1 with h1; subst h1
          refine ⟨_, fun w _ => ?_, PRel.v _ rfl⟩
          simp only [execOp, hx, resolve, invoke, builtin]
          simp [Builtin.len_, hv, run_und hu, goInt]
        · cases h1
      · obtain ⟨u, h1, h2⟩ := mapLen_ok hT hM (hR.opg hg x) hr
        refine ⟨u, fun w hw => ?_, h2⟩
        simp only [execOp, hx, resolve, invoke, builtin]
        simp only [busy, hx] at hw
        simp [h1 w o.type hw]
    · cases h
  · rename_i args argTypes hx
    split at h
    · rename_i x y ha
      have ha' : args = #[x, y] := by rw [← ha]
      subst ha'
      obtain ⟨u, h1, rfl⟩ := one2_ok (hR.opg hg x) (hR.opg hg y) h
      generalize hv : a.eval x = v at h1
      generalize hz : a.eval y = z at h1
      cases v <;> cases z <;> simp only [maxA] at h1 <;> try (cases h1; done)
      injection h1 with h1; subst h1
      refine ⟨_, fun w _ => ?_, PRel.v _ rfl⟩
      simp only [execOp, hx, resolve, invoke, builtin]
      simp [Builtin.max_, Builtin.max2, hv, hz]
    · rename_i x y z ha
      have ha' : args = #[x, y, z] := by rw [← ha]
      subst ha'
      split at h
      · rename_i r1 hr1
        obtain ⟨u, h1, rfl⟩ := one2_ok (hR.opg hg x) (hR.opg hg y) hr1
        generalize hv : a.eval x = v at h1
        generalize hz : a.eval y = v2 at h1
        cases v <;> cases v2 <;> simp only [maxA] at h1 <;> try (cases h1; done)
        injection h1 with h1; subst h1
        rename_i kk n1 _ n2
        obtain ⟨u2, h2, rfl⟩ := one2_ok (S := S) (W := W) (γ := γ) (x := .val (.int kk (if n2 > n1 then n2 else n1))) (v := .int kk (if n2 > n1 then n2 else n1)) (PRel.v _ rfl) (hR.opg hg z) h
        generalize hz2 : a.eval z = v3 at h2
        cases v3 <;> simp only [maxA] at h2 <;> try (cases h2; done)
        injection h2 with h2; subst h2
        refine ⟨_, fun w _ => ?_, PRel.v _ rfl⟩
        simp only [execOp, hx, resolve, invoke, builtin]
        simp [Builtin.max_, Builtin.max2, hv, hz, hz2]
      · cases h
    · cases h
  · rename_i args argTypes hx
    split at h
    · rename_i x y ha
      have ha' : args = #[x, y] := by rw [← ha]
      subst ha'
      obtain ⟨u, h1, rfl⟩ := one2_ok (hR.opg hg x) (hR.opg hg y) h
      generalize hv : a.eval x = v at h1
      generalize hz : a.eval y = z at h1
      cases v <;> cases z <;> simp only [minA] at h1 <;> try (cases h1; done)
      injection h1 with h1; subst h1
      refine ⟨_, fun w _ => ?_, PRel.v _ rfl⟩
      simp only [execOp, hx, resolve, invoke, builtin]
      simp [Builtin.min_, Builtin.min2, hv, hz]
    · cases h
  · (obtain ⟨u, h1, h2⟩ := flat_ok hR hg h; exact ⟨u, fun w _ => h1 w, h2⟩)
  · rename_i t x k ok hx
    obtain ⟨u, h1, h2⟩ := lookup_ok hT hM (hR.opg hg x) (hR.opg hg k) h
    exact ⟨u, fun w hw => by simp only [execOp, hx]; exact lift_value (h1 w (by simpa only [busy, hx] using hw)), h2⟩
  · cases h
end
end Go.Ew
end
section
/- Operations that change memory, in the abstract machine. -/
namespace Go.Ew

/-! ### Which aliases no longer hold -/
inductive Kl where
  | root (o : Nat)
  | sub (o lo hi n : Nat)
def Kl.b : Kl → Nat → Bool
  | .root o, x => o == x
  | .sub _ _ _ _, _ => false
def Kl.h : Kl → Nat → Nat → Nat → Bool
  | .root o, x, _, _ => o == x
  | .sub o lo hi n, x, y, m => o == x && (decide (lo ≤ y) && (decide (y < hi) && decide (n ≤ m)))
def Cap.hit (κ : Kl) : Cap → Bool
  | .p _ => false
  | .r o => κ.b o
def CV.kill (κ : Kl) : CV → CV
  | .c p => .c p
  | .ptr o off [] => if κ.b o then .bot else .ptr o off []
  | .ptr o off (s :: π) => if κ.h o off π.length then .bot else .ptr o off (s :: π)
  | .view o off π => if κ.h o off π.length then .bot else .view o off π
  | .pre o off π n => if κ.h o off π.length then .bot else .pre o off π n
  | .clo f cap => if cap.any (Cap.hit κ) then .bot else .clo f cap
  | .mp o => if κ.b o then .bot else .mp o
def UV.kill (κ : Kl) : UV → UV
  | .one c => .one (c.kill κ)
  | .agg cs => .agg (cs.map (CV.kill κ))
def TV.kill (κ : Kl) : TV → TV
  | .bot => .bot
  | .u x => .u (x.kill κ)
  | .tup xs => .tup (xs.map (UV.kill κ))
  | .w g x => .w g (x.kill κ)
def MC.kill (κ : Kl) : MC → MC
  | .obj cs => .obj (cs.map (CV.kill κ))
  | .map ks cs => .map ks (cs.map (CV.kill κ))
  | m => m
def killM (κ : Kl) : List (Nat × MC) → List (Nat × MC)
  | [] => []
  | (k, m) :: r => (k, m.kill κ) :: killM κ r
theorem look_killM (κ : Kl) (l : List (Nat × MC)) (i : Nat) : look (killM κ l) i = (look l i).kill κ := by
  induction l with
  | nil => rfl
  | cons x r ih =>
    obtain ⟨k, y⟩ := x
    by_cases h : k = i <;> simp [killM, look, h, ih]
def St.kill (κ : Kl) (σ : St) : St := { tmps := σ.tmps.map (TV.kill κ), mem := killM κ σ.mem }
def del : List (Nat × MC) → Nat → List (Nat × MC)
  | [], _ => []
  | (k, m) :: r, o => if k = o then del r o else (k, m) :: del r o
theorem look_del_same (l : List (Nat × MC)) (o : Nat) : look (del l o) o = .no := by
  induction l with
  | nil => rfl
  | cons x r ih =>
    obtain ⟨k, y⟩ := x
    by_cases h : k = o
    · simp [del, h, ih]
    · simp [del, look, h, ih]
theorem look_del_other (l : List (Nat × MC)) (o i : Nat) (h : i ≠ o) : look (del l o) i = look l i := by
  induction l with
  | nil => rfl
  | cons x r ih =>
    obtain ⟨k, y⟩ := x
    by_cases hk : k = o
    · subst hk; simp [del, look, ih, Ne.symm h]
    · simp [del, look, hk, ih]

/-! ### Writing in the tree -/
def PV.putRow (i k : Nat) (row' : List PV) : PV → Option PV
  | .vec k' es => if k = k' then some (.vec k (es.set i row')) else none
  | _ => none
def PV.put : Path → PV → PV → Option PV
  | [], new, _ => some new
  | (i, k, f) :: π, new, p => match PV.down π p with
    | some (.vec k' es) => if k = k' then
        match es[i]? with
        | some row => if f < row.length then PV.put π (.vec k (es.set i (row.set f new))) p else none
        | none => none
      else none
    | _ => none
/-- A root's cell gets a content. -/
def setCell (mem : List (Nat × MC)) (o off : Nat) (p : PV) : List (Nat × MC) :=
  match look mem o with
  | .obj cs => lay mem o (.obj (cs.set off (.c p)))
  | .reg _ => lay mem o (.reg p)
  | _ => mem
def putAt (mem : List (Nat × MC)) (o off : Nat) (π : Path) (new : PV) : Option (List (Nat × MC)) :=
  match cellAt (look mem o) off with
  | some p => match PV.put π new p with
    | some p' => some (setCell mem o off p')
    | none => none
  | none => none
/-- An own slice is taken from its place. -/
def takeAt (mem : List (Nat × MC)) (o off : Nat) (π : Path) : Option (List (Nat × MC)) :=
  match π with
  | [] => match look mem o with
    | .reg _ => some (del mem o)
    | _ => putAt mem o off [] .bot
  | s :: π => putAt mem o off (s :: π) .bot
/-- Its content (so many elements), and the memory without it. -/
def grabOf (mem : List (Nat × MC)) : CV → Option (PV × Nat × Nat × List (Nat × MC))
  | .view o off π => match at_ mem o off π, takeAt mem o off π with
    | some (.vec k es), some mem' => some (.vec k es, o, off, mem')
    | _, _ => none
  | .pre o off π n => match at_ mem o off π, takeAt mem o off π with
    | some (.vec k es), some mem' => if n ≤ es.length then some (.vec k (es.take n), o, off, mem') else none
    | _, _ => none
  | _ => none
def CV.isView : CV → Bool
  | .view _ _ _ => true
  | .pre _ _ _ _ => true
  | _ => false
/-- What of a cell is laid at once. -/
def CV.strip (c : CV) : CV := if c.isView then .bot else c
def CV.stripP : CV → Option PV
  | .c p => some p
  | .view _ _ _ => some .bot
  | .pre _ _ _ _ => some .bot
  | _ => none
/-- Own slices among cells that were laid from (o, off, path) on go there. -/
def moves (o : Nat) : Nat → Path → List CV → List (Nat × MC) → Option (List (Nat × MC))
  | _, _, [], mem => some mem
  | off, π, c :: cs, mem => if c.isView then
      match grabOf mem c with
      | some (p, o', off', mem1) => if o' = o ∧ off' = off then none else
        match putAt mem1 o off π p with
        | some mem2 => moves o (bump 1 off π).1 (bump 1 off π).2 cs mem2
        | none => none
      | none => none
    else moves o (bump 1 off π).1 (bump 1 off π).2 cs mem
def writeAt (mem : List (Nat × MC)) (n : Nat) (o off : Nat) (π : Path) (ys : List CV) : Option (List (Nat × MC)) :=
  match π with
  | [] => match look mem o with
    | .obj cs => if ys.length = n ∧ off + n ≤ cs.length then some (lay mem o (.obj (cs.take off ++ ys.map CV.strip ++ cs.drop (off + n)))) else none
    | _ => none
  | (i, k, f) :: π => match cellAt (look mem o) off with
    | some p => match PV.down π p, ys.mapM CV.stripP with
      | some (.vec k' es), some ps => if k = k' then
          match es[i]? with
          | some row => if ys.length = n ∧ f + n ≤ row.length then
              match PV.put π (.vec k (es.set i (row.take f ++ ps ++ row.drop (f + n)))) p with
              | some p' => some (setCell mem o off p')
              | none => none
            else none
          | none => none
        else none
      | _, _ => none
    | none => none
def killOf (o off n : Nat) : Path → Kl
  | [] => .sub o off (off + n) 0
  | s :: π => .sub o off (off + 1) (π.length + 1)
def storeOp (T : Tab) (σ : St) (t : TypeId) (p x : TV) : Option St :=
  match T.ti t with
  | none => none
  | some i => match p with
    | .u (.one (.ptr o off π)) => match x.cells with
      | some ys => if ys.any CV.isView then
          match writeAt (killM (killOf o off i.zero.length π) σ.mem) i.zero.length o off π (ys.map (CV.kill (killOf o off i.zero.length π))) with
          | some mem1 => match moves o off π (ys.map (CV.kill (killOf o off i.zero.length π))) mem1 with
            | some mem2 => some { tmps := σ.tmps.map (TV.kill (killOf o off i.zero.length π)), mem := mem2 }
            | none => none
          | none => none
        else match writeAt σ.mem i.zero.length o off π ys with
          | some mem1 => some { σ with mem := mem1 }
          | none => none
      | none => none
    | _ => none

/-! ### New things -/
def newObj (σ : St) (d : Nat) (cs : List CV) : Option St :=
  let σ1 := σ.kill (.root d)
  let cs1 := cs.map (CV.kill (.root d))
  let mem1 := lay σ1.mem d (.obj (cs1.map CV.strip))
  match (if cs1.any CV.isView then moves d 0 [] cs1 mem1 else some mem1) with
  | some mem2 => some { tmps := σ1.tmps.set d (.a (.ptr d 0 [])), mem := mem2 }
  | none => none
def allocOp (T : Tab) (σ : St) (d : Nat) (t : TypeId) : Option St :=
  match T.ti t with
  | some i => newObj σ d (i.zero.map fun z => .c (.v z))
  | none => none
def boxOp (σ : St) (d : Nat) (x : TV) : Option St :=
  match x.cells with
  | some cs => newObj σ d cs
  | none => none
/-- A map of the call's own, empty. -/
def makeMapOp (σ : St) (d : Nat) : St :=
  let σ1 := σ.kill (.root d)
  { tmps := σ1.tmps.set d (.a (.mp d)), mem := lay σ1.mem d (.map [] []) }
def updateOp (T : Tab) (σ : St) (t : TypeId) (m k x : TV) : Option St :=
  match T.mapT t with
  | none => none
  | some (kd, _) => match m, k.flat, x with
    | .u (.one (.mp o)), some kv, .u (.one c) => match look σ.mem o with
      | .map ks cs => if keyOK kd kv = true ∧ keysOf kd ks = true ∧ c.isView = false then
          some { σ with mem := lay σ.mem o (.map (insK kv ks (findK kv ks)) (insC c cs (findK kv ks))) }
        else none
      | _ => none
    | _, _, _ => none
/-- A slice of the call's own, number d; slot d has it. -/
def newReg (σ : St) (d : Nat) (k : Nat) (es : List (List PV)) : St :=
  let σ1 := σ.kill (.root d)
  { tmps := σ1.tmps.set d (.a (.view d 0 [])), mem := lay σ1.mem d (.reg (.vec k es)) }
def rowsOf (T : Tab) (σ : St) (k : Nat) : Nat → List (Nat × Operand) → Option (List (List CV))
  | _, [] => some []
  | i, (j, x) :: rest => if j = i then
      match (opg T [] σ x).cells with
      | some cs => if cs.length = k then
          match rowsOf T σ k (i + 1) rest with
          | some es => some (cs :: es)
          | none => none
        else none
      | none => none
    else none
def stripRows : List (List CV) → Option (List (List PV))
  | [] => some []
  | r :: rs => match r.mapM CV.stripP, stripRows rs with
    | some p, some ps => some (p :: ps)
    | _, _ => none
/-- Own slices among a row's cells go there. -/
def movesR (d k : Nat) : Nat → List (List CV) → List (Nat × MC) → Option (List (Nat × MC))
  | _, [], mem => some mem
  | i, r :: rs, mem => match moves d 0 [(i, k, 0)] r mem with
    | some mem1 => movesR d k (i + 1) rs mem1
    | none => none
def room : Nat := 140737488355328
def buildSliceOp (T : Tab) (σ : St) (d : Nat) (t : TypeId) (len : Nat) (parts : List (Nat × Operand)) : Option St :=
  match T.elem t with
  | none => none
  | some e => match T.ti e with
    | none => none
    | some i => match rowsOf T σ i.zero.length 0 parts with
      | some rows => match stripRows (rows.map fun r => r.map (CV.kill (.root d))) with
        | some es => if es.length = len ∧ 0 < len ∧ len * i.zero.length ≤ 16777216 then
            let σ1 := newReg σ d i.zero.length es
            match (if (rows.any fun r => r.any CV.isView) then movesR d i.zero.length 0 (rows.map fun r => r.map (CV.kill (.root d))) σ1.mem else some σ1.mem) with
            | some mem2 => some { σ1 with mem := mem2 }
            | none => none
          else none
        | none => none
      | none => none
def makeSliceOp (T : Tab) (σ : St) (d : Nat) (t : TypeId) (l c : TV) : Option St :=
  match T.elem t with
  | none => none
  | some e => match T.ti e with
    | none => none
    | some i => match l.int, c.int with
      | some n, some m => if 0 ≤ n ∧ n ≤ m ∧ m * i.bytes ≤ 16777216 ∧ m ≤ 16777216 then some (newReg σ d i.zero.length (List.replicate n.toNat (i.zero.map .v))) else none
      | _, _ => none

/-! ### append -/
/-- The elements of what is appended; own ones are views (o, off, path, how many). -/
def srcOf (σ : St) (k : Nat) (x : TV) : Option (List (List PV)) :=
  match x.els k with
  | some es => some es
  | none => match viewOf σ.mem k x with
    | some (o, off, π, m) => match at_ σ.mem o off π with
      | some (.vec _ es) => some (es.take m)
      | _ => none
    | none => none
def rowsNv (es : List (List PV)) : Bool := es.all fun r => r.all PV.nv
/-- A row's own slices as views of their places. -/
def rowViews (o k : Nat) : Nat → List (List PV) → List (List CV)
  | _, [] => []
  | i, r :: rs => peekH o 0 i k [] 0 r :: rowViews o k (i + 1) rs
def botRows (es : List (List PV)) : List (List PV) := es.map fun r => r.map fun p => if p.nv then p else .bot
/-- What lies in s, and the memory without it. -/
def baseOf (σ : St) (k : Nat) (s : TV) : Option (List (List PV) × List (Nat × MC)) :=
  match s with
  | .u (.one (.c (.v (.slice none 0 0)))) => some ([], σ.mem)
  | .u (.one (.c .zc)) => some ([], σ.mem)
  | .u (.one c) => match grabOf σ.mem c with
    | some (.vec k' es, _, _, mem') => if k' = k then some (es, mem') else none
    | _ => none
  | _ => none
def appendOp (T : Tab) (σ : St) (d : Nat) (t : TypeId) (s x : TV) : Option St :=
  match T.elem t with
  | none => none
  | some e => match T.ti e with
    | none => none
    | some i => match srcOf σ i.zero.length x, baseOf σ i.zero.length s with
      | some new, some (old, mem1) => if (old.length + new.length) * i.bytes ≤ room ∧ old.length + new.length ≤ room then
          if rowsNv new then some (newReg { σ with mem := mem1 } d i.zero.length (old ++ new))
          else match x with
            | .u (.one (.view o 0 [])) => match look mem1 o with
              | .reg _ => if o = d then none else
                let σ1 := newReg { σ with mem := mem1 } d i.zero.length (old ++ botRows new)
                match movesR d i.zero.length old.length (rowViews o i.zero.length 0 new) σ1.mem with
                | some mem2 => some { σ1 with mem := del mem2 o }
                | none => none
              | _ => none
            | _ => none
        else none
      | _, _ => none
end Go.Ew
end
section
/- Places in the tree of own memory: reading behind a write. -/
namespace Go.Ew

/-- What stands above a path. -/
def rest (π π' : Path) : Option Path :=
  if π.length ≤ π'.length ∧ π'.drop (π'.length - π.length) = π then some (π'.take (π'.length - π.length)) else none
theorem rest_some {π π' ρ : Path} : rest π π' = some ρ ↔ π' = ρ ++ π := by
  unfold rest
  constructor
  · intro h
    split at h
    · rename_i hc
      injection h with h
      rw [← h]
      conv => lhs; rw [← List.take_append_drop (π'.length - π.length) π']
      rw [hc.2]
    · cases h
  · rintro rfl
    have h1 : (ρ ++ π).length - π.length = ρ.length := by simp
    rw [h1, if_pos ⟨by simp, by simp⟩]
    simp
theorem rest_self (π : Path) : rest π π = some [] := rest_some.2 rfl
theorem rest_none {π π' : Path} (h : rest π π' = none) (ρ : Path) : π' ≠ ρ ++ π := fun e => by rw [rest_some.2 e] at h; cases h
theorem rest_cons {π π' : Path} {s : Nat × Nat × Nat} (h : rest π π' = none) (hne : s :: π' ≠ π) : rest π (s :: π') = none := by
  cases h1 : rest π (s :: π') with
  | none => rfl
  | some ρ =>
    have h2 := rest_some.1 h1
    cases ρ with
    | nil => exact absurd h2 hne
    | cons t ρ =>
      injection h2 with h3 h4
      exact absurd h4 (rest_none h ρ)
theorem rest_up {π π' ρ : Path} {s : Nat × Nat × Nat} (h : rest π π' = some ρ) : rest π (s :: π') = some (s :: ρ) := by
  rw [rest_some] at h ⊢
  rw [h]; rfl

theorem down_append (ρ π : Path) (p : PV) : PV.down (ρ ++ π) p = match PV.down π p with | some q => PV.down ρ q | none => none := by
  induction ρ with
  | nil => simp [PV.down]; cases PV.down π p <;> rfl
  | cons s ρ ih =>
    simp only [List.cons_append, PV.down, ih]
    cases PV.down π p <;> rfl
theorem elem_some {i k f : Nat} {q x : PV} (h : PV.elem (i, k, f) q = some x) : ∃ es row, q = .vec k es ∧ es[i]? = some row ∧ row[f]? = some x := by
  cases q with
  | vec k' es =>
    simp only [PV.elem] at h
    split at h
    · rename_i hk
      subst hk
      split at h
      · rename_i row hr; exact ⟨es, row, rfl, hr, h⟩
      · cases h
    · cases h
  | _ => simp [PV.elem] at h
theorem elem_mk {i k f : Nat} {es : List (List PV)} {row : List PV} {x : PV} (h1 : es[i]? = some row) (h2 : row[f]? = some x) : PV.elem (i, k, f) (.vec k es) = some x := by
  simp [PV.elem, h1, h2]

/-- Beside a write: the same; or a slice whose cells are as before, but for the one that was written. -/
def Like (πd : Path) (new : PV) (π : Path) (q q' : PV) : Prop :=
  q' = q ∨ ∃ k es es', q = .vec k es ∧ q' = .vec k es' ∧ es'.length = es.length ∧
    ∀ (i : Nat) (row' : List PV), es'[i]? = some row' → ∃ row, es[i]? = some row ∧ row'.length = row.length ∧
      ∀ (f : Nat) (x' : PV), row'[f]? = some x' → ((i, k, f) :: π = πd ∧ x' = new) ∨ ∃ x, row[f]? = some x ∧ (x' = x ∨ (x'.nv = false ∧ x.nv = false))

theorem put_same : ∀ {π : Path} {new p p' : PV}, PV.put π new p = some p' → PV.down π p' = some new
  | [], new, p, p', h => by simp only [PV.put, Option.some.injEq] at h; subst h; rfl
  | (i, k, f) :: π, new, p, p', h => by
    simp only [PV.put] at h
    split at h
    · rename_i k' es hd
      split at h
      · rename_i hk
        subst hk
        split at h
        · rename_i row hr
          split at h
          · rename_i hf
            have := put_same h
            simp only [PV.down, this]
            have hi := (List.getElem?_eq_some_iff.1 hr).1
            exact elem_mk (row := row.set f new) (by rw [List.getElem?_set_self hi]) (by rw [List.getElem?_set_self hf])
          · cases h
        · cases h
      · cases h
    · cases h
theorem put_other : ∀ {πd : Path} {new p p' : PV}, PV.put πd new p = some p' → ∀ {π : Path}, rest πd π = none → ∀ {q' : PV}, PV.down π p' = some q' → ∃ q, PV.down π p = some q ∧ Like πd new π q q'
  | [], new, p, p', h, π, hr, q', hq => by
    have : rest [] π = some π := rest_some.2 (by simp)
    rw [this] at hr; cases hr
  | (i, k, f) :: πp, new, p, p', h, π, hr, q', hq => by
    simp only [PV.put] at h
    split at h
    · rename_i k' es hd
      split at h
      · rename_i hk
        subst hk
        split at h
        · rename_i row hrow
          split at h
          · rename_i hf
            have hi := (List.getElem?_eq_some_iff.1 hrow).1
            cases hrp : rest πp π with
            | some ρ =>
              have e := rest_some.1 hrp
              have hsame := put_same h
              rcases List.eq_nil_or_concat ρ with rfl | ⟨ρ', s, rfl⟩
              · simp only [List.nil_append] at e
                subst e
                rw [hsame] at hq
                injection hq with hq
                subst hq
                refine ⟨_, hd, .inr ⟨k, es, _, rfl, rfl, by simp, fun j row' hj => ?_⟩⟩
                rw [List.getElem?_set] at hj
                split at hj
                · rename_i hij
                  subst hij
                  simp only [hi, if_true, Option.some.injEq] at hj
                  subst hj
                  refine ⟨row, hrow, by simp, fun g x' hx => ?_⟩
                  rw [List.getElem?_set] at hx
                  split at hx
                  · rename_i hfg
                    subst hfg
                    simp only [hf, if_true, Option.some.injEq] at hx
                    exact .inl ⟨rfl, hx.symm⟩
                  · exact .inr ⟨x', hx, .inl rfl⟩
                · exact ⟨row', hj, rfl, fun g x' hx => .inr ⟨x', hx, .inl rfl⟩⟩
              · have hs : s ≠ (i, k, f) := fun e2 => by
                  subst e2
                  exact rest_none hr ρ' (by rw [e]; simp)
                rw [e, List.concat_eq_append, List.append_assoc, down_append] at hq
                have hone : PV.down ([s] ++ πp) p' = PV.down ([s] ++ πp) p := by
                  simp only [List.singleton_append, PV.down, hsame, hd]
                  obtain ⟨i2, k2, f2⟩ := s
                  simp only [PV.elem]
                  by_cases hk2 : k2 = k
                  · subst hk2
                    simp only [if_true]
                    rw [List.getElem?_set]
                    by_cases hii : i = i2
                    · subst hii
                      simp only [if_true, hi, hrow]
                      rw [List.getElem?_set_ne]
                      rintro rfl
                      exact hs rfl
                    · simp [hii]
                  · simp [hk2]
                rw [hone, ← down_append, ← List.append_assoc, ← List.concat_eq_append, ← e] at hq
                exact ⟨q', hq, .inl rfl⟩
            | none =>
              obtain ⟨q, h1, h2⟩ := put_other h hrp hq
              refine ⟨q, h1, ?_⟩
              rcases h2 with rfl | ⟨k1, es1, es1', rfl, rfl, hl, hc⟩
              · exact .inl rfl
              · refine .inr ⟨k1, es1, es1', rfl, rfl, hl, fun j row' hj => ?_⟩
                obtain ⟨row1, hr1, hl1, hc1⟩ := hc j row' hj
                refine ⟨row1, hr1, hl1, fun g x' hx => ?_⟩
                rcases hc1 g x' hx with ⟨e1, rfl⟩ | h3
                · right
                  have h4 : PV.down ((j, k1, g) :: π) p = some (.vec k es) := by rw [e1]; exact hd
                  simp only [PV.down, h1] at h4
                  obtain ⟨es2, row2, e2, hr2, hx2⟩ := elem_some h4
                  injection e2 with _ e2
                  subst e2
                  rw [hr1] at hr2
                  injection hr2 with hr2
                  subst hr2
                  exact ⟨_, hx2, .inr ⟨rfl, rfl⟩⟩
                · exact .inr h3
          · cases h
        · cases h
      · cases h
    · cases h

theorem cellAt_setCell {mem : List (Nat × MC)} {o off : Nat} {p p' : PV} (h : cellAt (look mem o) off = some p) (o1 off1 : Nat) :
    cellAt (look (setCell mem o off p') o1) off1 = if o1 = o ∧ off1 = off then some p' else cellAt (look mem o1) off1 := by
  unfold setCell
  cases hm : look mem o with
  | no => rw [hm] at h; simp [cellAt] at h
  | map ks cs => rw [hm] at h; simp [cellAt] at h
  | obj cs =>
    rw [hm] at h
    simp only [cellAt] at h
    split at h
    · rename_i q hq
      have hlt := (List.getElem?_eq_some_iff.1 hq).1
      by_cases ho : o1 = o
      · subst ho
        simp only [look_lay_same, cellAt, hm, true_and]
        rw [List.getElem?_set]
        by_cases hoff : off = off1
        · subst hoff; simp [hlt]
        · simp [hoff, Ne.symm hoff]
      · simp [look_lay_other _ _ _ _ ho, ho]
    · cases h
  | reg q =>
    rw [hm] at h
    simp only [cellAt] at h
    split at h
    · rename_i h0
      subst h0
      by_cases ho : o1 = o
      · subst ho
        simp only [look_lay_same, cellAt, hm, true_and]
        by_cases hoff : off1 = 0 <;> simp [hoff]
      · simp [look_lay_other _ _ _ _ ho, ho]
    · cases h
theorem at_setCell {mem : List (Nat × MC)} {o off : Nat} {p p' : PV} (h : cellAt (look mem o) off = some p) (o1 off1 : Nat) (π : Path) :
    at_ (setCell mem o off p') o1 off1 π = if o1 = o ∧ off1 = off then PV.down π p' else at_ mem o1 off1 π := by
  unfold at_
  rw [cellAt_setCell h]
  by_cases hc : o1 = o ∧ off1 = off <;> simp [hc]
theorem obj_setCell {mem : List (Nat × MC)} {o off : Nat} {p p' : PV} (h : cellAt (look mem o) off = some p) {o1 : Nat} {cs : List CV} (hl : look (setCell mem o off p') o1 = .obj cs) :
    ∃ cs0, look mem o1 = .obj cs0 ∧ cs.length = cs0.length ∧ ∀ (j : Nat) (c : CV), cs[j]? = some c → (o1 = o ∧ j = off ∧ c = .c p') ∨ (¬ (o1 = o ∧ j = off) ∧ cs0[j]? = some c) := by
  unfold setCell at hl
  cases hm : look mem o with
  | no => rw [hm] at h; simp [cellAt] at h
  | map ks cs => rw [hm] at h; simp [cellAt] at h
  | obj cs1 =>
    rw [hm] at hl
    simp only at hl
    by_cases ho : o1 = o
    · subst ho
      rw [look_lay_same] at hl
      injection hl with hl
      subst hl
      refine ⟨cs1, hm, by simp, fun j c hj => ?_⟩
      rw [List.getElem?_set] at hj
      split at hj
      · rename_i e
        subst e
        split at hj
        · injection hj with hj; exact .inl ⟨rfl, rfl, hj.symm⟩
        · cases hj
      · rename_i hne
        exact .inr ⟨fun h => hne h.2.symm, hj⟩
    · rw [look_lay_other _ _ _ _ ho] at hl
      exact ⟨cs, hl, rfl, fun j c hj => .inr ⟨fun h => ho h.1, hj⟩⟩
  | reg q =>
    rw [hm] at hl
    simp only at hl
    by_cases ho : o1 = o
    · subst ho; rw [look_lay_same] at hl; cases hl
    · rw [look_lay_other _ _ _ _ ho] at hl
      exact ⟨cs, hl, rfl, fun j c hj => .inr ⟨fun h => ho h.1, hj⟩⟩
theorem reg_setCell {mem : List (Nat × MC)} {o off : Nat} {p p' : PV} (h : cellAt (look mem o) off = some p) {o1 : Nat} {q : PV} (hl : look (setCell mem o off p') o1 = .reg q) :
    (o1 = o ∧ off = 0 ∧ q = p' ∧ look mem o = .reg p) ∨ look mem o1 = .reg q := by
  unfold setCell at hl
  cases hm : look mem o with
  | no => rw [hm] at h; simp [cellAt] at h
  | map ks cs => rw [hm] at h; simp [cellAt] at h
  | obj cs1 =>
    rw [hm] at hl
    simp only at hl
    by_cases ho : o1 = o
    · subst ho; rw [look_lay_same] at hl; cases hl
    · rw [look_lay_other _ _ _ _ ho] at hl; exact .inr hl
  | reg q0 =>
    rw [hm] at hl h
    simp only [cellAt] at h hl
    split at h
    · rename_i h0
      injection h with h
      subst h
      by_cases ho : o1 = o
      · subst ho
        rw [look_lay_same] at hl
        injection hl with hl
        exact .inl ⟨rfl, h0, hl.symm, rfl⟩
      · rw [look_lay_other _ _ _ _ ho] at hl; exact .inr hl
    · cases h
theorem map_setCell {mem : List (Nat × MC)} {o off : Nat} {p' : PV} {o1 : Nat} {ks : List Value} {cs : List CV} (hl : look (setCell mem o off p') o1 = .map ks cs) : look mem o1 = .map ks cs := by
  unfold setCell at hl
  cases hm : look mem o with
  | no => rw [hm] at hl; exact hl
  | map ks1 cs1 => rw [hm] at hl; exact hl
  | obj cs1 =>
    rw [hm] at hl
    simp only at hl
    by_cases ho : o1 = o
    · subst ho; rw [look_lay_same] at hl; cases hl
    · rwa [look_lay_other _ _ _ _ ho] at hl
  | reg q =>
    rw [hm] at hl
    simp only at hl
    by_cases ho : o1 = o
    · subst ho; rw [look_lay_same] at hl; cases hl
    · rwa [look_lay_other _ _ _ _ ho] at hl
theorem at_cons {mem : List (Nat × MC)} {o off : Nat} {π : Path} {i k f : Nat} {x : PV} (h : at_ mem o off ((i, k, f) :: π) = some x) : ∃ es row, at_ mem o off π = some (.vec k es) ∧ es[i]? = some row ∧ row[f]? = some x := by
  unfold at_ at h ⊢
  split at h
  · rename_i p hp
    simp only [PV.down] at h
    split at h
    · rename_i q hq
      obtain ⟨es, row, rfl, h1, h2⟩ := elem_some h
      exact ⟨es, row, hq, h1, h2⟩
    · cases h
  · cases h
theorem at_child {mem : List (Nat × MC)} {o off : Nat} {π : Path} {i k f : Nat} {x : PV} {es : List (List PV)} {row : List PV} (h : at_ mem o off π = some (.vec k es)) (h1 : es[i]? = some row) (h2 : row[f]? = some x) : at_ mem o off ((i, k, f) :: π) = some x := by
  unfold at_ at h ⊢
  split at h
  · rename_i p hp
    simp only [PV.down, h]
    exact elem_mk h1 h2
  · cases h
theorem at_append {mem : List (Nat × MC)} {o off : Nat} (ρ π : Path) : at_ mem o off (ρ ++ π) = match at_ mem o off π with | some q => PV.down ρ q | none => none := by
  unfold at_
  split
  · rw [down_append]
  · rfl
end Go.Ew
end
section
/- Less is known; a slice of the call's own goes to another place. -/
namespace Go.Ew

structure Less (m' m : List (Nat × MC)) : Prop where
  at_ : ∀ (o off : Nat) (π : Path) (k : Nat) (es' : List (List PV)), at_ m' o off π = some (.vec k es') → ∃ es, at_ m o off π = some (.vec k es) ∧ es'.length = es.length ∧
    ∀ (i : Nat) (row' : List PV), es'[i]? = some row' → ∃ row, es[i]? = some row ∧ row'.length = row.length ∧ ∀ (f : Nat) (x' : PV), row'[f]? = some x' → x' = .bot ∨ ∃ x, row[f]? = some x ∧ (x' = x ∨ (x'.nv = false ∧ x.nv = false))
  obj : ∀ (o : Nat) (cs' : List CV), look m' o = .obj cs' → ∃ cs, look m o = .obj cs ∧ cs'.length = cs.length ∧ ∀ (j : Nat) (c' : CV), cs'[j]? = some c' → c' = .bot ∨ ∃ c, cs[j]? = some c ∧ (c' = c ∨ ∃ p p', c = .c p ∧ c' = .c p' ∧ p'.nv = false ∧ p.nv = false)
  reg : ∀ (o : Nat) (q' : PV), look m' o = .reg q' → (∃ q, look m o = .reg q) ∧ ∃ k es, q' = .vec k es
  map : ∀ (o : Nat) (ks : List Value) (cs' : List CV), look m' o = .map ks cs' → ∃ cs, look m o = .map ks cs ∧ cs'.length = cs.length ∧ ∀ (j : Nat) (c' : CV), cs'[j]? = some c' → c' = .bot ∨ cs[j]? = some c'

section
variable {W0 W : World} {M : Nat → Prop} {S : Addr → Prop} {γ : Gh} {mem mem1 mem2 : List (Nat × MC)}

theorem nv_vec {p : PV} (h : p.nv = false) : ∃ k es, p = .vec k es := by cases p <;> simp [PV.nv] at h; exact ⟨_, _, rfl⟩
theorem CellOK.vecs {o off : Nat} {π : Path} {x x' : PV} {u : Value} (h : CellOK W S γ o off π x u) (h1 : x'.nv = false) (h2 : x.nv = false) : CellOK W S γ o off π x' u := by
  obtain ⟨k, es, rfl⟩ := nv_vec h1
  obtain ⟨k', es', rfl⟩ := nv_vec h2
  exact h
theorem CellOK.less {o off : Nat} {π : Path} {x x' : PV} {u : Value} (h : CellOK W S γ o off π x u) (h1 : x' = x ∨ (x'.nv = false ∧ x.nv = false)) : CellOK W S γ o off π x' u := by
  rcases h1 with rfl | ⟨h1, h2⟩
  · exact h
  · exact h.vecs h1 h2
theorem Less.owns (h : Less mem1 mem) {n : Node} {b : Nat} (hn : Owns γ mem1 n b) : Owns γ mem n b := by
  cases n with
  | root o =>
    obtain ⟨⟨cs, hc⟩ | ⟨ks, cs, hc⟩, hb⟩ := hn
    · obtain ⟨cs0, h0, _⟩ := h.obj o cs hc
      exact ⟨.inl ⟨cs0, h0⟩, hb⟩
    · obtain ⟨cs0, h0, _⟩ := h.map o ks cs hc
      exact ⟨.inr ⟨ks, cs0, h0⟩, hb⟩
  | at_ o off π =>
    obtain ⟨⟨k, es, hc⟩, hb⟩ := hn
    obtain ⟨es0, h0, _⟩ := h.at_ o off π k es hc
    exact ⟨⟨k, es0, h0⟩, hb⟩
theorem VecOK.less {o off : Nat} {π : Path} {k : Nat} {es es' : List (List PV)} (h : VecOK W S γ o off π k es) (hl : es'.length = es.length)
    (hc : ∀ (i : Nat) (row' : List PV), es'[i]? = some row' → ∃ row, es[i]? = some row ∧ row'.length = row.length ∧ ∀ (f : Nat) (x' : PV), row'[f]? = some x' → x' = .bot ∨ ∃ x, row[f]? = some x ∧ (x' = x ∨ (x'.nv = false ∧ x.nv = false))) : VecOK W S γ o off π k es' := by
  obtain ⟨h0, hrow, hv⟩ := h
  refine ⟨h0, fun row' hr => ?_, ?_⟩
  · obtain ⟨i, hi⟩ := List.mem_iff_getElem?.1 hr
    obtain ⟨row, h1, h2, _⟩ := hc i row' hi
    rw [h2]; exact hrow row (List.mem_of_getElem? h1)
  · rcases hv with ⟨rfl, hA⟩ | ⟨b, cap, h1, h2, h3, h4, cur, t, h5, h6, h7⟩
    · left
      exact ⟨List.eq_nil_of_length_eq_zero (by simpa using hl), hA⟩
    · right
      refine ⟨b, cap, by rw [hl]; exact h1, h2, by omega, h4, cur, t, h5, h6, fun i row' f x' u hi hf hu => ?_⟩
      obtain ⟨row, g1, g2, g3⟩ := hc i row' hi
      have hlt : f < row.length := by rw [← g2]; exact (List.getElem?_eq_some_iff.1 hf).1
      rcases g3 f x' hf with rfl | ⟨x, hx, hxx⟩
      · exact PRel.bot u ((h7 i row f _ u g1 (List.getElem?_eq_getElem hlt) hu).one)
      · exact (h7 i row f x u g1 hx hu).less hxx
theorem MemOK.less (h : MemOK W0 M S γ mem W) (hl : Less mem1 mem) : MemOK W0 M S γ mem1 W := by
  refine ⟨fun o cs' ho => ?_, fun o ks cs' ho => ?_, fun o off π k es' ha => ?_, fun o q ho => (hl.reg o q ho).2, fun n b hn => h.own n b (hl.owns hn), fun n n' b hn hn' => h.inj n n' b (hl.owns hn) (hl.owns hn')⟩
  · obtain ⟨cs, h1, h2, h3⟩ := hl.obj o cs' ho
    obtain ⟨C, t, h4, h5, h6⟩ := h.objs o cs h1
    refine ⟨C, t, h4, by omega, fun off c' u hc hu => ?_⟩
    rcases h3 off c' hc with rfl | ⟨c, hc0, rfl | ⟨p, p', rfl, rfl, g1, g2⟩⟩
    · have hlt : off < cs.length := by rw [← h2]; exact (List.getElem?_eq_some_iff.1 hc).1
      exact PRel.bot u (h6 off _ u (List.getElem?_eq_getElem hlt) hu).one
    · exact h6 off _ u hc0 hu
    · exact CellOK.vecs (h6 off _ u hc0 hu) g1 g2
  · obtain ⟨cs, h1, h2, h3⟩ := hl.map o ks cs' ho
    obtain ⟨es, g1, g2, g3, g4, g5⟩ := h.maps o ks cs h1
    refine ⟨es, g1, g2, by omega, g4, fun i c e hc he => ?_⟩
    rcases h3 i c hc with rfl | hc0
    · exact PRel.bot _ (g4 i e he).2
    · exact g5 i c e hc0 he
  · obtain ⟨es, h1, h2, h3⟩ := hl.at_ o off π k es' ha
    exact (h.vecs o off π k es h1).less h2 h3

theorem Less.refl (hr : ∀ o q, look mem o = .reg q → ∃ k es, q = .vec k es) : Less mem mem :=
  ⟨fun o off π k es h => ⟨es, h, rfl, fun i row hi => ⟨row, hi, rfl, fun f x hx => .inr ⟨x, hx, .inl rfl⟩⟩⟩, fun o cs h => ⟨cs, h, rfl, fun j c hc => .inr ⟨c, hc, .inl rfl⟩⟩, fun o q h => ⟨⟨q, h⟩, hr o q h⟩, fun o ks cs h => ⟨cs, h, rfl, fun j c hc => .inr hc⟩⟩

theorem down_nv : ∀ {π : Path} {q x : PV}, q.nv = true → PV.down π q = some x → π = [] := fun {π} => by
  induction π with
  | nil => exact fun _ _ => rfl
  | cons s π ih =>
    intro q x hn hq
    simp only [PV.down] at hq
    split at hq
    · rename_i r hr2
      have := ih hn hr2
      subst this
      simp only [PV.down, Option.some.injEq] at hr2
      subst hr2
      obtain ⟨i, k, f⟩ := s
      obtain ⟨_, _, rfl, _⟩ := elem_some hq
      simp [PV.nv] at hn
    · cases hq
/-- An own slice was taken from its place. -/
theorem takeAt_less (hr : ∀ o q, look mem o = .reg q → ∃ k es, q = .vec k es) {so soff : Nat} {sπ : Path} {k : Nat} {es : List (List PV)} (hs : at_ mem so soff sπ = some (.vec k es)) (h : takeAt mem so soff sπ = some mem1) :
    Less mem1 mem ∧ ∀ (ρ : Path) (k : Nat) (es : List (List PV)), at_ mem1 so soff (ρ ++ sπ) ≠ some (.vec k es) := by
  have key : ∀ {m1}, putAt mem so soff sπ .bot = some m1 → (sπ = [] → ∀ q, look mem so ≠ .reg q) → Less m1 mem ∧ ∀ (ρ : Path) (k : Nat) (es : List (List PV)), at_ m1 so soff (ρ ++ sπ) ≠ some (.vec k es) := by
    intro m1 h hroot
    unfold putAt at h
    split at h
    · rename_i p hp
      split at h
      · rename_i p' hp'
        injection h with h
        subst h
        have hsame := put_same hp'
        refine ⟨⟨fun o off π k' es' ha => ?_, fun o cs' ho => ?_, fun o q' ho => ?_, fun o ks cs' ho => ⟨cs', map_setCell ho, rfl, fun j c hc => .inr hc⟩⟩, fun ρ k' es' ha => ?_⟩
        · rw [at_setCell hp] at ha
          split at ha
          · rename_i hc
            obtain ⟨rfl, rfl⟩ := hc
            cases hrest : rest sπ π with
            | some ρ =>
              rw [rest_some.1 hrest, down_append, hsame] at ha
              cases ρ with
              | nil => simp [PV.down] at ha
              | cons s ρ =>
                exfalso
                exact absurd (down_nv rfl ha) (by simp)
            | none =>
              obtain ⟨q, h1, h2⟩ := put_other hp' hrest ha
              have h3 : at_ mem o off π = some q := by unfold Ew.at_; rw [hp]; exact h1
              rcases h2 with rfl | ⟨k1, es1, es1', rfl, h4, hl, hc⟩
              · exact ⟨es', h3, rfl, fun i row hi => ⟨row, hi, rfl, fun f x hx => .inr ⟨x, hx, .inl rfl⟩⟩⟩
              · injection h4 with h4 h5
                subst h4 h5
                refine ⟨es1, h3, hl, fun i row' hi => ?_⟩
                obtain ⟨row, g1, g2, g3⟩ := hc i row' hi
                exact ⟨row, g1, g2, fun f x' hx => (g3 f x' hx).imp (fun h => h.2) id⟩
          · exact ⟨es', ha, rfl, fun i row hi => ⟨row, hi, rfl, fun f x hx => .inr ⟨x, hx, .inl rfl⟩⟩⟩
        · obtain ⟨cs, h1, h2, h3⟩ := obj_setCell hp ho
          refine ⟨cs, h1, h2, fun j c hj => ?_⟩
          rcases h3 j c hj with ⟨rfl, rfl, rfl⟩ | h4
          · -- the cell itself
            cases sπ with
            | nil => simp only [PV.put, Option.some.injEq] at hp'; subst hp'; exact .inl rfl
            | cons s sπ =>
              right
              have hlt : j < cs.length := by rw [← h2]; exact (List.getElem?_eq_some_iff.1 hj).1
              rw [h1] at hp
              simp only [cellAt] at hp
              split at hp
              · rename_i q hq
                injection hp with hp
                subst hp
                refine ⟨_, hq, .inr ⟨_, _, rfl, rfl, ?_, ?_⟩⟩
                · have : ∃ q', PV.down [] p' = some q' := ⟨_, rfl⟩
                  have h5 : PV.down (s :: sπ) p' = some .bot := hsame
                  cases p' with
                  | vec _ _ => rfl
                  | _ =>
                    exfalso
                    exact absurd (down_nv rfl h5) (by simp)
                · have h6 : at_ mem _ _ (s :: sπ) = some (.vec k es) := hs
                  unfold Ew.at_ at h6
                  rw [h1] at h6
                  simp only [cellAt, hq] at h6
                  cases q with
                  | vec _ _ => rfl
                  | _ =>
                    exfalso
                    exact absurd (down_nv rfl h6) (by simp)
              · cases hp
          · exact .inr ⟨c, h4.2, .inl rfl⟩
        · rcases reg_setCell hp ho with ⟨rfl, rfl, rfl, h1⟩ | h1
          · refine ⟨⟨_, h1⟩, ?_⟩
            cases sπ with
            | nil => exact absurd h1 (hroot rfl _)
            | cons s sπ =>
              obtain ⟨k0, es0, rfl⟩ := hr o p h1
              have h5 : PV.down (s :: sπ) q' = some .bot := hsame
              cases q' with
              | vec k1 es1 => exact ⟨k1, es1, rfl⟩
              | _ =>
                exfalso
                exact absurd (down_nv rfl h5) (by simp)
          · exact ⟨⟨_, h1⟩, hr o q' h1⟩
        · rw [at_setCell hp, if_pos ⟨rfl, rfl⟩, down_append, hsame] at ha
          cases ρ with
          | nil => simp [PV.down] at ha
          | cons s ρ =>
            exact absurd (down_nv rfl ha) (by simp)
      · cases h
    · cases h
  unfold takeAt at h
  split at h
  · split at h
    · rename_i q hq
      injection h with h
      subst h
      refine ⟨⟨fun o off π k es ha => ?_, fun o cs ho => ?_, fun o q' ho => ?_, fun o ks cs ho => ?_⟩, fun ρ k' es' ha => ?_⟩
      · by_cases ho : o = so
        · subst ho; unfold Ew.at_ at ha; rw [look_del_same] at ha; simp [cellAt] at ha
        · unfold Ew.at_ at ha ⊢
          rw [look_del_other _ _ _ ho] at ha
          exact ⟨es, ha, rfl, fun i row hi => ⟨row, hi, rfl, fun f x hx => .inr ⟨x, hx, .inl rfl⟩⟩⟩
      · by_cases hoo : o = so
        · subst hoo; rw [look_del_same] at ho; cases ho
        · rw [look_del_other _ _ _ hoo] at ho
          exact ⟨cs, ho, rfl, fun j c hc => .inr ⟨c, hc, .inl rfl⟩⟩
      · by_cases hoo : o = so
        · subst hoo; rw [look_del_same] at ho; cases ho
        · rw [look_del_other _ _ _ hoo] at ho
          exact ⟨⟨q', ho⟩, hr o q' ho⟩
      · by_cases hoo : o = so
        · subst hoo; rw [look_del_same] at ho; cases ho
        · rw [look_del_other _ _ _ hoo] at ho
          exact ⟨cs, ho, rfl, fun j c hc => .inr hc⟩
      · unfold Ew.at_ at ha; rw [look_del_same] at ha; simp [cellAt] at ha
    · rename_i hno
      exact key h (fun _ q hq => hno q hq)
  · exact key h (fun h => by cases h)
end
end Go.Ew
end
section
/- Aliases that hold; a slice of the call's own goes to another place; cells are written. -/
namespace Go.Ew

/-- Ghosts that part where these aliases point. -/
def Chg (κ : Kl) (γ γ' : Gh) : Prop := (∀ o, κ.b o = false → γ'.base o = γ.base o) ∧ ∀ o off π, κ.h o off π.length = false → γ'.hd o off π = γ.hd o off π
theorem Chg.refl (κ : Kl) (γ : Gh) : Chg κ γ γ := ⟨fun _ _ => rfl, fun _ _ _ _ => rfl⟩

section
variable {W0 W W' : World} {M : Nat → Prop} {S S' : Addr → Prop} {γ γ' : Gh} {mem mem1 mem2 : List (Nat × MC)} {κ : Kl}

theorem bot_rel {v : Value} (h : v.oneCell' = true) : CRel W S γ .bot v := PRel.bot v h
theorem CRel.kill (hc : Chg κ γ γ') {c : CV} {v : Value} (h : CRel W S γ c v) : CRel W S γ' (c.kill κ) v := by
  cases c with
  | c p => exact h
  | ptr o off π =>
    have hv : v = .pointer (some (γ.addr o off π)) := h
    cases π with
    | nil =>
      simp only [CV.kill]
      split
      · exact bot_rel h.one
      · rename_i hb
        show v = _
        rw [hv]
        simp only [Gh.addr]
        rw [hc.1 o (by simpa using hb)]
    | cons s π =>
      obtain ⟨i, k, f⟩ := s
      simp only [CV.kill]
      split
      · exact bot_rel h.one
      · rename_i hb
        show v = _
        rw [hv]
        simp only [Gh.addr]
        rw [hc.2 o off π (by simpa using hb)]
  | view o off π =>
    simp only [CV.kill]
    split
    · exact bot_rel h.one
    · rename_i hb
      exact ⟨by rw [hc.2 o off π (by simpa using hb)]; exact h.1, h.2⟩
  | pre o off π n =>
    simp only [CV.kill]
    split
    · exact bot_rel h.one
    · rename_i hb
      obtain ⟨A, m, c, h1, h2, h3⟩ := h
      exact ⟨A, m, c, by rw [hc.2 o off π (by simpa using hb)]; exact h1, h2, h3⟩
  | clo f cap =>
    simp only [CV.kill]
    split
    · exact bot_rel h.one
    · rename_i hb
      obtain ⟨vs, h1, h2, h3⟩ := h
      refine ⟨vs, h1, h2, fun i x u hx hu => ?_⟩
      have h4 := h3 i x u hx hu
      cases x with
      | p x => exact h4
      | r o =>
        have : Cap.hit κ (.r o) = false := by
          cases hh : Cap.hit κ (.r o) with
          | false => rfl
          | true => exact absurd (List.any_eq_true.2 ⟨_, List.mem_of_getElem? hx, hh⟩) hb
        show u = _
        rw [hc.1 o this]
        exact h4
  | mp o =>
    simp only [CV.kill]
    split
    · exact bot_rel h.one
    · rename_i hb
      have hv : v = .map (some (γ.base o)) := h
      show v = _
      rw [hv, hc.1 o (by simpa using hb)]
theorem CsRel.kill (hc : Chg κ γ γ') {cs : List CV} {vs : List Value} (h : CsRel W S γ cs vs) : CsRel W S γ' (cs.map (CV.kill κ)) vs := by
  refine ⟨by simp [h.1], fun i c v hi hv => ?_⟩
  rw [List.getElem?_map] at hi
  obtain ⟨c0, h0, rfl⟩ := Option.map_eq_some_iff.1 hi
  exact (h.2 i c0 v h0 hv).kill hc
theorem URel.kill (hc : Chg κ γ γ') {x : UV} {v : Value} (h : URel W S γ x v) : URel W S γ' (x.kill κ) v := by
  cases x with
  | one c => exact CRel.kill hc h
  | agg cs => obtain ⟨vs, rfl, hs⟩ := h; exact ⟨vs, rfl, hs.kill hc⟩
theorem TRel.kill (hc : Chg κ γ γ') {x : TV} {v : Value} (h : TRel W S γ x v) : TRel W S γ' (x.kill κ) v := by
  cases x with
  | bot => trivial
  | u x => exact URel.kill hc h
  | tup xs =>
    obtain ⟨vs, rfl, hl, hr⟩ := h
    refine ⟨vs, rfl, by simp [hl], fun i x y hx hy => ?_⟩
    rw [List.getElem?_map] at hx
    obtain ⟨x0, h0, rfl⟩ := Option.map_eq_some_iff.1 hx
    exact URel.kill hc (hr i x0 y h0 hy)
  | w g x => exact ⟨fun hg => URel.kill hc (h.1 hg), h.2⟩
theorem tmps_kill (hc : Chg κ γ γ') {ts : List TV} {vs : Array Value} (h : ∀ (i : Nat) (x : TV) (v : Value), ts[i]? = some x → vs[i]? = some v → TRel W S γ x v) : ∀ (i : Nat) (x : TV) (v : Value), (ts.map (TV.kill κ))[i]? = some x → vs[i]? = some v → TRel W S γ' x v := fun i x v hx hv => by
  rw [List.getElem?_map] at hx
  obtain ⟨x0, h0, rfl⟩ := Option.map_eq_some_iff.1 hx
  exact (h i x0 v h0 hv).kill hc
theorem kill_c {κ : Kl} {c : CV} {p : PV} (h : c.kill κ = .c p) : p = .bot ∨ c = .c p := by
  cases c with
  | c q => exact .inr h
  | ptr o off π => cases π <;> simp only [CV.kill] at h <;> split at h <;> first | (injection h with h; exact .inl h.symm) | cases h
  | view o off π => simp only [CV.kill] at h; split at h <;> first | (injection h with h; exact .inl h.symm) | cases h
  | pre o off π n => simp only [CV.kill] at h; split at h <;> first | (injection h with h; exact .inl h.symm) | cases h
  | clo f cap => simp only [CV.kill] at h; split at h <;> first | (injection h with h; exact .inl h.symm) | cases h
  | mp o => simp only [CV.kill] at h; split at h <;> first | (injection h with h; exact .inl h.symm) | cases h
theorem look_kill_obj {o : Nat} {cs : List CV} (h : look (killM κ mem) o = .obj cs) : ∃ cs0, look mem o = .obj cs0 ∧ cs = cs0.map (CV.kill κ) := by
  rw [look_killM] at h
  cases hm : look mem o <;> rw [hm] at h <;> simp [MC.kill] at h
  exact ⟨_, rfl, h.symm⟩
theorem look_kill_map {o : Nat} {ks : List Value} {cs : List CV} (h : look (killM κ mem) o = .map ks cs) : ∃ cs0, look mem o = .map ks cs0 ∧ cs = cs0.map (CV.kill κ) := by
  rw [look_killM] at h
  cases hm : look mem o <;> rw [hm] at h <;> simp [MC.kill] at h
  obtain ⟨rfl, rfl⟩ := h
  exact ⟨_, rfl, rfl⟩
theorem look_kill_reg {o : Nat} {p : PV} (h : look (killM κ mem) o = .reg p) : look mem o = .reg p := by
  rw [look_killM] at h
  cases hm : look mem o <;> rw [hm] at h <;> simp [MC.kill] at h
  rw [h]
theorem at_kill {o off : Nat} {π : Path} {k : Nat} {es : List (List PV)} (h : at_ (killM κ mem) o off π = some (.vec k es)) : at_ mem o off π = some (.vec k es) := by
  unfold Ew.at_ at h ⊢
  rw [look_killM] at h
  cases hm : look mem o with
  | no => rw [hm] at h; exact h
  | reg p => rw [hm] at h; exact h
  | map ks cs => rw [hm] at h; exact h
  | obj cs =>
    rw [hm] at h
    simp only [MC.kill, cellAt, List.getElem?_map] at h ⊢
    cases hc : cs[off]? with
    | none => rw [hc] at h; simp at h
    | some c =>
      rw [hc] at h
      simp only [Option.map_some] at h
      cases c with
      | c p => simpa [CV.kill] using h
      | _ =>
        split at h
        · rename_i p hp
          split at hp
          · rename_i q hq
            injection hp with hp
            subst hp
            simp only [Option.some.injEq] at hq
            rcases kill_c hq with rfl | h1
            · exact absurd (down_nv rfl h) (by rintro rfl; simp [PV.down] at h)
            · cases h1
          · cases hp
        · cases h
theorem kill_or (κ : Kl) (c0 : CV) : c0.kill κ = .bot ∨ c0.kill κ = c0 := by
  cases c0 with
  | c p => exact .inr rfl
  | ptr o off π =>
    cases π with
    | nil => by_cases hb : κ.b o = true <;> simp [CV.kill, hb]
    | cons s π => by_cases hb : κ.h o off π.length = true <;> simp [CV.kill, hb]
  | view o off π => by_cases hb : κ.h o off π.length = true <;> simp [CV.kill, hb]
  | pre o off π n => by_cases hb : κ.h o off π.length = true <;> simp [CV.kill, hb]
  | clo f cap =>
    simp only [CV.kill]
    split
    · exact .inl rfl
    · exact .inr rfl
  | mp o => by_cases hb : κ.b o = true <;> simp [CV.kill, hb]
/-- The aliases are forgotten. -/
theorem killM_less (hr : ∀ o q, look mem o = .reg q → ∃ k es, q = .vec k es) : Less (killM κ mem) mem := by
  refine ⟨fun o off π k es h => ⟨es, at_kill h, rfl, fun i row hi => ⟨row, hi, rfl, fun f x hx => .inr ⟨x, hx, .inl rfl⟩⟩⟩, fun o cs h => ?_, fun o q h => ⟨⟨q, look_kill_reg h⟩, hr o q (look_kill_reg h)⟩, fun o ks cs h => ?_⟩
  · obtain ⟨cs0, h0, rfl⟩ := look_kill_obj h
    refine ⟨cs0, h0, by simp, fun j c hj => ?_⟩
    rw [List.getElem?_map] at hj
    obtain ⟨c0, hc0, rfl⟩ := Option.map_eq_some_iff.1 hj
    rcases kill_or κ c0 with hk | hk
    · exact .inl hk
    · exact .inr ⟨c0, hc0, .inl hk⟩
  · obtain ⟨cs0, h0, rfl⟩ := look_kill_map h
    refine ⟨cs0, h0, by simp, fun j c hj => ?_⟩
    rw [List.getElem?_map] at hj
    obtain ⟨c0, hc0, rfl⟩ := Option.map_eq_some_iff.1 hj
    rcases kill_or κ c0 with hk | hk
    · exact .inl hk
    · exact .inr (by rw [hk]; exact hc0)
/-- No alias in memory is hit. -/
def HoldsM (mem : List (Nat × MC)) (o : Nat) (cs : List CV) : Prop := look mem o = .obj cs ∨ ∃ ks, look mem o = .map ks cs
def Clear (κ : Kl) (mem : List (Nat × MC)) : Prop := ∀ (o : Nat) (cs : List CV) (j : Nat) (c : CV), HoldsM mem o cs → cs[j]? = some c → c.kill κ = c
theorem Clear.less (h : Clear κ mem) (hl : Less mem1 mem) : Clear κ mem1 := fun o cs j c ho hj => by
  rcases ho with ho | ⟨ks, ho⟩
  · obtain ⟨cs0, h1, _, h3⟩ := hl.obj o cs ho
    rcases h3 j c hj with rfl | ⟨c0, h4, rfl | ⟨p, p', rfl, rfl, _⟩⟩
    · rfl
    · exact h o cs0 j c (.inl h1) h4
    · rfl
  · obtain ⟨cs0, h1, _, h3⟩ := hl.map o ks cs ho
    rcases h3 j c hj with rfl | h4
    · rfl
    · exact h o cs0 j c (.inr ⟨ks, h1⟩) h4
theorem kill_idem (κ : Kl) (c : CV) : (c.kill κ).kill κ = c.kill κ := by
  cases c with
  | c p => rfl
  | ptr o off π =>
    cases π with
    | nil => by_cases hb : κ.b o = true <;> simp [CV.kill, hb]
    | cons s π => by_cases hb : κ.h o off π.length = true <;> simp [CV.kill, hb]
  | view o off π => by_cases hb : κ.h o off π.length = true <;> simp [CV.kill, hb]
  | pre o off π n => by_cases hb : κ.h o off π.length = true <;> simp [CV.kill, hb]
  | clo f cap =>
    by_cases hb : cap.any (Cap.hit κ) = true
    · simp only [CV.kill, if_pos hb]
    · simp only [CV.kill, if_neg hb]
  | mp o => by_cases hb : κ.b o = true <;> simp [CV.kill, hb]
theorem clear_kill (κ : Kl) (mem : List (Nat × MC)) : Clear κ (killM κ mem) := fun o cs j c ho hj => by
  have key : ∀ cs0 : List CV, (cs0.map (CV.kill κ))[j]? = some c → c.kill κ = c := fun cs0 hj => by
    rw [List.getElem?_map] at hj
    obtain ⟨c0, _, rfl⟩ := Option.map_eq_some_iff.1 hj
    exact kill_idem κ c0
  rcases ho with ho | ⟨ks, ho⟩
  · obtain ⟨cs0, _, rfl⟩ := look_kill_obj ho
    exact key cs0 hj
  · obtain ⟨cs0, _, rfl⟩ := look_kill_map ho
    exact key cs0 hj
/-- What this leaves, that leaves too. -/
def Kl.le (κ κ' : Kl) : Prop := (∀ o, κ.b o = true → κ'.b o = true) ∧ ∀ o off n, κ.h o off n = true → κ'.h o off n = true
theorem kill_le {κ κ' : Kl} (h : Kl.le κ κ') {c : CV} (hc : c.kill κ' = c) : c.kill κ = c := by
  have hb : ∀ {b b' : Bool}, (b = true → b' = true) → b' = false → b = false := by intro b b'; cases b <;> cases b' <;> simp
  cases c with
  | c p => rfl
  | ptr o off π =>
    cases π with
    | nil =>
      simp only [CV.kill] at hc ⊢
      split at hc
      · cases hc
      · rename_i h1; rw [hb (h.1 o) (by simpa using h1)]; rfl
    | cons s π =>
      simp only [CV.kill] at hc ⊢
      split at hc
      · cases hc
      · rename_i h1; rw [hb (h.2 o off π.length) (by simpa using h1)]; rfl
  | view o off π =>
    simp only [CV.kill] at hc ⊢
    split at hc
    · cases hc
    · rename_i h1; rw [hb (h.2 o off π.length) (by simpa using h1)]; rfl
  | pre o off π n =>
    simp only [CV.kill] at hc ⊢
    split at hc
    · cases hc
    · rename_i h1; rw [hb (h.2 o off π.length) (by simpa using h1)]; rfl
  | clo f cap =>
    simp only [CV.kill] at hc ⊢
    split at hc
    · cases hc
    · rename_i h1
      rw [if_neg]
      intro h2
      obtain ⟨x, hx, hx2⟩ := List.any_eq_true.1 h2
      refine h1 (List.any_eq_true.2 ⟨x, hx, ?_⟩)
      cases x with
      | p x => simp [Cap.hit] at hx2
      | r o => exact h.1 o hx2
  | mp o =>
    simp only [CV.kill] at hc ⊢
    split at hc
    · cases hc
    · rename_i h1; rw [hb (h.1 o) (by simpa using h1)]; rfl
theorem Clear.mono {κ κ' : Kl} (h : Kl.le κ κ') (hc : Clear κ' mem) : Clear κ mem := fun o cs j c ho hj => kill_le h (hc o cs j c ho hj)
theorem CRel.chg (hc : Chg κ γ γ') {c : CV} {u : Value} (h : CRel W S γ c u) (hk : c.kill κ = c) : CRel W S γ' c u := by
  have := CRel.kill hc h
  rwa [hk] at this
theorem MapOK.chg (hc : Chg κ γ γ') {o : Nat} {ks : List Value} {cs : List CV} (h : MapOK W S γ o ks cs) (hk : ∀ (j : Nat) (c : CV), cs[j]? = some c → c.kill κ = c) (hb : γ'.base o = γ.base o) : MapOK W S γ' o ks cs := by
  obtain ⟨es, g1, g2, g3, g4, g5⟩ := h
  exact ⟨es, by rw [hb]; exact g1, g2, g3, g4, fun i c e hi he => (g5 i c e hi he).chg hc (hk i c hi)⟩
theorem MapOK.world {o : Nat} {ks : List Value} {cs : List CV} (h : MapOK W S γ o ks cs) (hS : ∀ a, S a → W'.heap[a.block]? = W.heap[a.block]?) (hSS : ∀ a, S a → S' a) (hb : W'.heap[γ.base o]? = W.heap[γ.base o]?) : MapOK W' S' γ o ks cs := by
  obtain ⟨es, g1, g2, g3, g4, g5⟩ := h
  exact ⟨es, hb.trans g1, g2, g3, g4, fun i c e hi he => (g5 i c e hi he).mono hS hSS⟩
theorem RootOK.chg (hc : Chg κ γ γ') {o off : Nat} {c : CV} {u : Value} (h : RootOK W S γ o off c u) (hk : c.kill κ = c) (hv : γ'.hd o off [] = γ.hd o off []) : RootOK W S γ' o off c u := by
  cases c with
  | c p =>
    cases p with
    | vec k es => exact ⟨by rw [hv]; exact h.1, h.2⟩
    | _ => exact h
  | _ =>
    simp only [RootOK] at h ⊢
    have := CRel.kill hc h
    rwa [hk] at this

/-! ### A slice goes to another place -/
def Gh.mv (γ : Gh) (o off : Nat) (π : Path) (v : Value) (so soff : Nat) (sπ : Path) : Gh :=
  { base := γ.base, hd := fun o1 off1 π1 => if o1 = o ∧ off1 = off then
      match rest π π1 with
      | some [] => v
      | some (s :: ρ) => γ.hd so soff ((s :: ρ) ++ sπ)
      | none => γ.hd o1 off1 π1
    else γ.hd o1 off1 π1 }
theorem Gh.mv_other {γ : Gh} {o off : Nat} {π : Path} {v : Value} {so soff : Nat} {sπ : Path} {o1 off1 : Nat} {π1 : Path} (h : ¬ (o1 = o ∧ off1 = off) ∨ rest π π1 = none) : (γ.mv o off π v so soff sπ).hd o1 off1 π1 = γ.hd o1 off1 π1 := by
  simp only [Gh.mv]
  split
  · rename_i hc
    rcases h with h | h
    · exact absurd hc h
    · rw [h]
  · rfl
theorem Gh.mv_self (γ : Gh) (o off : Nat) (π : Path) (v : Value) (so soff : Nat) (sπ : Path) : (γ.mv o off π v so soff sπ).hd o off π = v := by
  simp [Gh.mv, rest_self]
theorem Gh.mv_under (γ : Gh) (o off : Nat) (π : Path) (v : Value) (so soff : Nat) (sπ : Path) (s : Nat × Nat × Nat) (ρ : Path) : (γ.mv o off π v so soff sπ).hd o off (s :: ρ ++ π) = γ.hd so soff (s :: ρ ++ sπ) := by
  have : rest π (s :: ρ ++ π) = some (s :: ρ) := rest_some.2 rfl
  simp only [Gh.mv, this, and_self, if_true]
theorem Gh.mv_chg (γ : Gh) (o off : Nat) (π : Path) (v : Value) (so soff : Nat) (sπ : Path) : Chg (.sub o off (off + 1) π.length) γ (γ.mv o off π v so soff sπ) := by
  refine ⟨fun _ _ => rfl, fun o1 off1 π1 h => Gh.mv_other ?_⟩
  by_cases hc : o1 = o ∧ off1 = off
  · right
    obtain ⟨rfl, rfl⟩ := hc
    cases hr : rest π π1 with
    | none => rfl
    | some ρ =>
      have := rest_some.1 hr
      subst this
      simp [Kl.h] at h
  · exact .inl hc

theorem MemOK.adopt (h : MemOK W0 M S γ mem W) (hl : Less mem1 mem) {so soff : Nat} {sπ : Path} (hno : ∀ (ρ : Path) (k : Nat) (es : List (List PV)), at_ mem1 so soff (ρ ++ sπ) ≠ some (.vec k es)) {k : Nat} {es : List (List PV)}
    (hs : at_ mem so soff sπ = some (.vec k es)) {A : Option Addr} {m c n : Nat} (hhd : γ.hd so soff sπ = .slice A m c) (hn : n ≤ es.length) {o off : Nat} {π : Path} (hne : ¬ (so = o ∧ soff = off))
    (hclear : Clear (.sub o off (off + 1) π.length) mem1) (hput : putAt mem1 o off π (.vec k (es.take n)) = some mem2)
    (hroot : ∀ q, π = [] → look mem1 o ≠ .reg q) (hreal : W.cell? (γ.addr o off π) = some (.slice A n c)) : MemOK W0 M S (γ.mv o off π (.slice A n c) so soff sπ) mem2 W := by
  have h1 := h.less hl
  unfold putAt at hput
  split at hput
  · rename_i p hp
    split at hput
    · rename_i p' hp'
      injection hput with hput
      subst hput
      have hsame := put_same hp'
      have hchg := Gh.mv_chg γ o off π (.slice A n c) so soff sπ
      -- what the source has
      have hsrc : ∀ (ρ : Path) (k' : Nat) (es' : List (List PV)), PV.down ρ (.vec k (es.take n)) = some (.vec k' es') → ∃ es0, at_ mem so soff (ρ ++ sπ) = some (.vec k' es0) ∧ (ρ ≠ [] → es0 = es') ∧ (ρ = [] → k' = k ∧ es0 = es ∧ es' = es.take n) := by
        intro ρ
        rcases List.eq_nil_or_concat ρ with rfl | ⟨ρ', s, rfl⟩
        · intro k' es' hd
          simp only [PV.down, Option.some.injEq, PV.vec.injEq] at hd
          exact ⟨es, by rw [← hd.1]; exact hs, by simp, fun _ => ⟨hd.1.symm, rfl, hd.2.symm⟩⟩
        · intro k' es' hd
          refine ⟨es', ?_, fun _ => rfl, by simp⟩
          rw [List.concat_eq_append, down_append] at hd
          rw [List.concat_eq_append, List.append_assoc, at_append]
          have : at_ mem so soff ([s] ++ sπ) = PV.down [s] (.vec k (es.take n)) ∨ PV.down [s] (.vec k (es.take n)) = none := by
            simp only [at_append, hs, PV.down]
            obtain ⟨i, k2, f⟩ := s
            simp only [PV.elem]
            by_cases hk2 : k2 = k
            · simp only [hk2, if_true]
              rw [List.getElem?_take]
              by_cases hin : i < n
              · left; simp [hin]
              · right; simp [hin]
            · right; simp [hk2]
          rcases this with h2 | h2
          · rw [h2]; exact hd
          · rw [h2] at hd; cases hd
      have hat : ∀ {o1 off1 : Nat} {π1 : Path} {k1 : Nat} {es1 : List (List PV)}, at_ (setCell mem1 o off p') o1 off1 π1 = some (.vec k1 es1) →
          (∃ ρ, o1 = o ∧ off1 = off ∧ π1 = ρ ++ π ∧ PV.down ρ (.vec k (es.take n)) = some (.vec k1 es1)) ∨
          ((¬ (o1 = o ∧ off1 = off) ∨ rest π π1 = none) ∧ ∃ q, at_ mem1 o1 off1 π1 = some q ∧ Like π (.vec k (es.take n)) π1 q (.vec k1 es1) ∧ (¬ (o1 = o ∧ off1 = off) → q = .vec k1 es1)) := by
        intro o1 off1 π1 k1 es1 ha
        rw [at_setCell hp] at ha
        split at ha
        · rename_i hc
          cases hr : rest π π1 with
          | some ρ =>
            left
            have e := rest_some.1 hr
            rw [e, down_append, hsame] at ha
            exact ⟨ρ, hc.1, hc.2, e, ha⟩
          | none =>
            right
            obtain ⟨q, h2, h3⟩ := put_other hp' hr ha
            refine ⟨.inr rfl, q, ?_, h3, fun h => absurd hc h⟩
            unfold Ew.at_
            rw [hc.1, hc.2, hp]
            exact h2
        · rename_i hc
          exact .inr ⟨.inl hc, _, ha, .inl rfl, fun _ => rfl⟩
      -- nodes
      have hnode : ∀ {nd : Node} {b : Nat}, Owns (γ.mv o off π (.slice A n c) so soff sπ) (setCell mem1 o off p') nd b → (∃ ρ, nd = .at_ o off (ρ ++ π) ∧ Owns γ mem (.at_ so soff (ρ ++ sπ)) b) ∨ ((∀ ρ, nd ≠ .at_ o off (ρ ++ π)) ∧ Owns γ mem1 nd b) := by
        intro nd b hb
        cases nd with
        | root o1 =>
          right
          obtain ⟨⟨cs, hc⟩ | ⟨ks, cs, hc⟩, hbb⟩ := hb
          · obtain ⟨cs0, hc0, _⟩ := obj_setCell hp hc
            exact ⟨fun ρ e => (by cases e), .inl ⟨cs0, hc0⟩, hbb⟩
          · exact ⟨fun ρ e => (by cases e), .inr ⟨ks, cs, map_setCell hc⟩, hbb⟩
        | at_ o1 off1 π1 =>
          obtain ⟨⟨k1, es1, ha⟩, n1, c1, hc1, hh⟩ := hb
          rcases hat ha with ⟨ρ, rfl, rfl, rfl, hd⟩ | ⟨hout, q, hq, hlk, _⟩
          · left
            refine ⟨ρ, rfl, ?_⟩
            obtain ⟨es0, h2, _, _⟩ := hsrc ρ k1 es1 hd
            refine ⟨⟨k1, es0, h2⟩, ?_⟩
            cases ρ with
            | nil =>
              rw [List.nil_append, Gh.mv_self] at hh
              injection hh with ha1 ha2 ha3
              subst ha1 ha2 ha3
              exact ⟨m, _, hc1, hhd⟩
            | cons s ρ =>
              rw [Gh.mv_under] at hh
              exact ⟨n1, c1, hc1, hh⟩
          · right
            refine ⟨fun ρ e => ?_, ?_⟩
            · injection e with e1 e2 e3
              rcases hout with h2 | h2
              · exact h2 ⟨e1, e2⟩
              · exact rest_none h2 ρ e3
            · rw [Gh.mv_other hout] at hh
              refine ⟨?_, n1, c1, hc1, hh⟩
              rcases hlk with rfl | ⟨k2, es2, es2', rfl, h3, _⟩
              · exact ⟨k1, es1, hq⟩
              · exact ⟨k2, es2, hq⟩
      refine ⟨fun o1 cs ho => ?_, fun o1 ks cs ho => ?_, fun o1 off1 π1 k1 es1 ha => ?_, fun o1 q ho => ?_, fun nd b hb => ?_, fun nd nd' b hb hb' => ?_⟩
      · obtain ⟨cs0, g1, g2, g3⟩ := obj_setCell hp ho
        obtain ⟨C, t, g4, g5, g6⟩ := h1.objs o1 cs0 g1
        refine ⟨C, t, g4, by omega, fun j x u hj hu => ?_⟩
        rcases g3 j x hj with ⟨rfl, rfl, rfl⟩ | g7
        · -- the root's cell itself
          cases π with
          | nil =>
            simp only [PV.put, Option.some.injEq] at hp'
            subst hp'
            have : W.cell? ⟨γ.base o1, j, none⟩ = some u := by simp [World.cell?, g4]; simpa using hu
            simp only [Gh.addr] at hreal
            rw [hreal] at this
            injection this with this
            subst this
            exact ⟨by rw [Gh.mv_self], rfl⟩
          | cons s π =>
            have g8 : ∃ c0, cs0[j]? = some c0 := ⟨_, List.getElem?_eq_getElem (by rw [← g2]; exact (List.getElem?_eq_some_iff.1 hj).1)⟩
            obtain ⟨c0, g8⟩ := g8
            have g9 := g6 j c0 u g8 hu
            rw [g1] at hp
            simp only [cellAt, g8] at hp
            cases c0 with
            | c q =>
              simp only [Option.some.injEq] at hp
              subst hp
              have g10 : q.nv = false := by
                cases q with
                | vec _ _ => rfl
                | _ =>
                  exfalso
                  simp only [PV.put] at hp'
                  obtain ⟨i, k0, f⟩ := s
                  simp only at hp'
                  split at hp'
                  · rename_i hdd
                    have := down_nv rfl hdd
                    subst this
                    simp [PV.down] at hdd
                  · cases hp'
              have g11 : p'.nv = false := by
                cases p' with
                | vec _ _ => rfl
                | _ => exact absurd (down_nv rfl hsame) (by simp)
              have g12 : CellOK W S γ o1 j [] p' u := CellOK.vecs g9 g11 g10
              exact RootOK.chg hchg (c := .c p') g12 rfl (Gh.mv_other (.inr (by
                cases hr : rest (s :: π) [] with
                | none => rfl
                | some ρ => have := rest_some.1 hr; simp at this)))
            | _ => simp at hp
        · exact (g6 j x u g7.2 hu).chg hchg (hclear o1 cs0 j x (.inl g1) g7.2) (Gh.mv_other (.inl g7.1))
      · have hm := map_setCell ho
        exact (h1.maps o1 ks cs hm).chg hchg (fun j c hj => hclear o1 cs j c (.inr ⟨ks, hm⟩) hj) rfl
      · rcases hat ha with ⟨ρ, rfl, rfl, rfl, hd⟩ | ⟨hout, q, hq, hlk, hsm⟩
        · -- under the new place
          obtain ⟨es0, g1, g2, g3⟩ := hsrc ρ k1 es1 hd
          obtain ⟨v0, v1, v2⟩ := h.vecs so soff (ρ ++ sπ) k1 es0 g1
          cases ρ with
          | nil =>
            obtain ⟨rfl, rfl, rfl⟩ := g3 rfl
            simp only [List.nil_append] at v2 ⊢
            refine ⟨v0, fun row hr => v1 row (List.mem_of_mem_take hr), ?_⟩
            rw [Gh.mv_self]
            rcases v2 with ⟨rfl, A', hA⟩ | ⟨b, cap, w1, w2, w3, w4, cur, t, w5, w6, w7⟩
            · left
              rw [hhd] at hA
              injection hA with a1 a2 a3
              subst a1 a2 a3
              have : n = 0 := by simpa using hn
              subst this
              exact ⟨by simp, A, rfl⟩
            · right
              rw [hhd] at w1
              injection w1 with a1 a2 a3
              subst a1 a2 a3
              refine ⟨b, c, by rw [List.length_take, Nat.min_eq_left hn], w2, by simp; omega, w4, cur, t, w5, w6, fun i row f x u hi hf hu => ?_⟩
              rw [List.getElem?_take] at hi
              split at hi
              · have g4 := w7 i row f x u hi hf hu
                cases x with
                | vec k2 es2 =>
                  refine ⟨?_, g4.2⟩
                  have := Gh.mv_under γ o1 off1 π (.slice (some ⟨b, 0, none⟩) n c) so soff sπ (i, k1, f) []
                  simp only [List.singleton_append] at this
                  rw [this]; exact g4.1
                | _ => exact g4
              · cases hi
          | cons s ρ =>
            have g4 := g2 (by simp)
            subst g4
            refine ⟨v0, v1, ?_⟩
            rw [Gh.mv_under]
            rcases v2 with ⟨rfl, A', hA⟩ | ⟨b, cap, w1, w2, w3, w4, cur, t, w5, w6, w7⟩
            · exact .inl ⟨rfl, A', hA⟩
            · refine .inr ⟨b, cap, w1, w2, w3, w4, cur, t, w5, w6, fun i row f x u hi hf hu => ?_⟩
              have g4 := w7 i row f x u hi hf hu
              cases x with
              | vec k2 es2 =>
                refine ⟨?_, g4.2⟩
                have := Gh.mv_under γ o1 off1 π (.slice A n c) so soff sπ (i, k1, f) (s :: ρ)
                simp only [List.cons_append] at this ⊢
                rw [this]; exact g4.1
              | _ => exact g4
        · -- elsewhere
          have hchild : ∀ (i f : Nat), (i, k1, f) :: π1 = π ∧ o1 = o ∧ off1 = off ∨ (γ.mv o off π (.slice A n c) so soff sπ).hd o1 off1 ((i, k1, f) :: π1) = γ.hd o1 off1 ((i, k1, f) :: π1) := fun i f => by
            by_cases hc : o1 = o ∧ off1 = off
            · by_cases he : (i, k1, f) :: π1 = π
              · exact .inl ⟨he, hc⟩
              · right
                rcases hout with h2 | h2
                · exact absurd hc h2
                · exact Gh.mv_other (.inr (rest_cons h2 he))
            · exact .inr (Gh.mv_other (.inl hc))
          have hv : ∃ es2, at_ mem1 o1 off1 π1 = some (.vec k1 es2) ∧ es1.length = es2.length ∧ ∀ (i : Nat) (row' : List PV), es1[i]? = some row' → ∃ row, es2[i]? = some row ∧ row'.length = row.length ∧
              ∀ (f : Nat) (x' : PV), row'[f]? = some x' → ((i, k1, f) :: π1 = π ∧ o1 = o ∧ off1 = off ∧ x' = .vec k (es.take n)) ∨ (¬ ((i, k1, f) :: π1 = π ∧ o1 = o ∧ off1 = off) ∧ ∃ x, row[f]? = some x ∧ (x' = x ∨ (x'.nv = false ∧ x.nv = false))) := by
            by_cases hc : o1 = o ∧ off1 = off
            · rcases hlk with rfl | ⟨k2, es2, es2', rfl, h3, h4, h5⟩
              · refine ⟨es1, hq, rfl, fun i row hi => ⟨row, hi, rfl, fun f x hx => ?_⟩⟩
                by_cases he : (i, k1, f) :: π1 = π
                · -- what was put there
                  left
                  refine ⟨he, hc.1, hc.2, ?_⟩
                  have g1 := at_child ha hi hx
                  rw [he, at_setCell hp, if_pos hc] at g1
                  rw [hsame] at g1
                  injection g1 with g1
                  exact g1.symm
                · exact .inr ⟨fun h => he h.1, x, hx, .inl rfl⟩
              · injection h3 with h6 h7
                subst h6 h7
                refine ⟨es2, hq, h4, fun i row' hi => ?_⟩
                obtain ⟨row, g1, g2, g3⟩ := h5 i row' hi
                refine ⟨row, g1, g2, fun f x' hx => ?_⟩
                by_cases he : (i, k1, f) :: π1 = π
                · left
                  refine ⟨he, hc.1, hc.2, ?_⟩
                  have g1 := at_child ha hi hx
                  rw [he, at_setCell hp, if_pos hc] at g1
                  rw [hsame] at g1
                  injection g1 with g1
                  exact g1.symm
                · rcases g3 f x' hx with ⟨g4, _⟩ | g4
                  · exact absurd g4 he
                  · exact .inr ⟨fun h => he h.1, g4⟩
            · have := hsm hc
              subst this
              exact ⟨es1, hq, rfl, fun i row hi => ⟨row, hi, rfl, fun f x hx => .inr ⟨fun h => hc h.2, x, hx, .inl rfl⟩⟩⟩
          obtain ⟨es2, h2, h3, h4⟩ := hv
          obtain ⟨v0, v1, v2⟩ := h1.vecs o1 off1 π1 k1 es2 h2
          refine ⟨v0, fun row' hr => ?_, ?_⟩
          · obtain ⟨i, hi⟩ := List.mem_iff_getElem?.1 hr
            obtain ⟨row, g1, g2, _⟩ := h4 i row' hi
            rw [g2]; exact v1 row (List.mem_of_getElem? g1)
          · rw [Gh.mv_other hout]
            rcases v2 with ⟨rfl, hA⟩ | ⟨b, cap, w1, w2, w3, w4, cur, t, w5, w6, w7⟩
            · exact .inl ⟨List.eq_nil_of_length_eq_zero (by simpa using h3), hA⟩
            · refine .inr ⟨b, cap, by rw [h3]; exact w1, w2, by omega, w4, cur, t, w5, w6, fun i row' f x' u hi hf hu => ?_⟩
              obtain ⟨row, g1, g2, g3⟩ := h4 i row' hi
              rcases g3 f x' hf with ⟨g4, rfl, rfl, rfl⟩ | ⟨g4, x, g5, g6⟩
              · -- the place itself
                subst g4
                refine ⟨?_, ?_⟩
                · rw [Gh.mv_self]
                  simp only [Gh.addr, w1, blkD] at hreal
                  have : W.cell? ⟨b, i * k1 + f, none⟩ = some u := by simp [World.cell?, w5]; simpa using hu
                  rw [hreal] at this
                  injection this with this
                  exact this.symm
                · simp only [Gh.addr, w1, blkD] at hreal
                  have : W.cell? ⟨b, i * k1 + f, none⟩ = some u := by simp [World.cell?, w5]; simpa using hu
                  rw [hreal] at this
                  injection this with this
                  subst this
                  rfl
              · have g7 := (w7 i row f x u g1 g5 hu).less g6
                rcases hchild i f with g8 | g8
                · exact absurd g8 g4
                · cases x' with
                  | vec k2 es3 => exact ⟨by rw [g8]; exact g7.1, g7.2⟩
                  | _ => exact g7
      · rcases reg_setCell hp ho with ⟨rfl, rfl, rfl, g1⟩ | g1
        · cases π with
          | nil => simp only [PV.put, Option.some.injEq] at hp'; exact ⟨_, _, hp'.symm⟩
          | cons s π => cases q with
            | vec k1 es1 => exact ⟨_, _, rfl⟩
            | _ => exact absurd (down_nv rfl hsame) (by simp)
        · exact h1.regs o1 q g1
      · rcases hnode hb with ⟨ρ, rfl, h2⟩ | ⟨_, h2⟩
        · exact h.own _ b h2
        · exact h1.own _ b h2
      · rcases hnode hb with ⟨ρ, rfl, h2⟩ | ⟨g1, h2⟩ <;> rcases hnode hb' with ⟨ρ', rfl, h3⟩ | ⟨g2, h3⟩
        · have := h.inj _ _ b h2 h3
          injection this with _ _ e
          rw [List.append_cancel_right e]
        · have := h.inj _ _ b h2 (hl.owns h3)
          subst this
          obtain ⟨⟨k9, es9, g3⟩, _⟩ := h3
          exact absurd g3 (hno ρ k9 es9)
        · have := h.inj _ _ b (hl.owns h2) h3
          subst this
          obtain ⟨⟨k9, es9, g3⟩, _⟩ := h2
          exact absurd g3 (hno ρ' k9 es9)
        · exact h1.inj _ _ b h2 h3
    · cases hput
  · cases hput
end
end Go.Ew
end
