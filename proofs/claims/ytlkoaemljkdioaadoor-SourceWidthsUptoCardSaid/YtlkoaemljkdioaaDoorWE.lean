/- The abstract machine's regions, code and ghost steps are sound. -/
import Derived.Test.YtlkoaemljkdioaaDoorWD
import Derived.Deep.LoopGhost
import Derived.OrdersHeld
section
/- One operation that is no call, in both machines; ghost steps; calls. -/
namespace Go.Ew

/-- What a closure captures. -/
def capOf : TV → Option Cap
  | .u (.one (.c p)) => some (.p p)
  | .u (.one (.ptr o 0 [])) => some (.r o)
  | _ => none
def capsOf (T : Tab) (σ : St) : List Operand → Option (List Cap)
  | [] => some []
  | x :: xs => match capOf (opg T [] σ x), capsOf T σ xs with
    | some c, some cs => some (c :: cs)
    | _, _ => none
def plainCaps : List Cap → Option (List PV)
  | [] => some []
  | .p x :: r => match plainCaps r with
    | some ps => some (x :: ps)
    | none => none
  | .r _ :: _ => none
def mkClo (f : FuncId) (cs : List Cap) : CV :=
  match plainCaps cs with
  | some ps => .c (.clo f ps)
  | none => .clo f cs
/-- An operation of no call. -/
def act (P : Program) (T : Tab) (σ : St) (o : Oper) : Option St :=
  match o.op with
  | .alloc t => match o.dst with
    | some d => if d < 1000000 then allocOp T σ d t else none
    | none => none
  | .box _ x => match o.dst with
    | some d => if d < 1000000 then boxOp σ d (opg T [] σ x) else none
    | none => none
  | .store t p x => match storeOp T σ t (opg T [] σ p) (opg T [] σ x) with
    | some σ1 => some (σ1.put o.dst (.tup []))
    | none => none
  | .buildSlice t n parts => match o.dst with
    | some d => if d < 1000000 then buildSliceOp T σ d t n parts.toList else none
    | none => none
  | .makeSlice t l c => match o.dst with
    | some d => if d < 1000000 then makeSliceOp T σ d t (opg T [] σ l) (opg T [] σ c) else none
    | none => none
  | .call { callee := .builtin .append, args, argTypes } => match o.dst with
    | some d => match args.toList, argTypes.toList with
      | [s, x], [t, t'] => if t = t' ∧ d < 1000000 then appendOp T σ d t (opg T [] σ s) (opg T [] σ x) else none
      | _, _ => none
    | none => none
  | .makeMap t none => match o.dst with
    | some d => if d < 1000000 then some (makeMapOp σ d) else none
    | none => none
  | .mapUpdate t m k x => match updateOp T σ t (opg T [] σ m) (opg T [] σ k) (opg T [] σ x) with
    | some σ1 => some (σ1.put o.dst (.tup []))
    | none => none
  | .insert t m k x => match updateOp T σ t (opg T [] σ m) (opg T [] σ k) (opg T [] σ x) with
    | some σ1 => some (σ1.put o.dst (.tup []))
    | none => none
  | .makeFunc (.func f) first caps => if first.size = 0 then
      match capsOf T σ caps.toList with
      | some cs => some (σ.put o.dst (.a (mkClo f cs)))
      | none => none
    else none
  | _ => none

/-- What a call was handed lies where it lay. -/
def Pin (γ0 : Gh × List (Nat × MC)) (γ : Gh) (mem : List (Nat × MC)) : Prop :=
  (∀ i cs, 1000000 ≤ i → i < span → look mem i = .obj cs → (∃ cs0, look γ0.2 i = .obj cs0) ∧ γ.base i = γ0.1.base i) ∧ (∀ i p, 1000000 ≤ i → i < span → look mem i = .reg p → (∃ p0, look γ0.2 i = .reg p0) ∧ γ.hd i 0 [] = γ0.1.hd i 0 []) ∧
  ∀ i ks cs, 1000000 ≤ i → i < span → look mem i = .map ks cs → (∃ ks0 cs0, look γ0.2 i = .map ks0 cs0) ∧ γ.base i = γ0.1.base i
theorem Pin.start (γ : Gh) (mem : List (Nat × MC)) : Pin (γ, mem) γ mem := ⟨fun i cs _ _ h => ⟨⟨cs, h⟩, rfl⟩, fun i p _ _ h => ⟨⟨p, h⟩, rfl⟩, fun i ks cs _ _ h => ⟨⟨ks, cs, h⟩, rfl⟩⟩
theorem Pin.step {γ0 : Gh × List (Nat × MC)} {γ γ' : Gh} {mem mem' : List (Nat × MC)} (h : Pin γ0 γ mem) (hp : Step γ γ' mem mem') : Pin γ0 γ' mem' :=
  ⟨fun i cs h1 h2 h3 => (by obtain ⟨⟨cs0, h4⟩, h5⟩ := hp.1 i cs h1 h3; rw [h5]; exact h.1 i cs0 h1 h2 h4), fun i p h1 h2 h3 => (by obtain ⟨⟨p0, h4⟩, h5⟩ := hp.2.1 i p h1 h3; rw [h5]; exact h.2.1 i p0 h1 h2 h4), fun i ks cs h1 h2 h3 => (by obtain ⟨⟨ks0, cs0, h4⟩, h5⟩ := hp.2.2 i ks cs h1 h3; rw [h5]; exact h.2.2 i ks0 cs0 h1 h2 h4)⟩
theorem put_mem (σ : St) (d : Option Tmp) (x : TV) : (σ.put d x).mem = σ.mem := by cases d <;> rfl
theorem putG_mem (σ : St) (gl : List Bool) (d : Option Tmp) (x : TV) : (σ.putG gl d x).mem = σ.mem := by
  cases gl with
  | nil => exact put_mem _ _ _
  | cons b g => cases x <;> exact put_mem _ _ _

section
variable {P : Program} {T : Tab} {W0 : World} {M : Nat → Prop} {S0 S : Addr → Prop} {γ : Gh} {γ0 : Gh × List (Nat × MC)} {σ : St} {a : Act} {W : World}

theorem Rel.putOpt (hR : Rel T W0 M S0 S γ σ a W) (d : Option Tmp) {x : TV} {v : Value} (hx : TRel W S γ x v) : Rel T W0 M S0 S γ (σ.put d x) (a.put d v) W := by
  cases d with
  | none => exact hR
  | some d =>
    refine ⟨hR.core, hR.defers, by simp [St.put, Act.put, hR.len], fun i y u hy hu => ?_⟩
    rcases set_get hy with ⟨rfl, rfl⟩ | ⟨hid, hy'⟩
    · rcases put_get hu with ⟨_, rfl⟩ | ⟨h, _⟩
      · exact hx
      · exact absurd rfl h
    · rcases put_get hu with ⟨h, _⟩ | ⟨_, hu'⟩
      · exact absurd h hid
      · exact hR.tmps i y u hy' hu'
/-- A guarded operation that was carried out. -/
theorem Rel.putG (hR : Rel T W0 M S0 S γ σ a W) (d : Option Tmp) {gl : List Bool} {x : TV} {v : Value} (hx : TRel W S γ x v) (hg : gl.all id = true) : Rel T W0 M S0 S γ (σ.putG gl d x) (a.put d v) W := by
  cases gl with
  | nil => exact hR.putOpt d hx
  | cons b g =>
    cases x with
    | u y => exact hR.putOpt d (show TRel W S γ (.w (b :: g) y) v from ⟨fun _ => hx, fun h => (by rw [hg] at h; cases h)⟩)
    | _ => exact hR.putOpt d trivial
/-- One that was left out. -/
theorem Rel.putG' (hR : Rel T W0 M S0 S γ σ a W) (d : Option Tmp) {gl : List Bool} {x : TV} (hg : gl.all id = false) : Rel T W0 M S0 S γ (σ.putG gl d x) (a.put d undef) W := by
  cases gl with
  | nil => cases hg
  | cons b g =>
    cases x with
    | u y => exact hR.putOpt d (show TRel W S γ (.w (b :: g) y) undef from ⟨fun h => (by rw [hg] at h; cases h), fun _ => rfl⟩)
    | _ => exact hR.putOpt d trivial

theorem capsOf_ok (hR : Rel T W0 M S0 S γ σ a W) : ∀ {xs : List Operand} {cs : List Cap}, capsOf T σ xs = some cs → cs.length = xs.length ∧ ∀ (i : Nat) (c : Cap) (x : Operand), cs[i]? = some c → xs[i]? = some x → CapRel W S γ c (a.eval x)
  | [], cs, h => by simp only [capsOf, Option.some.injEq] at h; subst h; exact ⟨rfl, fun i c x hc => by simp at hc⟩
  | x :: xs, cs, h => by
    unfold capsOf at h
    split at h
    · rename_i c cs' hc hcs
      injection h with h
      subst h
      obtain ⟨h1, h2⟩ := capsOf_ok hR hcs
      refine ⟨by simp [h1], fun i d y hd hy => ?_⟩
      cases i with
      | zero =>
        simp at hd hy
        subst hd hy
        have h3 := hR.opg (gl := []) rfl x
        unfold capOf at hc
        split at hc
        · rename_i p hp; injection hc with hc; subst hc; rw [hp] at h3; exact h3
        · rename_i o hp; injection hc with hc; subst hc; rw [hp] at h3; exact h3
        · cases hc
      | succ i => simp at hd hy; exact h2 i d y hd hy
    · cases h
theorem plainCaps_get : ∀ {cs : List Cap} {ps : List PV}, plainCaps cs = some ps → ps.length = cs.length ∧ ∀ (i : Nat) (p : PV), ps[i]? = some p → cs[i]? = some (.p p)
  | [], ps, h => by simp only [plainCaps, Option.some.injEq] at h; subst h; exact ⟨rfl, fun i p hp => by simp at hp⟩
  | .p x :: r, ps, h => by
    unfold plainCaps at h
    split at h
    · rename_i ps' hps
      injection h with h
      subst h
      obtain ⟨h1, h2⟩ := plainCaps_get hps
      refine ⟨by simp [h1], fun i p hp => ?_⟩
      cases i with
      | zero => simp at hp; subst hp; rfl
      | succ i => simp at hp; simpa using h2 i p hp
    · cases h
  | .r o :: r, ps, h => by simp [plainCaps] at h
theorem mkClo_ok {cs : List Cap} {vs : Array Value} (f : FuncId) (hl : cs.length = vs.size) (h : ∀ (i : Nat) (c : Cap) (v : Value), cs[i]? = some c → vs[i]? = some v → CapRel W S γ c v) : CRel W S γ (mkClo f cs) (.func (.func f) #[] vs) := by
  unfold mkClo
  split
  · rename_i ps hps
    obtain ⟨h1, h2⟩ := plainCaps_get hps
    exact PRel.clo f ps vs (by omega) (fun i p x hp hx => h i (.p p) x (h2 i p hp) hx)
  · exact ⟨vs, rfl, hl, fun i x u hx hu => h i x u hx hu⟩

theorem run_alloc (hT : TabOK P T) {t : TypeId} {i : TI} (hi : T.ti t = some i) (W : World) : ∃ z : Value, z.cells.toList = i.zero ∧ (∀ u ∈ i.zero, u.oneCell' = true) ∧ (Instr.alloc t true (.tuple #[])).run P W = .ok (.pointer (some ⟨W.heap.size, 0, none⟩)) (W.alloc (.cells z.cells t)) := by
  obtain ⟨info, z, hP, hsz, _, hz, hzc, hones, _⟩ := hT.ti t i hi
  refine ⟨z, hzc, hones, ?_⟩
  simp [Instr.alloc, zeroValue, typeInfo, hP, hz, newVar, Go.newRow, Go.newObj]
  rfl
theorem run_box (t : TypeId) (v : Value) (W : World) : (Instr.box t v).run P W = .ok (.pointer (some ⟨W.heap.size, 0, none⟩)) (W.alloc (.cells v.cells t)) := by
  simp [Instr.box, newVar, Go.newRow, Go.newObj]
  rfl

theorem act_ok (hT : TabOK P T) (hR : Rel T W0 M S0 S γ σ a W) (hpin : Pin γ0 γ σ.mem) {o : Oper} {σ' : St} (h : act P T σ o = some σ') {K : Act → World → Prop} {Q : Exit → Act → World → Prop}
    (hK : ∀ S' γ' a' W', Rel T W0 M S0 S' γ' σ' a' W' → Pin γ0 γ' σ'.mem → K a' W') : o.wp P a W K Q := by
  unfold act at h
  unfold Oper.wp
  split at h
  · rename_i t hop
    split at h
    · rename_i d hd
      split at h
      · rename_i hlt
        unfold allocOp at h
        split at h
        · rename_i i hi
          obtain ⟨z, hz, hones, hrun⟩ := run_alloc hT hi W
          obtain ⟨γ', h2, h3⟩ := newObj_ok hR hlt (C := z.cells) t (by rw [hz]; exact CsRel.consts hones) h
          have : (execOp a.eval o).run P W = .ok (.value (.pointer (some ⟨W.heap.size, 0, none⟩))) (W.alloc (.cells z.cells t)) := by simp [execOp, hop, hrun]
          rw [this, Oper.upon_value, hd]
          exact hK _ _ _ _ h2 (hpin.step h3)
        · cases h
      · cases h
    · cases h
  · rename_i t x hop
    split at h
    · rename_i d hd
      split at h
      · rename_i hlt
        unfold boxOp at h
        split at h
        · rename_i cs hcs
          have hx := (hR.opg (gl := []) rfl x).tcells hcs
          obtain ⟨γ', h2, h3⟩ := newObj_ok hR hlt (C := (a.eval x).cells) t hx h
          have : (execOp a.eval o).run P W = .ok (.value (.pointer (some ⟨W.heap.size, 0, none⟩))) (W.alloc (.cells (a.eval x).cells t)) := by simp [execOp, hop, run_box]
          rw [this, Oper.upon_value, hd]
          exact hK _ _ _ _ h2 (hpin.step h3)
        · cases h
      · cases h
    · cases h
  · rename_i t p x hop
    split at h
    · rename_i σ1 hs
      injection h with h; subst h
      obtain ⟨γ', W', h1, h2, h3⟩ := store_ok hT hR (hR.opg (gl := []) rfl p) (hR.opg (gl := []) rfl x) hs
      have : (execOp a.eval o).run P W = .ok .skip W' := by simp [execOp, hop, h1]
      rw [this, Oper.upon_skip]
      exact hK _ _ _ _ (h2.putOpt o.dst undef_rel) (by rw [put_mem]; exact hpin.step h3)
    · cases h
  · rename_i t n parts hop
    split at h
    · rename_i d hd
      split at h
      · rename_i hlt
        obtain ⟨γ', v, W', h1, h2, h3⟩ := buildSlice_ok hT hR hlt h
        have : (execOp a.eval o).run P W = .ok (.value v) W' := by simp only [execOp, hop]; simp [h1]
        rw [this, Oper.upon_value, hd]
        exact hK _ _ _ _ h2 (hpin.step h3)
      · cases h
    · cases h
  · rename_i t l c hop
    split at h
    · rename_i d hd
      split at h
      · rename_i hlt
        obtain ⟨γ', v, W', h1, h2, h3⟩ := makeSlice_ok hT hR hlt (hR.opg (gl := []) rfl l) (hR.opg (gl := []) rfl c) h
        have : (execOp a.eval o).run P W = .ok (.value v) W' := by simp only [execOp, hop]; simp [h1]
        rw [this, Oper.upon_value, hd]
        exact hK _ _ _ _ h2 (hpin.step h3)
      · cases h
    · cases h
  · rename_i args argTypes hop
    split at h
    · rename_i d hd
      split at h
      · rename_i s x t t' ha ht
        split at h
        · rename_i hc
          obtain ⟨rfl, hlt⟩ := hc
          have ha' : args = #[s, x] := by rw [← ha]
          have ht' : argTypes = #[t, t] := by rw [← ht]
          subst ha' ht'
          obtain ⟨γ', v, W', h1, h2, h3⟩ := append_ok (ty := o.type) hT hR hlt (hR.opg (gl := []) rfl s) (hR.opg (gl := []) rfl x) h
          have : (execOp a.eval o).run P W = .ok (.value v) W' := by
            simp only [execOp, hop, resolve, invoke, builtin]
            simp [h1]
          rw [this, Oper.upon_value, hd]
          exact hK _ _ _ _ h2 (hpin.step h3)
        · cases h
      · cases h
    · cases h
  · rename_i t hop
    split at h
    · rename_i d hd
      split at h
      · rename_i hlt
        injection h with h; subst h
        obtain ⟨γ', h2, h3⟩ := makeMap_ok hR hlt
        have : (execOp a.eval o).run P W = .ok (.value (.map (some W.heap.size))) (W.alloc (.map #[] 0)) := by
          simp only [execOp, hop, Option.map_none, Instr.makeMap]
          rfl
        rw [this, Oper.upon_value, hd]
        exact hK _ _ _ _ h2 (hpin.step h3)
      · cases h
    · cases h
  · rename_i t m k x hop
    split at h
    · rename_i σ1 hs
      injection h with h; subst h
      obtain ⟨W', h1, h2, h3⟩ := update_ok hT hR (hR.opg (gl := []) rfl m) (hR.opg (gl := []) rfl k) (hR.opg (gl := []) rfl x) hs
      have : (execOp a.eval o).run P W = .ok .skip W' := by simp [execOp, hop, h1]
      rw [this, Oper.upon_skip]
      exact hK _ _ _ _ (h2.putOpt o.dst undef_rel) (by rw [put_mem]; exact hpin.step h3)
    · cases h
  · rename_i t m k x hop
    split at h
    · rename_i σ1 hs
      injection h with h; subst h
      obtain ⟨W', h1, h2, h3⟩ := update_ok hT hR (hR.opg (gl := []) rfl m) (hR.opg (gl := []) rfl k) (hR.opg (gl := []) rfl x) hs
      have : (execOp a.eval o).run P W = .ok .skip W' := by simp [execOp, hop, h1]
      rw [this, Oper.upon_skip]
      exact hK _ _ _ _ (h2.putOpt o.dst undef_rel) (by rw [put_mem]; exact hpin.step h3)
    · cases h
  · rename_i f first caps hop
    split at h
    · rename_i hf
      split at h
      · rename_i cs hc
        injection h with h; subst h
        obtain ⟨h1, h2⟩ := capsOf_ok hR hc
        have hf' : first = #[] := Array.eq_empty_of_size_eq_zero hf
        have : (execOp a.eval o).run P W = .ok (.value (.func (.func f) #[] (caps.map a.eval))) W := by
          subst hf'
          simp only [execOp, hop, Array.map_empty]
          rfl
        rw [this, Oper.upon_value]
        refine hK _ _ _ _ (hR.putOpt o.dst ?_) (by rw [put_mem]; exact hpin)
        exact mkClo_ok f (by simpa using h1) (fun i c v hc hv => by
          rw [Array.getElem?_map] at hv
          obtain ⟨x, hx, rfl⟩ := Option.map_eq_some_iff.1 hv
          exact h2 i c x hc (by simpa using hx))
      · cases h
    · cases h
  · cases h
end

/-! ### Ghost steps -/
/-- Another description of the same state. -/
def Imp (T : Tab) (σ τ : St) : Prop := ∀ (W0 : World) (M : Nat → Prop) (S0 S : Addr → Prop) (γ : Gh) (a : Act) (W : World), Rel T W0 M S0 S γ σ a W →
  ∃ S' γ', Rel T W0 M S0 S' γ' τ a W ∧ (∀ x, S x → S' x) ∧ ∀ γ0, Pin γ0 γ σ.mem → Pin γ0 γ' τ.mem
theorem Imp.refl (T : Tab) (σ : St) : Imp T σ σ := fun _ _ _ _ _ _ _ h => ⟨_, _, h, fun _ h => h, fun _ h => h⟩
theorem Imp.trans {T : Tab} {σ τ υ : St} (h : Imp T σ τ) (h' : Imp T τ υ) : Imp T σ υ := fun W0 M S0 S γ a W hR => by
  obtain ⟨S1, γ1, h1, h2, h3⟩ := h W0 M S0 S γ a W hR
  obtain ⟨S2, γ2, h4, h5, h6⟩ := h' W0 M S0 S1 γ1 a W h1
  exact ⟨S2, γ2, h4, fun x hx => h5 x (h2 x hx), fun γ0 hp => h6 γ0 (h3 γ0 hp)⟩

/-! ### Calls -/
def capTV : Cap → TV
  | .p x => .p x
  | .r o => .a (.ptr o 0 [])
def calleeOf : TV → Option (FuncId × List TV)
  | .u (.one (.c (.clo f cap))) => some (f, cap.map TV.p)
  | .u (.one (.clo f cap)) => some (f, cap.map capTV)
  | _ => none
/-- The state behind a call that was handed the things of l. -/
def callSt (C : Nat) (l : List (Nat × Nat)) (σ : St) (mem' : List (Nat × MC)) (d : Option Tmp) (r : TV) : St :=
  ({ tmps := σ.tmps.map (TV.keep C l σ.mem mem'), mem := afterMem C l σ.mem mem' } : St).put d (r.re (back C l))
/-- Where a panic leads. -/
def panK (K : Exit → St → Prop) (x : Value) (mem : List (Nat × MC)) : Prop := K (.panic [{ v := x, recovered := false }]) { tmps := [], mem := mem }
def finK (C : Nat) (l : List (Nat × Nat)) (σ : St) (mem' : List (Nat × MC)) (d : Option Tmp) (K : Exit → St → Prop) : Fin → Prop
  | .ret r => K .normal (callSt C l σ mem' d r)
  | .pan x => panK K x (afterMem C l σ.mem mem')
/-- The same where nothing was handed over. -/
def finK0 (σ : St) (d : Option Tmp) (K : Exit → St → Prop) : Fin → Prop
  | .ret r => K .normal (σ.put d (r.re fun _ => none))
  | .pan x => panK K x σ.mem
def liveAll (l : List (Nat × Nat)) (mem : List (Nat × MC)) : Prop := ∀ x ∈ l, look mem x.2 ≠ .no
/-- A call, from a state that describes the one at hand. -/
def awCall (P : Program) (T : Tab) (C : Nat) (f : Operand) (args : List Operand) (d : Option Tmp) (K : Exit → St → Prop) (σ : St) : Prop :=
  ∃ τ, Imp T σ τ ∧ ∃ g caps, calleeOf (opg T [] τ f) = some (g, caps) ∧
    ((∃ l e mem', l ≠ [] ∧ Meets P T g ((args.map (opg T []  τ) ++ caps).map (TV.re (toNew l))) (view l τ.mem) e mem' ∧ Fits C l mem' ∧ liveAll l τ.mem ∧ finK C l τ mem' d (fun e σ1 => ∃ τ', Imp T σ1 τ' ∧ K e τ') e) ∨
     (∃ e, Meets P T g ((args.map (opg T [] τ) ++ caps).map (TV.re fun _ => none)) [] e [] ∧ finK0 τ d (fun e σ1 => ∃ τ', Imp T σ1 τ' ∧ K e τ') e))
def panArg : TV → Option Value
  | .u (.one (.c (.v (.iface t v)))) => some (.iface t v)
  | _ => none
def asCall : Op → Option (Operand × Array Operand)
  | .call { callee := .value f, args, .. } => some (f, args)
  | _ => none
def asPan : Op → Option Operand
  | .panic x => some x
  | _ => none
def awOp (P : Program) (T : Tab) (C : Nat) (o : Oper) (K : Exit → St → Prop) (σ : St) : Prop :=
  match asCall o.op with
  | some (f, args) => awCall P T C f args.toList o.dst K σ
  | none => match asPan o.op with
    | some x => match panArg (opg T [] σ x) with
      | some v => panK K v σ.mem
      | none => False
    | none => match act P T σ o with
      | some σ' => K .normal σ'
      | none => False
end Go.Ew
end
section
/- Calls: the real machine beside the abstract one. -/
namespace Go.Ew

section
variable {P : Program} {T : Tab} {W0 : World} {M : Nat → Prop} {S0 S S' : Addr → Prop} {γ γ' : Gh} {γ0 : Gh × List (Nat × MC)} {σ τ : St} {a : Act} {W W' : World} {C : Nat} {l : List (Nat × Nat)} {mem mem' : List (Nat × MC)}

theorem owns_nil {n : Node} {b : Nat} : ¬ Owns γ [] n b := fun h => by
  cases n with
  | root o => obtain ⟨⟨cs, hc⟩ | ⟨ks, cs, hc⟩, _⟩ := h <;> cases hc
  | at_ o off π => obtain ⟨⟨k, es, hc⟩, _⟩ := h; simp [Ew.at_, look, cellAt] at hc
/-- Nothing was handed over: nothing of ours has changed. -/
theorem Core.pure (hR : Core T W0 M S0 S γ mem W) {γc : Gh} (hC : Core T W (blk γc []) S S' γ' [] W') : Core T W0 M S0 S' γ mem W' := by
  have hno : ∀ b, ¬ blk γc [] b := fun b ⟨n, hn⟩ => owns_nil hn
  have hh : ∀ k, k < W.heap.size → W'.heap[k]? = W.heap[k]? := fun k hk => hC.frame k hk (hno k)
  refine ⟨hC.os.trans hR.os, hC.tape.trans hR.tape, hC.output.trans hR.output, Nat.le_trans hR.size hC.size, fun k hk hM => (hh k (Nat.lt_of_lt_of_le hk hR.size)).trans (hR.frame k hk hM), fun x hx => hC.s0 x (hR.s0 x hx),
    fun x hx => (hC.s0c x (hR.s0 x hx)).trans (hR.s0c x hx), hC.sfit, hC.glob, fun x hx => ?_, hR.mem.world hC.s0c hC.s0 (fun x hx => ?_) hh⟩
  · rcases hC.snew x hx with h | h | h
    · exact hR.snew x h
    · exact .inr (.inl (Nat.le_trans hR.size h))
    · exact absurd h (hno _)
  · rcases hC.snew x hx with h | h | h
    · exact .inl h
    · exact .inr h
    · exact absurd h (hno _)
theorem Rel.pure (hR : Rel T W0 M S0 S γ σ a W) {γc : Gh} (hC : Core T W (blk γc []) S S' γ' [] W') : Rel T W0 M S0 S' γ σ a W' :=
  ⟨hR.core.pure hC, hR.defers, hR.len, fun i x v hx hv => (hR.tmps i x v hx hv).mono hC.s0c hC.s0⟩

theorem run_enter {f : FuncId} (hf : Has P f) (args : Array Value) (W : World) : (callFunc f args).run P W = .ok (.enter f args) W := by
  obtain ⟨fn, c, h1, h2, h3⟩ := hf
  have h2' : fn.name ≠ "runtime.NumGoroutine" := by simpa using h2
  simp [callFunc, program, Sem.run, h1, h2', h3]

theorem after_pin (hF : Fits C l mem') (hCs : span ≤ C) (hl : liveAll l mem) (hs : Same (γ.via (toOld l)) γ' (Ew.view l mem) mem') (h : Pin γ0 γ mem) : Pin γ0 (γ.join γ' C l) (afterMem C l mem mem') := by
  have hr : ∀ i, i < span → inRange C i = false := fun i h2 => by simp only [inRange, Bool.and_eq_false_iff, decide_eq_false_iff_not]; left; omega
  have hvl : ∀ {j i : Nat}, (j, i) ∈ l → look (Ew.view l mem) j = (look mem i).re (toNew l) := fun {j i} hm => by
    have : (Ew.view l mem).map (·.1) = l.map (·.1) := by simp [Ew.view, Function.comp_def]
    exact look_of_mem (by rw [this]; exact hF.keys) (List.mem_map.2 ⟨_, hm, rfl⟩)
  refine ⟨fun i cs h1 h2 h3 => ?_, fun i p h1 h2 h3 => ?_, fun i ks cs h1 h2 h3 => ?_⟩
  · have hi := hr i h2
    rcases look_after (mem := mem) hF h3 (by simp) with ⟨j, h4, _, h6⟩ | ⟨h4, h5⟩
    · obtain ⟨cs0, h7, _⟩ := MC.re_obj h6.symm
      rcases back_spec h4 with ⟨h8, h9, _⟩ | ⟨_, h8, h9⟩ | h8
      · rw [← h9] at h8
        have hn := toNew_some hF.olds h8
        have hv := hvl h8
        cases hm : look mem i with
        | no => exact absurd hm (hl _ h8)
        | reg q => rw [hm] at hv; exact absurd h7 (hs.2.2.2.1 j q cs0 hv)
        | map ks0 cs1 =>
          rw [hm] at hv
          obtain ⟨_, _, _, h8⟩ := hs.2.2.2.2.2 j (.inl ⟨⟨_, _, hv⟩, by rw [h7]; simp⟩)
          rw [h7] at h8; cases h8
        | obj cs1 =>
          rw [hm] at hv
          have := hs.1 j _ cs0 hv h7
          have e : (γ.join γ' C l).base i = γ'.base j := by simp [Gh.join, hi, hn]
          rw [e, this]
          have e2 : (γ.via (toOld l)).base j = γ.base i := by simp [Gh.via, toOld_mem hF.keys h8]
          rw [e2]
          exact h.1 i cs1 h1 h2 hm
      · omega
      · exact h8.elim
    · obtain ⟨cs0, h6, _⟩ := MC.keep_obj h5.symm
      rw [(join_other (stays_spec h4).1).1]
      exact h.1 i cs0 h1 h2 h6
  · have hi := hr i h2
    rcases look_after (mem := mem) hF h3 (by simp) with ⟨j, h4, _, h6⟩ | ⟨h4, h5⟩
    · have h7 := MC.re_reg h6.symm
      rcases back_spec h4 with ⟨h8, h9, _⟩ | ⟨_, h8, h9⟩ | h8
      · rw [← h9] at h8
        have hn := toNew_some hF.olds h8
        have hv := hvl h8
        cases hm : look mem i with
        | no => exact absurd hm (hl _ h8)
        | obj q => rw [hm] at hv; exact absurd h7 (hs.2.2.1 j _ p hv)
        | map ks0 cs1 =>
          rw [hm] at hv
          obtain ⟨_, _, _, h8⟩ := hs.2.2.2.2.2 j (.inl ⟨⟨_, _, hv⟩, by rw [h7]; simp⟩)
          rw [h7] at h8; cases h8
        | reg q =>
          rw [hm] at hv
          have := hs.2.1 j _ p hv h7
          have e : (γ.join γ' C l).hd i = γ'.hd j := by simp [Gh.join, hi, hn]
          rw [e, this]
          have e2 : (γ.via (toOld l)).hd j = γ.hd i := by simp [Gh.via, toOld_mem hF.keys h8]
          rw [e2]
          exact h.2.1 i q h1 h2 hm
      · omega
      · exact h8.elim
    · have h6 := MC.keep_reg h5.symm
      rw [(join_other (stays_spec h4).1).2]
      exact h.2.1 i p h1 h2 h6
  · have hi := hr i h2
    rcases look_after (mem := mem) hF h3 (by simp) with ⟨j, h4, _, h6⟩ | ⟨h4, h5⟩
    · obtain ⟨cs0, h7, _⟩ := MC.re_map h6.symm
      rcases back_spec h4 with ⟨h8, h9, _⟩ | ⟨_, h8, h9⟩ | h8
      · rw [← h9] at h8
        have hn := toNew_some hF.olds h8
        have hv := hvl h8
        have hno : look (Ew.view l mem) j ≠ .no := by
          rw [hv]
          have := hl _ h8
          simp only at this
          cases hm : look mem i with
          | no => exact absurd hm this
          | _ => simp [MC.re]
        obtain ⟨⟨ks1, cs1, h10⟩, _⟩ := hs.2.2.2.2.2 j (.inr ⟨hno, ⟨_, _, h7⟩⟩)
        rw [h10] at hv
        obtain ⟨cs2, h11, _⟩ := MC.re_map hv.symm
        have := hs.2.2.2.2.1 j _ _ _ _ h10 h7
        have e : (γ.join γ' C l).base i = γ'.base j := by simp [Gh.join, hi, hn]
        rw [e, this]
        have e2 : (γ.via (toOld l)).base j = γ.base i := by simp [Gh.via, toOld_mem hF.keys h8]
        rw [e2]
        exact h.2.2 i ks1 cs2 h1 h2 h11
      · omega
      · exact h8.elim
    · obtain ⟨cs0, h6, _⟩ := MC.keep_map h5.symm
      rw [(join_other (stays_spec h4).1).1]
      exact h.2.2 i ks cs0 h1 h2 h6

theorem calleeOf_ok {x : TV} {v : Value} (h : TRel W S γ x v) {g : FuncId} {caps : List TV} (hc : calleeOf x = some (g, caps)) :
    ∃ vs : Array Value, v = .func (.func g) #[] vs ∧ caps.length = vs.size ∧ ∀ (i : Nat) (x : TV) (u : Value), caps[i]? = some x → vs[i]? = some u → TRel W S γ x u := by
  unfold calleeOf at hc
  split at hc
  · rename_i f cap
    simp only [Option.some.injEq, Prod.mk.injEq] at hc
    obtain ⟨rfl, rfl⟩ := hc
    have h2 : PRel W S (.clo f cap) v := h
    cases h2 with
    | clo _ _ vs hl hr =>
      refine ⟨vs, rfl, by simp [hl], fun i x u hx hu => ?_⟩
      rw [List.getElem?_map] at hx
      obtain ⟨p, hp, rfl⟩ := Option.map_eq_some_iff.1 hx
      exact hr i p u hp hu
  · rename_i f cap
    simp only [Option.some.injEq, Prod.mk.injEq] at hc
    obtain ⟨rfl, rfl⟩ := hc
    obtain ⟨vs, h1, h2, h3⟩ := h
    refine ⟨vs, h1, by simp [h2], fun i x u hx hu => ?_⟩
    rw [List.getElem?_map] at hx
    obtain ⟨c, hc, rfl⟩ := Option.map_eq_some_iff.1 hx
    have := h3 i c u hc hu
    cases c with
    | p y => exact this
    | r o => exact this
  · cases hc
theorem args_rel (hR : Rel T W0 M S0 S γ σ a W) {f : Nat → Option Nat} (hv : Via f γ γ') {args : Array Operand} {caps : List TV} {vs : Array Value} (hl : caps.length = vs.size)
    (hc : ∀ (i : Nat) (x : TV) (u : Value), caps[i]? = some x → vs[i]? = some u → TRel W S γ x u) :
    ArgsRel W S γ' ((args.toList.map (opg T [] σ) ++ caps).map (TV.re f)) (args.map a.eval ++ vs) := by
  refine ⟨by simp [hl], fun j x v hx hv' => ?_⟩
  rw [List.getElem?_map] at hx
  obtain ⟨x0, h0, rfl⟩ := Option.map_eq_some_iff.1 hx
  refine TRel.re hv ?_
  by_cases hj : j < args.size
  · rw [List.getElem?_append_left (by simpa using hj), List.getElem?_map] at h0
    rw [Array.getElem?_append_left (by simpa using hj), Array.getElem?_map] at hv'
    obtain ⟨o1, h1, rfl⟩ := Option.map_eq_some_iff.1 h0
    obtain ⟨o2, h2, rfl⟩ := Option.map_eq_some_iff.1 hv'
    have : o1 = o2 := by rw [Array.getElem?_toList] at h1; rw [h1] at h2; injection h2
    subst this
    exact hR.opg rfl o1
  · rw [List.getElem?_append_right (by simp; omega)] at h0
    rw [Array.getElem?_append_right (by simp; omega)] at hv'
    simp at h0 hv'
    exact hc _ x0 v h0 hv'

theorem via_none : Via (fun _ => none) γ γ' := fun i i' h => by cases h

theorem awCall_ok (hR : Rel T W0 M S0 S γ σ a W) (hpin : Pin γ0 γ σ.mem) (hCs : span ≤ C) {o : Oper} {f : Operand} {args : Array Operand} {ats : Array TypeId} {sp : Bool} {cs : Array Bool} {K : Exit → St → Prop}
    (hexec : ∀ (g : FuncId) (vs : Array Value), a.eval f = .func (.func g) #[] vs → Has P g → (execOp a.eval o).run P W = .ok (.enter g (args.map a.eval ++ vs)) W)
    (h : awCall P T C f args.toList o.dst K σ) {N : Act → World → Prop} {Q : Exit → Act → World → Prop}
    (hN : ∀ S' γ' σ' a' W', K .normal σ' → Rel T W0 M S0 S' γ' σ' a' W' → Pin γ0 γ' σ'.mem → (∀ x, S x → S' x) → N a' W')
    (hQ : ∀ c S' γ' mem' W', K (.panic c) ⟨[], mem'⟩ → Core T W0 M S0 S' γ' mem' W' → Pin γ0 γ' mem' → (∀ x, S x → S' x) → Q (.panic c) a W') : o.wp P a W N Q := by
  obtain ⟨τ, hI, g, caps, hc, h⟩ := h
  obtain ⟨S1, γ1, hR1, hS1, hp1⟩ := hI _ _ _ _ _ _ _ hR
  have hp1 := hp1 γ0 hpin
  obtain ⟨vs, hv, hl, hr⟩ := calleeOf_ok (hR1.opg rfl f) hc
  -- behind the call
  have hNn : ∀ {S2 γ2 σ2 a2 W2}, Rel T W0 M S0 S2 γ2 σ2 a2 W2 → Pin γ0 γ2 σ2.mem → (∀ x, S1 x → S2 x) → (∃ τ', Imp T σ2 τ' ∧ K .normal τ') → N a2 W2 := fun {S2 γ2 σ2 a2 W2} h1 h2 h3 ⟨τ', h4, h5⟩ => by
    obtain ⟨S3, γ3, h6, h7, h8⟩ := h4 _ _ _ _ _ _ _ h1
    exact hN _ _ _ _ _ h5 h6 (h8 γ0 h2) (fun x hx => h7 x (h3 x (hS1 x hx)))
  have hQn : ∀ {c S2 γ2 mem2 W2}, Core T W0 M S0 S2 γ2 mem2 W2 → Pin γ0 γ2 mem2 → (∀ x, S1 x → S2 x) → (∃ τ', Imp T ⟨[], mem2⟩ τ' ∧ K (.panic c) τ') → Q (.panic c) a W2 := fun {c S2 γ2 mem2 W2} h1 h2 h3 ⟨τ', h4, h5⟩ => by
    obtain ⟨S3, γ3, h6, h7, h8⟩ := h4 W0 M S0 S2 γ2 { tmps := #[], defers := [] } W2 ⟨h1, rfl, rfl, fun i x v hx => by simp at hx⟩
    have h9 : τ' = ⟨[], τ'.mem⟩ := by
      have := h6.len
      simp at this
      cases τ'
      simp_all
    rw [h9] at h5
    exact hQ _ _ _ _ _ h5 h6.core (h8 γ0 h2) (fun x hx => h7 x (h3 x (hS1 x hx)))
  unfold Oper.wp
  rcases h with ⟨l, e, mem', _, hM, hF, hlive, hk⟩ | ⟨e, hM, hk⟩
  · rw [hexec g vs hv hM.1, Oper.upon_enter]
    have hargs := args_rel hR1 (via_view hF.keys γ1) hl hr (args := args)
    have hm0 : MemOK W0 M S1 (γ1.via (toOld l)) (view l τ.mem) W := hR1.core.mem.view hF.keys hF.olds
    refine Calls.mono (hM.2 W S1 _ _ (hR1.core.start hm0) hargs) (fun en W' he => ?_)
    obtain ⟨S2, γ2, h1, h2, h3⟩ := he
    have h4 := hR1.core.after hF h2 h3
    have h5 := after_pin hF hCs hlive h3 hp1
    cases e with
    | ret r =>
      obtain ⟨v, rfl, h6⟩ := h1
      refine hNn (Rel.putOpt (σ := ⟨τ.tmps.map (TV.keep C l τ.mem mem'), afterMem C l τ.mem mem'⟩) ⟨h4, hR1.defers, by simp [hR1.len], fun i x u hx hu => ?_⟩ o.dst (h6.re (via_back hF))) (by rw [put_mem]; exact h5) h2.s0 hk
      rw [List.getElem?_map] at hx
      obtain ⟨x0, h0, rfl⟩ := Option.map_eq_some_iff.1 hx
      exact ((hR1.tmps i x0 u h0 hu).keep hF h3).mono h2.s0c h2.s0
    | pan x =>
      have h6 : en = .panicked [{ v := x, recovered := false }] := h1
      subst h6
      exact hQn h4 h5 h2.s0 hk
  · rw [hexec g vs hv hM.1, Oper.upon_enter]
    have hargs := args_rel (γ' := γ1.via (toOld [])) hR1 via_none hl hr (args := args)
    have hm0 : MemOK W0 M S1 (γ1.via (toOld [])) [] W := hR1.core.mem.view (l := []) (by simp) (by simp)
    refine Calls.mono (hM.2 W S1 _ _ (hR1.core.start hm0) hargs) (fun en W' he => ?_)
    obtain ⟨S2, γ2, h1, h2, h3⟩ := he
    cases e with
    | ret r =>
      obtain ⟨v, rfl, h6⟩ := h1
      exact hNn ((hR1.pure h2).putOpt o.dst (h6.re via_none)) (by rw [put_mem]; exact hp1) h2.s0 hk
    | pan x =>
      have h6 : en = .panicked [{ v := x, recovered := false }] := h1
      subst h6
      exact hQn (hR1.core.pure h2) hp1 h2.s0 hk

theorem panArg_ok {x : TV} {v u : Value} (h : TRel W S γ x v) (hp : panArg x = some u) : v = u ∧ ∃ t y, u = .iface t y := by
  unfold panArg at hp
  split at hp
  · injection hp with hp
    subst hp
    cases h with
    | v h => exact ⟨rfl, _, _, rfl⟩
  · cases hp

theorem awOp_ok (hT : TabOK P T) (hR : Rel T W0 M S0 S γ σ a W) (hpin : Pin γ0 γ σ.mem) (hCs : span ≤ C) {o : Oper} {K : Exit → St → Prop} (h : awOp P T C o K σ) {N : Act → World → Prop} {Q : Exit → Act → World → Prop}
    (hN : ∀ S' γ' σ' a' W', K .normal σ' → Rel T W0 M S0 S' γ' σ' a' W' → Pin γ0 γ' σ'.mem → N a' W')
    (hQ : ∀ c S' γ' mem' W', K (.panic c) ⟨[], mem'⟩ → Core T W0 M S0 S' γ' mem' W' → Pin γ0 γ' mem' → Q (.panic c) a W') : o.wp P a W N Q := by
  unfold awOp at h
  split at h
  · rename_i f args hop0
    unfold asCall at hop0
    split at hop0
    case h_2 => cases hop0
    rename_i f' args' ats hop
    simp only [Option.some.injEq, Prod.mk.injEq] at hop0
    obtain ⟨rfl, rfl⟩ := hop0
    refine awCall_ok hR hpin hCs (sp := false) (cs := #[]) (ats := #[]) (fun g vs hv hg => ?_) h (fun S' γ' σ' a' W' h1 h2 h3 _ => hN _ _ _ _ _ h1 h2 h3) (fun c S' γ' m' W' h1 h2 h3 _ => hQ _ _ _ _ _ h1 h2 h3)
    simp only [execOp, hop, resolve, Deferred.ofValue, hv, invoke]
    simp [run_enter hg]
  split at h
  · rename_i x hop0
    unfold asPan at hop0
    split at hop0
    case h_2 => cases hop0
    rename_i x1 hop
    injection hop0 with hop0
    subst hop0
    split at h
    · rename_i v hv
      obtain ⟨h1, t, y, rfl⟩ := panArg_ok (hR.opg (gl := []) rfl x1) hv
      unfold Oper.wp
      have : (execOp a.eval o).run P W = .halt (.panic (.iface t y)) W := by
        simp only [execOp, hop, h1]
        rfl
      rw [this, Oper.upon_panic]
      exact hQ _ _ _ _ _ h hR.core hpin
    · exact h.elim
  · split at h
    · rename_i σ' hs
      exact act_ok hT hR hpin hs (fun S' γ' a' W' h1 h2 => hN _ _ _ _ _ h h1 h2)
    · exact h.elim
end
end Go.Ew
end
section
/- Regions; code. -/
namespace Go.Ew

/-- Under which guards an operation is carried out. -/
def wantedA (σ : St) (ops : Array Oper) (o : Oper) : Option (List Bool) :=
  match o.guard with
  | none => some []
  | some (g, b) => match ops[g]? with
    | none => none
    | some og => match og.dst with
      | none => none
      | some d => match σ.get d with
        | .u (.one (.c (.v (.bool x)))) => some [x == b]
        | .w gl (.one (.c (.v (.bool x)))) => some (gl ++ [x == b])
        | .tup _ => some [false]
        | _ => none
def allB : List Bool → Bool
  | [] => true
  | b :: g => b && allB g
theorem allB_eq (gl : List Bool) : allB gl = gl.all id := by induction gl with
  | nil => rfl
  | cons b g ih => simp [allB, ih]
/-- Two ways. (What comes is not yet given the state: so nothing goes on before one knows which.) -/
def awBr (g : Bool) (A B : St → Prop) (σ : St) : Prop := (g = true → A σ) ∧ (g = false → B σ)
/-- It is left out. -/
def awSkip (T : Tab) (d : Option Tmp) (K : Exit → St → Prop) (σ : St) : Prop := ∃ τ, Imp T (σ.put d (.tup [])) τ ∧ K .normal τ
def awG (P : Program) (T : Tab) (C : Nat) (o : Oper) (gl : List Bool) (K : Exit → St → Prop) (σ : St) : Option TV → Prop
  | some x => K .normal (σ.putG gl o.dst x)
  | none => match gl with
    | [] => awOp P T C o K σ
    | b :: g => awBr (allB (b :: g)) (awOp P T C o K) (awSkip T o.dst K) σ
/-- What follows where nothing jumps. -/
def seqK (N : St → Prop) (K : Exit → St → Prop) : Exit → St → Prop
  | .normal, σ => N σ
  | e, σ => K e σ
def awOps (P : Program) (T : Tab) (rid : Nat) (ops : Array Oper) : List Nat → (Exit → St → Prop) → St → Prop
  | [], K, σ => K .normal σ
  | i :: rest, K, σ => match ops[i]? with
    | none => False
    | some o => match wantedA σ ops o with
      | some gl => awG P T ((rid * 1000 + i + 1) * span) o gl (seqK (awOps P T rid ops rest K) K) σ (quiet P T gl σ o)
      | none => False

/-- In which orders a region is gone through: this one first; or either of several. -/
inductive Plan where
  | done
  | first (i : Nat) (p : Plan)
  | alt (i : Nat) (p q : Plan)
  | stop
  deriving Inhabited
def Plan.heads : Plan → List Nat
  | .alt i _ q => i :: q.heads
  | _ => []
/-- Which orders there are. alts: behind a first choice. -/
def Plan.check (ops : Array Oper) : Plan → Nat → Array Bool → Bool → Bool
  | .done, _, listed, false => (Region.ready .any ops listed).isEmpty
  | .first i p, n + 1, listed, false => (Region.ready .any ops listed).contains i && Region.free .any ops listed i && p.check ops n (listed.setIfInBounds i true) false
  | .alt i p q, n + 1, listed, false => !(Region.ready .any ops listed).isEmpty && (Region.ready .any ops listed).all (fun j => (i :: q.heads).contains j) && p.check ops n (listed.setIfInBounds i true) false && q.check ops (n + 1) listed true
  | .alt i p q, n + 1, listed, true => p.check ops n (listed.setIfInBounds i true) false && q.check ops (n + 1) listed true
  | .stop, _, _, true => true
  | _, _, _, _ => false
/-- One operation, guarded. -/
def awOne (P : Program) (T : Tab) (rid : Nat) (ops : Array Oper) (i : Nat) (K : Exit → St → Prop) (σ : St) : Prop :=
  match ops[i]? with
  | none => False
  | some o => match wantedA σ ops o with
    | some gl => awG P T ((rid * 1000 + i + 1) * span) o gl K σ (quiet P T gl σ o)
    | none => False
def awQ (o : Oper) (gl : List Bool) (K : Exit → St → Prop) (σ : St) : Bool → Option TV → Prop
  | false, some x => K .normal (σ.putG gl o.dst x)
  | _, _ => allB gl = false ∧ K .normal (σ.put o.dst (.tup []))
/-- One that reads nothing that may be written. -/
def awCalm (P : Program) (T : Tab) (ops : Array Oper) (i : Nat) (K : Exit → St → Prop) (σ : St) : Prop :=
  match ops[i]? with
  | none => False
  | some o => match wantedA σ ops o with
    | some gl => awQ o gl K σ (busy T gl σ o) (quiet P T gl σ o)
    | none => False
def awPlan (P : Program) (T : Tab) (rid : Nat) (ops : Array Oper) : Plan → (Exit → St → Prop) → St → Prop
  | .done, K, σ => K .normal σ
  | .first i p, K, σ => awCalm P T ops i (seqK (awPlan P T rid ops p K) K) σ
  | .alt i p q, K, σ => awOne P T rid ops i (seqK (awPlan P T rid ops p K) K) σ ∧ awPlan P T rid ops q K σ
  | .stop, _, _ => True
def awDraw (P : Program) (T : Tab) (rid : Nat) (ops : Array Oper) (K : Exit → St → Prop) (σ : St) : Prop :=
  P.follows .mixedOrders = true ∧ Region.noSelect ops = true ∧ ∃ p : Plan, p.check ops ops.size (Array.replicate ops.size false) false = true ∧ awPlan P T rid ops p K σ
/-- A loop: I: what holds before each round. -/
def awLoop (T : Tab) (B : (Exit → St → Prop) → St → Prop) (K : Exit → St → Prop) (σ : St) : Prop :=
  ∃ I : Nat → St → Prop, (∃ n τ, I n τ ∧ Imp T σ τ) ∧ ∀ n τ, I n τ → B (seqK (fun σ' => ∃ m τ', m < n ∧ I m τ' ∧ Imp T σ' τ') K) τ
def blockK (id : Nat) (K : Exit → St → Prop) : Exit → St → Prop
  | .exit i, σ => if i = id then K .normal σ else K (.exit i) σ
  | e, σ => K e σ
/-- Which region or block a code begins with. -/
def headOf : Code → Nat
  | .region id _ _ => id
  | .block id _ => id
  | .seq x _ => headOf x
  | .loop c => headOf c
  | _ => 1000000000
/-- A place where one may go on from another description of the state. -/
def cutK (T : Tab) (b : Bool) (F : St → Prop) (σ : St) : Prop := match b with
  | true => ∃ τ, Imp T σ τ ∧ F τ
  | false => F σ
def aw (P : Program) (T : Tab) (cuts : List Nat) : Code → (Exit → St → Prop) → St → Prop
  | .skip, K, σ => K .normal σ
  | .label _, K, σ => K .normal σ
  | .seq x y, K, σ => aw P T cuts x (seqK (cutK T (cuts.contains (headOf y)) (aw P T cuts y K)) K) σ
  | .cond c x y, K, σ => match (opg T [] σ c).bool with
    | some b => awBr b (aw P T cuts x K) (aw P T cuts y K) σ
    | none => False
  | .block id c, K, σ => aw P T cuts c (blockK id K) σ
  | .loop c, K, σ => awLoop T (aw P T cuts c) K σ
  | .exit id, K, σ => K (.exit id) σ
  | .ret, K, σ => K .ret σ
  | .region id ops false, K, σ => awOps P T id ops (List.range ops.size) K σ
  | .region id ops true, K, σ => awDraw P T id ops K σ
  | _, _, _ => False
/-- What holds where a code leaves. -/
def Sat (T : Tab) (W0 : World) (M : Nat → Prop) (S0 : Addr → Prop) (γ0 : Gh × List (Nat × MC)) (K : Exit → St → Prop) : Exit → Act → World → Prop
  | .goto _, _, _ => False
  | .outgrown, _, _ => False
  | .panic c, a, W => a.defers = [] ∧ ∃ S γ mem, Core T W0 M S0 S γ mem W ∧ Pin γ0 γ mem ∧ K (.panic c) ⟨[], mem⟩
  | e, a, W => ∃ S γ σ, Rel T W0 M S0 S γ σ a W ∧ Pin γ0 γ σ.mem ∧ K e σ
/-- What stays so in a region. -/
def Held (S : Addr → Prop) (W w : World) : Prop := ∀ x, S x → w.heap[x.block]? = W.heap[x.block]?

section
variable {P : Program} {T : Tab} {W0 : World} {M : Nat → Prop} {S0 S S' : Addr → Prop} {γ γ' : Gh} {γ0 : Gh × List (Nat × MC)} {σ σ' : St} {a a' : Act} {W W' : World} {mem mem' : List (Nat × MC)}
theorem MemOK.widen {M' : Nat → Prop} {W1 : World} (h : MemOK W0 M S γ mem W) (hM : ∀ b, W0.heap.size ≤ b ∨ M b → W1.heap.size ≤ b ∨ M' b) : MemOK W1 M' S γ mem W :=
  ⟨h.objs, h.maps, h.vecs, h.regs, fun n b hn => ⟨hM b (h.own n b hn).1, (h.own n b hn).2⟩, h.inj⟩
/-- The same, counted from here. -/
theorem Core.rebase (hR : Core T W0 M S0 S γ mem W) : Core T W (fun b => W0.heap.size ≤ b ∨ M b) S S γ mem W :=
  ⟨rfl, rfl, rfl, Nat.le_refl _, fun _ _ _ => rfl, fun _ h => h, fun _ _ => rfl, hR.sfit, hR.glob, fun _ h => .inl h, hR.mem.widen fun _ h => .inr h⟩
theorem Core.unbase (hR : Core T W0 M S0 S γ mem W) (h : Core T W (fun b => W0.heap.size ≤ b ∨ M b) S S' γ' mem' W') : Core T W0 M S0 S' γ' mem' W' :=
  ⟨h.os.trans hR.os, h.tape.trans hR.tape, h.output.trans hR.output, Nat.le_trans hR.size h.size, fun k hk hM => (h.frame k (Nat.lt_of_lt_of_le hk hR.size) (fun hb => hb.elim (fun h => by omega) hM)).trans (hR.frame k hk hM),
    fun x hx => h.s0 x (hR.s0 x hx), fun x hx => (h.s0c x (hR.s0 x hx)).trans (hR.s0c x hx), h.sfit, h.glob,
    fun x hx => (h.snew x hx).elim (fun h => hR.snew x h) (fun h => .inr (h.elim (fun h => .inl (Nat.le_trans hR.size h)) id)), h.mem.widen fun b hb => hb.elim (fun h => .inl (Nat.le_trans hR.size h)) id⟩
theorem Core.drawn (hR : Core T W0 M S0 S γ mem W) (n : Nat) : Core T W0 M S0 S γ mem { W with drawn := n } :=
  have hc : ∀ x, S x → ({ W with drawn := n } : World).heap[x.block]? = W.heap[x.block]? := fun _ _ => rfl
  ⟨hR.os, hR.tape, hR.output, hR.size, hR.frame, hR.s0, hR.s0c, hR.sfit, fun g cs hg => PRel.mono hc (fun _ h => h) (hR.glob g cs hg), hR.snew, hR.mem.world hc (fun _ h => h) (fun _ h => .inl h) (fun _ _ => rfl)⟩
theorem Rel.drawn (hR : Rel T W0 M S0 S γ σ a W) (n : Nat) : Rel T W0 M S0 S γ σ a { W with drawn := n } :=
  have hc : ∀ x, S x → ({ W with drawn := n } : World).heap[x.block]? = W.heap[x.block]? := fun _ _ => rfl
  ⟨hR.core.drawn n, hR.defers, hR.len, fun i x v hx hv => (hR.tmps i x v hx hv).mono hc (fun _ h => h)⟩
theorem Sat.panic {K : Exit → St → Prop} (c : List PanicEntry) (a a' : Act) (hd : a'.defers = a.defers) (w : World) (h : Sat T W0 M S0 γ0 K (.panic c) a w) : Sat T W0 M S0 γ0 K (.panic c) a' w := ⟨hd.trans h.1, h.2⟩

theorem wanted_ok (hR : Rel T W0 M S0 S γ σ a W) {ops : Array Oper} {o : Oper} {gl : List Bool} (h : wantedA σ ops o = some gl) : Region.wanted o (yielded ops a.tmps) = gl.all id := by
  unfold wantedA at h
  unfold Region.wanted
  split at h
  · rename_i hg; injection h with h; subst h; rw [hg]; rfl
  · rename_i j b hg
    rw [hg]
    simp only
    split at h
    · cases h
    · rename_i og ho
      split at h
      · cases h
      · rename_i d hd
        have hx := hR.opd (.tmp d)
        have hget : opd T σ (.tmp d) = σ.get d := rfl
        rw [hget] at hx
        have he : a.eval (.tmp d) = a.tmps.getD d undef := rfl
        rw [he] at hx
        have hy : yielded ops a.tmps j = (match a.tmps.getD d undef with | .bool x => some x | _ => none) := by
          cases ht : a.tmps[d]? with
          | none =>
            have h9 := Array.getElem?_eq_none_iff.1 ht
            have : a.tmps.getD d undef = undef := by simp only [Array.getD]; rw [dif_neg (by omega)]
            rw [this]
            simp [yielded, ho, hd, ht, undef]
          | some v =>
            have : a.tmps.getD d undef = v := by rw [Array.getD_eq_getD_getElem?, ht]; rfl
            rw [this]
            cases v <;> simp [yielded, ho, hd, ht]
        rw [hy]
        split at h
        · rename_i x hs
          injection h with h; subst h
          rw [hs] at hx
          rw [hx.bool rfl]
          cases x <;> cases b <;> rfl
        · rename_i g x hs
          injection h with h; subst h
          rw [hs] at hx
          cases hgl : g.all id with
          | true =>
            have h9 : TRel W S γ (.u (.one (.c (.v (.bool x))))) (a.tmps.getD d undef) := hx.1 hgl
            rw [h9.bool rfl]
            simp only [List.all_append, hgl, Bool.true_and]
            cases x <;> cases b <;> rfl
          | false =>
            rw [hx.2 hgl]
            simp only [List.all_append, hgl, Bool.false_and]
            rfl
        · rename_i xs hs
          injection h with h; subst h
          rw [hs] at hx
          obtain ⟨vs, hv, _⟩ := hx
          rw [hv]
          rfl
        · cases h

theorem awG_ok (hT : TabOK P T) (hR : Rel T W0 M S0 S γ σ a W) (hpin : Pin γ0 γ σ.mem) {C : Nat} (hCs : span ≤ C) {o : Oper} {gl : List Bool} {K : Exit → St → Prop} (h : awG P T C o gl K σ (quiet P T gl σ o)) {N : Act → World → Prop} {Q : Exit → Act → World → Prop}
    (hN : ∀ S' γ' σ' a' W', K .normal σ' → Rel T W0 M S0 S' γ' σ' a' W' → Pin γ0 γ' σ'.mem → N a' W')
    (hQ : ∀ c S' γ' mem' W', K (.panic c) ⟨[], mem'⟩ → Core T W0 M S0 S' γ' mem' W' → Pin γ0 γ' mem' → Q (.panic c) a W') :
    if gl.all id = true then o.wp P a W N Q else N (a.put o.dst undef) W := by
  cases hq : quiet P T gl σ o with
  | some x =>
    rw [hq] at h
    simp only [awG] at h
    split
    · rename_i hg
      obtain ⟨u, h1, h2⟩ := quiet_ok hT hR hg hq
      unfold Oper.wp
      rw [h1 W (Agr.self _ _ _), Oper.upon_value]
      exact hN _ _ _ _ _ h (hR.putG o.dst h2 hg) (by rw [putG_mem]; exact hpin)
    · rename_i hg
      exact hN _ _ _ _ _ h (hR.putG' o.dst (by simpa using hg)) (by rw [putG_mem]; exact hpin)
  | none =>
    rw [hq] at h
    cases gl with
    | nil =>
      simp only [awG] at h
      simp only [List.all_nil, if_true]
      exact awOp_ok hT hR hpin hCs h hN hQ
    | cons b g =>
      simp only [awG, awBr] at h
      rw [allB_eq] at h
      split
      · rename_i hg
        exact awOp_ok hT hR hpin hCs (h.1 hg) hN hQ
      · rename_i hg
        obtain ⟨τ, hI, hk⟩ := h.2 (by simpa using hg)
        obtain ⟨S1, γ1, h1, h2, h3⟩ := hI _ _ _ _ _ _ _ (hR.putOpt o.dst undef_rel)
        exact hN _ _ _ _ _ hk h1 (h3 γ0 (by rw [put_mem]; exact hpin))

theorem awOps_ok (hT : TabOK P T) {rid : Nat} {ops : Array Oper} {K : Exit → St → Prop} : ∀ (l : List Nat) {S : Addr → Prop} {γ : Gh} {σ : St} {a : Act} {W : World}, Rel T W0 M S0 S γ σ a W → Pin γ0 γ σ.mem → awOps P T rid ops l K σ → wpOps P ops (Sat T W0 M S0 γ0 K) l a W
  | [], S, γ, σ, a, W, hR, hp, h => ⟨_, _, _, hR, hp, h⟩
  | i :: rest, S, γ, σ, a, W, hR, hp, h => by
    unfold awOps at h
    unfold wpOps
    split at h
    · exact h.elim
    · rename_i o ho
      rw [ho]
      simp only
      split at h
      · rename_i gl hg
        have hw := wanted_ok hR hg
        have key := awG_ok hT hR hp (Nat.le_mul_of_pos_left _ (by omega)) h (N := wpOps P ops (Sat T W0 M S0 γ0 K) rest) (Q := Sat T W0 M S0 γ0 K)
          (fun S' γ' σ' a' W' h1 h2 h3 => awOps_ok hT rest h2 h3 h1) (fun c S' γ' mem' W' h1 h2 h3 => ⟨hR.defers, S', γ', mem', h2, h3, h1⟩)
        rw [hw]
        split at key
        · rename_i hg; rw [hg]; exact .inl key
        · rename_i hg
          have hg : gl.all id = false := by simpa using hg
          rw [hg]
          exact key
      · exact h.elim

section
variable {ops : Array Oper} {Q : Exit → Act → World → Prop} {md : Region.Mode}
theorem wpAnyH_mono {H H' : World → Prop} (h : ∀ w, H w → H' w) : ∀ (fuel : Nat) (listed : Array Bool) (a : Act) (w : World), wpAnyH P md ops Q H fuel listed a w → wpAnyH P md ops Q H' fuel listed a w
  | 0, _, _, _, h1 => h1
  | fuel + 1, _, _, _, h1 => ⟨h1.1, fun i hi => wpOp_mono (fun a' w' h2 => ⟨h _ h2.1, wpAnyH_mono h fuel _ a' w' h2.2⟩) (h1.2 i hi)⟩
end

theorem awOne_ok (hT : TabOK P T) {rid : Nat} {ops : Array Oper} {i : Nat} {K : Exit → St → Prop} {Q : Exit → Act → World → Prop} {N : Act → World → Prop}
    (hR : Rel T W0 M S0 S γ σ a W) (hp : Pin γ0 γ σ.mem) (h : awOne P T rid ops i K σ)
    (hN : ∀ S' γ' σ' a' W', K .normal σ' → Rel T W0 M S0 S' γ' σ' a' W' → Pin γ0 γ' σ'.mem → (∀ x, S x → S' x) → Held S W W' → N a' W')
    (hQ : ∀ c S' γ' mem' W', K (.panic c) ⟨[], mem'⟩ → Core T W0 M S0 S' γ' mem' W' → Pin γ0 γ' mem' → Q (.panic c) a W') : wpOp P ops Q i N a W := by
  unfold awOne at h
  unfold Go.wpOp
  split at h
  · exact h.elim
  · rename_i o ho
    rw [ho]
    simp only
    split at h
    · rename_i gl hg
      have hR' : Rel T W (fun b => W0.heap.size ≤ b ∨ M b) S S γ σ a W := ⟨hR.core.rebase, hR.defers, hR.len, hR.tmps⟩
      have key := awG_ok hT hR' hp (Nat.le_mul_of_pos_left _ (by omega)) h (N := N) (Q := Q)
        (fun S' γ' σ' a' W' h1 h2 h3 => hN _ _ _ _ _ h1 ⟨hR.core.unbase h2.core, h2.defers, h2.len, h2.tmps⟩ h3 h2.core.s0 h2.core.s0c) (fun c S' γ' mem' W' h1 h2 h3 => hQ _ _ _ _ _ h1 (hR.core.unbase h2) h3)
      rw [wanted_ok hR hg]
      split at key
      · rename_i hg; rw [hg]; exact .inl key
      · rename_i hg
        have hg : gl.all id = false := by simpa using hg
        rw [hg]
        exact key
    · exact h.elim

theorem plan_ok (hT : TabOK P T) {rid : Nat} {ops : Array Oper} (hns : Region.noSelect ops = true) {K : Exit → St → Prop} :
    ∀ (p : Plan) (n : Nat) (listed : Array Bool) {S : Addr → Prop} {γ : Gh} {σ : St} {a : Act} {W : World}, Rel T W0 M S0 S γ σ a W → Pin γ0 γ σ.mem → awPlan P T rid ops p K σ →
      (p.check ops n listed false = true → ∀ S1 W1, (∀ x, S1 x → S x) → Held S1 W1 W → wpAnyH P .any ops (Sat T W0 M S0 γ0 K) (Held S1 W1) n listed a W) ∧
      (p.check ops (n + 1) listed true = true → ∀ S1 W1, (∀ x, S1 x → S x) → Held S1 W1 W → ∀ i ∈ p.heads, wpOp P ops (Sat T W0 M S0 γ0 K) i (fun a' w' => Held S1 W1 w' ∧ wpAnyH P .any ops (Sat T W0 M S0 γ0 K) (Held S1 W1) n (listed.setIfInBounds i true) a' w') a W)
  | .done, n, listed, S, γ, σ, a, W, hR, hp, h => by
    refine ⟨fun hc S1 W1 hS hH => ?_, fun hc => by simp [Plan.check] at hc⟩
    simp only [Plan.check, List.isEmpty_iff] at hc
    exact wpAnyH_done hc ⟨_, _, _, hR, hp, h⟩ n
  | .stop, n, listed, S, γ, σ, a, W, hR, hp, h => by
    refine ⟨fun hc => ?_, fun hc S1 W1 hS hH i hi => by simp [Plan.heads] at hi⟩
    cases n <;> simp [Plan.check] at hc
  | .first i p, n, listed, S, γ, σ, a, W, hR, hp, h => by
    refine ⟨fun hc S1 W1 hS hH => ?_, fun hc => by simp [Plan.check] at hc⟩
    cases n with
    | zero => simp [Plan.check] at hc
    | succ n =>
      simp only [Plan.check, Bool.and_eq_true] at hc
      obtain ⟨⟨hr, hf⟩, hc⟩ := hc
      simp only [awPlan, awCalm] at h
      split at h
      · exact h.elim
      · rename_i o ho
        split at h
        · rename_i gl hg
          have hw := wanted_ok hR hg
          unfold awQ at h
          split at h
          · rename_i x hb hx
            refine wpAnyH_mono (H := Held S W) (fun w hw x hx => (hw x (hS x hx)).trans (hH x hx)) _ _ _ _ ?_
            cases hgl : gl.all id with
            | true =>
              obtain ⟨u, h1, h2⟩ := quiet_ok hT hR hgl hx
              refine wpAnyH_take ho hns hf hr (fun c a w h => Sat.panic c _ _ (by cases o.dst <;> rfl) w h) (v := u) (.inl ⟨hw.trans hgl, fun w hw' => h1 w ⟨hw', by rw [hb]; simp⟩⟩) (fun _ _ => rfl) ?_
              exact ((plan_ok hT hns p n _ (hR.putG o.dst h2 hgl) (by rw [putG_mem]; exact hp) h).1 hc) S W (fun _ h => h) (fun _ _ => rfl)
            | false =>
              refine wpAnyH_take ho hns hf hr (fun c a w h => Sat.panic c _ _ (by cases o.dst <;> rfl) w h) (v := undef) (.inr ⟨hw.trans hgl, rfl⟩) (fun _ _ => rfl) ?_
              exact ((plan_ok hT hns p n _ (hR.putG' o.dst hgl) (by rw [putG_mem]; exact hp) h).1 hc) S W (fun _ h => h) (fun _ _ => rfl)
          · obtain ⟨hgl, h⟩ := h
            rw [allB_eq] at hgl
            refine wpAnyH_mono (H := Held S W) (fun w hw x hx => (hw x (hS x hx)).trans (hH x hx)) _ _ _ _ ?_
            refine wpAnyH_take ho hns hf hr (fun c a w h => Sat.panic c _ _ (by cases o.dst <;> rfl) w h) (v := undef) (.inr ⟨hw.trans hgl, rfl⟩) (fun _ _ => rfl) ?_
            exact ((plan_ok hT hns p n _ (hR.putOpt o.dst undef_rel) (by rw [put_mem]; exact hp) h).1 hc) S W (fun _ h => h) (fun _ _ => rfl)
        · exact h.elim
  | .alt i p q, n, listed, S, γ, σ, a, W, hR, hp, h => by
    simp only [awPlan] at h
    have key : ∀ m, p.check ops m (listed.setIfInBounds i true) false = true → ∀ S1 W1, (∀ x, S1 x → S x) → Held S1 W1 W →
        wpOp P ops (Sat T W0 M S0 γ0 K) i (fun a' w' => Held S1 W1 w' ∧ wpAnyH P .any ops (Sat T W0 M S0 γ0 K) (Held S1 W1) m (listed.setIfInBounds i true) a' w') a W := fun m hc S1 W1 hS hH => by
      refine awOne_ok hT hR hp h.1 (fun S' γ' σ' a' W' h1 h2 h3 h4 h5 => ?_) (fun c S' γ' mem' W' h1 h2 h3 => ⟨hR.defers, S', γ', mem', h2, h3, h1⟩)
      have h6 : Held S1 W1 W' := fun x hx => (h5 x (hS x hx)).trans (hH x hx)
      exact ⟨h6, ((plan_ok hT hns p m _ h2 h3 h1).1 hc) S1 W1 (fun x hx => h4 x (hS x hx)) h6⟩
    refine ⟨fun hc S1 W1 hS hH => ?_, fun hc S1 W1 hS hH j hj => ?_⟩
    · cases n with
      | zero => simp [Plan.check] at hc
      | succ n =>
        simp only [Plan.check, Bool.and_eq_true] at hc
        obtain ⟨⟨⟨hne, hr⟩, hc1⟩, hc2⟩ := hc
        have hq := (plan_ok hT hns q n listed hR hp h.2).2 hc2 S1 W1 hS hH
        cases hrd : Region.ready .any ops listed with
        | nil => rw [hrd] at hne; simp at hne
        | cons r rs =>
          refine wpAnyH_all hrd (by simp) (fun j hj => ?_)
          have hj' := List.all_eq_true.1 hr j (by rw [hrd]; exact hj)
          simp only [List.contains_cons, Bool.or_eq_true, beq_iff_eq] at hj'
          rcases hj' with rfl | hj'
          · exact key n hc1 S1 W1 hS hH
          · exact hq j (by simpa using hj')
    · simp only [Plan.check, Bool.and_eq_true] at hc
      simp only [Plan.heads, List.mem_cons] at hj
      rcases hj with rfl | hj
      · exact key n hc.1 S1 W1 hS hH
      · exact (plan_ok hT hns q n listed hR hp h.2).2 hc.2 S1 W1 hS hH j hj

theorem aw_ok (hT : TabOK P T) {cuts : List Nat} : ∀ (c : Code) (K : Exit → St → Prop) {S : Addr → Prop} {γ : Gh} {σ : St} {a : Act} {W : World}, Rel T W0 M S0 S γ σ a W → Pin γ0 γ σ.mem → aw P T cuts c K σ → c.wp P (Sat T W0 M S0 γ0 K) a W := by
  intro c
  induction c with
  | skip => exact fun K S γ σ a W hR hp h => wp_skip ⟨S, γ, σ, hR, hp, h⟩
  | label l => exact fun K S γ σ a W hR hp h => wp_label ⟨S, γ, σ, hR, hp, h⟩
  | seq x y ihx ihy =>
    intro K S γ σ a W hR hp h
    refine wp_seq (wp_mono (ihx _ hR hp h) fun e a' W' hq => ?_)
    cases e with
    | normal =>
      obtain ⟨S', γ', σ', h1, h2, h3⟩ := hq
      simp only [seqK] at h3
      cases hb : cuts.contains (headOf y) with
      | true =>
        rw [hb] at h3
        obtain ⟨τ, h4, h5⟩ := h3
        obtain ⟨S2, γ2, h6, _, h8⟩ := h4 _ _ _ _ _ _ _ h1
        exact ihy K h6 (h8 γ0 h2) h5
      | false => rw [hb] at h3; exact ihy K h1 h2 h3
    | _ => exact hq
  | cond c x y ihx ihy =>
    intro K S γ σ a W hR hp h
    simp only [aw] at h
    split at h
    · rename_i b hb
      refine wp_cond_split ((hR.opg (gl := []) rfl c).bool hb) (fun ht => ihx K hR hp (h.1 ht)) (fun hf => ihy K hR hp (h.2 hf))
    · exact h.elim
  | block id c ih =>
    intro K S γ σ a W hR hp h
    refine wp_block (wp_mono (ih _ hR hp h) fun e a' W' hq => ?_)
    cases e with
    | exit i =>
      obtain ⟨S', γ', σ', h1, h2, h3⟩ := hq
      simp only [Exit.inBlock]
      simp only [blockK] at h3
      split
      · rename_i hi; rw [if_pos hi] at h3; exact ⟨S', γ', σ', h1, h2, h3⟩
      · rename_i hi; rw [if_neg hi] at h3; exact ⟨S', γ', σ', h1, h2, h3⟩
    | _ => exact hq
  | loop c ih =>
    intro K S γ σ a W hR hp h
    obtain ⟨I, ⟨n, τ, hI, hle⟩, hround⟩ := h
    obtain ⟨S1, γ1, h1, _, h3⟩ := hle _ _ _ _ _ _ _ hR
    refine wp_loop_ghost (fun n a W => ∃ S γ σ, Rel T W0 M S0 S γ σ a W ∧ Pin γ0 γ σ.mem ∧ I n σ) n ⟨S1, γ1, τ, h1, h3 γ0 hp, hI⟩ ?_
    rintro n a W ⟨S, γ, σ, hR, hp, hI⟩
    refine wp_mono (ih _ hR hp (hround n σ hI)) fun e a' W' hq => ?_
    cases e with
    | normal =>
      obtain ⟨S', γ', σ', h1, h2, m, τ', hm, hI', hle'⟩ := hq
      obtain ⟨S2, γ2, h4, _, h6⟩ := hle' _ _ _ _ _ _ _ h1
      exact ⟨m, hm, S2, γ2, τ', h4, h6 γ0 h2, hI'⟩
    | _ => exact hq
  | exit id => exact fun K S γ σ a W hR hp h => wp_exit ⟨S, γ, σ, hR, hp, h⟩
  | ret => exact fun K S γ σ a W hR hp h => wp_ret ⟨S, γ, σ, hR, hp, h⟩
  | region id ops draw =>
    intro K S γ σ a W hR hp h
    cases draw with
    | false => exact wp_region (awOps_ok hT _ hR hp h)
    | true =>
      obtain ⟨hm, hns, p, hc, h⟩ := h
      exact wp_region_held (S := Held S { W with drawn := W.drawn + 1 }) hm (((plan_ok hT hns p _ _ (hR.drawn _) hp h).1 hc) S _ (fun _ h => h) (fun _ _ => rfl))
  | _ => intro K S γ σ a W hR hp h; exact h.elim
end
end Go.Ew
end
section
/- Ghost steps: other numbers, less knowledge, a slice becomes a root, what is written no more. -/
namespace Go.Ew

/-! ### Less is known -/
def leC (c d : CV) : Prop := c = .bot ∨ c = d
def leCs : List CV → List CV → Prop
  | [], [] => True
  | c :: cs, d :: ds => leC c d ∧ leCs cs ds
  | _, _ => False
def leU : UV → UV → Prop
  | .one c, .one d => leC c d
  | .agg cs, .agg ds => cs = ds ∨ leCs cs ds
  | _, _ => False
def leT : TV → TV → Prop
  | .bot, _ => True
  | .u x, .u y => leU x y
  | x, y => x = y
def leTs : List TV → List TV → Prop
  | [], [] => True
  | x :: xs, y :: ys => leT x y ∧ leTs xs ys
  | _, _ => False
def leM : MC → MC → Prop
  | .no, _ => True
  | .obj cs, .obj ds => cs = ds ∨ leCs cs ds
  | .reg p, .reg q => p = q
  | .map ks cs, .map ks' ds => ks = ks' ∧ (cs = ds ∨ leCs cs ds)
  | _, _ => False
def leMs : List (Nat × MC) → List (Nat × MC) → Prop
  | [], _ => True
  | (k, m) :: r, mem => leM m (look mem k) ∧ leMs r mem
def St.le (σ τ : St) : Prop := leTs σ.tmps τ.tmps ∧ leMs σ.mem τ.mem

section
variable {P : Program} {T : Tab} {W0 W W' : World} {M : Nat → Prop} {S0 S S' : Addr → Prop} {γ γ' : Gh} {γ0 : Gh × List (Nat × MC)} {σ τ : St} {a : Act} {mem mem' : List (Nat × MC)}
theorem leC_rel {c d : CV} {v : Value} (hl : leC c d) (h : CRel W S γ d v) : CRel W S γ c v := by
  rcases hl with rfl | rfl
  · exact bot_rel h.one
  · exact h
theorem leCs_rel : ∀ {cs ds : List CV} {vs : List Value}, leCs cs ds → CsRel W S γ ds vs → CsRel W S γ cs vs
  | [], [], vs, _, h => h
  | c :: cs, d :: ds, vs, hl, h => by
    obtain ⟨v, vs', rfl, h1, h2⟩ := h.cons_inv
    exact CsRel.cons (leC_rel hl.1 h1) (leCs_rel hl.2 h2)
  | [], _ :: _, _, hl, _ => hl.elim
  | _ :: _, [], _, hl, _ => hl.elim
theorem leU_rel {x y : UV} {v : Value} (hl : leU x y) (h : URel W S γ y v) : URel W S γ x v := by
  cases x <;> cases y <;> simp only [leU] at hl
  · exact leC_rel hl h
  · obtain ⟨vs, rfl, h2⟩ := h
    rcases hl with rfl | hl
    · exact ⟨vs, rfl, h2⟩
    · exact ⟨vs, rfl, leCs_rel hl h2⟩
theorem leT_rel {x y : TV} {v : Value} (hl : leT x y) (h : TRel W S γ y v) : TRel W S γ x v := by
  cases x with
  | bot => trivial
  | u x =>
    cases y with
    | u y => exact leU_rel hl h
    | _ => simp [leT] at hl
  | tup xs => simp only [leT] at hl; subst hl; exact h
  | w g x => simp only [leT] at hl; subst hl; exact h
theorem leTs_get : ∀ {xs ys : List TV}, leTs xs ys → xs.length = ys.length ∧ ∀ (i : Nat) (x : TV), xs[i]? = some x → ∃ y, ys[i]? = some y ∧ leT x y
  | [], [], _ => ⟨rfl, fun i x h => by simp at h⟩
  | x :: xs, y :: ys, h => by
    obtain ⟨h1, h2⟩ := leTs_get h.2
    refine ⟨by simp [h1], fun i z hz => ?_⟩
    cases i with
    | zero => simp at hz; subst hz; exact ⟨y, rfl, h.1⟩
    | succ i => simp at hz; simpa using h2 i z hz
  | [], _ :: _, h => h.elim
  | _ :: _, [], h => h.elim
theorem leCs_get : ∀ {xs ys : List CV}, leCs xs ys → xs.length = ys.length ∧ ∀ (i : Nat) (x : CV), xs[i]? = some x → ∃ y, ys[i]? = some y ∧ leC x y
  | [], [], _ => ⟨rfl, fun i x h => by simp at h⟩
  | x :: xs, y :: ys, h => by
    obtain ⟨h1, h2⟩ := leCs_get h.2
    refine ⟨by simp [h1], fun i z hz => ?_⟩
    cases i with
    | zero => simp at hz; subst hz; exact ⟨y, rfl, h.1⟩
    | succ i => simp at hz; simpa using h2 i z hz
  | [], _ :: _, h => h.elim
  | _ :: _, [], h => h.elim
theorem leMs_look : ∀ {l mem : List (Nat × MC)}, leMs l mem → ∀ i, leM (look l i) (look mem i)
  | [], mem, _, i => trivial
  | (k, m) :: r, mem, h, i => by
    simp only [look]
    split
    · rename_i hk; subst hk; exact h.1
    · exact leMs_look h.2 i
theorem leM_obj {m m' : MC} {cs : List CV} (h : leM m m') (hm : m = .obj cs) : ∃ ds, m' = .obj ds ∧ ds.length = cs.length ∧ ∀ (j : Nat) (c : CV), cs[j]? = some c → ∃ d, ds[j]? = some d ∧ leC c d := by
  subst hm
  cases m' <;> simp only [leM] at h
  rename_i ds
  rcases h with rfl | h
  · exact ⟨_, rfl, rfl, fun j c hc => ⟨c, hc, .inr rfl⟩⟩
  · obtain ⟨h1, h2⟩ := leCs_get h
    exact ⟨_, rfl, h1.symm, h2⟩
theorem leM_reg {m m' : MC} {p : PV} (h : leM m m') (hm : m = .reg p) : m' = .reg p := by
  subst hm
  cases m' <;> simp only [leM] at h
  rw [h]
theorem leM_map {m m' : MC} {ks : List Value} {cs : List CV} (h : leM m m') (hm : m = .map ks cs) : ∃ ds, m' = .map ks ds ∧ ds.length = cs.length ∧ ∀ (j : Nat) (c : CV), cs[j]? = some c → ∃ d, ds[j]? = some d ∧ leC c d := by
  subst hm
  cases m' <;> simp only [leM] at h
  rename_i ks' ds
  obtain ⟨rfl, rfl | h⟩ := h
  · exact ⟨_, rfl, rfl, fun j c hc => ⟨c, hc, .inr rfl⟩⟩
  · obtain ⟨h1, h2⟩ := leCs_get h
    exact ⟨_, rfl, h1.symm, h2⟩
theorem leMs_less (hr : ∀ o q, look mem o = .reg q → ∃ k es, q = .vec k es) (h : leMs mem' mem) : Less mem' mem := by
  have hat : ∀ {o off : Nat} {π : Path} {k : Nat} {es : List (List PV)}, at_ mem' o off π = some (.vec k es) → at_ mem o off π = some (.vec k es) := by
    intro o off π k es ha
    unfold Ew.at_ at ha ⊢
    split at ha
    · rename_i p hp
      have hn : p.nv = false := by
        cases p with
        | vec _ _ => rfl
        | _ =>
          have := down_nv rfl ha
          subst this
          simp [PV.down] at ha
      have hc : cellAt (look mem o) off = some p := by
        have hl := leMs_look h o
        cases hm : look mem' o with
        | no => rw [hm] at hp; cases hp
        | map ks cs => rw [hm] at hp; cases hp
        | reg q => rw [hm] at hp; rw [leM_reg hl hm]; exact hp
        | obj cs =>
          rw [hm] at hp
          obtain ⟨ds, h1, _, h3⟩ := leM_obj hl hm
          rw [h1]
          simp only [cellAt] at hp ⊢
          split at hp
          · rename_i q hq
            injection hp with hp
            subst hp
            obtain ⟨d, h4, h5⟩ := h3 off _ hq
            rcases h5 with h5 | h5
            · injection h5 with h5; subst h5; simp [PV.nv] at hn
            · subst h5; rw [h4]
          · cases hp
      rw [hc]; exact ha
    · cases ha
  refine ⟨fun o off π k es ha => ⟨es, hat ha, rfl, fun i row hrow => ⟨row, hrow, rfl, fun f x hx => .inr ⟨x, hx, .inl rfl⟩⟩⟩, fun o cs ho => ?_, fun o q ho => ?_, fun o ks cs ho => ?_⟩
  · obtain ⟨ds, h1, h2, h3⟩ := leM_obj (leMs_look h o) ho
    refine ⟨ds, h1, h2.symm, fun j c hc => ?_⟩
    obtain ⟨d, h4, h5⟩ := h3 j c hc
    rcases h5 with h5 | h5
    · exact .inl h5
    · exact .inr ⟨d, h4, .inl h5⟩
  · have := leM_reg (leMs_look h o) ho
    exact ⟨⟨q, this⟩, hr o q this⟩
  · obtain ⟨ds, h1, h2, h3⟩ := leM_map (leMs_look h o) ho
    refine ⟨ds, h1, h2.symm, fun j c hc => ?_⟩
    obtain ⟨d, h4, h5⟩ := h3 j c hc
    rcases h5 with h5 | h5
    · exact .inl h5
    · exact .inr (by rw [h5]; exact h4)
theorem Imp.le (h : τ.le σ) : Imp T σ τ := fun W0 M S0 S γ a W hR => by
  obtain ⟨hl, hg⟩ := leTs_get h.1
  have hless := leMs_less hR.core.mem.regs h.2
  refine ⟨S, γ, ⟨hR.core.less hless, hR.defers, hl.trans hR.len, fun i x v hx hv => ?_⟩, fun _ h => h, fun γ0 hp => hp.step (hless.step γ)⟩
  obtain ⟨y, hy, hxy⟩ := hg i x hx
  exact leT_rel hxy (hR.tmps i y v hy hv)

/-! ### Other numbers -/
def St.re (l : List (Nat × Nat)) (σ : St) : St := { tmps := σ.tmps.map (TV.re (toNew l)), mem := view l σ.mem }
def keysOK (l : List (Nat × Nat)) : Prop := (l.map (·.1)).Nodup ∧ (l.map (·.2)).Nodup ∧ l.all (fun x => decide (x.1 < 1000000) || (decide (span ≤ x.1) || x.1 == x.2)) = true
theorem pin_view {l : List (Nat × Nat)} (hk : (l.map (·.1)).Nodup) (hh : ∀ x ∈ l, 1000000 ≤ x.1 → x.1 < span → (∃ m0, look γ0.2 x.1 = m0 ∧ m0 ≠ .no) → x.1 = x.2) (hp : Pin γ0 γ mem) (hno : ∀ x ∈ l, 1000000 ≤ x.1 → x.1 < span → x.1 = x.2) : Pin γ0 (γ.via (toOld l)) (view l mem) := by
  refine ⟨fun i cs h1 h2 h3 => ?_, fun i p h1 h2 h3 => ?_, fun i ks cs h1 h2 h3 => ?_⟩
  · obtain ⟨h4, h5⟩ := look_view hk (i := i) (mem := mem) (by rw [h3]; simp)
    have h6 := hno _ h4 h1 h2
    simp only at h6
    rw [h3, ← h6] at h5
    obtain ⟨cs0, h7, _⟩ := MC.re_obj h5.symm
    have : (γ.via (toOld l)).base i = γ.base i := by simp only [Gh.via]; rw [← h6]
    rw [this]
    exact hp.1 i cs0 h1 h2 h7
  · obtain ⟨h4, h5⟩ := look_view hk (i := i) (mem := mem) (by rw [h3]; simp)
    have h6 := hno _ h4 h1 h2
    simp only at h6
    rw [h3, ← h6] at h5
    have h7 := MC.re_reg h5.symm
    have : (γ.via (toOld l)).hd i = γ.hd i := by simp only [Gh.via]; rw [← h6]
    rw [this]
    exact hp.2.1 i p h1 h2 h7
  · obtain ⟨h4, h5⟩ := look_view hk (i := i) (mem := mem) (by rw [h3]; simp)
    have h6 := hno _ h4 h1 h2
    simp only at h6
    rw [h3, ← h6] at h5
    obtain ⟨cs0, h7, _⟩ := MC.re_map h5.symm
    have : (γ.via (toOld l)).base i = γ.base i := by simp only [Gh.via]; rw [← h6]
    rw [this]
    exact hp.2.2 i ks cs0 h1 h2 h7
theorem Core.re (hR : Core T W0 M S0 S γ mem W) {l : List (Nat × Nat)} (hk : (l.map (·.1)).Nodup) (ho : (l.map (·.2)).Nodup) : Core T W0 M S0 S (γ.via (toOld l)) (view l mem) W := { hR with mem := hR.mem.view hk ho }
theorem Imp.re {l : List (Nat × Nat)} (hl : keysOK l) : Imp T σ (σ.re l) := fun W0 M S0 S γ a W hR => by
  obtain ⟨hk, ho, hn⟩ := hl
  have hno : ∀ x ∈ l, 1000000 ≤ x.1 → x.1 < span → x.1 = x.2 := fun x hx h1 h2 => by
    have := List.all_eq_true.1 hn x hx
    simp only [Bool.or_eq_true, decide_eq_true_eq, beq_iff_eq] at this
    omega
  refine ⟨S, γ.via (toOld l), ⟨hR.core.re hk ho, hR.defers, by simp [St.re, hR.len], fun i x v hx hv => ?_⟩, fun _ h => h, fun γ0 hp => pin_view hk (fun x hx h1 h2 _ => hno x hx h1 h2) hp hno⟩
  simp only [St.re, List.getElem?_map] at hx
  obtain ⟨x0, h0, rfl⟩ := Option.map_eq_some_iff.1 hx
  exact (hR.tmps i x0 v h0 hv).re (via_view hk γ)
/-- The usual step: these roots, under these numbers, with less known. -/
theorem Imp.to (l : List (Nat × Nat)) (hl : keysOK l) (h : τ.le (σ.re l)) : Imp T σ τ := (Imp.re hl).trans (Imp.le h)

/-! ### A slice of the call's own gets a root -/
theorem Wrote.refl (W : World) : Wrote M W0 S W W := ⟨rfl, rfl, rfl, Nat.le_refl _, fun _ _ => .inl rfl, fun _ _ => rfl⟩
theorem put_self {t : Nat} {v : Value} (h : a.tmps.getD t undef = v) : a.put (some t) v = a := by
  have : a.tmps.setIfInBounds t v = a.tmps := by
    apply Array.ext
    · simp
    · intro i h1 h2
      rw [Array.getElem_setIfInBounds]
      split
      · rename_i e
        subst e
        simp only [Array.getD] at h
        rw [dif_pos h2] at h
        exact h.symm
      · rfl
  cases a
  simp only [Act.put]
  rw [this]
theorem Imp.own (t k : Nat) {old : List (List PV)} {mem1 : List (Nat × MC)} (hb : baseOf σ k (σ.get t) = some (old, mem1)) (hk : 0 < k ∧ t < 1000000) : Imp T σ (newReg { σ with mem := mem1 } t k old) := fun W0 M S0 S γ a W hR => by
  obtain ⟨hless, B, cap, hv, hle, hsrc⟩ := base_cases hR.core.mem (hR.opd (.tmp t)) hb
  have hput : a.put (some t) (.slice B old.length cap) = a := put_self hv
  rcases hsrc with ⟨rfl, rfl⟩ | ⟨so, soff, sπ, es, n, b0, cur, te, rfl, hn, h1, h2, rfl, hc0, hown, hh, hcs, hmx, hec, hrl, hcell⟩
  · obtain ⟨γ1, g1, g2, _⟩ := hR.reg hless hk.2 (so := 0) (soff := 0) (sπ := []) (k := k) (es := []) (new := []) (n := 0) (v := .slice B 0 0) (b := W.heap.size) (.inl ⟨rfl, Nat.le_refl _⟩) (by simp) hk.1 (by simp) (by simp) (Wrote.refl W)
      (fun _ _ _ => rfl) (.inl (Nat.le_refl _)) rfl (.inl ⟨by simp, B, rfl, Nat.le_refl _⟩)
    simp only [List.length_nil] at hput
    rw [hput] at g1
    exact ⟨S, γ1, by simpa using g1, fun _ h => h, fun γ0 hp => by simpa using hp.step g2⟩
  · have hl : (es.take n).length = n := by simp; omega
    rw [hl] at hput
    obtain ⟨γ1, g1, g2, _⟩ := hR.reg hless hk.2 (so := so) (soff := soff) (sπ := sπ) (k := k) (es := es) (new := []) (n := n) (v := .slice (some ⟨b0, 0, none⟩) n cap) (b := b0) (.inr ⟨h1, h2⟩) hn hk.1
      (fun r hr => hrl r (List.mem_of_mem_take (by simpa using hr))) (by simp) (Wrote.refl W)
      (fun _ _ _ => rfl) (.inr hown) rfl (.inr ⟨cap, cur, te, by simp [hl], hc0, by simp; omega, hmx, hh, hcs, fun i row f x u hi hf hu => .inl (by
        simp only [List.append_nil] at hi
        rw [List.getElem?_take] at hi
        split at hi
        · rename_i hin; exact ⟨hin, hcell i row f x u hi hf hu⟩
        · cases hi)⟩)
    rw [hput] at g1
    exact ⟨S, γ1, by simpa using g1, fun _ h => h, fun γ0 hp => by simpa using hp.step g2⟩
end
end Go.Ew
end
