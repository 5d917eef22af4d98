/- The abstract machine's calls, closures and contracts. -/
import Derived.Test.YtlkoaemljkdioaaDoorWC
section
/- Literals of slices, make, append. -/
namespace Go.Ew
open Go.RowKit

theorem TV.kill_le {κ κ' : Kl} (h : Kl.le κ κ') (x : TV) : (x.kill κ').kill κ = x.kill κ' := by
  have hc : ∀ c : CV, (c.kill κ').kill κ = c.kill κ' := fun c => Ew.kill_le h (kill_idem κ' c)
  have hu : ∀ u : UV, (u.kill κ').kill κ = u.kill κ' := fun u => by
    cases u with
    | one c => simp [UV.kill, hc]
    | agg cs => simp [UV.kill, hc]
  cases x with
  | bot => rfl
  | u x => simp [TV.kill, hu]
  | tup xs => simp [TV.kill, hu]
  | w g x => simp [TV.kill, hu]

section
variable {P : Program} {T : Tab} {W0 W W' : World} {M : Nat → Prop} {S0 S S' : Addr → Prop} {γ γ' : Gh} {mem mem1 mem2 : List (Nat × MC)} {κ : Kl} {σ : St} {a : Act}

theorem reg_tmps {d k : Nat} {es : List (List PV)} {x : TV} (hx : x ∈ (newReg σ d k es).tmps) : x.kill (.sub d 0 1 1) = x := by
  simp only [newReg] at hx
  rcases List.mem_or_eq_of_mem_set hx with h1 | rfl
  · simp only [St.kill] at h1
    obtain ⟨y, _, rfl⟩ := List.mem_map.1 h1
    exact TV.kill_le (sub_root d) y
  · simp [TV.kill, UV.kill, CV.kill, Kl.h]
theorem reg_clear {d k : Nat} {es : List (List PV)} : Clear (.sub d 0 1 1) (newReg σ d k es).mem := fun o cs j c ho hj => by
  simp only [newReg, St.kill] at ho
  by_cases hod : o = d
  · subst hod; unfold HoldsM at ho; rw [look_lay_same] at ho; rcases ho with ho | ⟨_, ho⟩ <;> cases ho
  · unfold HoldsM at ho; rw [look_lay_other _ _ _ _ hod] at ho
    exact kill_le (sub_root d) (clear_kill (.root d) σ.mem o cs j c ho hj)

theorem buildSlice_ok (hT : TabOK P T) (hR : Rel T W0 M S0 S γ σ a W) {d : Nat} (hd : d < 1000000) {t : TypeId} {len : Nat} {parts : Array (Nat × Operand)} {σ' : St} (h : buildSliceOp T σ d t len parts.toList = some σ') :
    ∃ γ' v W', (Instr.buildSlice t len (parts.map fun (i, x) => (i, a.eval x))).run P W = .ok v W' ∧ Rel T W0 M S0 S γ' σ' (a.put (some d) v) W' ∧ Step γ γ' σ.mem σ'.mem := by
  unfold buildSliceOp at h
  split at h
  · cases h
  rename_i e he
  split at h
  · cases h
  rename_i i hi
  split at h
  · rename_i rows hrows
    split at h
    · rename_i es hes
      split at h
      · rename_i hc
        obtain ⟨hl, hl0, hb⟩ := hc
        obtain ⟨info, z, hP, hsz, _, hz, hzc, _, hpos, _⟩ := hT.ti e i hi
        obtain ⟨hel, heg⟩ := stripRows_get hes
        rw [List.length_map] at hel
        have hrl : rows.length = len := by omega
        subst hl
        rw [← hsz] at hrows hb hpos h
        generalize hCs : ((Array.range (es.length * info.size)).map ((if es.length * info.size = 0 then #[] else z.cells)[· % (if es.length * info.size = 0 then #[] else z.cells).size]!)) = Cs
        have hCl : Cs.size = es.length * info.size := by rw [← hCs]; simp
        obtain ⟨us, vs, hf, hu, hr⟩ := fill_rows hR info.size parts.toList 0 rows Cs hrows (by rw [hCl, hel]; simp)
        have hu' : us.toList = vs := by
          rw [hu]
          simp only [Nat.zero_mul, List.take_zero, List.nil_append, Nat.zero_add]
          rw [List.drop_of_length_le (by simp [hCl, hel]), List.append_nil]
        have hul : us.size = es.length * info.size := by rw [← Array.length_toList, hu', hr.len, hel]
        have hle : es.length ≤ es.length * info.size := Nat.le_mul_of_pos_right _ hpos
        have hrun : (Instr.buildSlice t es.length (parts.map fun (i, x) => (i, a.eval x))).run P W = .ok (.slice (some ⟨W.heap.size, 0, none⟩) es.length es.length) (W.alloc (.cells us e)) := by
          have hnb : ¬ (es.length * info.size > 2 ^ 24) := by omega
          have hf' : Instr.fill (fun i => some (i * info.size, info.size)) Cs (parts.map fun (i, x) => (i, a.eval x)).toList = some us := by simpa using hf
          have hzv : (zeroValue e).run P W = .ok z W := by simp [zeroValue, typeInfo, hP, hz]
          have h0 : ¬ es.length * info.size = 0 := by have := Nat.mul_pos hl0 hpos; omega
          unfold Instr.buildSlice
          rw [Sem.run_bind, run_und (hT.elem t e he)]
          simp only [Result.andThen_ok]
          rw [Sem.run_bind, run_siz hP]
          simp only [Result.andThen_ok]
          rw [if_neg hnb, if_neg h0]
          simp only [if_neg h0] at hCs
          rw [Sem.run_bind, hzv]
          simp only [Result.andThen_ok]
          rw [Sem.run_bind, Sem.run_pure]
          simp only [Result.andThen_ok]
          rw [hCs]
          simp only [hf']
          rfl
        have hw := wrote_alloc hR.core (.cells us e)
        have hnew : (W.alloc (.cells us e)).heap[W.heap.size]? = some (.cells us e (0, 0)) := heap_alloc_new W _
        -- the rows' cells
        have hcell : ∀ (j : Nat) (row : List PV) (f : Nat) (x : PV), es[j]? = some row → row[f]? = some x → ∃ u, us[j * info.size + f]? = some u ∧ PRel W S x u ∧ row.length = info.size := fun j row f x hj hx => by
          obtain ⟨r', h1, h2⟩ := heg j row hj
          rw [List.getElem?_map] at h1
          obtain ⟨r, h3, rfl⟩ := Option.map_eq_some_iff.1 h1
          obtain ⟨h4, h5⟩ := mapM_strip h2
          obtain ⟨c', h6, h7⟩ := h5 f x hx
          rw [List.getElem?_map] at h6
          obtain ⟨c, h8, rfl⟩ := Option.map_eq_some_iff.1 h6
          have hrk := hr.each r (List.mem_of_getElem? h3)
          have hlt : j * info.size + f < us.size := by
            rw [hul]
            exact at_lt (List.getElem?_eq_some_iff.1 hj).1 (by rw [← hrk]; exact (List.getElem?_eq_some_iff.1 h8).1)
          refine ⟨us[j * info.size + f], Array.getElem?_eq_getElem hlt, ?_, by rw [h4, List.length_map]; exact hrk⟩
          have h9 := hr.rel j r f c us[j * info.size + f] h3 h8 (by rw [← hu']; simp [Array.getElem?_eq_getElem hlt])
          exact stripP_rel (h9.kill (Chg.refl (.root d) γ)) h7
        have hlen : ∀ r ∈ es, r.length = info.size := fun r hr' => by
          obtain ⟨j, hj⟩ := List.mem_iff_getElem?.1 hr'
          obtain ⟨r', h1, h2⟩ := heg j r hj
          rw [List.getElem?_map] at h1
          obtain ⟨r0, h3, rfl⟩ := Option.map_eq_some_iff.1 h1
          rw [(mapM_strip h2).1, List.length_map]
          exact hr.each r0 (List.mem_of_getElem? h3)
        obtain ⟨γ1, hR1, hs1, hhd, hchg⟩ := hR.reg (Less.refl hR.core.mem.regs) hd (so := 0) (soff := 0) (sπ := []) (k := info.size) (es := []) (new := es) (n := 0) (v := .slice (some ⟨W.heap.size, 0, none⟩) es.length es.length) (b := W.heap.size) (.inl ⟨rfl, Nat.le_refl _⟩)
          (by simp) hpos (by simpa using hlen) (fun r hr' x hx => by
            obtain ⟨j, hj⟩ := List.mem_iff_getElem?.1 hr'
            obtain ⟨f, hf⟩ := List.mem_iff_getElem?.1 hx
            obtain ⟨u, _, h2, _⟩ := hcell j r f x hj hf
            exact h2.nv) hw (fun j hj _ => Below.heap_alloc W _ j hj) (.inl (Nat.le_refl _)) rfl (.inr ⟨es.length, us, e, by simp, hl0, by simp, by simp only [maxLen]; omega, hnew, hul, fun j row f x u hj hx hu => by
              simp only [List.take_zero, List.nil_append] at hj
              obtain ⟨u', h1, h2, _⟩ := hcell j row f x hj hx
              rw [h1] at hu
              injection hu with hu
              subst hu
              exact .inr (h2.mono hw.cells (fun _ h => h))⟩)
        simp only [List.take_zero, List.nil_append] at hR1 hs1
        simp only at h
        split at h
        · rename_i mem2 hm2
          injection h with h
          subst h
          split at hm2
          · have hr1 : RowsRel (W.alloc (.cells us e)) S γ1 info.size (rows.map fun r => r.map (CV.kill (.root d))) vs := (hr.kill hchg).mono hw.cells
            obtain ⟨γ2, f1, f2, f3, f4⟩ := movesR_ok (d := d) (k := info.size) (rows.map fun r => r.map (CV.kill (.root d))) 0 hR1.core.mem reg_clear (fun r hr' c hc => by
              obtain ⟨r0, _, rfl⟩ := List.mem_map.1 hr'
              obtain ⟨c0, _, rfl⟩ := List.mem_map.1 hc
              exact kill_le (sub_root d) (kill_idem _ _)) (fun j => (vs.drop (j * info.size)).take info.size) (fun j r hj => by simpa using hr1.row hj) (fun j r q v hj hq => by
                rw [hhd]
                simp only [blkD, World.cell?, hnew]
                simp only [Nat.zero_add] at hq ⊢
                rw [List.getElem?_take] at hq
                split at hq
                · rw [List.getElem?_drop, ← hu'] at hq
                  simpa using hq
                · cases hq) hm2
            exact ⟨γ2, _, _, hrun, hR1.move f1 f2 (fun x hx => reg_tmps hx), hs1.trans f3⟩
          · injection hm2 with hm2
            subst hm2
            exact ⟨γ1, _, _, hrun, hR1, hs1⟩
        · cases h
      · cases h
    · cases h
  · cases h

theorem makeSlice_ok (hT : TabOK P T) (hR : Rel T W0 M S0 S γ σ a W) {d : Nat} (hd : d < 1000000) {t : TypeId} {l c : TV} {vl vc : Value} (hl : TRel W S γ l vl) (hc : TRel W S γ c vc) {σ' : St} (h : makeSliceOp T σ d t l c = some σ') :
    ∃ γ' v W', (Instr.makeSlice t vl vc).run P W = .ok v W' ∧ Rel T W0 M S0 S γ' σ' (a.put (some d) v) W' ∧ Step γ γ' σ.mem σ'.mem := by
  unfold makeSliceOp at h
  split at h
  · cases h
  rename_i e he
  split at h
  · cases h
  rename_i i hi
  obtain ⟨info, z, hP, hsz, hby, hz, hzc, hones, hpos, _⟩ := hT.ti e i hi
  split at h
  · rename_i n m hn hm
    split at h
    · rename_i hb
      injection h with h
      subst h
      obtain ⟨k1, rfl⟩ := hl.int hn
      obtain ⟨k2, rfl⟩ := hc.int hm
      obtain ⟨h0, h1, h2, h3⟩ := hb
      have hwn : IntKind.i64.wrap n = n := by simp [IntKind.wrap, IntKind.bits, IntKind.signed]; omega
      have hwm : IntKind.i64.wrap m = m := by simp [IntKind.wrap, IntKind.bits, IntKind.signed]; omega
      obtain ⟨N, rfl⟩ := Int.eq_ofNat_of_zero_le h0
      obtain ⟨K, rfl⟩ := Int.eq_ofNat_of_zero_le (Int.le_trans h0 h1)
      have hNK : N ≤ K := by omega
      have hzl : z.cells.size = info.size := by rw [hsz, ← hzc]; simp
      obtain ⟨hrun, hcs, hcg⟩ : (Instr.makeSlice t (.int k1 N) (.int k2 K)).run P W = .ok (.slice (some ⟨W.heap.size, 0, none⟩) N K) (W.alloc (.cells (madeCells z.cells (K * info.size)) e)) ∧ (madeCells z.cells (K * info.size)).size = K * info.size ∧ ∀ j, j < K * info.size → (madeCells z.cells (K * info.size))[j]? = z.cells[j % info.size]? := by
        refine ⟨?_, size_madeCells _ _, fun j hj => ?_⟩
        · have := run_make (P := P) W t e info z (hT.elem t e he) hP hz k1 k2 N K (by omega) (by omega) (by rw [hby, Int.mul_comm]; omega) (by omega)
          simpa using this
        · have hm : j % info.size < z.cells.size := by rw [hzl]; exact Nat.mod_lt _ (by omega)
          have hm' : j % z.cells.size < z.cells.size := by rw [hzl]; rw [← hzl] at hm ⊢; exact hm
          simp only [madeCells, Array.getElem?_map, hzl]
          simp [hj, hm, hzl]
          rw [getElem!_pos z.cells (j % info.size) hm, Array.getElem?_eq_getElem hm]
      have hw := wrote_alloc hR.core (.cells (madeCells z.cells (K * info.size)) e)
      have hnew : (W.alloc (.cells (madeCells z.cells (K * info.size)) e)).heap[W.heap.size]? = some (.cells (madeCells z.cells (K * info.size)) e (0, 0)) := heap_alloc_new W _
      have hrow : ∀ r ∈ List.replicate N (i.zero.map PV.v), r = i.zero.map PV.v := fun r hr => List.eq_of_mem_replicate hr
      simp only [Int.toNat_natCast]
      obtain ⟨γ1, hR1, hs1, _, _⟩ := hR.reg (Less.refl hR.core.mem.regs) hd (so := 0) (soff := 0) (sπ := []) (k := i.zero.length) (es := []) (new := List.replicate N (i.zero.map PV.v)) (n := 0) (v := .slice (some ⟨W.heap.size, 0, none⟩) N K) (b := W.heap.size) (.inl ⟨rfl, Nat.le_refl _⟩)
        (by simp) hpos (fun r hr => by
          simp only [List.take_zero, List.nil_append] at hr
          rw [hrow r hr]; simp) (fun r hr x hx => by
          rw [hrow r hr] at hx
          obtain ⟨y, _, rfl⟩ := List.mem_map.1 hx
          rfl) hw (fun j hj _ => Below.heap_alloc W _ j hj) (.inl (Nat.le_refl _)) rfl (by
          by_cases hK : K = 0
          · left
            have : N = 0 := by omega
            subst hK this
            exact ⟨by simp, _, rfl, Nat.le_refl _⟩
          · right
            refine ⟨K, _, e, by simp, by omega, by simp; exact hNK, by simp only [maxLen]; omega, hnew, by rw [hcs, hsz], fun j row f x u hj hx hu => .inr ?_⟩
            simp only [List.take_zero, List.nil_append] at hj
            have hr := hrow row (List.mem_of_getElem? hj)
            subst hr
            have hjl := (List.getElem?_eq_some_iff.1 hj).1
            rw [List.length_replicate] at hjl
            rw [List.getElem?_map] at hx
            obtain ⟨y, hy, rfl⟩ := Option.map_eq_some_iff.1 hx
            have hfl := (List.getElem?_eq_some_iff.1 hy).1
            rw [← hsz] at hu hfl
            rw [hcg _ (at_lt (by omega) hfl)] at hu
            rw [show (j * info.size + f) % info.size = f by rw [Nat.add_comm, Nat.add_mul_mod_self_right, Nat.mod_eq_of_lt hfl]] at hu
            rw [← hzc] at hy
            have : u = y := by
              have h9 : z.cells.toList[f]? = some u := by simpa using hu
              rw [h9] at hy; injection hy
            subst this
            exact PRel.v u (hones u (by rw [← hzc]; exact List.mem_of_getElem? hy)))
      exact ⟨γ1, _, _, hrun, by simpa using hR1, by simpa using hs1⟩
    · cases h
  · cases h

/-! ### append -/
theorem append_room {t ty e : TypeId} {i : TypeInfo} (ht : P.underlying t = some (.slice e)) (hi : P.info? e = some i) {g n cap : Nat} {cur : Array Value} {te : TypeId} (hg : W.heap[g]? = some (.cells cur te (0, 0))) {ad : Addr} {m c : Nat} {news : List Value}
    (hl : news.length = m * i.size) (hnews : ∀ (j : Nat) (u : Value), news[j]? = some u → W.cell? (ad.add j) = some u) (h1 : ∀ u ∈ news, u.oneCell' = true) (hroom : n + m ≤ cap) (hfit : n * i.size + news.length ≤ cur.size) :
    (Builtin.append_ #[t, t] ty #[.slice (some ⟨g, 0, none⟩) n cap, .slice (some ad) m c]).run P W = .ok (.slice (some ⟨g, 0, none⟩) (n + m) cap) (W.setRow g (cur.toList.take (n * i.size) ++ news ++ cur.toList.drop (n * i.size + news.length)).toArray) := by
  have hfc := run_firstCells_some (P := P) W i.size m ad m c news hl hnews
  have hst := run_storeCells_at P g (n * i.size) te news 0 cur W hg (by omega) h1
  simp only [Nat.add_zero] at hst
  simp [Builtin.append_, run_underlying ht, sizeOf, typeInfo, hi, Builtin.lenOf, hroom, hfc, add_plain, hst]
/-- Nothing is appended. -/
theorem append_none {t ty e : TypeId} {i : TypeInfo} (ht : P.underlying t = some (.slice e)) (hi : P.info? e = some i) {A B : Option Addr} {n c c' : Nat} (hle : n ≤ c) :
    (Builtin.append_ #[t, t] ty #[.slice A n c, .slice B 0 c']).run P W = .ok (.slice A n c) W := by
  cases A <;> cases B <;> simp [Builtin.append_, run_underlying ht, sizeOf, typeInfo, hi, Builtin.lenOf, Builtin.firstCells, hle, storeCells, loadCells, loadCellsFrom]

/-- What is appended, cell by cell. -/
theorem src_ok (hM : MemOK W0 M S γ σ.mem W) {k : Nat} (hk : 0 < k) {x : TV} {v : Value} (hx : TRel W S γ x v) {new : List (List PV)} (h : srcOf σ k x = some new) :
    (∀ r ∈ new, r.length = k) ∧ ∃ (A : Option Addr) (c : Nat) (us : List Value), v = .slice A new.length c ∧ us.length = new.length * k ∧ (∀ u ∈ us, u.oneCell' = true) ∧ (new ≠ [] → ∃ ad, A = some ad ∧ ∀ (j : Nat) (u : Value), us[j]? = some u → W.cell? (ad.add j) = some u) ∧
      ∀ (i : Nat) (row : List PV) (f : Nat) (p : PV) (u : Value), new[i]? = some row → row[f]? = some p → us[i * k + f]? = some u → PRel W S p u ∨ ∃ o off π es, x.els k = none ∧ (x = .a (.view o off π) ∨ ∃ m, x = .a (.pre o off π m)) ∧ at_ σ.mem o off π = some (.vec k es) ∧ es[i]? = some row ∧ CellOK W S γ o off ((i, k, f) :: π) p u := by
  have hdiv : ∀ {j n : Nat}, j < n * k → j / k < n ∧ j % k < k ∧ j / k * k + j % k = j := fun {j n} hj => ⟨(Nat.div_lt_iff_lt_mul hk).2 hj, Nat.mod_lt _ hk, Nat.div_add_mod' j k⟩
  unfold srcOf at h
  split at h
  · rename_i es hes
    injection h with h
    subst h
    have hs := hx.els hes
    cases hs with
    | sl _ _ A c val hl hA hk' hc hr =>
      refine ⟨hk', A, c, (List.range (es.length * k)).map (fun j => val (j / k) (j % k)), rfl, by simp, fun u hu => ?_, fun hne => ?_, fun i row f p u hi hf hu => .inl ?_⟩
      · obtain ⟨j, hj, rfl⟩ := List.mem_map.1 hu
        obtain ⟨h1, h2, _⟩ := hdiv (List.mem_range.1 hj)
        have h3 : j % k < (es[j / k]).length := by rw [hk' _ (List.getElem_mem h1)]; exact h2
        exact (hr _ _ _ _ (List.getElem?_eq_getElem h1) (List.getElem?_eq_getElem h3)).one
      · obtain ⟨ad, rfl⟩ := hA hne
        refine ⟨ad, rfl, fun j u hu => ?_⟩
        have hj := (List.getElem?_eq_some_iff.1 hu).1
        simp at hj
        simp [hj] at hu
        subst hu
        obtain ⟨h1, h2, h4⟩ := hdiv hj
        have h3 : j % k < (es[j / k]).length := by rw [hk' _ (List.getElem_mem h1)]; exact h2
        have := (hc ad _ _ _ _ rfl (List.getElem?_eq_getElem h1) (List.getElem?_eq_getElem h3)).2
        rwa [h4] at this
      · have hil := (List.getElem?_eq_some_iff.1 hi).1
        have hfl := (List.getElem?_eq_some_iff.1 hf).1
        rw [hk' row (List.mem_of_getElem? hi)] at hfl
        simp [at_lt hil hfl] at hu
        have hd : (i * k + f) / k = i := by rw [Nat.add_comm, Nat.add_mul_div_right _ _ hk, Nat.div_eq_of_lt hfl, Nat.zero_add]
        rw [hd, Nat.mod_eq_of_lt hfl] at hu
        subst hu
        exact hr i row f p hi hf
  · rename_i hno
    split at h
    · rename_i o off π m hv
      split at h
      · rename_i k' es hat
        injection h with h
        subst h
        have hkk : k' = k ∧ m ≤ es.length ∧ (x = .a (.view o off π) ∨ ∃ m, x = .a (.pre o off π m)) := by
          unfold viewOf at hv
          split at hv
          · split at hv
            · rename_i k1 es1 ha
              split at hv
              · rename_i hk1
                simp only [Option.some.injEq, Prod.mk.injEq] at hv
                obtain ⟨rfl, rfl, rfl, rfl⟩ := hv
                rw [hat] at ha
                injection ha with ha
                injection ha with e1 e2
                subst e1 e2
                exact ⟨hk1, Nat.le_refl _, .inl rfl⟩
              · cases hv
            · cases hv
          · split at hv
            · rename_i k1 es1 ha
              split at hv
              · rename_i hk1
                simp only [Option.some.injEq, Prod.mk.injEq] at hv
                obtain ⟨rfl, rfl, rfl, rfl⟩ := hv
                rw [hat] at ha
                injection ha with ha
                injection ha with e1 e2
                subst e1 e2
                exact ⟨hk1.1, hk1.2, .inr ⟨_, rfl⟩⟩
              · cases hv
            · cases hv
          · cases hv
        obtain ⟨rfl, hm, hform⟩ := hkk
        obtain ⟨A, c, m', rfl, hmc, hmm, hhd, hA⟩ := view_inv hM hx hv
        obtain ⟨v0, v1, v2⟩ := hM.vecs o off π k' es hat
        have hlm : (es.take m).length = m := by simp; omega
        refine ⟨fun r hr => v1 r (List.mem_of_mem_take hr), A, c, ?_⟩
        by_cases hm0 : m = 0
        · subst hm0
          exact ⟨[], by simp, by simp, by simp, by simp, by simp⟩
        · rcases v2 with ⟨h5, _⟩ | ⟨b, cap, w1, w2, w3, w4, cur, t, w5, w6, w7⟩
          · subst h5; simp at hm; omega
          · have hAb := hA (by omega)
            rw [w1] at hAb
            simp only [blkD] at hAb
            subst hAb
            have hcl : m * k' ≤ cur.size := by rw [w6]; exact Nat.mul_le_mul_right _ (by omega)
            have hone : ∀ j, j < m * k' → ∃ u, cur[j]? = some u ∧ u.oneCell' = true := fun j hj => by
              obtain ⟨h1, h2, h4⟩ := hdiv hj
              have h1' : j / k' < es.length := by omega
              have h3 : j % k' < (es[j / k']).length := by rw [v1 _ (List.getElem_mem h1')]; exact h2
              refine ⟨cur[j], Array.getElem?_eq_getElem (by omega), ?_⟩
              exact (w7 (j / k') _ (j % k') _ cur[j] (List.getElem?_eq_getElem h1') (List.getElem?_eq_getElem h3) (by rw [h4]; exact Array.getElem?_eq_getElem (by omega))).one
            refine ⟨cur.toList.take (m * k'), by rw [hlm], by simp [hlm]; exact Nat.min_eq_left hcl, fun u hu => ?_, fun _ => ⟨_, rfl, fun j u hj => ?_⟩, fun i row f p u hi hf hu => .inr ⟨o, off, π, es, hno, hform, hat, ?_, ?_⟩⟩
            · obtain ⟨j, hj⟩ := List.mem_iff_getElem?.1 hu
              rw [List.getElem?_take] at hj
              split at hj
              · rename_i hjl
                obtain ⟨u', h1, h2⟩ := hone j hjl
                have : u' = u := by
                  have h3 : cur.toList[j]? = some u' := by simpa using h1
                  rw [h3] at hj; injection hj
                subst this
                exact h2
              · cases hj
            · rw [List.getElem?_take] at hj
              split at hj
              · rw [add_plain]
                simp only [World.cell?, w5]
                simpa using hj
              · cases hj
            · rw [List.getElem?_take] at hi
              split at hi
              · exact hi
              · cases hi
            · rw [List.getElem?_take] at hi hu
              split at hi
              · split at hu
                · exact w7 i row f p u hi hf (by simpa using hu)
                · cases hu
              · cases hi
      · cases h
    · cases h

/-- What is appended to: its cells, and what is known of them. -/
theorem base_ok (hM : MemOK W0 M S γ σ.mem W) {k : Nat} {s : TV} {v : Value} (hs : TRel W S γ s v) {old : List (List PV)} {mem1 : List (Nat × MC)} (h : baseOf σ k s = some (old, mem1)) :
    Less mem1 σ.mem ∧ ∃ A c, v = .slice A old.length c ∧ old.length ≤ c ∧ v.oneCell' = true ∧
      ((old = [] ∧ c = 0 ∧ mem1 = σ.mem) ∨ ∃ so soff sπ es n m, at_ σ.mem so soff sπ = some (.vec k es) ∧ (∀ (ρ : Path) (k : Nat) (es : List (List PV)), at_ mem1 so soff (ρ ++ sπ) ≠ some (.vec k es)) ∧ old = es.take n ∧ n ≤ es.length ∧ γ.hd so soff sπ = .slice A m c) := by
  unfold baseOf at h
  split at h
  · simp only [Option.some.injEq, Prod.mk.injEq] at h
    obtain ⟨rfl, rfl⟩ := h
    refine ⟨Less.refl hM.regs, none, 0, ?_, Nat.le_refl _, ?_, .inl ⟨rfl, rfl, rfl⟩⟩
    · cases hs; rfl
    · cases hs; rfl
  · simp only [Option.some.injEq, Prod.mk.injEq] at h
    obtain ⟨rfl, rfl⟩ := h
    have hs' : PRel W S .zc v := hs
    cases hs' with
    | zc A => exact ⟨Less.refl hM.regs, A, 0, rfl, Nat.le_refl _, rfl, .inl ⟨rfl, rfl, rfl⟩⟩
  · rename_i c _ _
    split at h
    · rename_i k' es so soff mem' hg
      split at h
      · rename_i hk
        subst hk
        simp only [Option.some.injEq, Prod.mk.injEq] at h
        obtain ⟨rfl, rfl⟩ := h
        obtain ⟨sπ, k1, es1, n, A, m, cc, hp, hn, ha, ht, hhd, rfl, _⟩ := grab_ok hM (show CRel W S γ c v from hs) hg
        injection hp with e1 e2
        subst e1 e2
        obtain ⟨hless, hno⟩ := takeAt_less hM.regs ha ht
        have hl : (es1.take n).length = n := by simp; omega
        obtain ⟨_, _, v2⟩ := hM.vecs so soff sπ k' es1 ha
        have hle : n ≤ cc := by
          rcases v2 with ⟨rfl, A', hA⟩ | ⟨b, cap, w1, w2, w3, _⟩
          · simp at hn; omega
          · rw [hhd] at w1; injection w1 with _ _ w1; omega
        exact ⟨hless, A, cc, by rw [hl], by omega, rfl, .inr ⟨so, soff, sπ, es1, n, m, ha, hno, rfl, hn, hhd⟩⟩
      · cases h
    · cases h
  · cases h
end
end Go.Ew
end
section
/- append: the real machine beside the abstract one. -/
namespace Go.Ew
open Go.RowKit

theorem del_less {mem : List (Nat × MC)} (hr : ∀ o q, look mem o = .reg q → ∃ k es, q = .vec k es) (o : Nat) : Less (del mem o) mem := by
  refine ⟨fun o1 off π k es ha => ?_, fun o1 cs ho => ?_, fun o1 q hq => ?_, fun o1 ks cs ho => ?_⟩
  · by_cases h : o1 = o
    · subst h; unfold Ew.at_ at ha; rw [look_del_same] at ha; simp [cellAt] at ha
    · unfold Ew.at_ at ha ⊢
      rw [look_del_other _ _ _ h] at ha
      exact ⟨es, ha, rfl, fun i row hi => ⟨row, hi, rfl, fun f x hx => .inr ⟨x, hx, .inl rfl⟩⟩⟩
  · by_cases h : o1 = o
    · subst h; rw [look_del_same] at ho; cases ho
    · rw [look_del_other _ _ _ h] at ho; exact ⟨cs, ho, rfl, fun j c hc => .inr ⟨c, hc, .inl rfl⟩⟩
  · by_cases h : o1 = o
    · subst h; rw [look_del_same] at hq; cases hq
    · rw [look_del_other _ _ _ h] at hq; exact ⟨⟨q, hq⟩, hr o1 q hq⟩
  · by_cases h : o1 = o
    · subst h; rw [look_del_same] at ho; cases ho
    · rw [look_del_other _ _ _ h] at ho; exact ⟨cs, ho, rfl, fun j c hc => .inr hc⟩
theorem zeroCells_size (z : Array Value) (n : Nat) : (Builtin.zeroCells z n).size = n * z.size := by simp [Builtin.zeroCells]

section
variable {P : Program} {T : Tab} {W0 W W' : World} {M : Nat → Prop} {S0 S S' : Addr → Prop} {γ γ' : Gh} {mem mem1 mem2 : List (Nat × MC)} {κ : Kl} {σ : St} {a : Act}

theorem wrote_drew_alloc (hC : Core T W0 M S0 S γ mem W) (o : Obj) : Wrote M W0 S W (W.drew.alloc o) :=
  ⟨rfl, rfl, rfl, by simp, fun k hk => .inl (Below.heap_alloc W.drew _ k hk), fun a ha => (Below.heap_alloc W.drew _ _ (hC.lt ha))⟩

/-- What is appended to: nothing; or a row of the call's own. -/
theorem base_cases (hM : MemOK W0 M S γ σ.mem W) {k : Nat} {s : TV} {v : Value} (hs : TRel W S γ s v) {old : List (List PV)} {mem1 : List (Nat × MC)} (h : baseOf σ k s = some (old, mem1)) :
    Less mem1 σ.mem ∧ ∃ B cap, v = .slice B old.length cap ∧ old.length ≤ cap ∧
      ((old = [] ∧ cap = 0) ∨ ∃ so soff sπ es n b0 cur te, old = es.take n ∧ n ≤ es.length ∧ at_ σ.mem so soff sπ = some (.vec k es) ∧ (∀ (ρ : Path) (k : Nat) (es : List (List PV)), at_ mem1 so soff (ρ ++ sπ) ≠ some (.vec k es)) ∧
        B = some ⟨b0, 0, none⟩ ∧ 0 < cap ∧ Owns γ σ.mem (.at_ so soff sπ) b0 ∧ W.heap[b0]? = some (.cells cur te (0, 0)) ∧ cur.size = cap * k ∧ cap ≤ maxLen ∧ es.length ≤ cap ∧ (∀ row ∈ es, row.length = k) ∧
        ∀ (j : Nat) (row : List PV) (f : Nat) (x : PV) (u : Value), es[j]? = some row → row[f]? = some x → cur[j * k + f]? = some u → CellOK W S γ so soff ((j, k, f) :: sπ) x u) := by
  obtain ⟨hl, B, cap, hv, hle, _, hc⟩ := base_ok hM hs h
  refine ⟨hl, B, cap, hv, hle, ?_⟩
  rcases hc with ⟨h1, h2, _⟩ | ⟨so, soff, sπ, es, n, m, h1, h2, h3, h4, h5⟩
  · exact .inl ⟨h1, h2⟩
  · obtain ⟨_, v1, v2⟩ := hM.vecs so soff sπ k es h1
    rcases v2 with ⟨rfl, A', hA⟩ | ⟨b0, cap', w1, w2, w3, w4, cur, te, w5, w6, w7⟩
    · rw [h5] at hA
      injection hA with _ _ hA
      exact .inl ⟨by rw [h3]; simp, hA⟩
    · have hw1 := w1
      rw [h5] at w1
      injection w1 with e1 e2 e3
      subst e1 e3
      exact .inr ⟨so, soff, sπ, es, n, b0, cur, te, h3, h4, h1, h2, rfl, w2, VecOK.owns h1 hw1 w2, w5, w6, w4, w3, v1, w7⟩

theorem appendRow (hT : TabOK P T) (hR : Rel T W0 M S0 S γ σ a W) {d : Nat} (hd : d < 1000000) {t ty e : TypeId} {i : TI} (he : T.elem t = some e) (hi : T.ti e = some i) {s : TV} {vs : Value} (hs : TRel W S γ s vs)
    {old : List (List PV)} (hb : baseOf σ i.zero.length s = some (old, mem1)) {A : Option Addr} {c : Nat} {us : List Value} {new : List (List PV)} (hul : us.length = new.length * i.zero.length) (h1 : ∀ u ∈ us, u.oneCell' = true)
    (hus : new ≠ [] → ∃ ad, A = some ad ∧ ∀ (j : Nat) (u : Value), us[j]? = some u → W.cell? (ad.add j) = some u) (hrl : ∀ r ∈ new, r.length = i.zero.length)
    (hrel : ∀ (j : Nat) (row : List PV) (f : Nat) (p : PV) (u : Value), new[j]? = some row → row[f]? = some p → us[j * i.zero.length + f]? = some u → PRel W S p u)
    (hroom : (old.length + new.length) * i.bytes ≤ room) (hroom2 : old.length + new.length ≤ room) :
    ∃ γ' v W' b, (Builtin.append_ #[t, t] ty #[vs, .slice A new.length c]).run P W = .ok v W' ∧ Rel T W0 M S0 S γ' (newReg { σ with mem := mem1 } d i.zero.length (old ++ new)) (a.put (some d) v) W' ∧
      Step γ γ' σ.mem (newReg { σ with mem := mem1 } d i.zero.length (old ++ new)).mem ∧ γ'.hd d 0 [] = v ∧ Chg (.root d) γ γ' ∧ Wrote M W0 S W W' ∧
      (new ≠ [] → blkD v = b ∧ ∀ (j : Nat) (u : Value), us[j]? = some u → W'.cell? ⟨b, old.length * i.zero.length + j, none⟩ = some u) := by
  obtain ⟨info, z, hP, hsz, hby, hz, hzc, hones, hpos, _⟩ := hT.ti e i hi
  have hzl : z.cells.size = info.size := by rw [hsz, ← hzc]; simp
  obtain ⟨hless, B, cap, rfl, hle, hsrc⟩ := base_cases hR.core.mem hs hb
  have hnv : ∀ r ∈ new, ∀ x ∈ r, x.nv = true := fun r hr x hx => by
    obtain ⟨j, hj⟩ := List.mem_iff_getElem?.1 hr
    obtain ⟨f, hf⟩ := List.mem_iff_getElem?.1 hx
    have hlt : j * i.zero.length + f < us.length := by
      rw [hul]
      exact at_lt (List.getElem?_eq_some_iff.1 hj).1 (by rw [← hrl r hr]; exact (List.getElem?_eq_some_iff.1 hf).1)
    exact (hrel j r f x _ hj hf (List.getElem?_eq_getElem hlt)).nv
  have hgc : ∀ (m : Nat), m < old.length + new.length → ∃ g, g = grownCap W (old.length + new.length) m e ∧ old.length + new.length ≤ g ∧ g ≤ maxLen := fun m _ =>
    ⟨_, rfl, grownCap_ge W _ m e, grownCap_le_maxLen W _ m e (by simp only [room] at hroom2; simp only [maxLen]; omega)⟩
  have hb' : (old.length + new.length) * info.bytes ≤ 140737488355328 := by rw [hby]; simpa [room] using hroom
  have hul' : us.length = new.length * info.size := by rw [hul, hsz]
  rcases hsrc with ⟨rfl, rfl⟩ | ⟨so, soff, sπ, es, n, b0, cur, te, rfl, hn, hat, hno, rfl, hc0, hown, hheap, hcs, hcm, hec, hrows, hcell⟩
  · -- nothing was there
    simp only [List.length_nil, Nat.zero_add, List.nil_append, Nat.zero_mul] at *
    by_cases hne : new = []
    · subst hne
      obtain ⟨γ1, g1, g2, g3, g4⟩ := hR.reg hless hd (so := 0) (soff := 0) (sπ := []) (k := i.zero.length) (es := []) (new := []) (n := 0) (v := .slice B 0 0) (b := W.heap.size) (W' := W) (.inl ⟨rfl, Nat.le_refl _⟩) (by simp) hpos (by simp) (by simp)
        ⟨rfl, rfl, rfl, Nat.le_refl _, fun _ _ => .inl rfl, fun _ _ => rfl⟩ (fun _ _ _ => rfl) (.inl (Nat.le_refl _)) rfl (.inl ⟨by simp, B, rfl, Nat.le_refl _⟩)
      exact ⟨γ1, _, W, 0, append_none (hT.elem t e he) hP (Nat.le_refl 0), by simpa using g1, by simpa using g2, g3, g4, ⟨rfl, rfl, rfl, Nat.le_refl _, fun _ _ => .inl rfl, fun _ _ => rfl⟩, fun h => absurd rfl h⟩
    · obtain ⟨ad, rfl, hnews⟩ := hus hne
      have hpos' : 0 < new.length := List.length_pos_iff.2 hne
      obtain ⟨g, hg, hge, hgm⟩ := hgc 0 hpos'
      have hrun : (Builtin.append_ #[t, t] ty #[.slice B 0 0, .slice (some ad) new.length c]).run P W = .ok (.slice (some ⟨W.heap.size, 0, none⟩) new.length g) (W.drew.alloc (.cells (us.toArray ++ Builtin.zeroCells z.cells (g - new.length)) e)) := by
        subst hg
        cases B with
        | none => exact run_append_nil (P := P) W t ty e info z (hT.elem t e he) hP hz ad new.length c us hul' hnews hpos' (by simp only [room] at hroom2; omega) (by omega)
        | some b =>
          have := run_append_grow (P := P) W t ty e info z (hT.elem t e he) hP hz b 0 0 [] (by simp) (by simp) ad new.length c us hul' hnews (by omega) (by simp only [room] at hroom2; omega) (growslice_fits (by omega) (by rw [Nat.zero_add]; exact hb'))
          simpa using this
      generalize hcur : us.toArray ++ Builtin.zeroCells z.cells (g - new.length) = cur at hrun
      have hcsz : cur.size = g * i.zero.length := by
        rw [← hcur, Array.size_append, zeroCells_size, hzl, List.size_toArray, hul', hsz, ← Nat.add_mul]; congr 1; omega
      have hcg : ∀ j u, us[j]? = some u → cur[j]? = some u := fun j u hj => by
        rw [← hcur]
        have hjl := (List.getElem?_eq_some_iff.1 hj).1
        rw [Array.getElem?_append_left (by simpa using hjl)]
        simpa using hj
      have hw := wrote_drew_alloc hR.core (.cells cur e)
      have hnew : (W.drew.alloc (.cells cur e)).heap[W.heap.size]? = some (.cells cur e (0, 0)) := heap_alloc_new W.drew _
      obtain ⟨γ1, g1, g2, g3, g4⟩ := hR.reg hless hd (so := 0) (soff := 0) (sπ := []) (k := i.zero.length) (es := []) (new := new) (n := 0) (v := .slice (some ⟨W.heap.size, 0, none⟩) new.length g) (b := W.heap.size) (W' := W.drew.alloc (.cells cur e)) (.inl ⟨rfl, Nat.le_refl _⟩) (by simp) hpos (by simpa using hrl) hnv
        hw (fun j hj _ => Below.heap_alloc W.drew _ j hj) (.inl (Nat.le_refl _)) rfl (.inr ⟨g, cur, e, by simp, by omega, by simpa using hge, hgm, hnew, hcsz, fun j row f x u hj hx hu => .inr (by
          simp only [List.take_zero, List.nil_append] at hj
          have hlt : j * i.zero.length + f < us.length := by
            rw [hul]
            exact at_lt (List.getElem?_eq_some_iff.1 hj).1 (by rw [← hrl row (List.mem_of_getElem? hj)]; exact (List.getElem?_eq_some_iff.1 hx).1)
          have h9 := hcg _ _ (List.getElem?_eq_getElem hlt)
          rw [hu] at h9
          injection h9 with h9
          exact (hrel j row f x u hj hx (by rw [h9]; exact List.getElem?_eq_getElem hlt)).mono hw.cells (fun _ h => h))⟩)
      refine ⟨γ1, _, _, W.heap.size, hrun, by simpa using g1, by simpa using g2, g3, g4, hw, fun _ => ⟨rfl, fun j u hj => ?_⟩⟩
      simp only [World.cell?, hnew]
      simpa using hcg j u hj
  · -- a row of the call's own
    have hlo : (es.take n).length = n := by simp; omega
    rw [hlo] at hle hroom hroom2 hgc hb' ⊢
    have hnk : n * info.size ≤ cur.size := by rw [hcs, hsz]; exact Nat.mul_le_mul_right _ hle
    have htl : (cur.toList.take (n * info.size)).length = n * info.size := by simp; omega
    have hrows' : ∀ r ∈ es.take n ++ new, r.length = i.zero.length := fun r hr => by
      rcases List.mem_append.1 hr with h | h
      · exact hrows r (List.mem_of_mem_take h)
      · exact hrl r h
    have hkeep : ∀ {W' : World} {C : Array Value}, (∀ a, S a → W'.heap[a.block]? = W.heap[a.block]?) → (∀ j, j < n * info.size → C[j]? = cur[j]?) → (∀ j u, us[j]? = some u → C[n * info.size + j]? = some u) →
        ∀ (j : Nat) (row : List PV) (f : Nat) (x : PV) (u : Value), (es.take n ++ new)[j]? = some row → row[f]? = some x → C[j * i.zero.length + f]? = some u → (j < n ∧ CellOK W S γ so soff ((j, i.zero.length, f) :: sπ) x u) ∨ PRel W' S x u := by
      intro W' C hS h2 h3 j row f x u hj hx hu
      have hfk : f < i.zero.length := by rw [← hrows' row (List.mem_of_getElem? hj)]; exact (List.getElem?_eq_some_iff.1 hx).1
      by_cases hjn : j < n
      · left
        rw [List.getElem?_append_left (by omega), List.getElem?_take, if_pos hjn] at hj
        rw [h2 _ (by rw [hsz]; exact at_lt hjn hfk)] at hu
        exact ⟨hjn, hcell j row f x u hj hx hu⟩
      · right
        rw [List.getElem?_append_right (by omega), hlo] at hj
        have hlt : (j - n) * i.zero.length + f < us.length := by rw [hul]; exact at_lt (List.getElem?_eq_some_iff.1 hj).1 hfk
        have h9 := h3 _ _ (List.getElem?_eq_getElem hlt)
        have hm : n * i.zero.length ≤ j * i.zero.length := Nat.mul_le_mul_right _ (by omega)
        rw [show n * info.size + ((j - n) * i.zero.length + f) = j * i.zero.length + f by rw [hsz, Nat.sub_mul]; omega, hu] at h9
        injection h9 with h9
        exact (hrel (j - n) row f x u hj hx (by rw [h9]; exact List.getElem?_eq_getElem hlt)).mono hS (fun _ h => h)
    by_cases hne : new = []
    · subst hne
      simp only [List.length_nil, Nat.add_zero, List.append_nil] at *
      obtain ⟨γ1, g1, g2, g3, g4⟩ := hR.reg hless hd (so := so) (soff := soff) (sπ := sπ) (k := i.zero.length) (es := es) (new := []) (n := n) (v := .slice (some ⟨b0, 0, none⟩) n cap) (b := b0) (W' := W) (.inr ⟨hat, hno⟩) hn hpos (by simpa using hrows') (by simp)
        ⟨rfl, rfl, rfl, Nat.le_refl _, fun _ _ => .inl rfl, fun _ _ => rfl⟩ (fun _ _ _ => rfl) (.inr hown) rfl (.inr ⟨cap, cur, te, by simp [Nat.min_eq_left hn], hc0, by simp; omega, hcm, hheap, hcs, fun j row f x u hj hx hu => by
          simp only [List.append_nil] at hj
          rw [List.getElem?_take] at hj
          split at hj
          · rename_i hjn
            exact .inl ⟨hjn, hcell j row f x u hj hx hu⟩
          · cases hj⟩)
      exact ⟨γ1, _, W, 0, append_none (hT.elem t e he) hP hle, by simpa using g1, by simpa using g2, g3, g4, ⟨rfl, rfl, rfl, Nat.le_refl _, fun _ _ => .inl rfl, fun _ _ => rfl⟩, fun h => absurd rfl h⟩
    · obtain ⟨ad, rfl, hnews⟩ := hus hne
      have hpos' : 0 < new.length := List.length_pos_iff.2 hne
      by_cases hr : n + new.length ≤ cap
      · -- room
        have hfit : n * info.size + us.length ≤ cur.size := by rw [hul, hcs, hsz, ← Nat.add_mul]; exact Nat.mul_le_mul_right _ hr
        have hrun := append_room (P := P) (W := W) (t := t) (ty := ty) (hT.elem t e he) hP (n := n) (cap := cap) hheap (ad := ad) (m := new.length) (c := c) hul' hnews h1 hr hfit
        generalize hcur : (cur.toList.take (n * info.size) ++ us ++ cur.toList.drop (n * info.size + us.length)).toArray = C at hrun
        have hC1 : ∀ j, j < n * info.size → C[j]? = cur[j]? := fun j hj => by
          rw [← hcur, List.getElem?_toArray, List.append_assoc, List.getElem?_append_left (by omega), List.getElem?_take, if_pos hj]; simp
        have hC2 : ∀ j u, us[j]? = some u → C[n * info.size + j]? = some u := fun j u hj => by
          have hjl := (List.getElem?_eq_some_iff.1 hj).1
          rw [← hcur, List.getElem?_toArray, List.append_assoc, List.getElem?_append_right (by omega), htl, List.getElem?_append_left (by omega), show n * info.size + j - n * info.size = j by omega]
          exact hj
        have hw := wrote_row hR.core.mem hown C
        have hnew : (W.setRow b0 C).heap[b0]? = some (.cells C te (0, 0)) := setRow_heap W _ cur _ te _ hheap
        obtain ⟨γ1, g1, g2, g3, g4⟩ := hR.reg hless hd (so := so) (soff := soff) (sπ := sπ) (k := i.zero.length) (es := es) (new := new) (n := n) (v := .slice (some ⟨b0, 0, none⟩) (n + new.length) cap) (b := b0) (W' := W.setRow b0 C) (.inr ⟨hat, hno⟩) hn hpos hrows' hnv
          hw (fun j _ hj => setRow_other W _ j _ hj) (.inr hown) rfl (.inr ⟨cap, C, te, by simp [Nat.min_eq_left hn], hc0, by simp; omega, hcm, hnew, by rw [← hcur]; simp; omega, hkeep hw.cells hC1 hC2⟩)
        refine ⟨γ1, _, _, b0, hrun, g1, g2, g3, g4, hw, fun _ => ⟨rfl, fun j u hj => ?_⟩⟩
        simp only [World.cell?, hnew]
        rw [← hsz]
        simpa using hC2 j u hj
      · -- growth
        obtain ⟨g, hg, hge, hgm⟩ := hgc cap (by omega)
        have holds : ∀ (j : Nat) (u : Value), (cur.toList.take (n * info.size))[j]? = some u → W.cell? ((⟨b0, 0, none⟩ : Addr).add j) = some u := fun j u hu => by
          rw [List.getElem?_take] at hu
          split at hu
          · rw [add_plain, Nat.zero_add]
            simp only [World.cell?, hheap]
            simpa using hu
          · cases hu
        have hrun := run_append_grow (P := P) W t ty e info z (hT.elem t e he) hP hz ⟨b0, 0, none⟩ n cap (cur.toList.take (n * info.size)) htl holds ad new.length c us hul' hnews (by omega) (by simp only [room] at hroom2; omega) (growslice_fits (by omega) hb')
        rw [← hg] at hrun
        generalize hcur : (cur.toList.take (n * info.size)).toArray ++ us.toArray ++ Builtin.zeroCells z.cells (g - (n + new.length)) = C at hrun
        have hC1 : ∀ j, j < n * info.size → C[j]? = cur[j]? := fun j hj => by
          rw [← hcur, Array.append_assoc, Array.getElem?_append_left (by simp; omega), List.getElem?_toArray, List.getElem?_take, if_pos hj]; simp
        have hC2 : ∀ j u, us[j]? = some u → C[n * info.size + j]? = some u := fun j u hj => by
          have hjl := (List.getElem?_eq_some_iff.1 hj).1
          rw [← hcur, Array.append_assoc, Array.getElem?_append_right (by simp; omega), List.size_toArray, htl, Array.getElem?_append_left (by simp; omega), show n * info.size + j - n * info.size = j by omega]
          simpa using hj
        have hw := wrote_drew_alloc hR.core (.cells C e)
        have hnew : (W.drew.alloc (.cells C e)).heap[W.heap.size]? = some (.cells C e (0, 0)) := heap_alloc_new W.drew _
        obtain ⟨γ1, g1, g2, g3, g4⟩ := hR.reg hless hd (so := so) (soff := soff) (sπ := sπ) (k := i.zero.length) (es := es) (new := new) (n := n) (v := .slice (some ⟨W.heap.size, 0, none⟩) (n + new.length) g) (b := W.heap.size) (W' := W.drew.alloc (.cells C e)) (.inr ⟨hat, hno⟩) hn hpos hrows' hnv
          hw (fun j hj _ => Below.heap_alloc W.drew _ j hj) (.inl (Nat.le_refl _)) rfl (.inr ⟨g, C, e, by simp [Nat.min_eq_left hn], by omega, by simp; omega, hgm, hnew, by
            rw [← hcur, Array.size_append, Array.size_append, zeroCells_size, hzl, List.size_toArray, List.size_toArray, htl, hul', hsz, ← Nat.add_mul, ← Nat.add_mul]; congr 1; omega, hkeep hw.cells hC1 hC2⟩)
        refine ⟨γ1, _, _, W.heap.size, hrun, g1, g2, g3, g4, hw, fun _ => ⟨rfl, fun j u hj => ?_⟩⟩
        simp only [World.cell?, hnew]
        rw [← hsz]
        simpa using hC2 j u hj

theorem botRows_len (es : List (List PV)) : (botRows es).length = es.length := by simp [botRows]
theorem botRows_get {es : List (List PV)} {j : Nat} {row : List PV} {f : Nat} {p : PV} (hj : (botRows es)[j]? = some row) (hf : row[f]? = some p) : ∃ row0 p0, es[j]? = some row0 ∧ row0[f]? = some p0 ∧ row.length = row0.length ∧ (p = .bot ∨ (p = p0 ∧ p0.nv = true)) := by
  simp only [botRows, List.getElem?_map] at hj
  obtain ⟨row0, h1, rfl⟩ := Option.map_eq_some_iff.1 hj
  rw [List.getElem?_map] at hf
  obtain ⟨p0, h2, rfl⟩ := Option.map_eq_some_iff.1 hf
  refine ⟨row0, p0, h1, h2, by simp, ?_⟩
  cases hp : p0.nv <;> simp
theorem rowViews_get {o k : Nat} : ∀ {es : List (List PV)} {i j : Nat} {r : List CV}, (rowViews o k i es)[j]? = some r → ∃ row, es[j]? = some row ∧ r = peekH o 0 (i + j) k [] 0 row
  | [], i, j, r, h => by simp [rowViews] at h
  | e :: es, i, j, r, h => by
    cases j with
    | zero => simp only [rowViews, List.getElem?_cons_zero, Option.some.injEq] at h; exact ⟨e, rfl, by rw [← h]; rfl⟩
    | succ j =>
      simp only [rowViews, List.getElem?_cons_succ] at h
      obtain ⟨row, h1, h2⟩ := rowViews_get h
      exact ⟨row, by simpa using h1, by rw [h2, show i + 1 + j = i + (j + 1) by omega]⟩
theorem peekH_kill {o d i k : Nat} (ho : o ≠ d) : ∀ {f : Nat} {ps : List PV} {c : CV}, c ∈ peekH o 0 i k [] f ps → c.kill (.root d) = c
  | f, [], c, h => by simp [peekH] at h
  | f, p :: ps, c, h => by
    simp only [peekH, List.mem_cons] at h
    rcases h with rfl | h
    · cases p <;> simp [CV.kill, Kl.h, Ne.symm ho]
    · exact peekH_kill ho h

theorem append_ok (hT : TabOK P T) (hR : Rel T W0 M S0 S γ σ a W) {d : Nat} (hd : d < 1000000) {t ty : TypeId} {s x : TV} {vs vx : Value} (hs : TRel W S γ s vs) (hx : TRel W S γ x vx) {σ' : St} (h : appendOp T σ d t s x = some σ') :
    ∃ γ' v W', (Builtin.append_ #[t, t] ty #[vs, vx]).run P W = .ok v W' ∧ Rel T W0 M S0 S γ' σ' (a.put (some d) v) W' ∧ Step γ γ' σ.mem σ'.mem := by
  unfold appendOp at h
  split at h
  · cases h
  rename_i e he
  split at h
  · cases h
  rename_i i hi
  have hpos : 0 < i.zero.length := by obtain ⟨_, _, _, _, _, _, _, _, hpos, _⟩ := hT.ti e i hi; exact hpos
  split at h
  · rename_i new old mem1 hsrc hbase
    split at h
    · rename_i hroom
      obtain ⟨hrl, A, c, us, rfl, hul, h1, hus, hcells⟩ := src_ok hR.core.mem hpos hx hsrc
      split at h
      · -- nothing but values
        rename_i hnv
        injection h with h
        subst h
        have hrel : ∀ (j : Nat) (row : List PV) (f : Nat) (p : PV) (u : Value), new[j]? = some row → row[f]? = some p → us[j * i.zero.length + f]? = some u → PRel W S p u := fun j row f p u hj hf hu => by
          rcases hcells j row f p u hj hf hu with h2 | ⟨o, off, π, es, _, _, _, _, h2⟩
          · exact h2
          · exact h2.to (List.all_eq_true.1 (List.all_eq_true.1 hnv row (List.mem_of_getElem? hj)) p (List.mem_of_getElem? hf))
        obtain ⟨γ1, v, W', b, g1, g2, g3, _⟩ := appendRow (ty := ty) hT hR hd he hi hs hbase hul h1 hus hrl hrel hroom.1 hroom.2
        exact ⟨γ1, v, W', g1, g2, g3⟩
      · rename_i hnv0
        split at h
        · rename_i o
          split at h
          · rename_i q hreg
            split at h
            · cases h
            · rename_i hod
              simp only at h
              split at h
              · rename_i mem2 hmv
                injection h with h
                subst h
                have hbl := botRows_len new
                have hrelC : ∀ (j : Nat) (row : List PV) (f : Nat) (p : PV) (u : Value), new[j]? = some row → row[f]? = some p → us[j * i.zero.length + f]? = some u → CellOK W S γ o 0 [(j, i.zero.length, f)] p u := fun j row f p u hj hf hu => by
                  rcases hcells j row f p u hj hf hu with h2 | ⟨o', off, π, es, hno, hform, _, _, h2⟩
                  · exact CellOK.of h2
                  · rcases hform with h3 | ⟨m, h3⟩
                    · injection h3 with h3
                      injection h3 with h3
                      injection h3 with e1 e2 e3
                      subst e1 e2 e3
                      exact h2
                    · injection h3 with h3
                      injection h3 with h3
                      cases h3
                obtain ⟨γ1, v, W', b, g1, g2, g3, g4, g5, g6, g7⟩ := appendRow (ty := ty) hT hR hd he hi hs hbase (new := botRows new) (A := A) (c := c) (us := us) (by rw [hbl]; exact hul) h1 (fun hne => hus (by rintro rfl; exact hne rfl)) (fun r hr => by
                    simp only [botRows, List.mem_map] at hr
                    obtain ⟨r0, h2, rfl⟩ := hr
                    simpa using hrl r0 h2) (fun j row f p u hj hf hu => by
                    obtain ⟨row0, p0, q1, q2, _, q3⟩ := botRows_get hj hf
                    have h2 := hrelC j row0 f p0 u q1 q2 hu
                    rcases q3 with rfl | ⟨rfl, q4⟩
                    · exact PRel.bot u h2.one
                    · exact h2.to q4) (by rw [hbl]; exact hroom.1) (by rw [hbl]; exact hroom.2)
                rw [hbl] at g1
                have hne : new ≠ [] := by rintro rfl; exact hnv0 (by simp [rowsNv])
                obtain ⟨g8, g9⟩ := g7 (by intro h2; exact hne (List.eq_nil_of_length_eq_zero (by rw [← hbl, h2]; rfl)))
                have hrows : ∀ (j : Nat) (r : List CV), (rowViews o i.zero.length 0 new)[j]? = some r → CsRel W' S γ1 r ((us.drop (j * i.zero.length)).take i.zero.length) := fun j r hj => by
                  obtain ⟨row, q1, rfl⟩ := rowViews_get hj
                  rw [Nat.zero_add]
                  have hjl := (List.getElem?_eq_some_iff.1 q1).1
                  have hrk := hrl row (List.mem_of_getElem? q1)
                  have hle : (j + 1) * i.zero.length ≤ us.length := by rw [hul]; exact Nat.mul_le_mul_right _ hjl
                  rw [Nat.add_mul, Nat.one_mul] at hle
                  have h2 : CsRel W S γ (peekH o 0 j i.zero.length [] 0 row) ((us.drop (j * i.zero.length)).take i.zero.length) := peekH_rel ⟨by simp; omega, fun f p u hf hu => by
                    rw [List.getElem?_take] at hu
                    split at hu
                    · rw [List.getElem?_drop] at hu
                      rw [Nat.zero_add]
                      exact hrelC j row f p u q1 hf hu
                    · cases hu⟩
                  have h3 := (h2.kill g5).mono g6.cells (fun _ h => h)
                  rwa [show (peekH o 0 j i.zero.length [] 0 row).map (CV.kill (.root d)) = peekH o 0 j i.zero.length [] 0 row from by
                    conv => rhs; rw [← List.map_id (peekH o 0 j i.zero.length [] 0 row)]
                    exact List.map_congr_left (fun c hc => peekH_kill hod hc)] at h3
                obtain ⟨γ2, f1, f2, f3, f4⟩ := movesR_ok (d := d) (k := i.zero.length) (rowViews o i.zero.length 0 new) old.length g2.core.mem reg_clear (fun r hr c hc => by
                    obtain ⟨j, hj⟩ := List.mem_iff_getElem?.1 hr
                    obtain ⟨row, q1, rfl⟩ := rowViews_get hj
                    exact kill_le (sub_root d) (peekH_kill hod hc)) (fun j => (us.drop ((j - old.length) * i.zero.length)).take i.zero.length) (fun j r hj => by
                      simp only [Nat.add_sub_cancel_left]
                      exact hrows j r hj) (fun j r q v' hj hq => by
                    simp only [Nat.add_sub_cancel_left] at hq
                    rw [List.getElem?_take] at hq
                    split at hq
                    · rw [List.getElem?_drop] at hq
                      rw [g4, g8, show (old.length + j) * i.zero.length + q = old.length * i.zero.length + (j * i.zero.length + q) by rw [Nat.add_mul]; omega]
                      exact g9 _ _ hq
                    · cases hq) hmv
                have hR2 := g2.move f1 f2 (fun x hx => reg_tmps hx)
                refine ⟨γ2, v, W', g1, ⟨hR2.core.less (del_less f1.regs o), hR2.defers, hR2.len, hR2.tmps⟩, (g3.trans f3).trans ((del_less f1.regs o).step γ2)⟩
              · cases h
          · cases h
        · cases h
    · cases h
  · cases h

/-! ### Maps -/
theorem makeMap_ok (hR : Rel T W0 M S0 S γ σ a W) {d : Nat} (hlt : d < 1000000) :
    ∃ γ', Rel T W0 M S0 S γ' (makeMapOp σ d) (a.put (some d) (.map (some W.heap.size))) (W.alloc (.map #[] 0)) ∧ Step γ γ' σ.mem (makeMapOp σ d).mem := by
  have hC := hR.core.killed (.root d)
  have hchg := Gh.setBase_chg γ d W.heap.size
  have hM1 := hC.mem.newMap hR.core.size hR.core.sfit (clear_kill _ _) (d := d)
  have hw := wrote_alloc hR.core (.map #[] 0)
  refine ⟨γ.setBase d W.heap.size, ⟨hC.wrote hM1 hw, hR.defers, by simp [makeMapOp, St.kill, hR.len, Act.put], tmps_put (tmps_kill hchg (fun j y u hj hu => (hR.tmps j y u hj hu).mono hw.cells (fun _ h => h))) ?_⟩, ?_⟩
  · show _ = _
    simp [Gh.setBase]
  · refine ((killM_less (κ := .root d) hR.core.mem.regs).step γ).trans ⟨fun i cs' hi hl => ?_, fun i p hi hl => ?_, fun i ks' cs' hi hl => ?_⟩
    · simp only [makeMapOp, St.kill] at hl
      rw [look_lay_other _ _ _ _ (by omega)] at hl
      exact ⟨⟨cs', hl⟩, if_neg (by omega)⟩
    · simp only [makeMapOp, St.kill] at hl
      rw [look_lay_other _ _ _ _ (by omega)] at hl
      exact ⟨⟨p, hl⟩, rfl⟩
    · simp only [makeMapOp, St.kill] at hl
      rw [look_lay_other _ _ _ _ (by omega)] at hl
      exact ⟨⟨ks', cs', hl⟩, if_neg (by omega)⟩
theorem toList_inj {a b : ByteArray} (h : a.toList = b.toList) : a = b := by
  rw [ByteArray.toList_eq, ByteArray.toList_eq] at h
  exact ByteArray.ext (Array.toList_inj.1 h)
theorem eqKey_same {kd : Option IntKind} {x k : Value} (hx : keyOK kd x = true) (hk : keyOK kd k = true) (h : eqKey x k = true) : x = k := by
  cases kd with
  | none =>
    cases x <;> simp only [keyOK] at hx <;> try (cases hx; done)
    cases k <;> simp only [keyOK] at hk <;> try (cases hk; done)
    rename_i a b
    simp only [eqKey, decide_eq_true_eq] at h
    rw [toList_inj h]
  | some kd =>
    cases x <;> simp only [keyOK] at hx <;> try (cases hx; done)
    cases k <;> simp only [keyOK] at hk <;> try (cases hk; done)
    simp only [decide_eq_true_eq] at hx hk
    subst hx hk
    simp only [eqKey, decide_eq_true_eq] at h
    rw [h]
theorem keysOf_get {kd : Option IntKind} : ∀ {ks : List Value} {j : Nat} {k : Value}, keysOf kd ks = true → ks[j]? = some k → keyOK kd k = true
  | [], j, k, _, h => by simp at h
  | x :: ks, j, k, h, hj => by
    simp only [keysOf, Bool.and_eq_true] at h
    cases j with
    | zero => simp at hj; subst hj; exact h.1
    | succ j => simp at hj; exact keysOf_get h.2 hj
theorem run_keyThatStays {kd : Option IntKind} {k : Value} (hk : keyOK kd k = true) (w : World) : (Instr.keyThatStays k k).run P w = .ok k w := by
  have : Instr.sameBits 10000 k k = true := by
    cases kd with
    | none => cases k <;> simp only [keyOK] at hk <;> first | (cases hk; done) | (simp [Instr.sameBits, beq_toListBytes])
    | some kd => cases k <;> simp only [keyOK] at hk <;> first | (cases hk; done) | (simp [Instr.sameBits])
  unfold Instr.keyThatStays
  rw [if_pos this]
  rfl
theorem run_putMap {w : World} {r c : Nat} {es : Array MapEntry} (h : w.heap[r]? = some (.map es c)) (B : Obj) : (setObj r B).run P w = .ok () (putBlock w r B) := by
  simp [setObj, Sem.run, putBlock, h]
theorem wrote_map (hM : MemOK W0 M S γ mem W) {b : Nat} {n : Node} (hn : Owns γ mem n b) (B : Obj) : Wrote M W0 S W (putBlock W b B) :=
  ⟨rfl, rfl, rfl, by simp [putBlock], fun k _ => (by
    by_cases hk : k = b
    · subst hk; exact .inr (hM.own n _ hn).1
    · exact .inl (putBlock_other W b k B hk)), fun a ha => putBlock_other W b _ B ((hM.own n b hn).2 a ha)⟩
theorem update_ok (hT : TabOK P T) (hR : Rel T W0 M S0 S γ σ a W) {t : TypeId} {m k x : TV} {vm vk v : Value} (hm : TRel W S γ m vm) (hk : TRel W S γ k vk) (hx : TRel W S γ x v) {σ' : St} (h : updateOp T σ t m k x = some σ') :
    ∃ W', (Instr.mapUpdate t vm vk v).run P W = .ok () W' ∧ Rel T W0 M S0 S γ σ' a W' ∧ Step γ γ σ.mem σ'.mem := by
  unfold updateOp at h
  split at h
  · cases h
  rename_i kd z hmt
  split at h
  case h_2 => cases h
  rename_i o kv c hkf
  have := hk.flat hkf
  subst this
  split at h
  case h_2 => cases h
  rename_i ks cs hl
  split at h
  case isFalse => cases h
  rename_i hc
  obtain ⟨hkv, hks, hnv⟩ := hc
  injection h with h; subst h
  obtain ⟨kt, e, info, hu, hkt, _⟩ := hT.mapT t kd z hmt
  have hv : vm = .map (some (γ.base o)) := hm
  subst hv
  have hcv : CRel W S γ c v := hx
  obtain ⟨es, g1, g2, g3, g4, g5⟩ := hR.core.mem.maps o ks cs hl
  subst g2
  have hown : Owns γ σ.mem (.root o) (γ.base o) := ⟨.inr ⟨_, cs, hl⟩, rfl⟩
  have hf := run_findKey hkt hkv hks (P := P) W
  -- what is put
  have key : ∃ es' : Array MapEntry, (Instr.mapUpdate t (.map (some (γ.base o))) vk v).run P W = .ok () (putBlock W (γ.base o) (.map es' es'.size)) ∧ es'.toList.map (·.key) = insK vk (es.toList.map (·.key)) (findK vk (es.toList.map (·.key))) ∧
      (insC c cs (findK vk (es.toList.map (·.key)))).length = es'.size ∧ (∀ (i : Nat) (e : MapEntry), es'[i]? = some e → e.born = i ∧ e.val.oneCell' = true) ∧
      ∀ (i : Nat) (c' : CV) (e : MapEntry), (insC c cs (findK vk (es.toList.map (·.key))))[i]? = some c' → es'[i]? = some e → CRel W S γ c' e.val := by
    cases hfk : findK vk (es.toList.map (·.key)) with
    | none =>
      simp only [hfk] at hf
      refine ⟨es.push { key := vk, val := v, born := es.size }, ?_, by simp [insK], by simp [insC, g3], fun i e hi => ?_, fun i c' e hi he => ?_⟩
      · simp [Instr.mapUpdate, run_und hu, run_getMap g1, run_checkKey hkt hkv, hf, run_putMap g1]
      · rw [Array.getElem?_push] at hi
        split at hi
        · rename_i hi'; injection hi with hi; subst hi; exact ⟨hi'.symm, hcv.one⟩
        · exact g4 i e hi
      · simp only [insC] at hi
        rw [Array.getElem?_push] at he
        split at he
        · rename_i hi'
          injection he with he
          subst he
          rw [hi', List.getElem?_append_right (by omega), g3] at hi
          simp at hi
          subst hi
          exact hcv
        · rename_i hi'
          have hlt := (Array.getElem?_eq_some_iff.1 he).1
          rw [List.getElem?_append_left (by omega)] at hi
          exact g5 i c' e hi he
    | some j =>
      have hj : j < es.size := by simpa using findK_lt hfk
      have he : es[j]? = some es[j] := Array.getElem?_eq_getElem hj
      have hkj : vk = es[j].key := by
        obtain ⟨k0, h1, h2⟩ := findK_eq hfk
        have h3 : (es.toList.map (·.key))[j]? = some es[j].key := by simp [hj]
        rw [h3] at h1
        injection h1 with h1
        subst h1
        exact eqKey_same hkv (keysOf_get hks h3) h2
      simp only [hfk, Array.getElem?_toList, he, Option.map_some] at hf
      have hmod : ∀ f : MapEntry → MapEntry, (es.modify j f).size = es.size := fun f => by simp
      have hget : ∀ (i : Nat), (es.modify j fun e => { e with key := vk, val := v })[i]? = if j = i then some { es[j] with key := vk, val := v } else es[i]? := fun i => by
        rw [Array.getElem?_modify]
        split
        · rename_i e; subst e; rw [he]; rfl
        · rfl
      refine ⟨es.modify j fun e => { e with key := vk, val := v }, ?_, ?_, by simp [insC, g3], fun i e hi => ?_, fun i c' e hi he' => ?_⟩
      · simp only [hmod]
        have hst := run_keyThatStays (P := P) hkv W
        simp [Instr.mapUpdate, run_und hu, run_getMap g1, run_checkKey hkt hkv, hf, he, ← hkj, hst, run_putMap g1]
      · simp only [insK]
        apply List.ext_getElem?
        intro i
        simp only [List.getElem?_map, Array.getElem?_toList, hget]
        by_cases hji : j = i
        · subst hji; simp [he, hkj]
        · simp [hji]
      · rw [hget] at hi
        split at hi
        · rename_i e'
          subst e'
          injection hi with hi
          subst hi
          exact ⟨(g4 j _ he).1, hcv.one⟩
        · exact g4 i e hi
      · simp only [insC] at hi
        rw [hget] at he'
        rw [List.getElem?_set] at hi
        split at hi
        · rename_i e'
          subst e'
          rw [if_pos rfl] at he'
          injection he' with he'
          subst he'
          split at hi
          · injection hi with hi; subst hi; exact hcv
          · cases hi
        · rename_i hne
          rw [if_neg hne] at he'
          exact g5 i c' e hi he'
  obtain ⟨es', h1, h2, h3, h4, h5⟩ := key
  have hM' := hR.core.mem.writeMap hl h2 h3 h4 h5
  have hw := wrote_map hR.core.mem hown (.map es' es'.size)
  refine ⟨_, h1, ⟨hR.core.wrote hM' hw, hR.defers, hR.len, fun i y u hy hu => (hR.tmps i y u hy hu).mono hw.cells (fun _ h => h)⟩, fun i cs' hi hl' => ?_, fun i p hi hl' => ?_, fun i ks' cs' hi hl' => ?_⟩
  · by_cases hio : i = o
    · subst hio; rw [look_lay_same] at hl'; cases hl'
    · rw [look_lay_other _ _ _ _ hio] at hl'; exact ⟨⟨cs', hl'⟩, rfl⟩
  · by_cases hio : i = o
    · subst hio; rw [look_lay_same] at hl'; cases hl'
    · rw [look_lay_other _ _ _ _ hio] at hl'; exact ⟨⟨p, hl'⟩, rfl⟩
  · by_cases hio : i = o
    · subst hio; exact ⟨⟨_, cs, hl⟩, rfl⟩
    · rw [look_lay_other _ _ _ _ hio] at hl'; exact ⟨⟨ks', cs', hl'⟩, rfl⟩
end
end Go.Ew
end
section
/- Other numbers for what is a call's own; what a function does, as a statement. -/
namespace Go.Ew

def Cap.re (f : Nat → Option Nat) : Cap → Option Cap
  | .p x => some (.p x)
  | .r o => match f o with
    | some o' => some (.r o')
    | none => none
def caps_re (f : Nat → Option Nat) : List Cap → Option (List Cap)
  | [] => some []
  | c :: cs => match c.re f, caps_re f cs with
    | some d, some ds => some (d :: ds)
    | _, _ => none
def CV.re (f : Nat → Option Nat) : CV → CV
  | .c p => .c p
  | .ptr o off π => match f o with
    | some o' => .ptr o' off π
    | none => .bot
  | .view o off π => match f o with
    | some o' => .view o' off π
    | none => .bot
  | .pre o off π n => match f o with
    | some o' => .pre o' off π n
    | none => .bot
  | .clo g cap => match caps_re f cap with
    | some cap' => .clo g cap'
    | none => .bot
  | .mp o => match f o with
    | some o' => .mp o'
    | none => .bot
def UV.re (f : Nat → Option Nat) : UV → UV
  | .one c => .one (c.re f)
  | .agg cs => .agg (cs.map (CV.re f))
def TV.re (f : Nat → Option Nat) : TV → TV
  | .bot => .bot
  | .u x => .u (x.re f)
  | .tup xs => .tup (xs.map (UV.re f))
  | .w g x => .w g (x.re f)
def MC.re (f : Nat → Option Nat) : MC → MC
  | .obj cs => .obj (cs.map (CV.re f))
  | .map ks cs => .map ks (cs.map (CV.re f))
  | m => m

/-- Ghosts that agree by these numbers. -/
def Via (f : Nat → Option Nat) (γ γ' : Gh) : Prop := ∀ i i', f i = some i' → γ'.base i' = γ.base i ∧ ∀ off π, γ'.hd i' off π = γ.hd i off π

section
variable {W W' : World} {S S' : Addr → Prop} {γ γ' : Gh} {f : Nat → Option Nat}
theorem caps_re_get : ∀ {cs ds : List Cap}, caps_re f cs = some ds → ds.length = cs.length ∧ ∀ (i : Nat) (d : Cap), ds[i]? = some d → ∃ c, cs[i]? = some c ∧ c.re f = some d
  | [], ds, h => by simp only [caps_re, Option.some.injEq] at h; subst h; exact ⟨rfl, fun i d hd => by simp at hd⟩
  | c :: cs, ds, h => by
    unfold caps_re at h
    split at h
    · rename_i d ds' hd hds
      injection h with h
      subst h
      obtain ⟨h1, h2⟩ := caps_re_get hds
      refine ⟨by simp [h1], fun i e he => ?_⟩
      cases i with
      | zero => simp at he; subst he; exact ⟨c, rfl, hd⟩
      | succ i => simp at he; simpa using h2 i e he
    · cases h
theorem CRel.re (hv : Via f γ γ') {c : CV} {v : Value} (h : CRel W S γ c v) : CRel W S γ' (c.re f) v := by
  cases c with
  | c p => exact h
  | ptr o off π =>
    simp only [CV.re]
    split
    · rename_i o' ho
      have h1 : v = .pointer (some (γ.addr o off π)) := h
      show v = _
      rw [h1]
      cases π with
      | nil => simp only [Gh.addr, (hv o o' ho).1]
      | cons s π => obtain ⟨i, k, g⟩ := s; simp only [Gh.addr, (hv o o' ho).2]
    · exact bot_rel h.one
  | view o off π =>
    simp only [CV.re]
    split
    · rename_i o' ho
      exact ⟨by rw [(hv o o' ho).2]; exact h.1, h.2⟩
    · exact bot_rel h.one
  | pre o off π n =>
    simp only [CV.re]
    split
    · rename_i o' ho
      obtain ⟨A, m, c, h1, h2, h3⟩ := h
      exact ⟨A, m, c, by rw [(hv o o' ho).2]; exact h1, h2, h3⟩
    · exact bot_rel h.one
  | clo g cap =>
    simp only [CV.re]
    split
    · rename_i cap' hc
      obtain ⟨vs, h1, h2, h3⟩ := h
      obtain ⟨h4, h5⟩ := caps_re_get hc
      refine ⟨vs, h1, by omega, fun i x u hx hu => ?_⟩
      obtain ⟨c, h6, h7⟩ := h5 i x hx
      have h8 := h3 i c u h6 hu
      cases c with
      | p y => simp only [Cap.re, Option.some.injEq] at h7; subst h7; exact h8
      | r o =>
        simp only [Cap.re] at h7
        split at h7
        · rename_i o' ho
          injection h7 with h7
          subst h7
          show u = _
          rw [(hv o o' ho).1]; exact h8
        · cases h7
    · exact bot_rel h.one
  | mp o =>
    simp only [CV.re]
    split
    · rename_i o' ho
      have h1 : v = .map (some (γ.base o)) := h
      show v = _
      rw [h1, (hv o o' ho).1]
    · exact bot_rel h.one
theorem CsRel.re (hv : Via f γ γ') {cs : List CV} {vs : List Value} (h : CsRel W S γ cs vs) : CsRel W S γ' (cs.map (CV.re f)) vs := by
  refine ⟨by simp [h.1], fun i c v hc hv' => ?_⟩
  rw [List.getElem?_map] at hc
  obtain ⟨c0, h0, rfl⟩ := Option.map_eq_some_iff.1 hc
  exact (h.2 i c0 v h0 hv').re hv
theorem URel.re (hv : Via f γ γ') {x : UV} {v : Value} (h : URel W S γ x v) : URel W S γ' (x.re f) v := by
  cases x with
  | one c => exact CRel.re hv h
  | agg cs => obtain ⟨vs, rfl, hs⟩ := h; exact ⟨vs, rfl, hs.re hv⟩
theorem TRel.re (hv : Via f γ γ') {x : TV} {v : Value} (h : TRel W S γ x v) : TRel W S γ' (x.re f) v := by
  cases x with
  | bot => trivial
  | u x => exact URel.re hv h
  | tup xs =>
    obtain ⟨vs, rfl, hl, hr⟩ := h
    refine ⟨vs, rfl, by simp [hl], fun i x y hx hy => ?_⟩
    rw [List.getElem?_map] at hx
    obtain ⟨x0, h0, rfl⟩ := Option.map_eq_some_iff.1 hx
    exact URel.re hv (hr i x0 y h0 hy)
  | w g x => exact ⟨fun hg => URel.re hv (h.1 hg), h.2⟩
theorem RootOK.re (hv : Via f γ γ') {o o' off : Nat} (ho : f o = some o') {c : CV} {u : Value} (h : RootOK W S γ o off c u) : RootOK W S γ' o' off (c.re f) u := by
  cases c with
  | c p =>
    cases p with
    | vec k es => exact ⟨by rw [(hv o o' ho).2]; exact h.1, h.2⟩
    | _ => exact h
  | _ =>
    simp only [RootOK] at h
    exact RootOK.of (CRel.re hv h)
end

/-- Pairs: a new number and what had which number before. -/
def toNew : List (Nat × Nat) → Nat → Option Nat
  | [], _ => none
  | (n, o) :: r, i => if o = i then some n else toNew r i
def toOld : List (Nat × Nat) → Nat → Nat
  | [], _ => 0
  | (n, o) :: r, i => if n = i then o else toOld r i
theorem toNew_mem {l : List (Nat × Nat)} {i n : Nat} (h : toNew l i = some n) : (n, i) ∈ l := by
  induction l with
  | nil => cases h
  | cons x r ih =>
    obtain ⟨a, b⟩ := x
    simp only [toNew] at h
    split at h
    · rename_i hb; injection h with h; subst hb h; exact List.mem_cons_self
    · exact List.mem_cons_of_mem _ (ih h)
theorem toOld_mem {l : List (Nat × Nat)} (hk : (l.map (·.1)).Nodup) {n o : Nat} (h : (n, o) ∈ l) : toOld l n = o := by
  induction l with
  | nil => cases h
  | cons x r ih =>
    obtain ⟨a, b⟩ := x
    simp only [toOld]
    simp only [List.map_cons, List.nodup_cons] at hk
    rcases List.mem_cons.1 h with h1 | h1
    · injection h1 with h1 h2; subst h1 h2; simp
    · split
      · rename_i hb
        subst hb
        exact absurd (List.mem_map.2 ⟨_, h1, rfl⟩) hk.1
      · exact ih hk.2 h1
theorem toNew_some {l : List (Nat × Nat)} (ho : (l.map (·.2)).Nodup) {n o : Nat} (h : (n, o) ∈ l) : toNew l o = some n := by
  induction l with
  | nil => cases h
  | cons x r ih =>
    obtain ⟨a, b⟩ := x
    simp only [toNew]
    simp only [List.map_cons, List.nodup_cons] at ho
    rcases List.mem_cons.1 h with h1 | h1
    · injection h1 with h1 h2; subst h1 h2; simp
    · split
      · rename_i hb
        subst hb
        exact absurd (List.mem_map.2 ⟨_, h1, rfl⟩) ho.1
      · exact ih ho.2 h1
theorem toNew_none {l : List (Nat × Nat)} {o : Nat} (h : toNew l o = none) (n : Nat) : (n, o) ∉ l := fun hm => by
  induction l with
  | nil => cases hm
  | cons x r ih =>
    obtain ⟨a, b⟩ := x
    simp only [toNew] at h
    split at h
    · cases h
    · rename_i hb
      rcases List.mem_cons.1 hm with h1 | h1
      · injection h1 with h1 h2; exact hb h2.symm
      · exact ih h h1
theorem key_old {l : List (Nat × Nat)} (ho : (l.map (·.2)).Nodup) {n n' o : Nat} (h : (n, o) ∈ l) (h' : (n', o) ∈ l) : n = n' := by
  have h1 := toNew_some ho h
  have h2 := toNew_some ho h'
  rw [h1] at h2; injection h2
/-- What lies there, by the new numbers. -/
def view (l : List (Nat × Nat)) (mem : List (Nat × MC)) : List (Nat × MC) := l.map fun x => (x.1, (look mem x.2).re (toNew l))
theorem look_view {l : List (Nat × Nat)} {mem : List (Nat × MC)} (hk : (l.map (·.1)).Nodup) {i : Nat} (h : look (view l mem) i ≠ .no) : (i, toOld l i) ∈ l ∧ look (view l mem) i = (look mem (toOld l i)).re (toNew l) := by
  have key : ∀ (g : Nat × Nat → MC) (r : List (Nat × Nat)), look (r.map fun x => (x.1, g x)) i = .no ∨ ∃ o, (i, o) ∈ r ∧ look (r.map fun x => (x.1, g x)) i = g (i, o) := fun g r => by
    induction r with
    | nil => exact .inl rfl
    | cons x r ih =>
      obtain ⟨a, b⟩ := x
      simp only [List.map_cons, look]
      split
      · rename_i h; subst h; exact .inr ⟨b, List.mem_cons_self, rfl⟩
      · rcases ih with h | ⟨o, h1, h2⟩
        · exact .inl h
        · exact .inr ⟨o, List.mem_cons_of_mem _ h1, h2⟩
  rcases key (fun x => (look mem x.2).re (toNew l)) l with h1 | ⟨o, h1, h2⟩
  · exact absurd h1 h
  · have := toOld_mem hk h1
    rw [this]
    exact ⟨h1, h2⟩
theorem MC.re_obj {f : Nat → Option Nat} {m : MC} {cs : List CV} (h : m.re f = .obj cs) : ∃ cs0, m = .obj cs0 ∧ cs = cs0.map (CV.re f) := by cases m <;> simp [MC.re] at h; exact ⟨_, rfl, h.symm⟩
theorem MC.re_map {f : Nat → Option Nat} {m : MC} {ks : List Value} {cs : List CV} (h : m.re f = .map ks cs) : ∃ cs0, m = .map ks cs0 ∧ cs = cs0.map (CV.re f) := by
  cases m <;> simp [MC.re] at h
  obtain ⟨rfl, rfl⟩ := h
  exact ⟨_, rfl, rfl⟩
theorem MC.re_reg {f : Nat → Option Nat} {m : MC} {p : PV} (h : m.re f = .reg p) : m = .reg p := by cases m <;> simp [MC.re] at h; rw [h]
theorem re_c {f : Nat → Option Nat} {c : CV} {p : PV} (h : c.re f = .c p) : p = .bot ∨ c = .c p := by
  cases c with
  | c q => exact .inr h
  | clo g cap => simp only [CV.re] at h; split at h <;> first | (injection h with h; exact .inl h.symm) | cases h
  | mp o => simp only [CV.re] at h; split at h <;> first | (injection h with h; exact .inl h.symm) | cases h
  | ptr o off π => simp only [CV.re] at h; split at h <;> first | (injection h with h; exact .inl h.symm) | cases h
  | view o off π => simp only [CV.re] at h; split at h <;> first | (injection h with h; exact .inl h.symm) | cases h
  | pre o off π n => simp only [CV.re] at h; split at h <;> first | (injection h with h; exact .inl h.symm) | cases h
theorem cellAt_re {f : Nat → Option Nat} {m : MC} {off : Nat} {p : PV} (h : cellAt (m.re f) off = some p) (hn : p.nv = false) : cellAt m off = some p := by
  cases m with
  | no => exact h
  | reg q => exact h
  | map ks cs => exact h
  | obj cs =>
    simp only [MC.re, cellAt, List.getElem?_map] at h ⊢
    cases hc : cs[off]? with
    | none => rw [hc] at h; simp at h
    | some c =>
      rw [hc] at h
      simp only [Option.map_some] at h
      split at h
      · rename_i q hq
        injection h with h
        subst h
        simp only [Option.some.injEq] at hq
        rcases re_c hq with rfl | rfl
        · simp [PV.nv] at hn
        · rfl
      · cases h
theorem at_view {l : List (Nat × Nat)} {mem : List (Nat × MC)} (hk : (l.map (·.1)).Nodup) {i off : Nat} {π : Path} {k : Nat} {es : List (List PV)} (h : at_ (view l mem) i off π = some (.vec k es)) : (i, toOld l i) ∈ l ∧ at_ mem (toOld l i) off π = some (.vec k es) := by
  have hne : look (view l mem) i ≠ .no := by intro h'; unfold Ew.at_ at h; rw [h'] at h; simp [cellAt] at h
  obtain ⟨h1, h2⟩ := look_view hk hne
  refine ⟨h1, ?_⟩
  unfold Ew.at_ at h ⊢
  rw [h2] at h
  split at h
  · rename_i p hp
    have hn : p.nv = false := by
      cases p with
      | vec _ _ => rfl
      | _ =>
        have := down_nv rfl h
        subst this
        simp [PV.down] at h
    rw [cellAt_re hp hn]
    exact h
  · cases h

def Gh.via (γ : Gh) (g : Nat → Nat) : Gh := ⟨fun i => γ.base (g i), fun i => γ.hd (g i)⟩
theorem via_view {l : List (Nat × Nat)} (hk : (l.map (·.1)).Nodup) (γ : Gh) : Via (toNew l) γ (γ.via (toOld l)) := fun i i' h => by
  have := toOld_mem hk (toNew_mem h)
  exact ⟨by simp [Gh.via, this], fun off π => by simp [Gh.via, this]⟩

def blk (γ : Gh) (mem : List (Nat × MC)) (b : Nat) : Prop := ∃ n, Owns γ mem n b
def Node.via (g : Nat → Nat) : Node → Node
  | .root o => .root (g o)
  | .at_ o off π => .at_ (g o) off π
section
variable {T : Tab} {W0 W : World} {M : Nat → Prop} {S0 S : Addr → Prop} {γ γ' : Gh} {mem mem' : List (Nat × MC)} {l : List (Nat × Nat)}
theorem owns_view (hk : (l.map (·.1)).Nodup) {n : Node} {b : Nat} (h : Owns (γ.via (toOld l)) (view l mem) n b) : Owns γ mem (n.via (toOld l)) b ∧ ∃ i, (n = .root i ∨ ∃ off π, n = .at_ i off π) ∧ (i, toOld l i) ∈ l := by
  cases n with
  | root i =>
    obtain ⟨⟨cs, hc⟩ | ⟨ks, cs, hc⟩, hb⟩ := h
    · obtain ⟨h1, h2⟩ := look_view hk (i := i) (mem := mem) (by rw [hc]; simp)
      rw [hc] at h2
      obtain ⟨cs0, h3, _⟩ := MC.re_obj h2.symm
      exact ⟨⟨.inl ⟨cs0, h3⟩, hb⟩, i, .inl rfl, h1⟩
    · obtain ⟨h1, h2⟩ := look_view hk (i := i) (mem := mem) (by rw [hc]; simp)
      rw [hc] at h2
      obtain ⟨cs0, h3, _⟩ := MC.re_map h2.symm
      exact ⟨⟨.inr ⟨ks, cs0, h3⟩, hb⟩, i, .inl rfl, h1⟩
  | at_ i off π =>
    obtain ⟨⟨k, es, hc⟩, hb⟩ := h
    obtain ⟨h1, h2⟩ := at_view hk hc
    exact ⟨⟨⟨k, es, h2⟩, hb⟩, i, .inr ⟨off, π, rfl⟩, h1⟩
theorem MemOK.view (h : MemOK W0 M S γ mem W) (hk : (l.map (·.1)).Nodup) (ho : (l.map (·.2)).Nodup) : MemOK W0 M S (γ.via (toOld l)) (view l mem) W := by
  refine ⟨fun i cs hi => ?_, fun i ks cs hi => ?_, fun i off π k es ha => ?_, fun i q hq => ?_, fun n b hn => h.own _ b (owns_view hk hn).1, fun n n' b hn hn' => ?_⟩
  · obtain ⟨h1, h2⟩ := look_view hk (i := i) (mem := mem) (by rw [hi]; simp)
    rw [hi] at h2
    obtain ⟨cs0, h3, rfl⟩ := MC.re_obj h2.symm
    obtain ⟨C, t, h4, h5, h6⟩ := h.objs _ cs0 h3
    refine ⟨C, t, h4, by simpa using h5, fun off c u hc hu => ?_⟩
    rw [List.getElem?_map] at hc
    obtain ⟨c0, h7, rfl⟩ := Option.map_eq_some_iff.1 hc
    exact RootOK.re (via_view hk γ) (toNew_some ho h1) (h6 off c0 u h7 hu)
  · obtain ⟨h1, h2⟩ := look_view hk (i := i) (mem := mem) (by rw [hi]; simp)
    rw [hi] at h2
    obtain ⟨cs0, h3, rfl⟩ := MC.re_map h2.symm
    obtain ⟨es, g1, g2, g3, g4, g5⟩ := h.maps _ ks cs0 h3
    refine ⟨es, g1, g2, by simpa using g3, g4, fun j c e hc he => ?_⟩
    rw [List.getElem?_map] at hc
    obtain ⟨c0, h7, rfl⟩ := Option.map_eq_some_iff.1 hc
    exact (g5 j c0 e h7 he).re (via_view hk γ)
  · obtain ⟨h1, h2⟩ := at_view hk ha
    obtain ⟨v0, v1, v2⟩ := h.vecs _ off π k es h2
    refine ⟨v0, v1, ?_⟩
    rcases v2 with v2 | ⟨b, cap, w1, w2, w3, w4, cur, t, w5, w6, w7⟩
    · exact .inl v2
    · refine .inr ⟨b, cap, w1, w2, w3, w4, cur, t, w5, w6, fun j row f x u hj hf hu => ?_⟩
      have := w7 j row f x u hj hf hu
      cases x <;> exact this
  · obtain ⟨_, h2⟩ := look_view hk (i := i) (mem := mem) (by rw [hq]; simp)
    rw [hq] at h2
    exact h.regs _ q (MC.re_reg h2.symm)
  · obtain ⟨g1, i, g2, g3⟩ := owns_view hk hn
    obtain ⟨g4, i', g5, g6⟩ := owns_view hk hn'
    have := h.inj _ _ b g1 g4
    rcases g2 with rfl | ⟨off, π, rfl⟩ <;> rcases g5 with rfl | ⟨off', π', rfl⟩ <;> simp only [Node.via] at this
    · injection this with this
      rw [← this] at g6
      rw [key_old ho g3 g6]
    · cases this
    · cases this
    · injection this with e1 e2 e3
      rw [← e1] at g6
      subst e2 e3
      rw [key_old ho g3 g6]
/-- The same from here on. -/
theorem Core.start (h : Core T W0 M S0 S γ mem W) (hm : MemOK W0 M S γ' mem' W) : Core T W (blk γ' mem') S S γ' mem' W :=
  ⟨rfl, rfl, rfl, Nat.le_refl _, fun _ _ _ => rfl, fun _ h => h, fun _ _ => rfl, h.sfit, h.glob, fun _ h => .inl h,
    ⟨hm.objs, hm.maps, hm.vecs, hm.regs, fun n b hn => ⟨.inr ⟨n, hn⟩, (hm.own n b hn).2⟩, hm.inj⟩⟩
theorem MemOK.M_of (h : MemOK W0 M S γ mem W) {b : Nat} (hb : blk γ mem b) : W0.heap.size ≤ b ∨ M b := by obtain ⟨n, hn⟩ := hb; exact (h.own n b hn).1
end

/-! ### What a function does -/
inductive Fin where
  | ret (r : TV)
  | pan (x : Value)
def endOK (W : World) (S : Addr → Prop) (γ : Gh) : Fin → Ending → Prop
  | .ret r, e => ∃ v, e = .returned v ∧ TRel W S γ r v
  | .pan x, e => e = .panicked [{ v := x, recovered := false }]
def ArgsRel (W : World) (S : Addr → Prop) (γ : Gh) (xs : List TV) (vals : Array Value) : Prop :=
  xs.length = vals.size ∧ ∀ (j : Nat) (x : TV) (v : Value), xs[j]? = some x → vals[j]? = some v → TRel W S γ x v
/-- What was handed over lies where it lay. -/
def Same (γ γ' : Gh) (mem mem' : List (Nat × MC)) : Prop :=
  (∀ i cs cs', look mem i = .obj cs → look mem' i = .obj cs' → γ'.base i = γ.base i) ∧ (∀ i p p', look mem i = .reg p → look mem' i = .reg p' → γ'.hd i 0 [] = γ.hd i 0 []) ∧
  (∀ i cs p', look mem i = .obj cs → look mem' i ≠ .reg p') ∧ (∀ i p cs', look mem i = .reg p → look mem' i ≠ .obj cs') ∧
  (∀ i ks cs ks' cs', look mem i = .map ks cs → look mem' i = .map ks' cs' → γ'.base i = γ.base i) ∧
  (∀ i, (∃ ks cs, look mem i = .map ks cs) ∧ look mem' i ≠ .no ∨ look mem i ≠ .no ∧ (∃ ks cs, look mem' i = .map ks cs) → (∃ ks cs, look mem i = .map ks cs) ∧ (∃ ks cs, look mem' i = .map ks cs))
/-- A function that has a body. -/
def Has (P : Program) (f : FuncId) : Prop := ∃ fn c, P.funcs[f]? = some fn ∧ (fn.name == "runtime.NumGoroutine") = false ∧ fn.body = some c
/-- A call of f with these arguments, where the memory of these roots holds this, ends so and leaves the roots so. -/
def Meets (P : Program) (T : Tab) (f : FuncId) (xs : List TV) (mem : List (Nat × MC)) (e : Fin) (mem' : List (Nat × MC)) : Prop :=
  Has P f ∧ ∀ (W : World) (S : Addr → Prop) (γ : Gh) (vals : Array Value), Core T W (blk γ mem) S S γ mem W → ArgsRel W S γ xs vals →
    Calls P f vals W fun en W' => ∃ S' γ', endOK W' S' γ' e en ∧ Core T W (blk γ mem) S S' γ' mem' W' ∧ Same γ γ' mem mem'
end Go.Ew
end
section
/- The caller's state behind a call. -/
namespace Go.Ew

def span : Nat := 10000000
def inRange (C i : Nat) : Bool := decide (C ≤ i) && decide (i < C + span)
def isKey : List (Nat × Nat) → Nat → Bool
  | [], _ => false
  | (n, _) :: r, j => n == j || isKey r j
/-- What the callee's numbers are here. -/
def back (C : Nat) (l : List (Nat × Nat)) (j : Nat) : Option Nat := if isKey l j then some (toOld l j) else if j < span then some (C + j) else none
def MC.isObj : MC → Bool
  | .obj _ => true
  | _ => false
def MC.isReg : MC → Bool
  | .reg _ => true
  | _ => false
def MC.isMap : MC → Bool
  | .map _ _ => true
  | _ => false
def aliveM (C : Nat) (l : List (Nat × Nat)) (mem mem' : List (Nat × MC)) (o : Nat) : Bool := !inRange C o && match toNew l o with
  | none => true
  | some q => (look mem o).isMap && (look mem' q).isMap
def aliveO (C : Nat) (l : List (Nat × Nat)) (mem mem' : List (Nat × MC)) (o : Nat) : Bool := !inRange C o && match toNew l o with
  | none => true
  | some q => (look mem o).isObj && (look mem' q).isObj
def aliveR (C : Nat) (l : List (Nat × Nat)) (mem mem' : List (Nat × MC)) (o off : Nat) : Bool := !inRange C o && match toNew l o with
  | none => true
  | some q => off == 0 && ((look mem o).isReg && (look mem' q).isReg)
def aliveP (C : Nat) (l : List (Nat × Nat)) (o : Nat) : Bool := !inRange C o && (toNew l o).isNone
def Cap.alive (C : Nat) (l : List (Nat × Nat)) (mem mem' : List (Nat × MC)) : Cap → Bool
  | .p _ => true
  | .r o => aliveO C l mem mem' o
def CV.keep (C : Nat) (l : List (Nat × Nat)) (mem mem' : List (Nat × MC)) : CV → CV
  | .c p => .c p
  | .ptr o off [] => if aliveO C l mem mem' o then .ptr o off [] else .bot
  | .ptr o off (s :: π) => if aliveP C l o then .ptr o off (s :: π) else .bot
  | .view o off [] => if aliveR C l mem mem' o off then .view o off [] else .bot
  | .view o off (s :: π) => if aliveP C l o then .view o off (s :: π) else .bot
  | .pre o off [] n => if aliveR C l mem mem' o off then .pre o off [] n else .bot
  | .pre o off (s :: π) n => if aliveP C l o then .pre o off (s :: π) n else .bot
  | .clo f cap => if cap.all (Cap.alive C l mem mem') then .clo f cap else .bot
  | .mp o => if aliveM C l mem mem' o then .mp o else .bot
def UV.keep (C : Nat) (l : List (Nat × Nat)) (mem mem' : List (Nat × MC)) : UV → UV
  | .one c => .one (c.keep C l mem mem')
  | .agg cs => .agg (cs.map (CV.keep C l mem mem'))
def TV.keep (C : Nat) (l : List (Nat × Nat)) (mem mem' : List (Nat × MC)) : TV → TV
  | .bot => .bot
  | .u x => .u (x.keep C l mem mem')
  | .tup xs => .tup (xs.map (UV.keep C l mem mem'))
  | .w g x => .w g (x.keep C l mem mem')
def MC.keep (C : Nat) (l : List (Nat × Nat)) (mem mem' : List (Nat × MC)) : MC → MC
  | .obj cs => .obj (cs.map (CV.keep C l mem mem'))
  | .map ks cs => .map ks (cs.map (CV.keep C l mem mem'))
  | m => m
def stays (C : Nat) (l : List (Nat × Nat)) (k : Nat) : Bool := (toNew l k).isNone && !inRange C k
def newPart (C : Nat) (l : List (Nat × Nat)) (mem' : List (Nat × MC)) : List (Nat × MC) := mem'.map fun x => ((back C l x.1).getD 0, x.2.re (back C l))
def oldPart (C : Nat) (l : List (Nat × Nat)) (mem mem' : List (Nat × MC)) : List (Nat × MC) := (mem.filter fun x => stays C l x.1).map fun x => (x.1, x.2.keep C l mem mem')
def afterMem (C : Nat) (l : List (Nat × Nat)) (mem mem' : List (Nat × MC)) : List (Nat × MC) := newPart C l mem' ++ oldPart C l mem mem'

theorem isKey_iff {l : List (Nat × Nat)} {j : Nat} : isKey l j = true ↔ ∃ o, (j, o) ∈ l := by
  induction l with
  | nil => simp [isKey]
  | cons x r ih =>
    obtain ⟨a, b⟩ := x
    simp only [isKey, Bool.or_eq_true, beq_iff_eq, ih, List.mem_cons, Prod.mk.injEq]
    constructor
    · rintro (rfl | ⟨o, h⟩)
      · exact ⟨b, .inl ⟨rfl, rfl⟩⟩
      · exact ⟨o, .inr h⟩
    · rintro ⟨o, ⟨h, _⟩ | h⟩
      · exact .inl h.symm
      · exact .inr ⟨o, h⟩
theorem look_append (a b : List (Nat × MC)) (i : Nat) : look (a ++ b) i = if (a.map (·.1)).contains i then look a i else look b i := by
  induction a with
  | nil => simp
  | cons x r ih =>
    obtain ⟨k, m⟩ := x
    by_cases h : k = i
    · subst h; simp [look]
    · simp only [List.cons_append, look, if_neg h, List.map_cons, List.contains_cons]
      rw [ih]
      have : (i == k) = false := by simp; exact fun e => h e.symm
      rw [this]; rfl
theorem look_mem {l : List (Nat × MC)} {i : Nat} (h : look l i ≠ .no) : (i, look l i) ∈ l := by
  induction l with
  | nil => exact absurd rfl h
  | cons x r ih =>
    obtain ⟨k, m⟩ := x
    by_cases hk : k = i
    · subst hk; simp [look]
    · simp only [look, if_neg hk] at h ⊢
      exact List.mem_cons_of_mem _ (ih h)
theorem look_of_mem {l : List (Nat × MC)} (hk : (l.map (·.1)).Nodup) {i : Nat} {m : MC} (h : (i, m) ∈ l) : look l i = m := by
  induction l with
  | nil => cases h
  | cons x r ih =>
    obtain ⟨k, y⟩ := x
    simp only [List.map_cons, List.nodup_cons] at hk
    rcases List.mem_cons.1 h with h1 | h1
    · injection h1 with h1 h2; subst h1 h2; simp [look]
    · simp only [look]
      split
      · rename_i e; subst e; exact absurd (List.mem_map.2 ⟨_, h1, rfl⟩) hk.1
      · exact ih hk.2 h1
theorem look_old (C : Nat) (l : List (Nat × Nat)) (g : MC → MC) (hg : g .no = .no) : ∀ (mem : List (Nat × MC)) (i : Nat), look ((mem.filter fun x => stays C l x.1).map fun x => (x.1, g x.2)) i = if stays C l i then g (look mem i) else .no
  | [], i => by simp [look, hg]
  | (k, m) :: r, i => by
    have ih := look_old C l g hg r i
    by_cases hs : stays C l k = true
    · simp only [List.filter_cons, hs, if_true, List.map_cons, look]
      by_cases hk : k = i
      · subst hk; simp [hs]
      · simp only [if_neg hk, ih]
    · simp only [List.filter_cons, hs, look]
      by_cases hk : k = i
      · subst hk; simp [hs]; rw [ih]; simp [hs]
      · simp only [if_neg hk]; exact ih

/-- What may be asked of the numbers. -/
structure Fits (C : Nat) (l : List (Nat × Nat)) (mem' : List (Nat × MC)) : Prop where
  keys : (l.map (·.1)).Nodup
  olds : (l.map (·.2)).Nodup
  apart : ∀ x ∈ l, inRange C x.2 = false
  keys' : (mem'.map (·.1)).Nodup
  small : ∀ x ∈ mem', x.1 < span
def Gh.join (γ γ' : Gh) (C : Nat) (l : List (Nat × Nat)) : Gh :=
  ⟨fun i => if inRange C i then γ'.base (i - C) else match toNew l i with | some q => γ'.base q | none => γ.base i,
   fun i => if inRange C i then γ'.hd (i - C) else match toNew l i with | some q => γ'.hd q | none => γ.hd i⟩

section
variable {P : Program} {T : Tab} {W0 : World} {M : Nat → Prop} {S0 S S' : Addr → Prop} {γ γ' : Gh} {W W' : World} {σ : St} {a : Act} {C : Nat} {l : List (Nat × Nat)} {mem mem' : List (Nat × MC)}

theorem back_spec {j i : Nat} (h : back C l j = some i) : ((j, toOld l j) ∈ l ∧ i = toOld l j ∧ (∃ o, (j, o) ∈ l)) ∨ (isKey l j = false ∧ j < span ∧ i = C + j) ∨ False := by
  unfold back at h
  split at h
  · rename_i hk
    injection h with h
    obtain ⟨o, ho⟩ := isKey_iff.1 hk
    left
    refine ⟨?_, h.symm, o, ho⟩
    -- the first pair with this key
    have : ∀ (r : List (Nat × Nat)), (∃ o, (j, o) ∈ r) → (j, toOld r j) ∈ r := fun r => by
      induction r with
      | nil => rintro ⟨o, h⟩; cases h
      | cons x r ih =>
        obtain ⟨a, b⟩ := x
        rintro ⟨o, h⟩
        simp only [toOld]
        split
        · rename_i e; subst e; exact List.mem_cons_self
        · rename_i e
          rcases List.mem_cons.1 h with h1 | h1
          · injection h1 with h1 h2; exact absurd h1.symm e
          · exact List.mem_cons_of_mem _ (ih ⟨o, h1⟩)
    exact this l ⟨o, ho⟩
  · rename_i hk
    split at h
    · rename_i hj; injection h with h; exact .inr (.inl ⟨by simpa using hk, hj, h.symm⟩)
    · cases h
theorem inRange_add {j : Nat} (h : j < span) : inRange C (C + j) = true := by simp [inRange, h]
theorem via_back (hF : Fits C l mem') : Via (back C l) γ' (γ.join γ' C l) := fun j i h => by
  rcases back_spec h with ⟨h1, rfl, _⟩ | ⟨h1, h2, rfl⟩ | h1
  · have h3 := hF.apart _ h1
    have h4 := toNew_some hF.olds h1
    simp only at h3
    exact ⟨by simp [Gh.join, h3, h4], fun off π => by simp [Gh.join, h3, h4]⟩
  · have h3 := inRange_add (C := C) h2
    exact ⟨by simp [Gh.join, h3], fun off π => by simp [Gh.join, h3]⟩
  · exact h1.elim
theorem join_other {i : Nat} (h : aliveP C l i = true) : (γ.join γ' C l).base i = γ.base i ∧ ∀ off π, (γ.join γ' C l).hd i off π = γ.hd i off π := by
  simp only [aliveP, Bool.and_eq_true, Bool.not_eq_true', Option.isNone_iff_eq_none] at h
  exact ⟨by simp [Gh.join, h.1, h.2], fun off π => by simp [Gh.join, h.1, h.2]⟩
theorem view_root (hF : Fits C l mem') {o q : Nat} (h : toNew l o = some q) : look (Ew.view l mem) q = (look mem o).re (toNew l) ∧ (γ.via (toOld l)).base q = γ.base o ∧ ∀ off π, (γ.via (toOld l)).hd q off π = γ.hd o off π := by
  have h1 := toNew_mem h
  have h2 := toOld_mem hF.keys h1
  refine ⟨?_, by simp [Gh.via, h2], fun off π => by simp [Gh.via, h2]⟩
  unfold Ew.view
  apply look_of_mem
  · rw [List.map_map]; exact hF.keys
  · exact List.mem_map.2 ⟨_, h1, rfl⟩
theorem join_obj (hF : Fits C l mem') (hs : Same (γ.via (toOld l)) γ' (Ew.view l mem) mem') {o : Nat} (h : aliveO C l mem mem' o = true) : (γ.join γ' C l).base o = γ.base o := by
  simp only [aliveO, Bool.and_eq_true, Bool.not_eq_true'] at h
  obtain ⟨h1, h2⟩ := h
  split at h2
  · rename_i hn; exact (join_other (by simp [aliveP, h1, hn])).1
  · rename_i q hn
    obtain ⟨g1, g2, _⟩ := view_root (γ := γ) (mem := mem) hF hn
    simp only [Bool.and_eq_true] at h2
    cases hm : look mem o with
    | obj cs =>
      cases hm' : look mem' q with
      | obj cs' =>
        rw [hm] at g1
        have := hs.1 q _ _ g1 hm'
        simp only [Gh.join, h1, Bool.false_eq_true, if_false, hn]
        rw [this, g2]
      | _ => rw [hm'] at h2; simp [MC.isObj] at h2
    | _ => rw [hm] at h2; simp [MC.isObj] at h2
theorem join_map (hF : Fits C l mem') (hs : Same (γ.via (toOld l)) γ' (Ew.view l mem) mem') {o : Nat} (h : aliveM C l mem mem' o = true) : (γ.join γ' C l).base o = γ.base o := by
  simp only [aliveM, Bool.and_eq_true, Bool.not_eq_true'] at h
  obtain ⟨h1, h2⟩ := h
  split at h2
  · rename_i hn; exact (join_other (by simp [aliveP, h1, hn])).1
  · rename_i q hn
    obtain ⟨g1, g2, _⟩ := view_root (γ := γ) (mem := mem) hF hn
    simp only [Bool.and_eq_true] at h2
    cases hm : look mem o with
    | map ks cs =>
      cases hm' : look mem' q with
      | map ks' cs' =>
        rw [hm] at g1
        have := hs.2.2.2.2.1 q _ _ _ _ g1 hm'
        simp only [Gh.join, h1, Bool.false_eq_true, if_false, hn]
        rw [this, g2]
      | _ => rw [hm'] at h2; simp [MC.isMap] at h2
    | _ => rw [hm] at h2; simp [MC.isMap] at h2
theorem join_reg (hF : Fits C l mem') (hs : Same (γ.via (toOld l)) γ' (Ew.view l mem) mem') {o off : Nat} (h : aliveR C l mem mem' o off = true) : (γ.join γ' C l).hd o off [] = γ.hd o off [] := by
  simp only [aliveR, Bool.and_eq_true, Bool.not_eq_true'] at h
  obtain ⟨h1, h2⟩ := h
  split at h2
  · rename_i hn; exact (join_other (by simp [aliveP, h1, hn])).2 off []
  · rename_i q hn
    obtain ⟨g1, _, g2⟩ := view_root (γ := γ) (mem := mem) hF hn
    simp only [Bool.and_eq_true, beq_iff_eq] at h2
    obtain ⟨rfl, h2, h3⟩ := h2
    cases hm : look mem o with
    | reg p =>
      cases hm' : look mem' q with
      | reg p' =>
        rw [hm] at g1
        have := hs.2.1 q _ _ g1 hm'
        simp only [Gh.join, h1, Bool.false_eq_true, if_false, hn]
        rw [this, g2]
      | _ => rw [hm'] at h3; simp [MC.isReg] at h3
    | _ => rw [hm] at h2; simp [MC.isReg] at h2
theorem CRel.keep (hF : Fits C l mem') (hs : Same (γ.via (toOld l)) γ' (Ew.view l mem) mem') {c : CV} {v : Value} (h : CRel W S γ c v) : CRel W S (γ.join γ' C l) (c.keep C l mem mem') v := by
  cases c with
  | c p => exact h
  | ptr o off π =>
    have h1 : v = .pointer (some (γ.addr o off π)) := h
    cases π with
    | nil =>
      simp only [CV.keep]
      split
      · rename_i ha
        show v = _
        rw [h1]; simp only [Gh.addr, join_obj hF hs ha]
      · exact bot_rel h.one
    | cons s π =>
      simp only [CV.keep]
      split
      · rename_i ha
        obtain ⟨i, k, f⟩ := s
        show v = _
        rw [h1]; simp only [Gh.addr, (join_other ha).2]
      · exact bot_rel h.one
  | view o off π =>
    cases π with
    | nil =>
      simp only [CV.keep]
      split
      · rename_i ha; exact ⟨by rw [join_reg hF hs ha]; exact h.1, h.2⟩
      · exact bot_rel h.one
    | cons s π =>
      simp only [CV.keep]
      split
      · rename_i ha; exact ⟨by rw [(join_other ha).2]; exact h.1, h.2⟩
      · exact bot_rel h.one
  | pre o off π n =>
    cases π with
    | nil =>
      simp only [CV.keep]
      split
      · rename_i ha
        obtain ⟨A, m, c, h1, h2⟩ := h
        exact ⟨A, m, c, by rw [join_reg hF hs ha]; exact h1, h2⟩
      · exact bot_rel h.one
    | cons s π =>
      simp only [CV.keep]
      split
      · rename_i ha
        obtain ⟨A, m, c, h1, h2⟩ := h
        exact ⟨A, m, c, by rw [(join_other ha).2]; exact h1, h2⟩
      · exact bot_rel h.one
  | clo f cap =>
    simp only [CV.keep]
    split
    · rename_i ha
      obtain ⟨vs, h1, h2, h3⟩ := h
      refine ⟨vs, h1, h2, fun i x u hx hu => ?_⟩
      have h4 := h3 i x u hx hu
      cases x with
      | p x => exact h4
      | r o =>
        show u = _
        rw [join_obj hF hs (List.all_eq_true.1 ha _ (List.mem_of_getElem? hx))]
        exact h4
    · exact bot_rel h.one
  | mp o =>
    simp only [CV.keep]
    split
    · rename_i ha
      have h1 : v = .map (some (γ.base o)) := h
      show v = _
      rw [h1, join_map hF hs ha]
    · exact bot_rel h.one
theorem TRel.keep (hF : Fits C l mem') (hs : Same (γ.via (toOld l)) γ' (Ew.view l mem) mem') {x : TV} {v : Value} (h : TRel W S γ x v) : TRel W S (γ.join γ' C l) (x.keep C l mem mem') v := by
  have hcs : ∀ {cs : List CV} {vs : List Value}, CsRel W S γ cs vs → CsRel W S (γ.join γ' C l) (cs.map (CV.keep C l mem mem')) vs := fun {cs vs} h => by
    refine ⟨by simp [h.1], fun i c v hi hv => ?_⟩
    rw [List.getElem?_map] at hi
    obtain ⟨c0, h0, rfl⟩ := Option.map_eq_some_iff.1 hi
    exact (h.2 i c0 v h0 hv).keep hF hs
  have hu : ∀ {x : UV} {v : Value}, URel W S γ x v → URel W S (γ.join γ' C l) (x.keep C l mem mem') v := fun {x v} h => by
    cases x with
    | one c => exact CRel.keep hF hs h
    | agg cs => obtain ⟨vs, rfl, h⟩ := h; exact ⟨vs, rfl, hcs h⟩
  cases x with
  | bot => trivial
  | u x => exact hu h
  | tup xs =>
    obtain ⟨vs, rfl, hl, hr⟩ := h
    refine ⟨vs, rfl, by simp [hl], fun i x y hx hy => ?_⟩
    rw [List.getElem?_map] at hx
    obtain ⟨x0, h0, rfl⟩ := Option.map_eq_some_iff.1 hx
    exact hu (hr i x0 y h0 hy)
  | w g x => exact ⟨fun hg => hu (h.1 hg), h.2⟩
theorem keep_c {c : CV} {p : PV} (h : c.keep C l mem mem' = .c p) : p = .bot ∨ c = .c p := by
  cases c with
  | c q => exact .inr h
  | ptr o off π => cases π <;> simp only [CV.keep] at h <;> split at h <;> first | (injection h with h; exact .inl h.symm) | cases h
  | view o off π => cases π <;> simp only [CV.keep] at h <;> split at h <;> first | (injection h with h; exact .inl h.symm) | cases h
  | pre o off π n => cases π <;> simp only [CV.keep] at h <;> split at h <;> first | (injection h with h; exact .inl h.symm) | cases h
  | clo g cap => simp only [CV.keep] at h; split at h <;> first | (injection h with h; exact .inl h.symm) | cases h
  | mp o => simp only [CV.keep] at h; split at h <;> first | (injection h with h; exact .inl h.symm) | cases h
theorem MC.keep_map {m : MC} {ks : List Value} {cs : List CV} (h : m.keep C l mem mem' = .map ks cs) : ∃ cs0, m = .map ks cs0 ∧ cs = cs0.map (CV.keep C l mem mem') := by
  cases m <;> simp [MC.keep] at h
  obtain ⟨rfl, rfl⟩ := h
  exact ⟨_, rfl, rfl⟩
theorem MC.keep_obj {m : MC} {cs : List CV} (h : m.keep C l mem mem' = .obj cs) : ∃ cs0, m = .obj cs0 ∧ cs = cs0.map (CV.keep C l mem mem') := by cases m <;> simp [MC.keep] at h; exact ⟨_, rfl, h.symm⟩
theorem MC.keep_reg {m : MC} {p : PV} (h : m.keep C l mem mem' = .reg p) : m = .reg p := by cases m <;> simp [MC.keep] at h; rw [h]
theorem cellAt_keep {m : MC} {off : Nat} {p : PV} (h : cellAt (m.keep C l mem mem') off = some p) (hn : p.nv = false) : cellAt m off = some p := by
  cases m with
  | no => exact h
  | reg q => exact h
  | map ks cs => exact h
  | obj cs =>
    simp only [MC.keep, cellAt, List.getElem?_map] at h ⊢
    cases hc : cs[off]? with
    | none => rw [hc] at h; simp at h
    | some c =>
      rw [hc] at h
      simp only [Option.map_some] at h
      split at h
      · rename_i q hq
        injection h with h
        subst h
        simp only [Option.some.injEq] at hq
        rcases keep_c hq with rfl | rfl
        · simp [PV.nv] at hn
        · rfl
      · cases h

theorem look_after (hF : Fits C l mem') {i : Nat} {m : MC} (h : look (afterMem C l mem mem') i = m) (hm : m ≠ .no) :
    (∃ j, back C l j = some i ∧ look mem' j ≠ .no ∧ m = (look mem' j).re (back C l)) ∨ (stays C l i = true ∧ m = (look mem i).keep C l mem mem') := by
  unfold afterMem at h
  rw [look_append] at h
  split at h
  · left
    have h1 := look_mem (l := newPart C l mem') (i := i) (by rw [h]; exact hm)
    rw [h] at h1
    obtain ⟨⟨j, m0⟩, hj, he⟩ := List.mem_map.1 h1
    have hl := look_of_mem hF.keys' hj
    have hlt := hF.small _ hj
    simp only at he hlt
    have hb : ∃ k, back C l j = some k := by
      unfold back
      split
      · exact ⟨_, rfl⟩
      · exact ⟨_, rfl⟩
    obtain ⟨k, hk⟩ := hb
    rw [hk] at he
    simp only [Option.getD_some, Prod.mk.injEq] at he
    refine ⟨j, by rw [hk, he.1], ?_, ?_⟩
    · rw [hl]; rintro rfl; exact hm he.2.symm
    · rw [hl]; exact he.2.symm
  · right
    rw [oldPart, look_old C l (fun m => m.keep C l mem mem') rfl mem i] at h
    split at h
    · rename_i hs; exact ⟨hs, h.symm⟩
    · exact absurd h.symm hm

theorem at_after (hF : Fits C l mem') {i off : Nat} {π : Path} {k : Nat} {es : List (List PV)} (h : at_ (afterMem C l mem mem') i off π = some (.vec k es)) :
    (∃ j, back C l j = some i ∧ at_ mem' j off π = some (.vec k es)) ∨ (stays C l i = true ∧ at_ mem i off π = some (.vec k es)) := by
  unfold Ew.at_ at h
  split at h
  · rename_i p hp
    have hn : p.nv = false := by
      cases p with
      | vec _ _ => rfl
      | _ =>
        have := down_nv rfl h
        subst this
        simp [PV.down] at h
    rcases look_after (mem := mem) hF rfl (by intro h'; rw [h'] at hp; simp [cellAt] at hp) with ⟨j, h1, _, h3⟩ | ⟨h1, h2⟩
    · left
      rw [h3] at hp
      refine ⟨j, h1, ?_⟩
      unfold Ew.at_
      rw [cellAt_re hp hn]
      exact h
    · right
      rw [h2] at hp
      refine ⟨h1, ?_⟩
      unfold Ew.at_
      rw [cellAt_keep hp hn]
      exact h
  · cases h
theorem stays_spec {i : Nat} (h : stays C l i = true) : aliveP C l i = true ∧ toNew l i = none := by
  simp only [stays, Bool.and_eq_true, Option.isNone_iff_eq_none, Bool.not_eq_true'] at h
  exact ⟨by simp [aliveP, h.1, h.2], h.1⟩
theorem back_inj (hF : Fits C l mem') {j j' i : Nat} (h : back C l j = some i) (h' : back C l j' = some i) : j = j' := by
  rcases back_spec h with ⟨h1, h2, _⟩ | ⟨h1, h2, h3⟩ | h1
  · rcases back_spec h' with ⟨h4, h5, _⟩ | ⟨h4, h5, h6⟩ | h4
    · rw [h2] at h5
      rw [h5] at h1
      exact key_old hF.olds h1 h4
    · have := hF.apart _ h1
      simp only at this
      rw [← h2, h6, inRange_add h5] at this; cases this
    · exact h4.elim
  · rcases back_spec h' with ⟨h4, h5, _⟩ | ⟨h4, h5, h6⟩ | h4
    · have := hF.apart _ h4
      simp only at this
      rw [← h5, h3, inRange_add h2] at this; cases this
    · omega
    · exact h4.elim
  · exact h1.elim

/-- The memory behind a call. -/
theorem MemOK.after (hM : MemOK W0 M S γ mem W) (hsz : W0.heap.size ≤ W.heap.size) (hF : Fits C l mem') (hC : Core T W (blk (γ.via (toOld l)) (Ew.view l mem)) S S' γ' mem' W') (hs : Same (γ.via (toOld l)) γ' (Ew.view l mem) mem') :
    MemOK W0 M S' (γ.join γ' C l) (afterMem C l mem mem') W' := by
  have hview := hM.view hF.keys hF.olds
  have hMM : ∀ b, W.heap.size ≤ b ∨ blk (γ.via (toOld l)) (Ew.view l mem) b → W0.heap.size ≤ b ∨ M b := fun b h => h.elim (fun h => .inl (Nat.le_trans hsz h)) (fun h => hview.M_of h)
  have hvia := via_back (γ := γ) (γ' := γ') hF
  -- what is not handed over lies elsewhere
  have hout : ∀ {n : Node} {b : Nat}, Owns γ mem n b → (∀ o, (n = .root o ∨ ∃ off π, n = .at_ o off π) → toNew l o = none) → ¬ blk (γ.via (toOld l)) (Ew.view l mem) b := fun {n b} hn hno ⟨n', hn'⟩ => by
    obtain ⟨g1, i, g2, g3⟩ := owns_view hF.keys hn'
    have := hM.inj _ _ b hn g1
    subst this
    have h9 : toNew l (toOld l i) = none := hno (toOld l i) (by rcases g2 with rfl | ⟨off, π, rfl⟩ <;> simp [Node.via])
    exact toNew_none h9 i g3
  have hold : ∀ {n : Node} {b : Nat}, Owns γ mem n b → (∀ o, (n = .root o ∨ ∃ off π, n = .at_ o off π) → toNew l o = none) → W'.heap[b]? = W.heap[b]? ∧ b < W.heap.size ∧ ∀ a, S' a → a.block ≠ b := fun {n b} hn hno => by
    have h1 := hM.blk_lt hn
    have h2 := hout hn hno
    refine ⟨hC.frame b h1 h2, h1, fun a ha e => ?_⟩
    rcases hC.snew a ha with h3 | h3 | h3
    · exact (hM.own n b hn).2 a h3 e
    · omega
    · rw [e] at h3; exact h2 h3
  have hnode : ∀ {n : Node} {b : Nat}, Owns (γ.join γ' C l) (afterMem C l mem mem') n b → (∃ n', Owns γ' mem' n' b ∧ ((∃ j i, n' = .root j ∧ n = .root i ∧ back C l j = some i) ∨ ∃ j i off π, n' = .at_ j off π ∧ n = .at_ i off π ∧ back C l j = some i)) ∨
      (Owns γ mem n b ∧ ∀ o, (n = .root o ∨ ∃ off π, n = .at_ o off π) → stays C l o = true) := by
    intro n b hn
    cases n with
    | root i =>
      obtain ⟨⟨cs, hc⟩ | ⟨ks, cs, hc⟩, hb⟩ := hn
      · rcases look_after (mem := mem) hF hc (by simp) with ⟨j, h1, _, h3⟩ | ⟨h1, h2⟩
        · left
          obtain ⟨cs0, h4, _⟩ := MC.re_obj h3.symm
          exact ⟨.root j, ⟨.inl ⟨cs0, h4⟩, by rw [← hb, (hvia j i h1).1]⟩, .inl ⟨j, i, rfl, rfl, h1⟩⟩
        · right
          obtain ⟨cs0, h4, _⟩ := MC.keep_obj h2.symm
          refine ⟨⟨.inl ⟨cs0, h4⟩, by rw [← hb, (join_other (stays_spec h1).1).1]⟩, fun o ho => ?_⟩
          rcases ho with ho | ⟨_, _, ho⟩
          · injection ho with ho; rw [← ho]; exact h1
          · cases ho
      · rcases look_after (mem := mem) hF hc (by simp) with ⟨j, h1, _, h3⟩ | ⟨h1, h2⟩
        · left
          obtain ⟨cs0, h4, _⟩ := MC.re_map h3.symm
          exact ⟨.root j, ⟨.inr ⟨ks, cs0, h4⟩, by rw [← hb, (hvia j i h1).1]⟩, .inl ⟨j, i, rfl, rfl, h1⟩⟩
        · right
          obtain ⟨cs0, h4, _⟩ := MC.keep_map h2.symm
          refine ⟨⟨.inr ⟨ks, cs0, h4⟩, by rw [← hb, (join_other (stays_spec h1).1).1]⟩, fun o ho => ?_⟩
          rcases ho with ho | ⟨_, _, ho⟩
          · injection ho with ho; rw [← ho]; exact h1
          · cases ho
    | at_ i off π =>
      obtain ⟨⟨k, es, hc⟩, m, c, hc0, hh⟩ := hn
      rcases at_after (mem := mem) hF hc with ⟨j, h1, h2⟩ | ⟨h1, h2⟩
      · left
        exact ⟨.at_ j off π, ⟨⟨k, es, h2⟩, m, c, hc0, by rw [← (hvia j i h1).2]; exact hh⟩, .inr ⟨j, i, off, π, rfl, rfl, h1⟩⟩
      · right
        refine ⟨⟨⟨k, es, h2⟩, m, c, hc0, by rw [← (join_other (stays_spec h1).1).2]; exact hh⟩, fun o ho => ?_⟩
        rcases ho with ho | ⟨_, _, ho⟩
        · cases ho
        · injection ho with ho; rw [← ho]; exact h1
  have hst : ∀ {n : Node}, (∀ o, (n = .root o ∨ ∃ off π, n = .at_ o off π) → stays C l o = true) → ∀ o, (n = .root o ∨ ∃ off π, n = .at_ o off π) → toNew l o = none := fun h o ho => (stays_spec (h o ho)).2
  have hS : ∀ a, S a → W'.heap[a.block]? = W.heap[a.block]? := hC.s0c
  refine ⟨fun i cs hi => ?_, fun i ks cs hi => ?_, fun i off π k es ha => ?_, fun i q hq => ?_, fun n b hn => ?_, fun n n' b hn hn' => ?_⟩
  · rcases look_after (mem := mem) hF hi (by simp) with ⟨j, h1, _, h3⟩ | ⟨h1, h2⟩
    · obtain ⟨cs0, h4, rfl⟩ := MC.re_obj h3.symm
      obtain ⟨D, t, g1, g2, g3⟩ := hC.mem.objs j cs0 h4
      refine ⟨D, t, by rw [(hvia j i h1).1]; exact g1, by simpa using g2, fun off c u hc hu => ?_⟩
      rw [List.getElem?_map] at hc
      obtain ⟨c0, h7, rfl⟩ := Option.map_eq_some_iff.1 hc
      exact RootOK.re hvia h1 (g3 off c0 u h7 hu)
    · obtain ⟨cs0, h4, rfl⟩ := MC.keep_obj h2.symm
      obtain ⟨D, t, g1, g2, g3⟩ := hM.objs i cs0 h4
      obtain ⟨ha, hno⟩ := stays_spec h1
      obtain ⟨q1, q2, q3⟩ := hold (n := .root i) ⟨.inl ⟨cs0, h4⟩, rfl⟩ (fun o ho => by
        rcases ho with ho | ⟨_, _, ho⟩
        · injection ho with ho; rw [← ho]; exact hno
        · cases ho)
      refine ⟨D, t, by rw [(join_other ha).1, q1]; exact g1, by simpa using g2, fun off c u hc hu => ?_⟩
      rw [List.getElem?_map] at hc
      obtain ⟨c0, h7, rfl⟩ := Option.map_eq_some_iff.1 hc
      have h8 := g3 off c0 u h7 hu
      cases c0 with
      | c p =>
        cases p with
        | vec _ _ => exact ⟨by rw [(join_other ha).2]; exact h8.1, h8.2⟩
        | _ => exact PRel.mono hS hC.s0 h8
      | _ =>
        simp only [RootOK] at h8
        exact RootOK.of (CRel.mono hS hC.s0 (CRel.keep hF hs h8))
  · rcases look_after (mem := mem) hF hi (by simp) with ⟨j, h1, _, h3⟩ | ⟨h1, h2⟩
    · obtain ⟨cs0, h4, rfl⟩ := MC.re_map h3.symm
      obtain ⟨es, g1, g2, g3, g4, g5⟩ := hC.mem.maps j ks cs0 h4
      refine ⟨es, by rw [(hvia j i h1).1]; exact g1, g2, by simpa using g3, g4, fun p c e hc he => ?_⟩
      rw [List.getElem?_map] at hc
      obtain ⟨c0, h7, rfl⟩ := Option.map_eq_some_iff.1 hc
      exact CRel.re hvia (g5 p c0 e h7 he)
    · obtain ⟨cs0, h4, rfl⟩ := MC.keep_map h2.symm
      obtain ⟨es, g1, g2, g3, g4, g5⟩ := hM.maps i ks cs0 h4
      obtain ⟨ha, hno⟩ := stays_spec h1
      obtain ⟨q1, q2, q3⟩ := hold (n := .root i) ⟨.inr ⟨ks, cs0, h4⟩, rfl⟩ (fun o ho => by
        rcases ho with ho | ⟨_, _, ho⟩
        · injection ho with ho; rw [← ho]; exact hno
        · cases ho)
      refine ⟨es, by rw [(join_other ha).1, q1]; exact g1, g2, by simpa using g3, g4, fun p c e hc he => ?_⟩
      rw [List.getElem?_map] at hc
      obtain ⟨c0, h7, rfl⟩ := Option.map_eq_some_iff.1 hc
      exact CRel.mono hS hC.s0 (CRel.keep hF hs (g5 p c0 e h7 he))
  · rcases at_after (mem := mem) hF ha with ⟨j, h1, h2⟩ | ⟨h1, h2⟩
    · obtain ⟨v0, v1, v2⟩ := hC.mem.vecs j off π k es h2
      refine ⟨v0, v1, ?_⟩
      rw [(hvia j i h1).2]
      rcases v2 with v2 | ⟨b, cap, w1, w2, w3, w4, cur, t, w5, w6, w7⟩
      · exact .inl v2
      · refine .inr ⟨b, cap, w1, w2, w3, w4, cur, t, w5, w6, fun n row f x u hn hf hu => ?_⟩
        have h8 := w7 n row f x u hn hf hu
        cases x with
        | vec _ _ => exact ⟨by rw [(hvia j i h1).2]; exact h8.1, h8.2⟩
        | _ => exact h8
    · obtain ⟨v0, v1, v2⟩ := hM.vecs i off π k es h2
      obtain ⟨ha', hno⟩ := stays_spec h1
      refine ⟨v0, v1, ?_⟩
      rw [(join_other ha').2]
      rcases v2 with v2 | ⟨b, cap, w1, w2, w3, w4, cur, t, w5, w6, w7⟩
      · exact .inl v2
      · obtain ⟨q1, q2, q3⟩ := hold (VecOK.owns h2 w1 w2) (fun o ho => by
          rcases ho with ho | ⟨_, _, ho⟩
          · cases ho
          · injection ho with ho; rw [← ho]; exact hno)
        refine .inr ⟨b, cap, w1, w2, w3, w4, cur, t, by rw [q1]; exact w5, w6, fun n row f x u hn hf hu => ?_⟩
        have h8 := w7 n row f x u hn hf hu
        cases x with
        | vec _ _ => exact ⟨by rw [(join_other ha').2]; exact h8.1, h8.2⟩
        | _ => exact PRel.mono hS hC.s0 h8
  · rcases look_after (mem := mem) hF hq (by simp) with ⟨j, h1, _, h3⟩ | ⟨h1, h2⟩
    · exact hC.mem.regs j q (MC.re_reg h3.symm)
    · exact hM.regs i q (MC.keep_reg h2.symm)
  · rcases hnode hn with ⟨n', h1, _⟩ | ⟨h1, h2⟩
    · obtain ⟨g1, g2⟩ := hC.mem.own n' b h1
      exact ⟨hMM b g1, g2⟩
    · obtain ⟨_, _, q3⟩ := hold h1 (hst h2)
      exact ⟨(hM.own n b h1).1, q3⟩
  · rcases hnode hn with ⟨m, h1, h2⟩ | ⟨h1, h2⟩ <;> rcases hnode hn' with ⟨m', h3, h4⟩ | ⟨h3, h4⟩
    · have := hC.mem.inj m m' b h1 h3
      subst this
      rcases h2 with ⟨j, i, rfl, rfl, h5⟩ | ⟨j, i, off, π, rfl, rfl, h5⟩ <;> rcases h4 with ⟨j', i', h6, rfl, h7⟩ | ⟨j', i', off', π', h6, rfl, h7⟩
      · injection h6 with h6; subst h6; rw [h5] at h7; injection h7 with h7; rw [h7]
      · cases h6
      · cases h6
      · injection h6 with e1 e2 e3; subst e1 e2 e3; rw [h5] at h7; injection h7 with h7; rw [h7]
    · exfalso
      obtain ⟨_, q2, _⟩ := hold h3 (hst h4)
      have q4 := hout h3 (hst h4)
      rcases (hC.mem.own m b h1).1 with h5 | h5
      · omega
      · exact q4 h5
    · exfalso
      obtain ⟨_, q2, _⟩ := hold h1 (hst h2)
      have q4 := hout h1 (hst h2)
      rcases (hC.mem.own m' b h3).1 with h5 | h5
      · omega
      · exact q4 h5
    · exact hM.inj n n' b h1 h3
theorem Core.after (hR : Core T W0 M S0 S γ mem W) (hF : Fits C l mem') (hC : Core T W (blk (γ.via (toOld l)) (Ew.view l mem)) S S' γ' mem' W') (hs : Same (γ.via (toOld l)) γ' (Ew.view l mem) mem') :
    Core T W0 M S0 S' (γ.join γ' C l) (afterMem C l mem mem') W' := by
  have hview := hR.mem.view hF.keys hF.olds
  have hMM : ∀ b, W.heap.size ≤ b ∨ blk (γ.via (toOld l)) (Ew.view l mem) b → W0.heap.size ≤ b ∨ M b := fun b h => h.elim (fun h => .inl (Nat.le_trans hR.size h)) (fun h => hview.M_of h)
  refine ⟨hC.os.trans hR.os, hC.tape.trans hR.tape, hC.output.trans hR.output, Nat.le_trans hR.size hC.size, fun k hk hMk => ?_, fun x hx => hC.s0 x (hR.s0 x hx), fun x hx => (hC.s0c x (hR.s0 x hx)).trans (hR.s0c x hx), hC.sfit, hC.glob, fun x hx => ?_, hR.mem.after hR.size hF hC hs⟩
  · rw [hC.frame k (Nat.lt_of_lt_of_le hk hR.size) (fun hb => ?_)]
    · exact hR.frame k hk hMk
    · rcases hMM k (.inr hb) with h | h
      · omega
      · exact hMk h
  · rcases hC.snew x hx with h | h
    · exact hR.snew x h
    · exact .inr (hMM _ h)
end
end Go.Ew
end
