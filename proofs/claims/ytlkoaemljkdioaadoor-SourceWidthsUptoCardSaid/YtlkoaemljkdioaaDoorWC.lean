/- The abstract machine's writing operations are sound. -/
import Derived.Test.YtlkoaemljkdioaaDoorWB
section
/- Cells of the call's own are written; new things. -/
namespace Go.Ew
open Go.RowKit

section
variable {T : Tab} {W0 W W' : World} {M : Nat → Prop} {S S' : Addr → Prop} {γ γ' : Gh} {mem mem1 mem2 : List (Nat × MC)} {κ : Kl}

theorem MemOK.blk_lt (h : MemOK W0 M S γ mem W) {n : Node} {b : Nat} (hn : Owns γ mem n b) : b < W.heap.size := by
  cases n with
  | root o =>
    obtain ⟨⟨cs, hc⟩ | ⟨ks, cs, hc⟩, rfl⟩ := hn
    · obtain ⟨C, t, hh, _⟩ := h.objs o cs hc
      exact (Array.getElem?_eq_some_iff.1 hh).1
    · obtain ⟨es, hh, _⟩ := h.maps o ks cs hc
      exact (Array.getElem?_eq_some_iff.1 hh).1
  | at_ o off π =>
    obtain ⟨⟨k, es, ha⟩, m, c, hc, hh⟩ := hn
    obtain ⟨_, _, hv⟩ := h.vecs o off π k es ha
    rcases hv with ⟨_, A, hA⟩ | ⟨b', cap, w1, _, _, _, cur, t, w5, _⟩
    · rw [hh] at hA; injection hA with _ _ hA; omega
    · rw [hh] at w1
      injection w1 with w1 _ _
      injection w1 with w1
      injection w1 with w1
      rw [w1]
      exact (Array.getElem?_eq_some_iff.1 w5).1
theorem VecOK.owns {o off : Nat} {π : Path} {k : Nat} {es : List (List PV)} {b m c : Nat} (ha : at_ mem o off π = some (.vec k es)) (hh : γ.hd o off π = .slice (some ⟨b, 0, none⟩) m c) (hc : 0 < c) : Owns γ mem (.at_ o off π) b := ⟨⟨k, es, ha⟩, m, c, hc, hh⟩
/-- The same in a world where its block is as it was. -/
theorem VecOK.world {o off : Nat} {π : Path} {k : Nat} {es : List (List PV)} (h : VecOK W S γ o off π k es) (hS : ∀ a, S a → W'.heap[a.block]? = W.heap[a.block]?) (hSS : ∀ a, S a → S' a)
    (hb : ∀ b m c, γ.hd o off π = .slice (some ⟨b, 0, none⟩) m c → 0 < c → W'.heap[b]? = W.heap[b]?) : VecOK W' S' γ o off π k es := by
  obtain ⟨v0, v1, v2⟩ := h
  refine ⟨v0, v1, ?_⟩
  rcases v2 with h | ⟨b, cap, w1, w2, w3, w4, cur, t, w5, w6, w7⟩
  · exact .inl h
  · exact .inr ⟨b, cap, w1, w2, w3, w4, cur, t, by rw [hb b _ _ w1 w2]; exact w5, w6, fun i row f x u hi hf hu => (w7 i row f x u hi hf hu).mono hS hSS⟩
theorem MemOK.world (h : MemOK W0 M S γ mem W) (hS : ∀ a, S a → W'.heap[a.block]? = W.heap[a.block]?) (hSS : ∀ a, S a → S' a) (hnew : ∀ a, S' a → S a ∨ W.heap.size ≤ a.block) (hold : ∀ k, k < W.heap.size → W'.heap[k]? = W.heap[k]?) : MemOK W0 M S' γ mem W' := by
  refine ⟨fun o cs ho => ?_, fun o ks cs ho => (h.maps o ks cs ho).world hS hSS (hold _ (h.blk_lt (n := .root o) ⟨.inr ⟨ks, cs, ho⟩, rfl⟩)), fun o off π k es ha => ?_, h.regs, fun n b hn => ⟨(h.own n b hn).1, fun a ha => ?_⟩, h.inj⟩
  · obtain ⟨C, t, h1, h2, h3⟩ := h.objs o cs ho
    exact ⟨C, t, by rw [hold _ (Array.getElem?_eq_some_iff.1 h1).1]; exact h1, h2, fun off c u hc hu => (h3 off c u hc hu).mono hS hSS⟩
  · exact (h.vecs o off π k es ha).world hS hSS (fun b m c hh hc => hold b (h.blk_lt (VecOK.owns ha hh hc)))
  · rcases hnew a ha with h1 | h1
    · exact (h.own n b hn).2 a h1
    · have := h.blk_lt hn; omega

/-! ### Writing an object's cells -/
theorem at_obj {o off : Nat} {π : Path} {cs : List CV} {k : Nat} {es : List (List PV)} (ho : look mem o = .obj cs) (h : at_ mem o off π = some (.vec k es)) : ∃ p, cs[off]? = some (.c p) ∧ PV.down π p = some (.vec k es) ∧ p.nv = false := by
  unfold Ew.at_ at h
  rw [ho] at h
  simp only [cellAt] at h
  cases hc : cs[off]? with
  | none => rw [hc] at h; simp at h
  | some c =>
    rw [hc] at h
    cases c with
    | c p =>
      refine ⟨p, rfl, h, ?_⟩
      cases p with
      | vec _ _ => rfl
      | _ =>
        have := down_nv rfl h
        subst this
        simp [PV.down] at h
    | _ => simp at h
theorem MemOK.writeRoot (h : MemOK W0 M S γ mem W) {o : Nat} {cs : List CV} (ho : look mem o = .obj cs) {C : Array Value} {t : TypeId} (hh : W.heap[γ.base o]? = some (.cells C t (0, 0)))
    {ds : List CV} {C' : Array Value} (hl : ds.length = cs.length) (hC : C'.size = C.size) (hcell : ∀ (j : Nat) (c : CV) (u : Value), ds[j]? = some c → C'[j]? = some u → (cs[j]? = some c ∧ C[j]? = some u) ∨ CRel W S γ c u) :
    MemOK W0 M S γ (lay mem o (.obj ds)) (W.setRow (γ.base o) C') := by
  have hown : Owns γ mem (.root o) (γ.base o) := ⟨.inl ⟨cs, ho⟩, rfl⟩
  have hold : ∀ k, k ≠ γ.base o → (W.setRow (γ.base o) C').heap[k]? = W.heap[k]? := fun k hk => setRow_other W _ k _ hk
  have hS : ∀ a, S a → (W.setRow (γ.base o) C').heap[a.block]? = W.heap[a.block]? := fun a ha => hold _ ((h.own _ _ hown).2 a ha)
  obtain ⟨C0, t0, hh0, hsz, hcs⟩ := h.objs o cs ho
  rw [hh] at hh0
  injection hh0 with hh0
  injection hh0 with e1 e2
  subst e1 e2
  have hat : ∀ {o1 off1 : Nat} {π : Path} {k : Nat} {es : List (List PV)}, at_ (lay mem o (.obj ds)) o1 off1 π = some (.vec k es) → at_ mem o1 off1 π = some (.vec k es) := by
    intro o1 off1 π k es ha
    by_cases hoo : o1 = o
    · subst hoo
      obtain ⟨p, h1, h2, h3⟩ := at_obj (look_lay_same _ _ _) ha
      have hlt := (List.getElem?_eq_some_iff.1 h1).1
      have hlt' : off1 < C'.size := by omega
      rcases hcell off1 _ _ h1 (Array.getElem?_eq_getElem hlt') with ⟨h4, _⟩ | h4
      · unfold Ew.at_; rw [ho]; simp only [cellAt, h4]; exact h2
      · have := PRel.nv (show PRel W S p _ from h4); rw [this] at h3; cases h3
    · unfold Ew.at_ at ha ⊢; rwa [look_lay_other _ _ _ _ hoo] at ha
  have hno : ∀ {n : Node} {b : Nat}, Owns γ (lay mem o (.obj ds)) n b → Owns γ mem n b := by
    intro n b hn
    cases n with
    | root o1 =>
      obtain ⟨hc, hb⟩ := hn
      by_cases hoo : o1 = o
      · subst hoo; exact ⟨.inl ⟨cs, ho⟩, hb⟩
      · rw [look_lay_other _ _ _ _ hoo] at hc; exact ⟨hc, hb⟩
    | at_ o1 off1 π =>
      obtain ⟨⟨k, es, ha⟩, hb⟩ := hn
      exact ⟨⟨k, es, hat ha⟩, hb⟩
  refine ⟨fun o1 cs1 ho1 => ?_, fun o1 ks1 cs1 ho1 => ?_, fun o1 off1 π k es ha => ?_, fun o1 q hq => ?_, fun n b hn => h.own n b (hno hn), fun n n' b hn hn' => h.inj n n' b (hno hn) (hno hn')⟩
  · by_cases hoo : o1 = o
    · subst hoo
      rw [look_lay_same] at ho1
      injection ho1 with ho1
      subst ho1
      refine ⟨C', t, setRow_heap W _ C _ t _ hh, by omega, fun j c u hj hu => ?_⟩
      rcases hcell j c u hj hu with ⟨h1, h2⟩ | h1
      · exact (hcs j c u h1 h2).mono hS (fun _ h => h)
      · exact (RootOK.of h1).mono hS (fun _ h => h)
    · rw [look_lay_other _ _ _ _ hoo] at ho1
      obtain ⟨C1, t1, g1, g2, g3⟩ := h.objs o1 cs1 ho1
      refine ⟨C1, t1, ?_, g2, fun j c u hj hu => (g3 j c u hj hu).mono hS (fun _ h => h)⟩
      rw [hold _ (fun e => ?_)]
      · exact g1
      · have := h.inj (.root o1) (.root o) (γ.base o) ⟨.inl ⟨cs1, ho1⟩, e⟩ hown
        injection this with this
        exact hoo this
  · by_cases hoo : o1 = o
    · subst hoo; rw [look_lay_same] at ho1; cases ho1
    · rw [look_lay_other _ _ _ _ hoo] at ho1
      refine (h.maps o1 ks1 cs1 ho1).world hS (fun _ h => h) (hold _ (fun e => ?_))
      have := h.inj (.root o1) (.root o) (γ.base o) ⟨.inr ⟨ks1, cs1, ho1⟩, e⟩ hown
      injection this with this
      exact hoo this
  · refine (h.vecs o1 off1 π k es (hat ha)).world hS (fun _ h => h) (fun b m c h1 h2 => hold b (fun e => ?_))
    subst e
    have := h.inj _ _ _ (VecOK.owns (hat ha) h1 h2) hown
    cases this
  · by_cases hoo : o1 = o
    · subst hoo; rw [look_lay_same] at hq; cases hq
    · rw [look_lay_other _ _ _ _ hoo] at hq; exact h.regs o1 q hq

/-! ### Writing a row's cells -/
theorem MemOK.writeVec (h : MemOK W0 M S γ mem W) {o off : Nat} {π : Path} {p p' : PV} (hp : cellAt (look mem o) off = some p) {k : Nat} {es : List (List PV)} (hd : PV.down π p = some (.vec k es))
    {i : Nat} {row row' : List PV} (hi : es[i]? = some row) (hl : row'.length = row.length) (hput : PV.put π (.vec k (es.set i row')) p = some p')
    {b m cap : Nat} (hh : γ.hd o off π = .slice (some ⟨b, 0, none⟩) m cap) (hc0 : 0 < cap) {cur cur' : Array Value} {t : TypeId} (hcur : W.heap[b]? = some (.cells cur t (0, 0))) (hsz : cur'.size = cur.size)
    (hcell : ∀ (f : Nat) (x : PV) (u : Value), row'[f]? = some x → cur'[i * k + f]? = some u → (row[f]? = some x ∧ cur[i * k + f]? = some u) ∨ PRel W S x u)
    (hother : ∀ j, (j < i * k ∨ i * k + k ≤ j) → cur'[j]? = cur[j]?) :
    MemOK W0 M S γ (setCell mem o off p') (W.setRow b cur') := by
  have ha0 : at_ mem o off π = some (.vec k es) := by unfold Ew.at_; rw [hp]; exact hd
  have hown : Owns γ mem (.at_ o off π) b := VecOK.owns ha0 hh hc0
  have hold : ∀ k, k ≠ b → (W.setRow b cur').heap[k]? = W.heap[k]? := fun k hk => setRow_other W _ k _ hk
  have hS : ∀ a, S a → (W.setRow b cur').heap[a.block]? = W.heap[a.block]? := fun a ha => hold _ ((h.own _ _ hown).2 a ha)
  obtain ⟨v0, v1, v2⟩ := h.vecs o off π k es ha0
  have v3 : ∃ cur0 t0, W.heap[b]? = some (.cells cur0 t0 (0, 0)) ∧ cur0.size = cap * k ∧ m = es.length ∧ m ≤ cap ∧ cap ≤ maxLen ∧ ∀ (i : Nat) (row : List PV) (f : Nat) (x : PV) (u : Value), es[i]? = some row → row[f]? = some x → cur0[i * k + f]? = some u → CellOK W S γ o off ((i, k, f) :: π) x u := by
    rcases v2 with ⟨_, A, hA⟩ | ⟨b', cap', w1, w2, w3, w4, cur0, t0, w5, w6, w7⟩
    · rw [hh] at hA; injection hA with _ _ hA; omega
    · rw [hh] at w1
      injection w1 with e1 e2 e3
      injection e1 with e1
      injection e1 with e1
      subst e1 e2 e3
      exact ⟨cur0, t0, w5, w6, rfl, w3, w4, w7⟩
  obtain ⟨cur0, t0, g1, g2, rfl, g4, g5, g6⟩ := v3
  rw [hcur] at g1
  injection g1 with g1
  injection g1 with e1 e2
  subst e1 e2
  have hilt : i < es.length := (List.getElem?_eq_some_iff.1 hi).1
  have hrl : row.length = k := v1 row (List.mem_of_getElem? hi)
  have hin : ∀ f, f < k → i * k + f < cur'.size := fun f hf => by
    rw [hsz, g2]
    have : (i + 1) * k ≤ cap * k := Nat.mul_le_mul_right _ (by omega)
    rw [Nat.add_mul, Nat.one_mul] at this
    omega
  have hsame := put_same hput
  -- which cell of the row keeps a slice
  have hkeep : ∀ (f : Nat) (x : PV), row'[f]? = some x → x.nv = false → row[f]? = some x := fun f x hx hn => by
    have hf : f < k := by rw [← hrl, ← hl]; exact (List.getElem?_eq_some_iff.1 hx).1
    rcases hcell f x _ hx (Array.getElem?_eq_getElem (hin f hf)) with ⟨h1, _⟩ | h1
    · exact h1
    · rw [h1.nv] at hn; cases hn
  have hat : ∀ {o1 off1 : Nat} {π1 : Path} {k1 : Nat} {es1 : List (List PV)}, at_ (setCell mem o off p') o1 off1 π1 = some (.vec k1 es1) →
      (o1 = o ∧ off1 = off ∧ π1 = π ∧ k1 = k ∧ es1 = es.set i row') ∨ (¬ (o1 = o ∧ off1 = off ∧ π1 = π) ∧ ∃ es2, at_ mem o1 off1 π1 = some (.vec k1 es2) ∧ es1.length = es2.length ∧
        ∀ (j : Nat) (r' : List PV), es1[j]? = some r' → ∃ r, es2[j]? = some r ∧ r'.length = r.length ∧ ∀ (f : Nat) (x' : PV), r'[f]? = some x' → x' = .bot ∨ ∃ x, r[f]? = some x ∧ (x' = x ∨ (x'.nv = false ∧ x.nv = false))) := by
    intro o1 off1 π1 k1 es1 ha
    rw [at_setCell hp] at ha
    split at ha
    · rename_i hc
      obtain ⟨rfl, rfl⟩ := hc
      cases hr : rest π π1 with
      | some ρ =>
        have e := rest_some.1 hr
        rcases List.eq_nil_or_concat ρ with rfl | ⟨ρ', s, rfl⟩
        · left
          rw [List.nil_append] at e
          subst e
          rw [hsame] at ha
          injection ha with ha
          injection ha with e1 e2
          exact ⟨rfl, rfl, rfl, e1.symm, e2.symm⟩
        · right
          refine ⟨fun h => ?_, es1, ?_, rfl, fun j r hj => ⟨r, hj, rfl, fun f x hx => .inr ⟨x, hx, .inl rfl⟩⟩⟩
          · have := congrArg List.length (h.2.2.symm.trans e); simp at this; omega
          · rw [e, List.concat_eq_append, List.append_assoc, down_append] at ha
            rw [e, List.concat_eq_append, List.append_assoc, at_append]
            have hd1 : at_ mem o1 off1 ([s] ++ π) = PV.elem s (.vec k es) := by
              rw [at_append, ha0]
              simp [PV.down]
            rw [hd1]
            simp only [List.singleton_append, PV.down, hsame] at ha
            obtain ⟨i2, k2, f2⟩ := s
            cases hel : PV.elem (i2, k2, f2) (.vec k (es.set i row')) with
            | none => rw [hel] at ha; cases ha
            | some q =>
              rw [hel] at ha
              have hqn : q.nv = false := by
                cases q with
                | vec _ _ => rfl
                | _ =>
                  have := down_nv rfl ha
                  subst this
                  simp [PV.down] at ha
              obtain ⟨es3, row3, e3, h3, h4⟩ := elem_some hel
              injection e3 with e4 e5
              subst e4 e5
              rw [List.getElem?_set] at h3
              have : PV.elem (i2, k, f2) (.vec k es) = some q := by
                split at h3
                · rename_i hii
                  subst hii
                  first | rw [if_pos hilt] at h3 | skip
                  injection h3 with h3
                  subst h3
                  exact elem_mk hi (hkeep f2 q h4 hqn)
                · exact elem_mk h3 h4
              rw [this]
              exact ha
      | none =>
        right
        refine ⟨fun h => ?_, ?_⟩
        · rw [h.2.2, rest_self] at hr; cases hr
        · obtain ⟨q, h1, h2⟩ := put_other hput hr ha
          have h3 : at_ mem o1 off1 π1 = some q := by unfold Ew.at_; rw [hp]; exact h1
          rcases h2 with rfl | ⟨k2, es2, es2', rfl, h4, h5, h6⟩
          · exact ⟨es1, h3, rfl, fun j r hj => ⟨r, hj, rfl, fun f x hx => .inr ⟨x, hx, .inl rfl⟩⟩⟩
          · injection h4 with h7 h8
            subst h7 h8
            refine ⟨es2, h3, h5, fun j r' hj => ?_⟩
            obtain ⟨r, q1, q2, q3⟩ := h6 j r' hj
            refine ⟨r, q1, q2, fun f x' hx => .inr ?_⟩
            rcases q3 f x' hx with ⟨e1, rfl⟩ | q4
            · have q5 : at_ mem o1 off1 ((j, k1, f) :: π1) = some (.vec k es) := by rw [e1]; exact ha0
              obtain ⟨es9, row9, q6, q7, q8⟩ := at_cons q5
              rw [h3] at q6
              injection q6 with q6
              injection q6 with _ q6
              subst q6
              rw [q1] at q7
              injection q7 with q7
              subst q7
              exact ⟨_, q8, .inr ⟨rfl, rfl⟩⟩
            · exact q4
    · rename_i hc
      exact .inr ⟨fun h => hc ⟨h.1, h.2.1⟩, es1, ha, rfl, fun j r hj => ⟨r, hj, rfl, fun f x hx => .inr ⟨x, hx, .inl rfl⟩⟩⟩
  have hno : ∀ {n : Node} {b1 : Nat}, Owns γ (setCell mem o off p') n b1 → Owns γ mem n b1 := by
    intro n b1 hn
    cases n with
    | root o1 =>
      obtain ⟨⟨cs1, hc⟩ | ⟨ks1, cs1, hc⟩, hb⟩ := hn
      · obtain ⟨cs0, hc0, _⟩ := obj_setCell hp hc
        exact ⟨.inl ⟨cs0, hc0⟩, hb⟩
      · exact ⟨.inr ⟨ks1, cs1, map_setCell hc⟩, hb⟩
    | at_ o1 off1 π1 =>
      obtain ⟨⟨k1, es1, ha⟩, hb⟩ := hn
      rcases hat ha with ⟨rfl, rfl, rfl, rfl, rfl⟩ | ⟨_, es2, h2, _⟩
      · exact ⟨⟨_, _, ha0⟩, hb⟩
      · exact ⟨⟨_, _, h2⟩, hb⟩
  refine ⟨fun o1 cs1 ho1 => ?_, fun o1 ks1 cs1 ho1 => (h.maps o1 ks1 cs1 (map_setCell ho1)).world hS (fun _ h => h) (hold _ (fun e => (by
      have := h.inj (.root o1) _ b ⟨.inr ⟨ks1, cs1, map_setCell ho1⟩, e⟩ hown
      cases this))), fun o1 off1 π1 k1 es1 ha => ?_, fun o1 q hq => ?_, fun n b hn => h.own n b (hno hn), fun n n' b hn hn' => h.inj n n' b (hno hn) (hno hn')⟩
  · obtain ⟨cs0, q1, q2, q3⟩ := obj_setCell hp ho1
    obtain ⟨C1, t1, q4, q5, q6⟩ := h.objs o1 cs0 q1
    refine ⟨C1, t1, ?_, by omega, fun j c u hj hu => ?_⟩
    · rw [hold _ (fun e => ?_)]
      · exact q4
      · have := h.inj (.root o1) _ b ⟨.inl ⟨cs0, q1⟩, e⟩ hown
        cases this
    · rcases q3 j c hj with ⟨rfl, rfl, rfl⟩ | ⟨_, q7⟩
      · have hlt : j < cs0.length := by rw [← q2]; exact (List.getElem?_eq_some_iff.1 hj).1
        have q8 := q6 j _ u (List.getElem?_eq_getElem hlt) hu
        rw [q1] at hp
        simp only [cellAt, List.getElem?_eq_getElem hlt] at hp
        split at hp
        · rename_i q hq
          injection hp with hp
          subst hp
          simp only [Option.some.injEq] at hq
          rw [hq] at q8
          have n1 : q.nv = false := by
            cases q with
            | vec _ _ => rfl
            | _ =>
              have := down_nv rfl hd
              subst this
              simp [PV.down] at hd
          have n2 : p'.nv = false := by
            cases p' with
            | vec _ _ => rfl
            | _ =>
              have := down_nv rfl hsame
              subst this
              simp [PV.down] at hsame
          exact (show CellOK W S γ _ _ [] p' u from CellOK.vecs q8 n2 n1).mono hS (fun _ h => h)
        · cases hp
      · exact (q6 j c u q7 hu).mono hS (fun _ h => h)
  · rcases hat ha with ⟨rfl, rfl, rfl, rfl, rfl⟩ | ⟨hne, es2, h2, h3, h4⟩
    · refine ⟨v0, fun r hr => ?_, .inr ⟨b, cap, by rw [List.length_set]; exact hh, hc0, by simpa using g4, g5, cur', _, setRow_heap W _ cur _ t _ hcur, by omega, fun j r f x u hj hf hu => ?_⟩⟩
      · rcases List.mem_or_eq_of_mem_set hr with h5 | rfl
        · exact v1 r h5
        · omega
      · rw [List.getElem?_set] at hj
        split at hj
        · rename_i hij
          subst hij
          first | rw [if_pos hilt] at hj | skip
          injection hj with hj
          subst hj
          rcases hcell f x u hf hu with ⟨q1, q2⟩ | q1
          · exact (g6 i row f x u hi q1 q2).mono hS (fun _ h => h)
          · exact (CellOK.of q1).mono hS (fun _ h => h)
        · rename_i hij
          have hf' : f < k1 := by rw [← v1 r (List.mem_of_getElem? hj)]; exact (List.getElem?_eq_some_iff.1 hf).1
          rw [hother (j * k1 + f) (by
            rcases Nat.lt_or_gt_of_ne hij with h5 | h5
            · right
              have := Nat.mul_le_mul_right k1 (show i + 1 ≤ j from h5)
              rw [Nat.add_mul, Nat.one_mul] at this
              omega
            · left
              have := Nat.mul_le_mul_right k1 (show j + 1 ≤ i from h5)
              rw [Nat.add_mul, Nat.one_mul] at this
              omega)] at hu
          exact (g6 j r f x u hj hf hu).mono hS (fun _ h => h)
    · refine ((h.vecs o1 off1 π1 k1 es2 h2).less h3 h4).world hS (fun _ h => h) (fun b' m' c' q1 q2 => hold b' (fun e => ?_))
      subst e
      have := h.inj _ _ _ (VecOK.owns h2 q1 q2) hown
      injection this with e1 e2 e3
      exact hne ⟨e1, e2, e3⟩
  · rcases reg_setCell hp hq with ⟨rfl, rfl, rfl, q1⟩ | q1
    · cases q with
      | vec k1 es1 => exact ⟨_, _, rfl⟩
      | _ =>
        have := down_nv rfl hsame
        subst this
        simp [PV.down] at hsame
    · exact h.regs o1 q q1

/-! ### New things -/
def Gh.setBase (γ : Gh) (d b : Nat) : Gh := { base := fun i => if i = d then b else γ.base i, hd := γ.hd }
theorem Gh.setBase_chg (γ : Gh) (d b : Nat) : Chg (.root d) γ (γ.setBase d b) := ⟨fun o h => by simp only [Gh.setBase]; rw [if_neg]; rintro rfl; simp [Kl.b] at h, fun _ _ _ _ => rfl⟩
theorem MemOK.newObj (h : MemOK W0 M S γ mem W) (hsz : W0.heap.size ≤ W.heap.size) (hlt : ∀ a, S a → a.block < W.heap.size) {d : Nat} (hclear : Clear (.root d) mem) {ds : List CV} {C : Array Value} (t : TypeId) (hds : CsRel W S (γ.setBase d W.heap.size) ds C.toList) :
    MemOK W0 M S (γ.setBase d W.heap.size) (lay mem d (.obj ds)) (W.alloc (.cells C t)) := by
  have hold : ∀ k, k < W.heap.size → (W.alloc (.cells C t)).heap[k]? = W.heap[k]? := fun k hk => Below.heap_alloc W _ k hk
  have hS : ∀ a, S a → (W.alloc (.cells C t)).heap[a.block]? = W.heap[a.block]? := fun a ha => hold _ (hlt a ha)
  have hb : ∀ o, o ≠ d → (γ.setBase d W.heap.size).base o = γ.base o := fun o ho => if_neg ho
  have hbd : (γ.setBase d W.heap.size).base d = W.heap.size := if_pos rfl
  have hat : ∀ {o1 off1 : Nat} {π : Path} {k : Nat} {es : List (List PV)}, at_ (lay mem d (.obj ds)) o1 off1 π = some (.vec k es) → o1 ≠ d ∧ at_ mem o1 off1 π = some (.vec k es) := by
    intro o1 off1 π k es ha
    by_cases hoo : o1 = d
    · subst hoo
      obtain ⟨p, h1, h2, h3⟩ := at_obj (look_lay_same _ _ _) ha
      have hlt := (List.getElem?_eq_some_iff.1 h1).1
      have hlt' : off1 < C.toList.length := by rw [← hds.1]; exact hlt
      have := PRel.nv (show PRel W S p _ from hds.2 off1 _ _ h1 (List.getElem?_eq_getElem hlt'))
      rw [this] at h3; cases h3
    · unfold Ew.at_ at ha ⊢; rw [look_lay_other _ _ _ _ hoo] at ha; exact ⟨hoo, ha⟩
  have hno : ∀ {n : Node} {b : Nat}, Owns (γ.setBase d W.heap.size) (lay mem d (.obj ds)) n b → (n = .root d ∧ b = W.heap.size) ∨ (n ≠ .root d ∧ Owns γ mem n b) := by
    intro n b hn
    cases n with
    | root o1 =>
      obtain ⟨hc, hbb⟩ := hn
      by_cases hoo : o1 = d
      · subst hoo; left; exact ⟨rfl, by rw [← hbb, hbd]⟩
      · rw [look_lay_other _ _ _ _ hoo] at hc
        rw [hb o1 hoo] at hbb
        exact .inr ⟨fun e => hoo (by injection e), hc, hbb⟩
    | at_ o1 off1 π =>
      obtain ⟨⟨k, es, ha⟩, hbb⟩ := hn
      exact .inr ⟨fun e => (by cases e), ⟨⟨k, es, (hat ha).2⟩, hbb⟩⟩
  refine ⟨fun o1 cs1 ho1 => ?_, fun o1 ks1 cs1 ho1 => ?_, fun o1 off1 π k es ha => ?_, fun o1 q hq => ?_, fun n b hn => ?_, fun n n' b hn hn' => ?_⟩
  · by_cases hoo : o1 = d
    · subst hoo
      rw [look_lay_same] at ho1
      injection ho1 with ho1
      subst ho1
      rw [ObjOK, hbd]
      refine ⟨C, t, heap_alloc_new W _, by simpa using hds.1.symm, fun j c u hj hu => ?_⟩
      exact (RootOK.of (hds.2 j c u hj (by simpa using hu))).mono hS (fun _ h => h)
    · rw [look_lay_other _ _ _ _ hoo] at ho1
      obtain ⟨C1, t1, g1, g2, g3⟩ := h.objs o1 cs1 ho1
      rw [ObjOK, hb o1 hoo]
      exact ⟨C1, t1, by rw [hold _ (Array.getElem?_eq_some_iff.1 g1).1]; exact g1, g2, fun j c u hj hu => ((g3 j c u hj hu).chg (Gh.setBase_chg γ d _) (hclear o1 cs1 j c (.inl ho1) hj) rfl).mono hS (fun _ h => h)⟩
  · by_cases hoo : o1 = d
    · subst hoo; rw [look_lay_same] at ho1; cases ho1
    · rw [look_lay_other _ _ _ _ hoo] at ho1
      have hm := (h.maps o1 ks1 cs1 ho1).chg (Gh.setBase_chg γ d W.heap.size) (fun j c hj => hclear o1 cs1 j c (.inr ⟨ks1, ho1⟩) hj) (hb o1 hoo)
      exact hm.world hS (fun _ h => h) (by rw [hb o1 hoo]; exact hold _ (h.blk_lt (n := .root o1) ⟨.inr ⟨ks1, cs1, ho1⟩, rfl⟩))
  · obtain ⟨h1, h2⟩ := hat ha
    have h3 := h.vecs o1 off1 π k es h2
    have h4 := h3.world hS (fun _ h => h) (S' := S) (fun b m c g1 g2 => hold b (h.blk_lt (VecOK.owns h2 g1 g2)))
    obtain ⟨v0, v1, v2⟩ := h4
    refine ⟨v0, v1, ?_⟩
    rcases v2 with v2 | ⟨b, cap, w1, w2, w3, w4, cur, t', w5, w6, w7⟩
    · exact .inl v2
    · refine .inr ⟨b, cap, w1, w2, w3, w4, cur, t', w5, w6, fun i row f x u hi hf hu => ?_⟩
      have := w7 i row f x u hi hf hu
      cases x <;> exact this
  · by_cases hoo : o1 = d
    · subst hoo; rw [look_lay_same] at hq; cases hq
    · rw [look_lay_other _ _ _ _ hoo] at hq; exact h.regs o1 q hq
  · rcases hno hn with ⟨rfl, rfl⟩ | ⟨_, h1⟩
    · exact ⟨.inl hsz, fun a ha e => by have := hlt a ha; omega⟩
    · exact h.own n b h1
  · rcases hno hn with ⟨rfl, rfl⟩ | ⟨g1, h1⟩ <;> rcases hno hn' with ⟨rfl, h2⟩ | ⟨g2, h2⟩
    · rfl
    · have := h.blk_lt h2; omega
    · subst h2; have := h.blk_lt h1; omega
    · exact h.inj n n' b h1 h2

/-! ### Maps -/
theorem at_lay_map {d : Nat} {ks : List Value} {cs : List CV} {o1 off1 : Nat} {π : Path} {k : Nat} {es : List (List PV)} (ha : at_ (lay mem d (.map ks cs)) o1 off1 π = some (.vec k es)) : o1 ≠ d ∧ at_ mem o1 off1 π = some (.vec k es) := by
  unfold Ew.at_ at ha ⊢
  by_cases hoo : o1 = d
  · subst hoo; rw [look_lay_same] at ha; simp [cellAt] at ha
  · rw [look_lay_other _ _ _ _ hoo] at ha; exact ⟨hoo, ha⟩
theorem MemOK.newMap (h : MemOK W0 M S γ mem W) (hsz : W0.heap.size ≤ W.heap.size) (hlt : ∀ a, S a → a.block < W.heap.size) {d : Nat} (hclear : Clear (.root d) mem) :
    MemOK W0 M S (γ.setBase d W.heap.size) (lay mem d (.map [] [])) (W.alloc (.map #[] 0)) := by
  have hold : ∀ k, k < W.heap.size → (W.alloc (.map #[] 0)).heap[k]? = W.heap[k]? := fun k hk => Below.heap_alloc W _ k hk
  have hS : ∀ a, S a → (W.alloc (.map #[] 0)).heap[a.block]? = W.heap[a.block]? := fun a ha => hold _ (hlt a ha)
  have hb : ∀ o, o ≠ d → (γ.setBase d W.heap.size).base o = γ.base o := fun o ho => if_neg ho
  have hbd : (γ.setBase d W.heap.size).base d = W.heap.size := if_pos rfl
  have hno : ∀ {n : Node} {b : Nat}, Owns (γ.setBase d W.heap.size) (lay mem d (.map [] [])) n b → (n = .root d ∧ b = W.heap.size) ∨ (n ≠ .root d ∧ Owns γ mem n b) := by
    intro n b hn
    cases n with
    | root o1 =>
      obtain ⟨hc, hbb⟩ := hn
      by_cases hoo : o1 = d
      · subst hoo; left; exact ⟨rfl, by rw [← hbb, hbd]⟩
      · rw [look_lay_other _ _ _ _ hoo] at hc
        rw [hb o1 hoo] at hbb
        exact .inr ⟨fun e => hoo (by injection e), hc, hbb⟩
    | at_ o1 off1 π =>
      obtain ⟨⟨k, es, ha⟩, hbb⟩ := hn
      exact .inr ⟨fun e => (by cases e), ⟨⟨k, es, (at_lay_map ha).2⟩, hbb⟩⟩
  refine ⟨fun o1 cs1 ho1 => ?_, fun o1 ks1 cs1 ho1 => ?_, fun o1 off1 π k es ha => ?_, fun o1 q hq => ?_, fun n b hn => ?_, fun n n' b hn hn' => ?_⟩
  · by_cases hoo : o1 = d
    · subst hoo; rw [look_lay_same] at ho1; cases ho1
    · rw [look_lay_other _ _ _ _ hoo] at ho1
      obtain ⟨C1, t1, g1, g2, g3⟩ := h.objs o1 cs1 ho1
      rw [ObjOK, hb o1 hoo]
      exact ⟨C1, t1, by rw [hold _ (Array.getElem?_eq_some_iff.1 g1).1]; exact g1, g2, fun j c u hj hu => ((g3 j c u hj hu).chg (Gh.setBase_chg γ d _) (hclear o1 cs1 j c (.inl ho1) hj) rfl).mono hS (fun _ h => h)⟩
  · by_cases hoo : o1 = d
    · subst hoo
      rw [look_lay_same] at ho1
      injection ho1 with e1 e2
      subst e1 e2
      rw [MapOK, hbd]
      exact ⟨#[], heap_alloc_new W _, rfl, rfl, fun i e hi => by simp at hi, fun i c e hi => by simp at hi⟩
    · rw [look_lay_other _ _ _ _ hoo] at ho1
      have hm := (h.maps o1 ks1 cs1 ho1).chg (Gh.setBase_chg γ d W.heap.size) (fun j c hj => hclear o1 cs1 j c (.inr ⟨ks1, ho1⟩) hj) (hb o1 hoo)
      exact hm.world hS (fun _ h => h) (by rw [hb o1 hoo]; exact hold _ (h.blk_lt (n := .root o1) ⟨.inr ⟨ks1, cs1, ho1⟩, rfl⟩))
  · obtain ⟨h1, h2⟩ := at_lay_map ha
    have h3 := h.vecs o1 off1 π k es h2
    have h4 := h3.world hS (fun _ h => h) (S' := S) (fun b m c g1 g2 => hold b (h.blk_lt (VecOK.owns h2 g1 g2)))
    obtain ⟨v0, v1, v2⟩ := h4
    refine ⟨v0, v1, ?_⟩
    rcases v2 with v2 | ⟨b, cap, w1, w2, w3, w4, cur, t', w5, w6, w7⟩
    · exact .inl v2
    · refine .inr ⟨b, cap, w1, w2, w3, w4, cur, t', w5, w6, fun i row f x u hi hf hu => ?_⟩
      have := w7 i row f x u hi hf hu
      cases x <;> exact this
  · by_cases hoo : o1 = d
    · subst hoo; rw [look_lay_same] at hq; cases hq
    · rw [look_lay_other _ _ _ _ hoo] at hq; exact h.regs o1 q hq
  · rcases hno hn with ⟨rfl, rfl⟩ | ⟨_, h1⟩
    · exact ⟨.inl hsz, fun a ha e => by have := hlt a ha; omega⟩
    · exact h.own n b h1
  · rcases hno hn with ⟨rfl, rfl⟩ | ⟨g1, h1⟩ <;> rcases hno hn' with ⟨rfl, h2⟩ | ⟨g2, h2⟩
    · rfl
    · have := h.blk_lt h2; omega
    · subst h2; have := h.blk_lt h1; omega
    · exact h.inj n n' b h1 h2
def putBlock (W : World) (b : Nat) (B : Obj) : World := { W with heap := W.heap.setIfInBounds b B }
theorem putBlock_other (W : World) (b k : Nat) (B : Obj) (h : k ≠ b) : (putBlock W b B).heap[k]? = W.heap[k]? := by
  simp only [putBlock, Array.getElem?_setIfInBounds]
  rw [if_neg (Ne.symm h)]
theorem putBlock_self (W : World) (b : Nat) (B : Obj) (h : b < W.heap.size) : (putBlock W b B).heap[b]? = some B := by
  simp [putBlock, h]
/-- A map's entry is written. -/
theorem MemOK.writeMap (h : MemOK W0 M S γ mem W) {o : Nat} {ks ks' : List Value} {cs cs' : List CV} (ho : look mem o = .map ks cs) {es' : Array MapEntry} (hk : es'.toList.map (·.key) = ks') (hl : cs'.length = es'.size)
    (hb : ∀ (i : Nat) (e : MapEntry), es'[i]? = some e → e.born = i ∧ e.val.oneCell' = true) (hr : ∀ (i : Nat) (c : CV) (e : MapEntry), cs'[i]? = some c → es'[i]? = some e → CRel W S γ c e.val) :
    MemOK W0 M S γ (lay mem o (.map ks' cs')) (putBlock W (γ.base o) (.map es' es'.size)) := by
  have hown : Owns γ mem (.root o) (γ.base o) := ⟨.inr ⟨ks, cs, ho⟩, rfl⟩
  have hold : ∀ k, k ≠ γ.base o → (putBlock W (γ.base o) (.map es' es'.size)).heap[k]? = W.heap[k]? := fun k hk => putBlock_other W _ k _ hk
  have hS : ∀ a, S a → (putBlock W (γ.base o) (.map es' es'.size)).heap[a.block]? = W.heap[a.block]? := fun a ha => hold _ ((h.own _ _ hown).2 a ha)
  have hno : ∀ {n : Node} {b : Nat}, Owns γ (lay mem o (.map ks' cs')) n b → Owns γ mem n b := by
    intro n b hn
    cases n with
    | root o1 =>
      obtain ⟨hc, hb⟩ := hn
      by_cases hoo : o1 = o
      · subst hoo; exact ⟨.inr ⟨ks, cs, ho⟩, hb⟩
      · rw [look_lay_other _ _ _ _ hoo] at hc; exact ⟨hc, hb⟩
    | at_ o1 off1 π =>
      obtain ⟨⟨k, es, ha⟩, hb⟩ := hn
      exact ⟨⟨k, es, (at_lay_map ha).2⟩, hb⟩
  have hne : ∀ {o1 : Nat}, o1 ≠ o → Owns γ mem (.root o1) (γ.base o1) → γ.base o1 ≠ γ.base o := fun {o1} hoo h1 e => by
    rw [e] at h1
    have := h.inj _ _ _ h1 hown
    injection this with this
    exact hoo this
  refine ⟨fun o1 cs1 ho1 => ?_, fun o1 ks1 cs1 ho1 => ?_, fun o1 off1 π k es ha => ?_, fun o1 q hq => ?_, fun n b hn => h.own n b (hno hn), fun n n' b hn hn' => h.inj n n' b (hno hn) (hno hn')⟩
  · by_cases hoo : o1 = o
    · subst hoo; rw [look_lay_same] at ho1; cases ho1
    · rw [look_lay_other _ _ _ _ hoo] at ho1
      obtain ⟨C1, t1, g1, g2, g3⟩ := h.objs o1 cs1 ho1
      exact ⟨C1, t1, (hold _ (hne hoo ⟨.inl ⟨cs1, ho1⟩, rfl⟩)).trans g1, g2, fun j c u hj hu => (g3 j c u hj hu).mono hS (fun _ h => h)⟩
  · by_cases hoo : o1 = o
    · subst hoo
      rw [look_lay_same] at ho1
      injection ho1 with e1 e2
      subst e1 e2
      exact ⟨es', putBlock_self W _ _ (h.blk_lt hown), hk, hl, hb, fun i c e hi he => (hr i c e hi he).mono hS (fun _ h => h)⟩
    · rw [look_lay_other _ _ _ _ hoo] at ho1
      exact (h.maps o1 ks1 cs1 ho1).world hS (fun _ h => h) (hold _ (hne hoo ⟨.inr ⟨ks1, cs1, ho1⟩, rfl⟩))
  · have ha' := (at_lay_map ha).2
    refine (h.vecs o1 off1 π k es ha').world hS (fun _ h => h) (fun b m c h1 h2 => hold b (fun e => ?_))
    subst e
    have := h.inj _ _ _ (VecOK.owns ha' h1 h2) hown
    cases this
  · by_cases hoo : o1 = o
    · subst hoo; rw [look_lay_same] at hq; cases hq
    · rw [look_lay_other _ _ _ _ hoo] at hq; exact h.regs o1 q hq

/-! ### A slice of the call's own under a new number -/
def Gh.reg (γ : Gh) (d : Nat) (v : Value) (so soff : Nat) (sπ : Path) : Gh :=
  { base := γ.base, hd := fun o off π => if o = d then
      match π with
      | [] => v
      | s :: ρ => γ.hd so soff ((s :: ρ) ++ sπ)
    else γ.hd o off π }
theorem Gh.reg_chg (γ : Gh) (d : Nat) (v : Value) (so soff : Nat) (sπ : Path) : Chg (.root d) γ (γ.reg d v so soff sπ) := ⟨fun _ _ => rfl, fun o off π h => by simp only [Gh.reg]; rw [if_neg]; rintro rfl; simp [Kl.h] at h⟩
theorem Gh.reg_other (γ : Gh) (d : Nat) (v : Value) (so soff : Nat) (sπ : Path) {o off : Nat} {π : Path} (h : o ≠ d) : (γ.reg d v so soff sπ).hd o off π = γ.hd o off π := by simp only [Gh.reg]; rw [if_neg h]
theorem at_reg {d off : Nat} {p q : PV} {π : Path} (h : at_ (lay mem d (.reg p)) d off π = some q) : off = 0 ∧ PV.down π p = some q := by
  unfold Ew.at_ at h
  rw [look_lay_same] at h
  simp only [cellAt] at h
  split at h
  · rename_i r hr
    split at hr
    · rename_i h0; injection hr with hr; subst hr; exact ⟨h0, h⟩
    · cases hr
  · cases h
theorem MemOK.newReg (h : MemOK W0 M S γ mem W) (hl : Less mem1 mem) {d : Nat} (hclear : Clear (.root d) mem1) {so soff : Nat} {sπ : Path} {k : Nat} {es new : List (List PV)} {n : Nat} {v : Value} {b : Nat}
    (hsrc : (n = 0 ∧ W.heap.size ≤ b) ∨ (at_ mem so soff sπ = some (.vec k es) ∧ ∀ (ρ : Path) (k : Nat) (es : List (List PV)), at_ mem1 so soff (ρ ++ sπ) ≠ some (.vec k es)))
    (hn : n ≤ es.length) (hk : 0 < k) (hrow : ∀ r ∈ es.take n ++ new, r.length = k) (hnv : ∀ r ∈ new, ∀ x ∈ r, x.nv = true)
    (hsz : W0.heap.size ≤ W.heap.size) (hS : ∀ a, S a → W'.heap[a.block]? = W.heap[a.block]?) (hlt : ∀ a, S a → a.block < W.heap.size) (hheap : ∀ j, j < W.heap.size → j ≠ b → W'.heap[j]? = W.heap[j]?)
    (hb : W.heap.size ≤ b ∨ Owns γ mem (.at_ so soff sπ) b)
    (hv : (es.take n ++ new = [] ∧ ∃ A, v = .slice A 0 0 ∧ W.heap.size ≤ b) ∨ ∃ cap cur t, v = .slice (some ⟨b, 0, none⟩) (es.take n ++ new).length cap ∧ 0 < cap ∧ (es.take n ++ new).length ≤ cap ∧ cap ≤ maxLen ∧ W'.heap[b]? = some (.cells cur t (0, 0)) ∧ cur.size = cap * k ∧
      ∀ (i : Nat) (row : List PV) (f : Nat) (x : PV) (u : Value), (es.take n ++ new)[i]? = some row → row[f]? = some x → cur[i * k + f]? = some u → (i < n ∧ CellOK W S γ so soff ((i, k, f) :: sπ) x u) ∨ PRel W' S x u) :
    MemOK W0 M S (γ.reg d v so soff sπ) (lay mem1 d (.reg (.vec k (es.take n ++ new)))) W' := by
  have h1 := h.less hl
  -- places under the new root
  have hunder : ∀ {ρ : Path} {s : Nat × Nat × Nat} {k1 : Nat} {es1 : List (List PV)}, PV.down (ρ ++ [s]) (.vec k (es.take n ++ new)) = some (.vec k1 es1) → 0 < n ∧ at_ mem so soff (ρ ++ [s] ++ sπ) = some (.vec k1 es1) := by
    intro ρ s k1 es1 hd
    rw [down_append] at hd
    obtain ⟨i, k2, f⟩ := s
    simp only [PV.down] at hd
    cases hel : PV.elem (i, k2, f) (.vec k (es.take n ++ new)) with
    | none => rw [hel] at hd; cases hd
    | some q =>
      rw [hel] at hd
      obtain ⟨es3, row3, e3, h3, h4⟩ := elem_some hel
      injection e3 with e4 e5
      subst e4 e5
      have hqn : q.nv = false := by
        cases q with
        | vec _ _ => rfl
        | _ =>
          have := down_nv rfl hd
          subst this
          simp [PV.down] at hd
      by_cases hin : i < (es.take n).length
      · rw [List.getElem?_append_left hin] at h3
        have hi' : i < n := by rw [List.length_take] at hin; omega
        rcases hsrc with h5 | ⟨h5, _⟩
        · omega
        · refine ⟨by omega, ?_⟩
          rw [List.getElem?_take, if_pos hi'] at h3
          rw [List.append_assoc, at_append, List.singleton_append, at_child h5 h3 h4]
          exact hd
      · rw [List.getElem?_append_right (by omega)] at h3
        have := hnv row3 (List.mem_of_getElem? h3) q (List.mem_of_getElem? h4)
        rw [this] at hqn; cases hqn
  have hat : ∀ {o1 off1 : Nat} {π : Path} {k1 : Nat} {es1 : List (List PV)}, at_ (lay mem1 d (.reg (.vec k (es.take n ++ new)))) o1 off1 π = some (.vec k1 es1) →
      (o1 = d ∧ off1 = 0 ∧ π = [] ∧ k1 = k ∧ es1 = es.take n ++ new) ∨ (∃ s ρ, o1 = d ∧ off1 = 0 ∧ π = s :: ρ ∧ 0 < n ∧ at_ mem so soff (s :: ρ ++ sπ) = some (.vec k1 es1)) ∨ (o1 ≠ d ∧ at_ mem1 o1 off1 π = some (.vec k1 es1)) := by
    intro o1 off1 π k1 es1 ha
    by_cases ho : o1 = d
    · subst ho
      obtain ⟨h0, hd⟩ := at_reg ha
      cases π with
      | nil =>
        left
        simp only [PV.down, Option.some.injEq, PV.vec.injEq] at hd
        exact ⟨rfl, h0, rfl, hd.1.symm, hd.2.symm⟩
      | cons s ρ =>
        right; left
        rcases List.eq_nil_or_concat (s :: ρ) with h2 | ⟨ρ', s', h2⟩
        · cases h2
        · rw [h2, List.concat_eq_append] at hd
          obtain ⟨h3, h4⟩ := hunder hd
          refine ⟨s, ρ, rfl, h0, rfl, h3, ?_⟩
          rw [h2, List.concat_eq_append]
          exact h4
    · right; right
      unfold Ew.at_ at ha ⊢; rw [look_lay_other _ _ _ _ ho] at ha; exact ⟨ho, ha⟩
  have hnode : ∀ {nd : Node} {c : Nat}, Owns (γ.reg d v so soff sπ) (lay mem1 d (.reg (.vec k (es.take n ++ new)))) nd c →
      (nd = .at_ d 0 [] ∧ c = b ∧ ¬ (es.take n ++ new = [] ∧ ∃ A, v = .slice A 0 0 ∧ W.heap.size ≤ b)) ∨ (∃ s ρ, nd = .at_ d 0 (s :: ρ) ∧ 0 < n ∧ Owns γ mem (.at_ so soff (s :: ρ ++ sπ)) c) ∨ ((∀ off π, nd ≠ .at_ d off π) ∧ Owns γ mem1 nd c) := by
    intro nd c hc
    cases nd with
    | root o1 =>
      obtain ⟨hcs, hbb⟩ := hc
      right; right
      refine ⟨fun off π e => (by cases e), ?_⟩
      by_cases ho : o1 = d
      · subst ho
        rw [look_lay_same] at hcs
        rcases hcs with ⟨_, hcs⟩ | ⟨_, _, hcs⟩ <;> cases hcs
      · rw [look_lay_other _ _ _ _ ho] at hcs
        exact ⟨hcs, hbb⟩
    | at_ o1 off1 π =>
      obtain ⟨⟨k1, es1, ha⟩, m, cp, hcp, hh⟩ := hc
      rcases hat ha with ⟨rfl, rfl, rfl, rfl, rfl⟩ | ⟨s, ρ, rfl, rfl, rfl, h3, h4⟩ | ⟨ho, h4⟩
      · left
        have hvv : (γ.reg o1 v so soff sπ).hd o1 0 [] = v := by simp [Gh.reg]
        rw [hvv] at hh
        have hne : ¬ (es.take n ++ new = [] ∧ ∃ A, v = .slice A 0 0 ∧ W.heap.size ≤ b) := by
          rintro ⟨_, A, hA, _⟩
          rw [hA] at hh; injection hh with _ _ hh; omega
        rcases hv with hv | ⟨cap, cur, t, w1, _⟩
        · exact absurd hv hne
        · rw [w1] at hh
          injection hh with e1 _ _
          injection e1 with e1
          injection e1 with e1
          exact ⟨rfl, e1.symm, hne⟩
      · right; left
        have : (γ.reg o1 v so soff sπ).hd o1 0 (s :: ρ) = γ.hd so soff (s :: ρ ++ sπ) := by simp [Gh.reg]
        rw [this] at hh
        exact ⟨s, ρ, rfl, h3, ⟨k1, es1, h4⟩, m, cp, hcp, hh⟩
      · right; right
        rw [Gh.reg_other _ _ _ _ _ _ ho] at hh
        exact ⟨fun off π e => ho (by injection e), ⟨k1, es1, h4⟩, m, cp, hcp, hh⟩
  have hfresh : ∀ {nd : Node} {c : Nat}, Owns γ mem1 nd c → ¬ (es.take n ++ new = [] ∧ ∃ A, v = .slice A 0 0 ∧ W.heap.size ≤ b) → c ≠ b := by
    intro nd c hc _ e
    subst e
    have h2 := hl.owns hc
    rcases hb with h3 | h4
    · have := h.blk_lt h2; omega
    · have := h.inj _ _ c h2 h4
      subst this
      rcases hsrc with ⟨_, h5⟩ | ⟨_, h5⟩
      · have := h.blk_lt h2; omega
      · obtain ⟨⟨k9, es9, h6⟩, _⟩ := hc
        exact h5 [] k9 es9 h6
  have hWb : ∀ {nd : Node} {c : Nat}, Owns γ mem1 nd c → W'.heap[c]? = W.heap[c]? := by
    intro nd c hc
    have h2 := h.blk_lt (hl.owns hc)
    by_cases e : c = b
    · subst e
      rcases hb with h3 | h4
      · omega
      · have := h.inj _ _ c (hl.owns hc) h4
        subst this
        rcases hsrc with ⟨_, h5⟩ | ⟨_, h5⟩
        · omega
        · obtain ⟨⟨k9, es9, h6⟩, _⟩ := hc
          exact absurd h6 (h5 [] k9 es9)
    · exact hheap c h2 e
  have hWu : ∀ {s : Nat × Nat × Nat} {ρ : Path} {c : Nat}, 0 < n → Owns γ mem (.at_ so soff (s :: ρ ++ sπ)) c → W'.heap[c]? = W.heap[c]? ∧ c ≠ b := by
    intro s ρ c h3 hc
    have h2 := h.blk_lt hc
    have : c ≠ b := by
      rintro rfl
      rcases hb with h4 | h4
      · omega
      · have := h.inj _ _ c hc h4
        injection this with _ _ e
        have := congrArg List.length e
        simp at this
        omega
    exact ⟨hheap c h2 this, this⟩
  have hcells : ∀ {o1 off1 : Nat} {π : Path} {x : PV} {u : Value}, CellOK W S γ o1 off1 π x u → ∀ {o2 off2 : Nat} {π2 : Path}, (γ.reg d v so soff sπ).hd o2 off2 π2 = γ.hd o1 off1 π → CellOK W' S (γ.reg d v so soff sπ) o2 off2 π2 x u := by
    intro o1 off1 π x u hx o2 off2 π2 he
    cases x with
    | vec _ _ => exact ⟨by rw [he]; exact hx.1, hx.2⟩
    | _ => exact PRel.mono hS (fun _ h => h) hx
  refine ⟨fun o1 cs1 ho1 => ?_, fun o1 ks1 cs1 ho1 => ?_, fun o1 off1 π k1 es1 ha => ?_, fun o1 q hq => ?_, fun nd c hc => ?_, fun nd nd' c hc hc' => ?_⟩
  · by_cases ho : o1 = d
    · subst ho; rw [look_lay_same] at ho1; cases ho1
    · rw [look_lay_other _ _ _ _ ho] at ho1
      obtain ⟨C1, t1, g1, g2, g3⟩ := h1.objs o1 cs1 ho1
      have hbb : (γ.reg d v so soff sπ).base o1 = γ.base o1 := rfl
      rw [ObjOK, hbb]
      refine ⟨C1, t1, by rw [hWb (nd := .root o1) ⟨.inl ⟨cs1, ho1⟩, rfl⟩]; exact g1, g2, fun j c u hj hu => ?_⟩
      exact ((g3 j c u hj hu).chg (Gh.reg_chg γ d v so soff sπ) (hclear o1 cs1 j c (.inl ho1) hj) (Gh.reg_other _ _ _ _ _ _ ho)).mono hS (fun _ h => h)
  · by_cases ho : o1 = d
    · subst ho; rw [look_lay_same] at ho1; cases ho1
    · rw [look_lay_other _ _ _ _ ho] at ho1
      have hm := (h1.maps o1 ks1 cs1 ho1).chg (Gh.reg_chg γ d v so soff sπ) (fun j c hj => hclear o1 cs1 j c (.inr ⟨ks1, ho1⟩) hj) rfl
      exact hm.world hS (fun _ h => h) (hWb (nd := .root o1) ⟨.inr ⟨ks1, cs1, ho1⟩, rfl⟩)
  · rcases hat ha with ⟨rfl, rfl, rfl, rfl, rfl⟩ | ⟨s, ρ, rfl, rfl, rfl, h3, h4⟩ | ⟨ho, h4⟩
    · have hvv : (γ.reg o1 v so soff sπ).hd o1 0 [] = v := by simp [Gh.reg]
      refine ⟨hk, hrow, ?_⟩
      rw [hvv]
      rcases hv with ⟨h5, A, h6, _⟩ | ⟨cap, cur, t, w1, w2, w3, w4, w5, w6, w7⟩
      · exact .inl ⟨h5, A, h6⟩
      · refine .inr ⟨b, cap, w1, w2, w3, w4, cur, t, w5, w6, fun i row f x u hi hf hu => ?_⟩
        rcases w7 i row f x u hi hf hu with ⟨_, h5⟩ | h5
        · exact hcells h5 (by simp [Gh.reg])
        · exact CellOK.of h5
    · obtain ⟨v0, v1, v2⟩ := h.vecs so soff (s :: ρ ++ sπ) k1 es1 h4
      have hvv : (γ.reg o1 v so soff sπ).hd o1 0 (s :: ρ) = γ.hd so soff (s :: ρ ++ sπ) := by simp [Gh.reg]
      refine ⟨v0, v1, ?_⟩
      rw [hvv]
      rcases v2 with v2 | ⟨b', cap, w1, w2, w3, w4, cur, t, w5, w6, w7⟩
      · exact .inl v2
      · refine .inr ⟨b', cap, w1, w2, w3, w4, cur, t, by rw [(hWu h3 (VecOK.owns h4 w1 w2)).1]; exact w5, w6, fun i row f x u hi hf hu => ?_⟩
        exact hcells (w7 i row f x u hi hf hu) (by simp [Gh.reg])
    · obtain ⟨v0, v1, v2⟩ := h1.vecs o1 off1 π k1 es1 h4
      refine ⟨v0, v1, ?_⟩
      rw [Gh.reg_other _ _ _ _ _ _ ho]
      rcases v2 with v2 | ⟨b', cap, w1, w2, w3, w4, cur, t, w5, w6, w7⟩
      · exact .inl v2
      · refine .inr ⟨b', cap, w1, w2, w3, w4, cur, t, by rw [hWb (VecOK.owns h4 w1 w2)]; exact w5, w6, fun i row f x u hi hf hu => ?_⟩
        exact hcells (w7 i row f x u hi hf hu) (Gh.reg_other _ _ _ _ _ _ ho)
  · by_cases ho : o1 = d
    · subst ho; rw [look_lay_same] at hq; injection hq with hq; exact ⟨_, _, hq.symm⟩
    · rw [look_lay_other _ _ _ _ ho] at hq; exact h1.regs o1 q hq
  · rcases hnode hc with ⟨rfl, rfl, _⟩ | ⟨s, ρ, rfl, h3, h4⟩ | ⟨_, h4⟩
    · rcases hb with h5 | h5
      · exact ⟨.inl (Nat.le_trans hsz h5), fun a ha e => by have := hlt a ha; omega⟩
      · exact h.own _ _ h5
    · exact h.own _ _ h4
    · exact h1.own _ _ h4
  · rcases hnode hc with ⟨rfl, rfl, g1⟩ | ⟨s, ρ, rfl, h3, h4⟩ | ⟨g1, h4⟩ <;> rcases hnode hc' with ⟨rfl, e, g2⟩ | ⟨s', ρ', rfl, h5, h6⟩ | ⟨g2, h6⟩
    · rfl
    · exact absurd rfl (hWu h5 h6).2
    · exact absurd rfl (hfresh h6 g1)
    · exact absurd e (hWu h3 h4).2
    · have := h.inj _ _ c h4 h6
      injection this with _ _ e
      rw [List.append_cancel_right e]
    · have := h.inj _ _ c h4 (hl.owns h6)
      subst this
      rcases hsrc with h7 | ⟨_, h7⟩
      · omega
      · obtain ⟨⟨k9, es9, h8⟩, _⟩ := h6
        exact absurd h8 (h7 _ k9 es9)
    · exact absurd e (hfresh h4 g2)
    · have := h.inj _ _ c (hl.owns h4) h6
      subst this
      rcases hsrc with h7 | ⟨_, h7⟩
      · omega
      · obtain ⟨⟨k9, es9, h8⟩, _⟩ := h4
        exact absurd h8 (h7 _ k9 es9)
    · exact h1.inj _ _ c h4 h6
end
end Go.Ew
end
section
/- Operations that change memory: the real machine beside the abstract one. -/
namespace Go.Ew
open Go.RowKit

/-- What was handed over lies where it lay. -/
def Step (γ γ' : Gh) (mem mem' : List (Nat × MC)) : Prop :=
  (∀ i cs, 1000000 ≤ i → look mem' i = .obj cs → (∃ cs0, look mem i = .obj cs0) ∧ γ'.base i = γ.base i) ∧
  (∀ i p, 1000000 ≤ i → look mem' i = .reg p → (∃ p0, look mem i = .reg p0) ∧ γ'.hd i 0 [] = γ.hd i 0 []) ∧
  (∀ i ks cs, 1000000 ≤ i → look mem' i = .map ks cs → (∃ ks0 cs0, look mem i = .map ks0 cs0) ∧ γ'.base i = γ.base i)
theorem Step.refl (γ : Gh) (mem : List (Nat × MC)) : Step γ γ mem mem := ⟨fun i cs _ h => ⟨⟨cs, h⟩, rfl⟩, fun i p _ h => ⟨⟨p, h⟩, rfl⟩, fun i ks cs _ h => ⟨⟨ks, cs, h⟩, rfl⟩⟩
theorem Step.trans {γ γ' γ'' : Gh} {m m' m'' : List (Nat × MC)} (h : Step γ γ' m m') (h' : Step γ' γ'' m' m'') : Step γ γ'' m m'' :=
  ⟨fun i cs hi hl => (by obtain ⟨⟨cs1, h1⟩, h2⟩ := h'.1 i cs hi hl; obtain ⟨h3, h4⟩ := h.1 i cs1 hi h1; exact ⟨h3, h2.trans h4⟩),
   fun i p hi hl => (by obtain ⟨⟨p1, h1⟩, h2⟩ := h'.2.1 i p hi hl; obtain ⟨h3, h4⟩ := h.2.1 i p1 hi h1; exact ⟨h3, h2.trans h4⟩),
   fun i ks cs hi hl => (by obtain ⟨⟨ks1, cs1, h1⟩, h2⟩ := h'.2.2 i ks cs hi hl; obtain ⟨h3, h4⟩ := h.2.2 i ks1 cs1 hi h1; exact ⟨h3, h2.trans h4⟩)⟩
theorem Less.step {mem mem1 : List (Nat × MC)} (h : Less mem1 mem) (γ : Gh) : Step γ γ mem mem1 :=
  ⟨fun i cs _ hl => (by obtain ⟨cs0, h0, _⟩ := h.obj i cs hl; exact ⟨⟨cs0, h0⟩, rfl⟩), fun i p _ hl => ⟨(h.reg i p hl).1, rfl⟩, fun i ks cs _ hl => (by obtain ⟨cs0, h0, _⟩ := h.map i ks cs hl; exact ⟨⟨ks, cs0, h0⟩, rfl⟩)⟩

section
variable {P : Program} {T : Tab} {W0 W W' : World} {M : Nat → Prop} {S0 S S' : Addr → Prop} {γ γ' : Gh} {mem mem1 mem2 : List (Nat × MC)} {κ : Kl} {σ : St} {a : Act}

theorem Core.upd (hC : Core T W0 M S0 S γ mem W) {mem' : List (Nat × MC)} (hM : MemOK W0 M S γ' mem' W') (hos : W'.os = W.os) (htape : W'.tape = W.tape) (hout : W'.output = W.output) (hsize : W.heap.size ≤ W'.heap.size)
    (hheap : ∀ k, k < W.heap.size → W'.heap[k]? = W.heap[k]? ∨ W0.heap.size ≤ k ∨ M k) (hS : ∀ a, S a → W'.heap[a.block]? = W.heap[a.block]?) : Core T W0 M S0 S γ' mem' W' := by
  refine ⟨hos.trans hC.os, htape.trans hC.tape, hout.trans hC.output, Nat.le_trans hC.size hsize, fun k hk hMk => ?_, hC.s0, fun x hx => (hS x (hC.s0 x hx)).trans (hC.s0c x hx), fun x hx => Nat.lt_of_lt_of_le (hC.sfit x hx) hsize, fun g cs hg => PRel.mono hS (fun _ h => h) (hC.glob g cs hg), hC.snew, hM⟩
  rcases hheap k (Nat.lt_of_lt_of_le hk hC.size) with h | h | h
  · exact h.trans (hC.frame k hk hMk)
  · omega
  · exact absurd h hMk
theorem Core.lt (hC : Core T W0 M S0 S γ mem W) {x : Addr} (hx : S x) : x.block < W.heap.size := hC.sfit x hx
theorem Core.less (hC : Core T W0 M S0 S γ mem W) (hl : Less mem1 mem) : Core T W0 M S0 S γ mem1 W := { hC with mem := hC.mem.less hl }
theorem Core.killed (hC : Core T W0 M S0 S γ mem W) (κ : Kl) : Core T W0 M S0 S γ (killM κ mem) W := hC.less (killM_less hC.mem.regs)

/-- A slice's content is taken. -/
theorem grab_ok (h : MemOK W0 M S γ mem W) {c : CV} {v : Value} (hc : CRel W S γ c v) {p : PV} {so soff : Nat} (hg : grabOf mem c = some (p, so, soff, mem1)) :
    ∃ sπ k es n A m cc, p = .vec k (es.take n) ∧ n ≤ es.length ∧ at_ mem so soff sπ = some (.vec k es) ∧ takeAt mem so soff sπ = some mem1 ∧ γ.hd so soff sπ = .slice A m cc ∧ v = .slice A n cc ∧ (c = .view so soff sπ ∨ ∃ j, c = .pre so soff sπ j) := by
  have key : ∀ {o off : Nat} {π : Path} {k : Nat} {es : List (List PV)}, at_ mem o off π = some (.vec k es) → ∃ A cc, γ.hd o off π = .slice A es.length cc := by
    intro o off π k es ha
    obtain ⟨_, _, h3⟩ := h.vecs o off π k es ha
    rcases h3 with ⟨rfl, A, hA⟩ | ⟨b, cap, w1, _⟩
    · exact ⟨A, 0, hA⟩
    · exact ⟨_, cap, w1⟩
  unfold grabOf at hg
  split at hg
  · rename_i o off π
    split at hg
    · rename_i k es mem' ha ht
      simp only [Option.some.injEq, Prod.mk.injEq] at hg
      obtain ⟨rfl, rfl, rfl, rfl⟩ := hg
      obtain ⟨A, cc, h1⟩ := key ha
      exact ⟨π, k, es, es.length, A, es.length, cc, by simp, Nat.le_refl _, ha, ht, h1, by rw [← h1]; exact hc.1, .inl rfl⟩
    · cases hg
  · rename_i o off π j
    split at hg
    · rename_i k es mem' ha ht
      split at hg
      · rename_i hj
        simp only [Option.some.injEq, Prod.mk.injEq] at hg
        obtain ⟨rfl, rfl, rfl, rfl⟩ := hg
        obtain ⟨A, cc, h1⟩ := key ha
        obtain ⟨A', m', c', h2, h3, h4⟩ := hc
        rw [h1] at h2
        injection h2 with e1 e2 e3
        subst e1 e2 e3
        exact ⟨π, k, es, j, A, es.length, cc, rfl, hj, ha, ht, h1, h4, .inr ⟨j, rfl⟩⟩
      · cases hg
    · cases hg
  · cases hg

theorem addr_mv {o off : Nat} {π : Path} {v : Value} {so soff : Nat} {sπ : Path} : (γ.mv o off π v so soff sπ).addr o off π = γ.addr o off π := by
  cases π with
  | nil => rfl
  | cons s π =>
    obtain ⟨i, k, f⟩ := s
    simp only [Gh.addr]
    rw [Gh.mv_other (.inr ?_)]
    cases hr : rest ((i, k, f) :: π) π with
    | none => rfl
    | some ρ => have := congrArg List.length (rest_some.1 hr); simp at this; omega
theorem addr_mv1 {o off : Nat} {π : Path} {v : Value} {so soff : Nat} {sπ : Path} : (γ.mv o off π v so soff sπ).addr o (bump 1 off π).1 (bump 1 off π).2 = γ.addr o (bump 1 off π).1 (bump 1 off π).2 := by
  rw [addr_bump, addr_bump, addr_mv]

theorem moves_ok {o : Nat} : ∀ (cs : List CV) {off : Nat} {π : Path} {γ : Gh} {mem mem' : List (Nat × MC)} {vs : List Value}, MemOK W0 M S γ mem W → Clear κ mem → (∀ c ∈ cs, c.kill κ = c) →
    (∀ j, j < cs.length → Kl.le (.sub o (bump j off π).1 ((bump j off π).1 + 1) (bump j off π).2.length) κ) → CsRel W S γ cs vs → (∀ (j : Nat) (v : Value), vs[j]? = some v → W.cell? ((γ.addr o off π).add j) = some v) →
    (∀ q, π = [] → look mem o ≠ .reg q) → moves o off π cs mem = some mem' → ∃ γ', MemOK W0 M S γ' mem' W ∧ Chg κ γ γ' ∧ Step γ γ' mem mem' ∧ (∀ i, γ'.base i = γ.base i)
  | [], off, π, γ, mem, mem', vs, hM, hcl, hck, hκ, hcs, hreal, hroot, h => by
    simp only [moves, Option.some.injEq] at h
    subst h
    exact ⟨γ, hM, Chg.refl κ γ, Step.refl _ _, fun _ => rfl⟩
  | c :: cs, off, π, γ, mem, mem', vs, hM, hcl, hck, hκ, hcs, hreal, hroot, h => by
    obtain ⟨v, vs', rfl, hcv, hcs'⟩ := hcs.cons_inv
    have hb1 : ∀ j, bump j (bump 1 off π).1 (bump 1 off π).2 = bump (j + 1) off π := fun j => by
      cases π with
      | nil => simp [bump]; omega
      | cons s π => obtain ⟨i, k, f⟩ := s; simp [bump]; omega
    have hκ' : ∀ j, j < cs.length → Kl.le (.sub o (bump j (bump 1 off π).1 (bump 1 off π).2).1 ((bump j (bump 1 off π).1 (bump 1 off π).2).1 + 1) (bump j (bump 1 off π).1 (bump 1 off π).2).2.length) κ := fun j hj => by
      rw [hb1]; exact hκ (j + 1) (by simp; omega)
    have hck' : ∀ c ∈ cs, c.kill κ = c := fun c hc => hck c (List.mem_cons_of_mem _ hc)
    have hreal' : ∀ (γ' : Gh), γ'.addr o (bump 1 off π).1 (bump 1 off π).2 = γ.addr o (bump 1 off π).1 (bump 1 off π).2 → ∀ (j : Nat) (u : Value), vs'[j]? = some u → W.cell? ((γ'.addr o (bump 1 off π).1 (bump 1 off π).2).add j) = some u := fun γ' he j u hu => by
      rw [he, addr_bump, add_add, Nat.add_comm]
      exact hreal (j + 1) u (by simpa using hu)
    have hnil : (bump 1 off π).2 = [] → π = [] := fun h => by cases π with | nil => rfl | cons s π => obtain ⟨i, k, f⟩ := s; simp [bump] at h
    simp only [moves] at h
    split at h
    · split at h
      · rename_i p so soff mem1 hg
        split at h
        · cases h
        · rename_i hne
          split at h
          · rename_i mem2 hp
            obtain ⟨sπ, k, es, n, A, m, cc, rfl, hn, ha, ht, hhd, rfl, hform⟩ := grab_ok hM hcv hg
            obtain ⟨hless, hno⟩ := takeAt_less hM.regs ha ht
            have h0 : bump 0 off π = (off, π) := by cases π with | nil => simp [bump] | cons s π => obtain ⟨i, k, f⟩ := s; simp [bump]
            have hκ0 := hκ 0 (by simp)
            rw [h0] at hκ0
            have hre : W.cell? (γ.addr o off π) = some (.slice A n cc) := by
              have := hreal 0 _ rfl
              rwa [show (γ.addr o off π).add 0 = γ.addr o off π by unfold Addr.add; simp] at this
            have hroot1 : ∀ q, π = [] → look mem1 o ≠ .reg q := fun q hq hl => by
              obtain ⟨⟨q0, h1⟩, _⟩ := hless.reg o q hl
              exact hroot q0 hq h1
            have hM2 := hM.adopt hless hno ha hhd hn hne ((hcl.less hless).mono hκ0) hp hroot1 hre
            have hchg : Chg κ γ (γ.mv o off π (.slice A n cc) so soff sπ) := by
              have := Gh.mv_chg γ o off π (.slice A n cc) so soff sπ
              refine ⟨fun _ _ => rfl, fun o1 off1 π1 h1 => this.2 o1 off1 π1 ?_⟩
              cases hh : Kl.h (.sub o off (off + 1) π.length) o1 off1 π1.length with
              | false => rfl
              | true => rw [hκ0.2 _ _ _ hh] at h1; cases h1
            have hcl2 : Clear κ mem2 := fun o1 cs1 j c1 ho1 hj => by
              unfold putAt at hp
              split at hp
              · rename_i p0 hp0
                split at hp
                · rename_i p' hp'
                  injection hp with hp
                  subst hp
                  rcases ho1 with ho1 | ⟨ks1, ho1⟩
                  · obtain ⟨cs0, g1, g2, g3⟩ := obj_setCell hp0 ho1
                    rcases g3 j c1 hj with ⟨_, _, rfl⟩ | ⟨_, g4⟩
                    · rfl
                    · exact (hcl.less hless) o1 cs0 j c1 (.inl g1) g4
                  · exact (hcl.less hless) o1 cs1 j c1 (.inr ⟨ks1, map_setCell ho1⟩) hj
                · cases hp
              · cases hp
            have hstep : Step γ (γ.mv o off π (.slice A n cc) so soff sπ) mem mem2 := by
              refine (hless.step γ).trans ?_
              unfold putAt at hp
              split at hp
              · rename_i p0 hp0
                split at hp
                · rename_i p' hp'
                  injection hp with hp
                  subst hp
                  refine ⟨fun i cs1 hi hl => ?_, fun i q hi hl => ?_, fun i ks cs1 hi hl => ⟨⟨ks, cs1, map_setCell hl⟩, rfl⟩⟩
                  · obtain ⟨cs0, g1, _⟩ := obj_setCell hp0 hl
                    exact ⟨⟨cs0, g1⟩, rfl⟩
                  · rcases reg_setCell hp0 hl with ⟨rfl, rfl, rfl, g1⟩ | g1
                    · refine ⟨⟨_, g1⟩, Gh.mv_other (.inr ?_)⟩
                      cases hr : rest π [] with
                      | none => rfl
                      | some ρ =>
                        have := rest_some.1 hr
                        simp at this
                        exact absurd g1 (hroot1 _ this.2)
                    · refine ⟨⟨_, g1⟩, ?_⟩
                      by_cases hc : i = o ∧ 0 = off
                      · obtain ⟨rfl, rfl⟩ := hc
                        refine Gh.mv_other (.inr ?_)
                        cases hr : rest π [] with
                        | none => rfl
                        | some ρ =>
                          have := rest_some.1 hr
                          simp at this
                          exact absurd g1 (hroot1 _ this.2)
                      · exact Gh.mv_other (.inl hc)
                · cases hp
              · cases hp
            have hroot2 : ∀ q, (bump 1 off π).2 = [] → look mem2 o ≠ .reg q := fun q hq hl => by
              obtain ⟨⟨q0, h1⟩, _⟩ : (∃ p0, look mem o = .reg p0) ∧ True := by
                unfold putAt at hp
                split at hp
                · rename_i p0 hp0
                  split at hp
                  · rename_i p' hp'
                    injection hp with hp
                    subst hp
                    rcases reg_setCell hp0 hl with ⟨_, _, _, g1⟩ | g1
                    · exact absurd g1 (hroot1 _ (hnil hq))
                    · exact absurd g1 (hroot1 _ (hnil hq))
                  · cases hp
                · cases hp
              exact hroot q0 (hnil hq) h1
            have hcs2 : CsRel W S (γ.mv o off π (.slice A n cc) so soff sπ) cs vs' := by
              have := hcs'.kill hchg
              rwa [show cs.map (CV.kill κ) = cs from by
                conv => rhs; rw [← List.map_id cs]
                exact List.map_congr_left hck'] at this
            obtain ⟨γ', g1, g2, g3, g4⟩ := moves_ok cs hM2 hcl2 hck' hκ' hcs2 (hreal' _ addr_mv1) hroot2 h
            refine ⟨γ', g1, ⟨fun o1 h1 => (g2.1 o1 h1).trans (hchg.1 o1 h1), fun o1 off1 π1 h1 => (g2.2 o1 off1 π1 h1).trans (hchg.2 o1 off1 π1 h1)⟩, hstep.trans g3, fun i => (g4 i).trans rfl⟩
          · cases h
      · cases h
    · exact moves_ok cs hM hcl hck' hκ' hcs' (hreal' γ rfl) (fun q hq => hroot q (hnil hq)) h
end
end Go.Ew
end
section
/- Stores, new objects, literals of slices, make. -/
namespace Go.Ew
open Go.RowKit

section
variable {P : Program} {T : Tab} {W0 W W' : World} {M : Nat → Prop} {S0 S S' : Addr → Prop} {γ γ' : Gh} {mem mem1 mem2 : List (Nat × MC)} {κ : Kl} {σ : St} {a : Act}

/-- Another world: one block that is the call's own was written. -/
structure Wrote (M : Nat → Prop) (W0 : World) (S : Addr → Prop) (W W' : World) : Prop where
  os : W'.os = W.os
  tape : W'.tape = W.tape
  output : W'.output = W.output
  size : W.heap.size ≤ W'.heap.size
  heap : ∀ k, k < W.heap.size → W'.heap[k]? = W.heap[k]? ∨ W0.heap.size ≤ k ∨ M k
  cells : ∀ a, S a → W'.heap[a.block]? = W.heap[a.block]?
theorem Core.wrote (hC : Core T W0 M S0 S γ mem W) {mem' : List (Nat × MC)} (hM : MemOK W0 M S γ' mem' W') (h : Wrote M W0 S W W') : Core T W0 M S0 S γ' mem' W' := hC.upd hM h.os h.tape h.output h.size h.heap h.cells
theorem wrote_row (hM : MemOK W0 M S γ mem W) {n : Node} {b : Nat} (hn : Owns γ mem n b) (C' : Array Value) : Wrote M W0 S W (W.setRow b C') :=
  ⟨rfl, rfl, rfl, by simp, fun k _ => (by
    by_cases hk : k = b
    · subst hk; exact .inr (hM.own n k hn).1
    · exact .inl (setRow_other W b k _ hk)), fun a ha => (setRow_other W b _ _ ((hM.own n b hn).2 a ha))⟩

theorem strip_rel {c : CV} {v : Value} (h : CRel W S γ c v) : CRel W S γ c.strip v := by
  unfold CV.strip
  split
  · exact PRel.bot v h.one
  · exact h
theorem stripP_rel {c : CV} {v : Value} {p : PV} (h : CRel W S γ c v) (hp : c.stripP = some p) : PRel W S p v := by
  cases c <;> simp only [CV.stripP, Option.some.injEq] at hp
  · subst hp; exact h
  · cases hp
  · subst hp; exact PRel.bot v h.one
  · subst hp; exact PRel.bot v h.one
  · cases hp
  · cases hp
theorem mapM_strip : ∀ {cs : List CV} {ps : List PV}, cs.mapM CV.stripP = some ps → ps.length = cs.length ∧ ∀ (j : Nat) (p : PV), ps[j]? = some p → ∃ c, cs[j]? = some c ∧ c.stripP = some p
  | [], ps, h => by simp at h; subst h; exact ⟨rfl, fun j p hj => by simp at hj⟩
  | c :: cs, ps, h => by
    simp only [List.mapM_cons] at h
    cases hc : c.stripP with
    | none => simp [hc] at h
    | some p =>
      cases hs : cs.mapM CV.stripP with
      | none => simp [hc, hs] at h
      | some qs =>
        simp only [hc, hs, Option.bind_eq_bind, Option.bind_some] at h
        have h : some (p :: qs) = some ps := h
        injection h with h
        subst h
        obtain ⟨h1, h2⟩ := mapM_strip hs
        refine ⟨by simp [h1], fun j q hj => ?_⟩
        cases j with
        | zero => simp at hj; subst hj; exact ⟨c, rfl, hc⟩
        | succ j => simp at hj; simpa using h2 j q hj

theorem writeAt_ok (hM : MemOK W0 M S γ mem W) {n o off : Nat} {π : Path} {ys : List CV} {vs : List Value} (hys : CsRel W S γ ys vs) {mem' : List (Nat × MC)} (h : writeAt mem n o off π ys = some mem') :
    ∃ W', (storeCells (γ.addr o off π) vs).run P W = .ok () W' ∧ MemOK W0 M S γ mem' W' ∧ Wrote M W0 S W W' ∧ (∀ (j : Nat) (v : Value), vs[j]? = some v → W'.cell? ((γ.addr o off π).add j) = some v) ∧ vs.length = n ∧ Less mem' mem' ∧ Step γ γ mem mem' ∧ (Clear κ mem → (∀ c ∈ ys, c.kill κ = c) → Clear κ mem') ∧ (∀ q, look mem' o = .reg q → ∃ q0, look mem o = .reg q0) ∧ (π = [] → ∃ cs, look mem o = .obj cs) := by
  cases π with
  | nil =>
    simp only [writeAt] at h
    split at h
    · rename_i cs hm
      split at h
      · rename_i hc
        injection h with h
        subst h
        obtain ⟨C, ty, hh, hsz, hcs⟩ := hM.objs o cs hm
        have hyl := hys.1
        have hst := run_storeCells_at P (γ.base o) off ty vs 0 C W hh (by omega) hys.ones
        simp only [Nat.add_zero] at hst
        have hown : Owns γ mem (.root o) (γ.base o) := ⟨.inl ⟨cs, hm⟩, rfl⟩
        have hCl : (C.toList.take off).length = off := by simp; omega
        have hM' := hM.writeRoot hm hh (ds := cs.take off ++ ys.map CV.strip ++ cs.drop (off + n)) (C' := (C.toList.take off ++ vs ++ C.toList.drop (off + vs.length)).toArray) (by simp; omega) (by simp; omega) (fun j c u hj hu => by
          have htl : (cs.take off).length = off := by simp; omega
          simp only [List.getElem?_toArray, List.append_assoc] at hj hu
          rcases Nat.lt_or_ge j off with h1 | h1
          · rw [List.getElem?_append_left (by omega)] at hj hu
            rw [List.getElem?_take, if_pos h1] at hj hu
            exact .inl ⟨hj, by simpa using hu⟩
          · rw [List.getElem?_append_right (by omega), htl] at hj
            rw [List.getElem?_append_right (by omega), hCl] at hu
            rcases Nat.lt_or_ge (j - off) n with h2 | h2
            · rw [List.getElem?_append_left (by simp; omega)] at hj
              rw [List.getElem?_append_left (by omega)] at hu
              rw [List.getElem?_map] at hj
              obtain ⟨y, hy, rfl⟩ := Option.map_eq_some_iff.1 hj
              exact .inr (strip_rel (hys.2 _ y u hy hu))
            · rw [List.getElem?_append_right (by simp; omega), List.length_map, List.getElem?_drop] at hj
              rw [List.getElem?_append_right (by omega), List.getElem?_drop] at hu
              rw [show off + n + (j - off - ys.length) = j by omega] at hj
              rw [show off + vs.length + (j - off - vs.length) = j by omega] at hu
              exact .inl ⟨hj, by simpa using hu⟩)
        refine ⟨_, hst, hM', wrote_row hM hown _, fun j v hj => ?_, by omega, Less.refl hM'.regs, ⟨fun i cs' hi hl => ?_, fun i p hi hl => ?_, fun i ks cs' hi hl => ?_⟩, fun hcl hck i cs' j c hl hj => ?_, fun q hl => ?_, fun _ => ⟨cs, hm⟩⟩
        · simp only [Gh.addr]
          rw [add_plain]
          have hjl := (List.getElem?_eq_some_iff.1 hj).1
          simp only [World.cell?, setRow_heap W _ C _ ty _ hh]
          simp only [Option.isSome_none, Bool.false_eq_true, if_false, List.getElem?_toArray, List.append_assoc]
          rw [List.getElem?_append_right (by omega), hCl, show off + j - off = j by omega, List.getElem?_append_left hjl]
          exact hj
        · by_cases hio : i = o
          · subst hio; exact ⟨⟨cs, hm⟩, rfl⟩
          · rw [look_lay_other _ _ _ _ hio] at hl; exact ⟨⟨cs', hl⟩, rfl⟩
        · by_cases hio : i = o
          · subst hio; rw [look_lay_same] at hl; cases hl
          · rw [look_lay_other _ _ _ _ hio] at hl; exact ⟨⟨p, hl⟩, rfl⟩
        · by_cases hio : i = o
          · subst hio; rw [look_lay_same] at hl; cases hl
          · rw [look_lay_other _ _ _ _ hio] at hl; exact ⟨⟨ks, cs', hl⟩, rfl⟩
        · unfold HoldsM at hl
          by_cases hio : i = o
          · subst hio
            rw [look_lay_same] at hl
            rcases hl with hl | ⟨_, hl⟩ <;> try (cases hl; done)
            injection hl with hl
            subst hl
            have hmem := List.mem_of_getElem? hj
            simp only [List.mem_append, List.mem_map] at hmem
            rcases hmem with (h1 | ⟨y, h1, rfl⟩) | h1
            · obtain ⟨j', hj'⟩ := List.mem_iff_getElem?.1 (List.mem_of_mem_take h1); exact hcl i cs j' c (.inl hm) hj'
            · unfold CV.strip; split
              · rfl
              · exact hck y h1
            · obtain ⟨j', hj'⟩ := List.mem_iff_getElem?.1 (List.mem_of_mem_drop h1); exact hcl i cs j' c (.inl hm) hj'
          · rw [look_lay_other _ _ _ _ hio] at hl; exact hcl i cs' j c hl hj
        · rw [look_lay_same] at hl; cases hl
      · cases h
    · cases h
  | cons s π =>
    obtain ⟨i, k, f⟩ := s
    simp only [writeAt] at h
    split at h
    · rename_i p hp
      split at h
      · rename_i k' es ps hd hps
        split at h
        · rename_i hk
          subst hk
          split at h
          · rename_i row hrow
            split at h
            · rename_i hc
              split at h
              · rename_i p' hp'
                injection h with h
                subst h
                have ha0 : at_ mem o off π = some (.vec k es) := by unfold Ew.at_; rw [hp]; exact hd
                obtain ⟨v0, v1, v2⟩ := hM.vecs o off π k es ha0
                have hi : i < es.length := (List.getElem?_eq_some_iff.1 hrow).1
                have hrl := v1 row (List.mem_of_getElem? hrow)
                rcases v2 with ⟨rfl, _⟩ | ⟨b, cap, w1, w2, w3, w4, cur, t, w5, w6, w7⟩
                · simp at hrow
                obtain ⟨hpl, hpp⟩ := mapM_strip hps
                have hyl := hys.1
                have hin : i * k + k ≤ cur.size := by
                  rw [w6]
                  have : (i + 1) * k ≤ cap * k := Nat.mul_le_mul_right _ (by omega)
                  rw [Nat.add_mul, Nat.one_mul] at this
                  exact this
                have hst := run_storeCells_at P b (i * k + f) t vs 0 cur W w5 (by omega) hys.ones
                simp only [Nat.add_zero] at hst
                have haddr : γ.addr o off ((i, k, f) :: π) = ⟨b, i * k + f, none⟩ := by simp only [Gh.addr, w1, blkD]
                have hcl : (cur.toList.take (i * k + f)).length = i * k + f := by simp; omega
                have hget : ∀ j, (cur.toList.take (i * k + f) ++ vs ++ cur.toList.drop (i * k + f + vs.length))[j]? = if j < i * k + f then cur[j]? else if j < i * k + f + vs.length then vs[j - (i * k + f)]? else cur[j]? := fun j => by
                  rw [List.append_assoc]
                  split
                  · rename_i h1
                    rw [List.getElem?_append_left (by omega), List.getElem?_take, if_pos h1]; simp
                  · rename_i h1
                    rw [List.getElem?_append_right (by omega), hcl]
                    split
                    · rename_i h2
                      rw [List.getElem?_append_left (by omega)]
                    · rename_i h2
                      rw [List.getElem?_append_right (by omega), List.getElem?_drop, show i * k + f + vs.length + (j - (i * k + f) - vs.length) = j by omega]; simp
                have hrget : ∀ j, (row.take f ++ ps ++ row.drop (f + n))[j]? = if j < f then row[j]? else if j < f + n then ps[j - f]? else row[j]? := fun j => by
                  have htl : (row.take f).length = f := by simp; omega
                  rw [List.append_assoc]
                  split
                  · rename_i h1
                    rw [List.getElem?_append_left (by omega), List.getElem?_take, if_pos h1]
                  · rename_i h1
                    rw [List.getElem?_append_right (by omega), htl]
                    split
                    · rename_i h2
                      rw [List.getElem?_append_left (by omega)]
                    · rename_i h2
                      rw [List.getElem?_append_right (by omega), List.getElem?_drop, show f + n + (j - f - ps.length) = j by omega]
                have hM' := hM.writeVec hp hd hrow (row' := row.take f ++ ps ++ row.drop (f + n)) (by simp; omega) hp' w1 w2 w5 (cur' := (cur.toList.take (i * k + f) ++ vs ++ cur.toList.drop (i * k + f + vs.length)).toArray) (by simp; omega) (fun g x u hg hu => by
                  rw [hrget] at hg
                  rw [List.getElem?_toArray, hget] at hu
                  split at hg
                  · rename_i h1
                    rw [if_pos (by omega)] at hu
                    exact .inl ⟨hg, hu⟩
                  · rename_i h1
                    split at hg
                    · rename_i h2
                      rw [if_neg (by omega), if_pos (by omega)] at hu
                      obtain ⟨c, hc1, hc2⟩ := hpp _ x hg
                      rw [show i * k + g - (i * k + f) = g - f by omega] at hu
                      exact .inr (stripP_rel (hys.2 _ c u hc1 hu) hc2)
                    · rename_i h2
                      rw [if_neg (by omega), if_neg (by omega)] at hu
                      exact .inl ⟨hg, hu⟩) (fun j hj => by
                  rw [List.getElem?_toArray, hget]
                  rcases hj with hj | hj
                  · rw [if_pos (by omega)]
                  · rw [if_neg (by omega), if_neg (by omega)])
                have hown : Owns γ mem (.at_ o off π) b := VecOK.owns ha0 w1 w2
                refine ⟨_, by rw [haddr]; exact hst, hM', wrote_row hM hown _, fun j v hj => ?_, by omega, Less.refl hM'.regs, ⟨fun i1 cs' hi1 hl => ?_, fun i1 q hi1 hl => ?_, fun i1 ks cs' hi1 hl => ⟨⟨ks, cs', map_setCell hl⟩, rfl⟩⟩, fun hcl' hck i1 cs' j c hl hj => ?_, fun q hl => ?_, fun h => by cases h⟩
                · rw [haddr, add_plain]
                  have hjl := (List.getElem?_eq_some_iff.1 hj).1
                  simp only [World.cell?, setRow_heap W _ cur _ t _ w5]
                  simp only [Option.isSome_none, Bool.false_eq_true, if_false, List.getElem?_toArray]
                  rw [hget, if_neg (by omega), if_pos (by omega), show i * k + f + j - (i * k + f) = j by omega]
                  exact hj
                · obtain ⟨cs0, g1, _⟩ := obj_setCell hp hl
                  exact ⟨⟨cs0, g1⟩, rfl⟩
                · rcases reg_setCell hp hl with ⟨rfl, _, _, g1⟩ | g1
                  · exact ⟨⟨_, g1⟩, rfl⟩
                  · exact ⟨⟨_, g1⟩, rfl⟩
                · rcases hl with hl | ⟨ks, hl⟩
                  · obtain ⟨cs0, g1, _, g3⟩ := obj_setCell hp hl
                    rcases g3 j c hj with ⟨_, _, rfl⟩ | ⟨_, g4⟩
                    · rfl
                    · exact hcl' i1 cs0 j c (.inl g1) g4
                  · exact hcl' i1 _ j c (.inr ⟨ks, map_setCell hl⟩) hj
                · rcases reg_setCell hp hl with ⟨_, _, _, g1⟩ | g1
                  · exact ⟨_, g1⟩
                  · exact ⟨_, g1⟩
              · cases h
            · cases h
          · cases h
        · cases h
      · cases h
    · cases h

theorem killOf_le {o off n : Nat} {π : Path} (j : Nat) (hj : j < n) : Kl.le (.sub o (bump j off π).1 ((bump j off π).1 + 1) (bump j off π).2.length) (killOf o off n π) := by
  refine ⟨fun o1 h => by simp [Kl.b] at h, fun o1 off1 m h => ?_⟩
  cases π with
  | nil =>
    simp only [killOf, Kl.h, bump, Bool.and_eq_true, decide_eq_true_eq, beq_iff_eq] at h ⊢
    obtain ⟨h1, h2, h3, h4⟩ := h
    have h2 := of_decide_eq_true h2
    have h3 := of_decide_eq_true h3
    exact ⟨h1, by omega, by omega, by omega⟩
  | cons s π =>
    obtain ⟨i, k, f⟩ := s
    simp only [killOf, Kl.h, bump, Bool.and_eq_true, decide_eq_true_eq, beq_iff_eq, List.length_cons] at h ⊢
    obtain ⟨h1, h2, h3, h4⟩ := h
    have h2 := of_decide_eq_true h2
    have h3 := of_decide_eq_true h3
    have h4 := of_decide_eq_true h4
    exact ⟨h1, by omega, by omega, by omega⟩
theorem addr_kill (o off n : Nat) (π : Path) (γ γ' : Gh) (h : Chg (killOf o off n π) γ γ') : γ'.addr o off π = γ.addr o off π := by
  cases π with
  | nil => simp only [Gh.addr]; rw [h.1 o rfl]
  | cons s π =>
    obtain ⟨i, k, f⟩ := s
    simp only [Gh.addr]
    rw [h.2 o off π (by simp [killOf, Kl.h])]

/-- The cells of what was killed are those of what was there. -/
theorem Rel.killed (hR : Rel T W0 M S0 S γ σ a W) (κ : Kl) : Rel T W0 M S0 S γ (σ.kill κ) a W :=
  ⟨hR.core.killed κ, hR.defers, by simp [St.kill, hR.len], tmps_kill (Chg.refl κ γ) hR.tmps⟩

theorem store_ok (hT : TabOK P T) (hR : Rel T W0 M S0 S γ σ a W) {t : TypeId} {p x : TV} {vp v : Value} (hp : TRel W S γ p vp) (hx : TRel W S γ x v) {σ' : St} (h : storeOp T σ t p x = some σ') :
    ∃ γ' W', (Instr.storeAt t vp v).run P W = .ok () W' ∧ Rel T W0 M S0 S γ' σ' a W' ∧ Step γ γ' σ.mem σ'.mem := by
  unfold storeOp at h
  split at h
  · cases h
  rename_i i hi
  obtain ⟨info, z, hP, hsz, _⟩ := hT.ti t i hi
  split at h
  · rename_i o off π
    have hv : vp = .pointer (some (γ.addr o off π)) := hp
    subst hv
    split at h
    · rename_i ys hy
      have hys := hx.tcells hy
      have hrun : ∀ {W'}, (storeCells (γ.addr o off π) v.cells.toList).run P W = .ok () W' → v.cells.toList.length = i.zero.length → (Instr.storeAt t (.pointer (some (γ.addr o off π))) v).run P W = .ok () W' := fun {W'} hst hl => by
        simp only [Instr.storeAt, Instr.sureAddr, Sem.run_bind, Sem.run_pure, Result.andThen_ok, storeVar]
        rw [run_siz hP]
        simp only [Result.andThen_ok]
        rw [if_neg (by simp at hl; omega)]
        exact hst
      split at h
      · split at h
        · rename_i mem1 hw
          split at h
          · rename_i mem2 hmv
            injection h with h
            subst h
            have hC := hR.core.killed (killOf o off i.zero.length π)
            have hys1 := hys.kill (Chg.refl (killOf o off i.zero.length π) γ)
            obtain ⟨W', h1, h2, h3, h4, h5, h6, h7, h8, h9, h10⟩ := writeAt_ok (P := P) (κ := killOf o off i.zero.length π) hC.mem hys1 hw
            have hck : ∀ c ∈ ys.map (CV.kill (killOf o off i.zero.length π)), c.kill (killOf o off i.zero.length π) = c := fun c hc => by
              obtain ⟨c0, _, rfl⟩ := List.mem_map.1 hc
              exact kill_idem _ _
            obtain ⟨γ', g1, g2, g3, _⟩ := moves_ok _ h2 (h8 (clear_kill _ _) hck) hck (fun j hj => killOf_le j (by rw [← h5, ← hys1.1]; exact hj)) (hys1.mono h3.cells (fun _ h => h)) h4 (fun q hq hl => by
              obtain ⟨q0, hq0⟩ := h9 q hl
              obtain ⟨cs, hcs⟩ := h10 hq
              rw [hcs] at hq0; cases hq0) hmv
            refine ⟨γ', W', hrun h1 h5, ⟨hC.wrote g1 h3, hR.defers, by simp [hR.len], fun j y u hj hu => ?_⟩, ((killM_less hR.core.mem.regs).step γ).trans (h7.trans g3)⟩
            have := tmps_kill g2 (fun j y u hj hu => (hR.tmps j y u hj hu).mono h3.cells (fun _ h => h)) j y u hj hu
            exact this
          · cases h
        · cases h
      · split at h
        · rename_i mem1 hw
          injection h with h
          subst h
          obtain ⟨W', h1, h2, h3, h4, h5, h6, h7, _⟩ := writeAt_ok (P := P) (κ := .root 0) hR.core.mem hys hw
          exact ⟨γ, W', hrun h1 h5, ⟨hR.core.wrote h2 h3, hR.defers, hR.len, fun j y u hj hu => (hR.tmps j y u hj hu).mono h3.cells (fun _ h => h)⟩, h7⟩
        · cases h
    · cases h
  · cases h

theorem put_get {a : Act} {d : Nat} {v : Value} {i : Nat} {u : Value} (h : (a.put (some d) v).tmps[i]? = some u) : (i = d ∧ u = v) ∨ (i ≠ d ∧ a.tmps[i]? = some u) := by
  simp only [Act.put] at h
  by_cases hid : i = d
  · subst hid
    rw [Array.getElem?_setIfInBounds] at h
    simp at h
    exact .inl ⟨rfl, h.2.symm⟩
  · rw [Array.getElem?_setIfInBounds_ne (Ne.symm hid)] at h
    exact .inr ⟨hid, h⟩
theorem set_get {l : List TV} {d : Nat} {x y : TV} {i : Nat} (h : (l.set d x)[i]? = some y) : (i = d ∧ y = x) ∨ (i ≠ d ∧ l[i]? = some y) := by
  rw [List.getElem?_set] at h
  split at h
  · rename_i e
    subst e
    split at h
    · injection h with h; exact .inl ⟨rfl, h.symm⟩
    · cases h
  · rename_i e; exact .inr ⟨Ne.symm e, h⟩
theorem tmps_put {ts : List TV} {a : Act} {d : Nat} {x : TV} {v : Value} (h : ∀ (i : Nat) (x : TV) (v : Value), ts[i]? = some x → a.tmps[i]? = some v → TRel W S γ x v) (hx : TRel W S γ x v) :
    ∀ (i : Nat) (y : TV) (u : Value), (ts.set d x)[i]? = some y → (a.put (some d) v).tmps[i]? = some u → TRel W S γ y u := fun i y u hy hu => by
  rcases set_get hy with ⟨rfl, rfl⟩ | ⟨hid, hy'⟩
  · rcases put_get hu with ⟨_, rfl⟩ | ⟨h1, _⟩
    · exact hx
    · exact absurd rfl h1
  · rcases put_get hu with ⟨h1, _⟩ | ⟨_, hu'⟩
    · exact absurd h1 hid
    · exact h i y u hy' hu'

theorem wrote_alloc (hC : Core T W0 M S0 S γ mem W) (o : Obj) : Wrote M W0 S W (W.alloc o) :=
  ⟨rfl, rfl, rfl, by simp, fun k hk => .inl (Below.heap_alloc W _ k hk), fun a ha => (Below.heap_alloc W _ _ (hC.lt ha))⟩
theorem newObj_ok (hR : Rel T W0 M S0 S γ σ a W) {d : Nat} (hd : d < 1000000) {cs : List CV} {C : Array Value} (t : TypeId) (hcs : CsRel W S γ cs C.toList) {σ' : St} (h : newObj σ d cs = some σ') :
    ∃ γ', Rel T W0 M S0 S γ' σ' (a.put (some d) (.pointer (some ⟨W.heap.size, 0, none⟩))) (W.alloc (.cells C t)) ∧ Step γ γ' σ.mem σ'.mem := by
  unfold newObj at h
  simp only at h
  have hC := hR.core.killed (.root d)
  have hchg := Gh.setBase_chg γ d W.heap.size
  have hcs1 := hcs.kill hchg
  have hcs2 : CsRel W S (γ.setBase d W.heap.size) ((cs.map (CV.kill (.root d))).map CV.strip) C.toList := by
    refine ⟨by rw [List.length_map]; exact hcs1.1, fun j c u hj hu => ?_⟩
    rw [List.getElem?_map] at hj
    obtain ⟨c0, h0, rfl⟩ := Option.map_eq_some_iff.1 hj
    exact strip_rel (hcs1.2 j c0 u h0 hu)
  have hM1 := hC.mem.newObj hR.core.size hR.core.sfit (clear_kill _ _) t hcs2
  have hw := wrote_alloc hR.core (.cells C t)
  have hstep : Step γ (γ.setBase d W.heap.size) σ.mem (lay (killM (.root d) σ.mem) d (.obj ((cs.map (CV.kill (.root d))).map CV.strip))) := by
    refine ((killM_less (κ := .root d) hR.core.mem.regs).step γ).trans ⟨fun i cs' hi hl => ?_, fun i p hi hl => ?_, fun i ks' cs' hi hl => ?_⟩
    · rw [look_lay_other _ _ _ _ (by omega)] at hl
      exact ⟨⟨cs', hl⟩, if_neg (by omega)⟩
    · rw [look_lay_other _ _ _ _ (by omega)] at hl
      exact ⟨⟨p, hl⟩, rfl⟩
    · rw [look_lay_other _ _ _ _ (by omega)] at hl
      exact ⟨⟨ks', cs', hl⟩, if_neg (by omega)⟩
  have htm : ∀ γ', Chg (.root d) (γ.setBase d W.heap.size) γ' → ∀ (i : Nat) (x : TV) (v : Value), (σ.tmps.map (TV.kill (.root d)))[i]? = some x → a.tmps[i]? = some v → TRel (W.alloc (.cells C t)) S γ' x v := fun γ' hg =>
    tmps_kill ⟨fun o ho => (hg.1 o ho).trans (hchg.1 o ho), fun o off π ho => (hg.2 o off π ho).trans (hchg.2 o off π ho)⟩ (fun j y u hj hu => (hR.tmps j y u hj hu).mono hw.cells (fun _ h => h))
  have hptr : ∀ γ' : Gh, γ'.base d = W.heap.size → TRel (W.alloc (.cells C t)) S γ' (.a (.ptr d 0 [])) (.pointer (some ⟨W.heap.size, 0, none⟩)) := fun γ' hb => by
    show _ = _
    simp only [Gh.addr, hb]
  split at h
  · rename_i mem2 hm2
    injection h with h
    subst h
    split at hm2
    · -- some cells are own slices
      have hck : ∀ c ∈ cs.map (CV.kill (.root d)), c.kill (.root d) = c := fun c hc => by
        obtain ⟨c0, _, rfl⟩ := List.mem_map.1 hc
        exact kill_idem _ _
      have hκ : ∀ j, j < (cs.map (CV.kill (.root d))).length → Kl.le (.sub d (bump j 0 []).1 ((bump j 0 []).1 + 1) (bump j 0 []).2.length) (.root d) := fun j hj => ⟨fun o1 h => by simp [Kl.b] at h, fun o1 off1 m h => by simp [Kl.h, bump] at h ⊢; exact h.1⟩
      have hclr : Clear (.root d) (lay (killM (.root d) σ.mem) d (.obj ((cs.map (CV.kill (.root d))).map CV.strip))) := fun o1 cs1 j c ho hj => by
        by_cases hoo : o1 = d
        · subst hoo
          rcases ho with ho | ⟨_, ho⟩ <;> rw [look_lay_same] at ho <;> try (cases ho; done)
          injection ho with ho
          subst ho
          rw [List.getElem?_map] at hj
          obtain ⟨c0, h0, rfl⟩ := Option.map_eq_some_iff.1 hj
          unfold CV.strip; split
          · rfl
          · exact hck c0 (List.mem_of_getElem? h0)
        · unfold HoldsM at ho
          rw [look_lay_other _ _ _ _ hoo] at ho
          exact clear_kill _ _ o1 cs1 j c ho hj
      have hreal : ∀ (j : Nat) (v : Value), C.toList[j]? = some v → (W.alloc (.cells C t)).cell? (((γ.setBase d W.heap.size).addr d 0 []).add j) = some v := fun j v hj => by
        have hb : (γ.setBase d W.heap.size).base d = W.heap.size := if_pos rfl
        simp only [Gh.addr, hb]
        rw [add_plain]
        simp only [World.cell?, heap_alloc_new W (.cells C t)]
        simpa using hj
      obtain ⟨γ', g1, g2, g3, g4⟩ := moves_ok _ hM1 hclr hck hκ (hcs1.mono hw.cells (fun _ h => h)) hreal (fun q _ hl => by rw [look_lay_same] at hl; cases hl) hm2
      have hbd : γ'.base d = W.heap.size := (g4 d).trans (if_pos rfl)
      exact ⟨γ', ⟨hC.wrote g1 hw, hR.defers, by simp [St.kill, hR.len, Act.put], tmps_put (htm γ' g2) (hptr γ' hbd)⟩, hstep.trans g3⟩
    · injection hm2 with hm2
      subst hm2
      exact ⟨_, ⟨hC.wrote hM1 hw, hR.defers, by simp [St.kill, hR.len, Act.put], tmps_put (htm _ (Chg.refl _ _)) (hptr _ (if_pos rfl))⟩, hstep⟩
  · cases h
end
end Go.Ew
end
section
/- Literals of slices, make, append: the real machine beside the abstract one. -/
namespace Go.Ew
open Go.RowKit

theorem at_lt {j q k n : Nat} (hj : j < n) (hq : q < k) : j * k + q < n * k := by
  have : (j + 1) * k ≤ n * k := Nat.mul_le_mul_right _ hj
  rw [Nat.add_mul, Nat.one_mul] at this
  omega
theorem Less.trans {m m1 m2 : List (Nat × MC)} (h : Less m2 m1) (h' : Less m1 m) : Less m2 m := by
  refine ⟨fun o off π k es ha => ?_, fun o cs ho => ?_, fun o q hq => ?_, fun o ks cs ho => (by
    obtain ⟨cs1, h1, h2, h3⟩ := h.map o ks cs ho
    obtain ⟨cs0, g1, g2, g3⟩ := h'.map o ks cs1 h1
    refine ⟨cs0, g1, h2.trans g2, fun j c' hj => ?_⟩
    rcases h3 j c' hj with rfl | h4
    · exact .inl rfl
    · exact g3 j c' h4)⟩
  · obtain ⟨es1, h1, h2, h3⟩ := h.at_ o off π k es ha
    obtain ⟨es0, g1, g2, g3⟩ := h'.at_ o off π k es1 h1
    refine ⟨es0, g1, h2.trans g2, fun i row' hi => ?_⟩
    obtain ⟨row1, e1, e2, e3⟩ := h3 i row' hi
    obtain ⟨row0, f1, f2, f3⟩ := g3 i row1 e1
    refine ⟨row0, f1, e2.trans f2, fun f x' hx => ?_⟩
    rcases e3 f x' hx with rfl | ⟨x1, hx1, h4⟩
    · exact .inl rfl
    · rcases f3 f x1 hx1 with rfl | ⟨x0, hx0, h5⟩
      · rcases h4 with rfl | ⟨_, h4⟩
        · exact .inl rfl
        · simp [PV.nv] at h4
      · refine .inr ⟨x0, hx0, ?_⟩
        rcases h4 with rfl | ⟨h4, h6⟩ <;> rcases h5 with rfl | ⟨h5, h7⟩
        · exact .inl rfl
        · exact .inr ⟨h5, h7⟩
        · exact .inr ⟨h4, h6⟩
        · exact .inr ⟨h4, h7⟩
  · obtain ⟨cs1, h1, h2, h3⟩ := h.obj o cs ho
    obtain ⟨cs0, g1, g2, g3⟩ := h'.obj o cs1 h1
    refine ⟨cs0, g1, h2.trans g2, fun j c' hj => ?_⟩
    rcases h3 j c' hj with rfl | ⟨c1, hc1, h4⟩
    · exact .inl rfl
    · rcases g3 j c1 hc1 with rfl | ⟨c0, hc0, h5⟩
      · rcases h4 with rfl | ⟨p, p', e1, _, _, h6⟩
        · exact .inl rfl
        · injection e1 with e1; subst e1; simp [PV.nv] at h6
      · refine .inr ⟨c0, hc0, ?_⟩
        rcases h4 with rfl | ⟨p, p', rfl, rfl, h6, h7⟩ <;> rcases h5 with rfl | ⟨q, q', rfl, e2, h8, h9⟩
        · exact .inl rfl
        · subst e2; exact .inr ⟨q, q', rfl, rfl, h8, h9⟩
        · exact .inr ⟨p, p', rfl, rfl, h6, h7⟩
        · injection e2 with e2; subst e2; exact .inr ⟨q, p', rfl, rfl, h6, h9⟩
  · obtain ⟨⟨q1, h1⟩, h2⟩ := h.reg o q hq
    exact ⟨(h'.reg o q1 h1).1, h2⟩

/-- Rows of cells beside their values, one after the other. -/
structure RowsRel (W : World) (S : Addr → Prop) (γ : Gh) (k : Nat) (rows : List (List CV)) (vs : List Value) : Prop where
  len : vs.length = rows.length * k
  each : ∀ r ∈ rows, r.length = k
  rel : ∀ (j : Nat) (r : List CV) (q : Nat) (c : CV) (v : Value), rows[j]? = some r → r[q]? = some c → vs[j * k + q]? = some v → CRel W S γ c v
  ones : ∀ u ∈ vs, u.oneCell' = true

section
variable {P : Program} {T : Tab} {W0 W W' : World} {M : Nat → Prop} {S0 S S' : Addr → Prop} {γ γ' : Gh} {mem mem1 mem2 : List (Nat × MC)} {κ : Kl} {σ : St} {a : Act} {k : Nat} {rows : List (List CV)} {vs us : List Value}

theorem RowsRel.nil : RowsRel W S γ k [] [] := ⟨by simp, by simp, fun j e q p v hj => by simp at hj, by simp⟩
theorem RowsRel.cons {r : List CV} (hr : CsRel W S γ r us) (hk : r.length = k) (h : RowsRel W S γ k rows vs) : RowsRel W S γ k (r :: rows) (us ++ vs) := by
  have hul : us.length = k := by rw [← hr.1]; exact hk
  refine ⟨by rw [List.length_append, h.len, hul, List.length_cons, Nat.add_mul]; omega, fun s hs => ?_, fun j s q c v hj hq hv => ?_, fun u hu => ?_⟩
  · rcases List.mem_cons.1 hs with rfl | hs
    · exact hk
    · exact h.each s hs
  · cases j with
    | zero =>
      simp only [List.getElem?_cons_zero, Option.some.injEq] at hj
      subst hj
      have hqk := (List.getElem?_eq_some_iff.1 hq).1
      rw [List.getElem?_append_left (by omega)] at hv
      exact hr.2 q c v hq (by simpa using hv)
    | succ j =>
      simp only [List.getElem?_cons_succ] at hj
      rw [List.getElem?_append_right (by rw [Nat.add_mul]; omega), hul] at hv
      exact h.rel j s q c v hj hq (by rw [← hv]; congr 1; rw [Nat.add_mul]; omega)
  · rcases List.mem_append.1 hu with hu | hu
    · exact hr.ones u hu
    · exact h.ones u hu
theorem RowsRel.mono (h : RowsRel W S γ k rows vs) (hW : ∀ a, S a → W'.heap[a.block]? = W.heap[a.block]?) : RowsRel W' S γ k rows vs :=
  ⟨h.len, h.each, fun j r q c v hj hq hv => (h.rel j r q c v hj hq hv).mono hW (fun _ h => h), h.ones⟩
theorem RowsRel.kill (h : RowsRel W S γ k rows vs) (hc : Chg κ γ γ') : RowsRel W S γ' k (rows.map fun r => r.map (CV.kill κ)) vs := by
  refine ⟨by simp [h.len], fun r hr => ?_, fun j r q c v hj hq hv => ?_, h.ones⟩
  · obtain ⟨r0, h0, rfl⟩ := List.mem_map.1 hr
    simpa using h.each r0 h0
  · rw [List.getElem?_map] at hj
    obtain ⟨r0, h0, rfl⟩ := Option.map_eq_some_iff.1 hj
    rw [List.getElem?_map] at hq
    obtain ⟨c0, h1, rfl⟩ := Option.map_eq_some_iff.1 hq
    exact (h.rel j r0 q c0 v h0 h1 hv).kill hc
theorem RowsRel.row (h : RowsRel W S γ k rows vs) {j : Nat} {r : List CV} (hj : rows[j]? = some r) : CsRel W S γ r ((vs.drop (j * k)).take k) := by
  have hjl := (List.getElem?_eq_some_iff.1 hj).1
  have hrl := h.each r (List.mem_of_getElem? hj)
  have hle : (j + 1) * k ≤ vs.length := by rw [h.len]; exact Nat.mul_le_mul_right _ hjl
  rw [Nat.add_mul, Nat.one_mul] at hle
  refine ⟨by simp; omega, fun q c v hq hv => ?_⟩
  rw [List.getElem?_take] at hv
  split at hv
  · rw [List.getElem?_drop] at hv
    exact h.rel j r q c v hj hq hv
  · cases hv

theorem fill_rows (hR : Rel T W0 M S0 S γ σ a W) (k : Nat) : ∀ (parts : List (Nat × Operand)) (i : Nat) (rows : List (List CV)) (Cs : Array Value), rowsOf T σ k i parts = some rows → (i + rows.length) * k ≤ Cs.size →
    ∃ us vs, Instr.fill (fun j => some (j * k, k)) Cs (parts.map fun (j, x) => (j, a.eval x)) = some us ∧ us.toList = Cs.toList.take (i * k) ++ vs ++ Cs.toList.drop ((i + rows.length) * k) ∧ RowsRel W S γ k rows vs
  | [], i, rows, Cs, h, hle => by
    simp only [rowsOf, Option.some.injEq] at h
    subst h
    exact ⟨Cs, [], rfl, by simp, RowsRel.nil⟩
  | (j, x) :: rest, i, rows, Cs, h, hle => by
    unfold rowsOf at h
    split at h
    · rename_i hji
      subst hji
      split at h
      · rename_i cs hcs
        split at h
        · rename_i hlen
          split at h
          · rename_i es' hes'
            injection h with h
            subst h
            have hx := (hR.opg (gl := []) rfl x).tcells hcs
            have hxl := hx.1
            simp only [Array.length_toList] at hxl
            simp only [List.length_cons] at hle
            have hle1 : (j + 1) * k ≤ Cs.size := Nat.le_trans (Nat.mul_le_mul_right _ (by omega)) hle
            rw [Nat.add_mul, Nat.one_mul] at hle1
            have hsz : (a.eval x).cells.size = k := by omega
            have hpc := place_cells (j * k) (a.eval x).cells Cs (by omega)
            generalize hD : ((a.eval x).cells.zipIdx.foldl (fun (cs : Array Value) (x : Value × Nat) => cs.setIfInBounds (j * k + x.2) x.1) Cs) = D at hpc
            have hDl : D.toList.length = Cs.toList.length := by
              rw [hpc]
              simp only [List.length_append, List.length_take, List.length_drop, Array.length_toList]
              omega
            simp only [Array.length_toList] at hDl
            obtain ⟨us, vs, hf, hu, hr⟩ := fill_rows hR k rest (j + 1) es' D hes' (by rw [hDl]; rw [show j + 1 + es'.length = j + (es'.length + 1) by omega]; exact hle)
            refine ⟨us, (a.eval x).cells.toList ++ vs, ?_, ?_, RowsRel.cons hx hlen hr⟩
            · simp only [List.map_cons, Instr.fill]
              rw [if_neg (by simp; omega), hD]
              exact hf
            · rw [hu, hpc]
              have e1 : (Cs.toList.take (j * k) ++ (a.eval x).cells.toList ++ Cs.toList.drop (j * k + (a.eval x).cells.size)).take ((j + 1) * k) = Cs.toList.take (j * k) ++ (a.eval x).cells.toList := by
                rw [List.take_append_of_le_length]
                · exact List.take_of_length_le (by simp; rw [Nat.add_mul]; omega)
                · simp; rw [Nat.add_mul]; omega
              have e2 : (Cs.toList.take (j * k) ++ (a.eval x).cells.toList ++ Cs.toList.drop (j * k + (a.eval x).cells.size)).drop ((j + 1 + es'.length) * k) = Cs.toList.drop ((j + (es'.length + 1)) * k) := by
                have hn : (Cs.toList.take (j * k) ++ (a.eval x).cells.toList).length = j * k + k := by simp; omega
                rw [List.drop_append, hn, List.drop_of_length_le (by rw [hn, Nat.add_mul, Nat.add_mul]; omega), List.nil_append, List.drop_drop]
                congr 1
                rw [hsz, show j + 1 + es'.length = j + (es'.length + 1) by omega, Nat.add_mul, Nat.add_mul, Nat.one_mul]
                omega
              rw [e1, e2]
              simp [List.append_assoc]
          · cases h
        · cases h
      · cases h
    · cases h

theorem stripRows_get : ∀ {rows : List (List CV)} {es : List (List PV)}, stripRows rows = some es → es.length = rows.length ∧ ∀ (j : Nat) (e : List PV), es[j]? = some e → ∃ r, rows[j]? = some r ∧ r.mapM CV.stripP = some e
  | [], es, h => by simp only [stripRows, Option.some.injEq] at h; subst h; exact ⟨rfl, fun j e hj => by simp at hj⟩
  | r :: rows, es, h => by
    unfold stripRows at h
    split at h
    · rename_i p ps hp hps
      injection h with h
      subst h
      obtain ⟨h1, h2⟩ := stripRows_get hps
      refine ⟨by simp [h1], fun j e hj => ?_⟩
      cases j with
      | zero => simp at hj; subst hj; exact ⟨r, rfl, hp⟩
      | succ j => simp at hj; simpa using h2 j e hj
    · cases h

/-- Rows' own slices go to a new row. -/
theorem movesR_ok {d k : Nat} : ∀ (rows : List (List CV)) (i : Nat) {γ : Gh} {mem mem' : List (Nat × MC)}, MemOK W0 M S γ mem W → Clear (.sub d 0 1 1) mem → (∀ r ∈ rows, ∀ c ∈ r, c.kill (.sub d 0 1 1) = c) →
    (vs : Nat → List Value) → (∀ (j : Nat) (r : List CV), rows[j]? = some r → CsRel W S γ r (vs (i + j))) → (∀ (j : Nat) (r : List CV) (q : Nat) (v : Value), rows[j]? = some r → (vs (i + j))[q]? = some v → W.cell? ⟨blkD (γ.hd d 0 []), (i + j) * k + q, none⟩ = some v) →
    movesR d k i rows mem = some mem' → ∃ γ', MemOK W0 M S γ' mem' W ∧ Chg (.sub d 0 1 1) γ γ' ∧ Step γ γ' mem mem' ∧ (∀ i, γ'.base i = γ.base i)
  | [], i, γ, mem, mem', hM, hcl, hck, vs, hv, hreal, h => by
    simp only [movesR, Option.some.injEq] at h
    subst h
    exact ⟨γ, hM, Chg.refl _ γ, Step.refl _ _, fun _ => rfl⟩
  | r :: rows, i, γ, mem, mem', hM, hcl, hck, vs, hv, hreal, h => by
    simp only [movesR] at h
    split at h
    · rename_i mem1 hm1
      have hκ : ∀ j, j < r.length → Kl.le (.sub d (bump j 0 [(i, k, 0)]).1 ((bump j 0 [(i, k, 0)]).1 + 1) (bump j 0 [(i, k, 0)]).2.length) (.sub d 0 1 1) := fun j _ => ⟨fun o1 h => by simp [Kl.b] at h, fun o1 off1 m h => by simpa [Kl.h, bump] using h⟩
      obtain ⟨γ1, g1, g2, g3, g4⟩ := moves_ok (κ := .sub d 0 1 1) r hM hcl (hck r List.mem_cons_self) hκ (hv 0 r rfl) (fun j v hj => by
        simp only [Gh.addr]
        rw [add_plain]
        have := hreal 0 r j v rfl hj
        simpa using this) (fun q hq => by cases hq) hm1
      have hd : γ1.hd d 0 [] = γ.hd d 0 [] := g2.2 d 0 [] (by simp [Kl.h])
      have hcl1 : Clear (.sub d 0 1 1) mem1 := by
        -- moves lay slices alone
        have : ∀ (cs : List CV) (off : Nat) (π : Path) (m m' : List (Nat × MC)), (∀ o q, look m o = .reg q → ∃ k es, q = .vec k es) → Clear (.sub d 0 1 1) m → moves d off π cs m = some m' → Clear (.sub d 0 1 1) m' := by
          intro cs
          induction cs with
          | nil => intro off π m m' _ hc h; simp only [moves, Option.some.injEq] at h; subst h; exact hc
          | cons c cs ih =>
            intro off π m m' hreg hc h
            simp only [moves] at h
            split at h
            · split at h
              · rename_i p so soff m1 hg
                split at h
                · cases h
                · split at h
                  · rename_i m2 hp
                    have hl : Less m1 m := by
                      unfold grabOf at hg
                      split at hg
                      · split at hg
                        · rename_i ha ht; simp only [Option.some.injEq, Prod.mk.injEq] at hg; obtain ⟨_, _, _, rfl⟩ := hg; exact (takeAt_less hreg ha ht).1
                        · cases hg
                      · split at hg
                        · rename_i ha ht
                          split at hg
                          · simp only [Option.some.injEq, Prod.mk.injEq] at hg; obtain ⟨_, _, _, rfl⟩ := hg; exact (takeAt_less hreg ha ht).1
                          · cases hg
                        · cases hg
                      · cases hg
                    have hpv : ∃ k es, p = .vec k es := by
                      unfold grabOf at hg
                      split at hg
                      · split at hg
                        · simp only [Option.some.injEq, Prod.mk.injEq] at hg; exact ⟨_, _, hg.1.symm⟩
                        · cases hg
                      · split at hg
                        · split at hg
                          · simp only [Option.some.injEq, Prod.mk.injEq] at hg; exact ⟨_, _, hg.1.symm⟩
                          · cases hg
                        · cases hg
                      · cases hg
                    unfold putAt at hp
                    split at hp
                    · rename_i p0 hp0
                      split at hp
                      · rename_i p' hp'
                        injection hp with hp
                        subst hp
                        refine ih _ _ _ _ (fun o q hq => ?_) (fun o1 cs1 j c1 ho1 hj => ?_) h
                        · rcases reg_setCell hp0 hq with ⟨_, _, rfl, _⟩ | g1
                          · obtain ⟨k0, es0, rfl⟩ := hpv
                            have hs := put_same hp'
                            cases q with
                            | vec k1 es1 => exact ⟨_, _, rfl⟩
                            | _ =>
                              have := down_nv rfl hs
                              subst this
                              simp [PV.down] at hs
                          · exact hl.reg o q g1 |>.2
                        · rcases ho1 with ho1 | ⟨ks, ho1⟩
                          · obtain ⟨cs0, g1, _, g3⟩ := obj_setCell hp0 ho1
                            rcases g3 j c1 hj with ⟨_, _, rfl⟩ | ⟨_, g4⟩
                            · rfl
                            · exact (hc.less hl) o1 cs0 j c1 (.inl g1) g4
                          · exact (hc.less hl) o1 cs1 j c1 (.inr ⟨ks, map_setCell ho1⟩) hj
                      · cases hp
                    · cases hp
                  · cases h
              · cases h
            · exact ih _ _ _ _ hreg hc h
        exact this r 0 _ mem mem1 hM.regs hcl hm1
      obtain ⟨γ2, f1, f2, f3, f4⟩ := movesR_ok rows (i + 1) g1 hcl1 (fun s hs => hck s (List.mem_cons_of_mem _ hs)) vs (fun j s hj => by
        have h1 := (hv (j + 1) s (by simpa using hj)).kill g2
        rw [show i + 1 + j = i + (j + 1) by omega]
        rwa [show s.map (CV.kill (.sub d 0 1 1)) = s from by
          conv => rhs; rw [← List.map_id s]
          exact List.map_congr_left (hck s (List.mem_cons_of_mem _ (List.mem_of_getElem? hj)))] at h1) (fun j s q v hj hq => by
        rw [hd, show i + 1 + j = i + (j + 1) by omega]
        exact hreal (j + 1) s q v (by simpa using hj) (by rwa [show i + 1 + j = i + (j + 1) by omega] at hq)) h
      exact ⟨γ2, f1, ⟨fun o h1 => (f2.1 o h1).trans (g2.1 o h1), fun o off π h1 => (f2.2 o off π h1).trans (g2.2 o off π h1)⟩, g3.trans f3, fun j => (f4 j).trans (g4 j)⟩
    · cases h
theorem sub_root (d : Nat) : Kl.le (.sub d 0 1 1) (.root d) := ⟨fun o h => by simp [Kl.b] at h, fun o off n h => by simp [Kl.h] at h ⊢; exact h.1⟩
theorem Chg.le {κ κ' : Kl} (h : Kl.le κ κ') (hc : Chg κ γ γ') : Chg κ' γ γ' := by
  have hb : ∀ {b b' : Bool}, (b = true → b' = true) → b' = false → b = false := by intro b b'; cases b <;> cases b' <;> simp
  exact ⟨fun o h1 => hc.1 o (hb (h.1 o) h1), fun o off π h1 => hc.2 o off π (hb (h.2 o off π.length) h1)⟩
theorem Chg.trans {γ'' : Gh} (h : Chg κ γ γ') (h' : Chg κ γ' γ'') : Chg κ γ γ'' := ⟨fun o h1 => (h'.1 o h1).trans (h.1 o h1), fun o off π h1 => (h'.2 o off π h1).trans (h.2 o off π h1)⟩

/-- A slice of the call's own under a new number: the state. -/
theorem Rel.reg (hR : Rel T W0 M S0 S γ σ a W) {mem1 : List (Nat × MC)} (hl : Less mem1 σ.mem) {d : Nat} (hd : d < 1000000) {so soff : Nat} {sπ : Path} {k : Nat} {es new : List (List PV)} {n : Nat} {v : Value} {b : Nat}
    (hsrc : (n = 0 ∧ W.heap.size ≤ b) ∨ (at_ σ.mem so soff sπ = some (.vec k es) ∧ ∀ (ρ : Path) (k : Nat) (es : List (List PV)), at_ mem1 so soff (ρ ++ sπ) ≠ some (.vec k es)))
    (hn : n ≤ es.length) (hk : 0 < k) (hrow : ∀ r ∈ es.take n ++ new, r.length = k) (hnv : ∀ r ∈ new, ∀ x ∈ r, x.nv = true) (hw : Wrote M W0 S W W')
    (hheap : ∀ j, j < W.heap.size → j ≠ b → W'.heap[j]? = W.heap[j]?) (hb : W.heap.size ≤ b ∨ Owns γ σ.mem (.at_ so soff sπ) b) (hone : v.oneCell' = true)
    (hv : (es.take n ++ new = [] ∧ ∃ A, v = .slice A 0 0 ∧ W.heap.size ≤ b) ∨ ∃ cap cur t, v = .slice (some ⟨b, 0, none⟩) (es.take n ++ new).length cap ∧ 0 < cap ∧ (es.take n ++ new).length ≤ cap ∧ cap ≤ maxLen ∧ W'.heap[b]? = some (.cells cur t (0, 0)) ∧ cur.size = cap * k ∧
      ∀ (i : Nat) (row : List PV) (f : Nat) (x : PV) (u : Value), (es.take n ++ new)[i]? = some row → row[f]? = some x → cur[i * k + f]? = some u → (i < n ∧ CellOK W S γ so soff ((i, k, f) :: sπ) x u) ∨ PRel W' S x u) :
    ∃ γ', Rel T W0 M S0 S γ' (newReg { σ with mem := mem1 } d k (es.take n ++ new)) (a.put (some d) v) W' ∧ Step γ γ' σ.mem (newReg { σ with mem := mem1 } d k (es.take n ++ new)).mem ∧ γ'.hd d 0 [] = v ∧ Chg (.root d) γ γ' := by
  have hreg1 : ∀ o q, look mem1 o = .reg q → ∃ k es, q = .vec k es := fun o q h => (hl.reg o q h).2
  have hl1 : Less (killM (.root d) mem1) σ.mem := (killM_less hreg1).trans hl
  have hM := hR.core.mem.newReg hl1 (clear_kill (.root d) mem1) (d := d) (so := so) (soff := soff) (sπ := sπ) (es := es) (new := new) (n := n) (W' := W')
    (hsrc.imp id (fun h => ⟨h.1, fun ρ k es ha => h.2 ρ k es (at_kill ha)⟩)) hn hk hrow hnv (v := v) (b := b) hR.core.size hw.cells (fun a ha => hR.core.lt ha) hheap hb hv
  have hchg := Gh.reg_chg γ d v so soff sπ
  refine ⟨γ.reg d v so soff sπ, ⟨hR.core.wrote hM hw, hR.defers, by simp [newReg, St.kill, hR.len, Act.put], tmps_put (tmps_kill hchg (fun j y u hj hu => (hR.tmps j y u hj hu).mono hw.cells (fun _ h => h))) ?_⟩, ⟨fun i cs hi h => ?_, fun i p hi h => ?_, fun i ks cs hi h => ?_⟩, by simp [Gh.reg], hchg⟩
  · exact ⟨by simp [Gh.reg], hone⟩
  · simp only [newReg] at h
    rw [look_lay_other _ _ _ _ (by omega)] at h
    obtain ⟨cs0, h0, _⟩ := hl1.obj i cs h
    exact ⟨⟨cs0, h0⟩, rfl⟩
  · simp only [newReg] at h
    rw [look_lay_other _ _ _ _ (by omega)] at h
    exact ⟨(hl1.reg i p h).1, Gh.reg_other _ _ _ _ _ _ (by omega)⟩
  · simp only [newReg] at h
    rw [look_lay_other _ _ _ _ (by omega)] at h
    obtain ⟨cs0, h0, _⟩ := hl1.map i ks cs h
    exact ⟨⟨ks, cs0, h0⟩, rfl⟩
theorem Rel.move (hR : Rel T W0 M S0 S γ σ a W) {mem' : List (Nat × MC)} (hM : MemOK W0 M S γ' mem' W) (hc : Chg κ γ γ') (hk : ∀ x ∈ σ.tmps, x.kill κ = x) : Rel T W0 M S0 S γ' { σ with mem := mem' } a W := by
  refine ⟨{ hR.core with mem := hM }, hR.defers, hR.len, fun i x v hx hv => ?_⟩
  have := (hR.tmps i x v hx hv).kill hc
  rwa [hk x (List.mem_of_getElem? hx)] at this
end
end Go.Ew
end
