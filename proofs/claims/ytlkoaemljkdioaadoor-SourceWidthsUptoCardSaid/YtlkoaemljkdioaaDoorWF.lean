/- How a function is gone through step by step in the abstract machine. -/
import Derived.Test.YtlkoaemljkdioaaDoorWE
section
/- A root that is written no more. -/
namespace Go.Ew

mutual
def PV.frz : PV → PV
  | .vec k es => .sl k (frzE es)
  | .bot => .bot
  | .v x => .v x
  | .sl k es => .sl k es
  | .ref cs => .ref cs
  | .clo f cap => .clo f cap
  | .zc => .zc
  | .mp ks vs => .mp ks vs
def frzE : List (List PV) → List (List PV)
  | [] => []
  | r :: rs => frzR r :: frzE rs
def frzR : List PV → List PV
  | [] => []
  | p :: ps => p.frz :: frzR ps
end
theorem frzR_map : ∀ ps : List PV, frzR ps = ps.map PV.frz
  | [] => by simp [frzR]
  | p :: ps => by simp [frzR, frzR_map ps]
theorem frzE_map : ∀ es : List (List PV), frzE es = es.map frzR
  | [] => by simp [frzE]
  | r :: rs => by simp [frzE, frzE_map rs]
theorem frz_nv {p : PV} (h : p.nv = true) : p.frz = p := by cases p <;> simp [PV.nv] at h <;> simp [PV.frz]

def frzC : CV → PV
  | .c p => p.frz
  | _ => .bot
/-- An object's cells from here on. -/
def frzO (mem : List (Nat × MC)) (o off : Nat) : CV :=
  match look mem o with
  | .obj cs => .c (.ref ((cs.drop off).map frzC))
  | _ => .bot
/-- A map from here on. -/
def frzMp (mem : List (Nat × MC)) (o : Nat) : CV :=
  match look mem o with
  | .map ks cs => .c (.mp ks (cs.map frzC))
  | _ => .bot
def Cap.frz (mem : List (Nat × MC)) (o : Nat) : Cap → Cap
  | .p x => .p x
  | .r o' => if o' = o then match frzO mem o 0 with
      | .c q => .p q
      | _ => .r o'
    else .r o'
def CV.frz (mem : List (Nat × MC)) (o : Nat) : CV → CV
  | .c p => .c p
  | .ptr o' off [] => if o' = o then frzO mem o off else .ptr o' off []
  | .ptr o' off ((i, k, f) :: π) => if o' = o then match at_ mem o off π with
      | some (.vec k' es) => if k = k' then match es[i]? with
          | some row => .c (.ref (frzR (row.drop f)))
          | none => .bot
        else .bot
      | _ => .bot
    else .ptr o' off ((i, k, f) :: π)
  | .view o' off π => if o' = o then match at_ mem o off π with
      | some (.vec k es) => .c (.sl k (frzE es))
      | _ => .bot
    else .view o' off π
  | .pre o' off π n => if o' = o then match at_ mem o off π with
      | some (.vec k es) => .c (.sl k ((frzE es).take n))
      | _ => .bot
    else .pre o' off π n
  | .clo f cap => mkClo f (cap.map (Cap.frz mem o))
  | .mp o' => if o' = o then frzMp mem o else .mp o'
def UV.frz (mem : List (Nat × MC)) (o : Nat) : UV → UV
  | .one c => .one (c.frz mem o)
  | .agg cs => .agg (cs.map (CV.frz mem o))
def TV.frz (mem : List (Nat × MC)) (o : Nat) : TV → TV
  | .bot => .bot
  | .u x => .u (x.frz mem o)
  | .tup xs => .tup (xs.map (UV.frz mem o))
  | .w g x => .w g (x.frz mem o)
def MC.frz (mem : List (Nat × MC)) (o : Nat) : MC → MC
  | .obj cs => .obj (cs.map (CV.frz mem o))
  | .map ks cs => .map ks (cs.map (CV.frz mem o))
  | m => m
def frzM (mem : List (Nat × MC)) (o : Nat) (l : List (Nat × MC)) : List (Nat × MC) := l.map fun x => (x.1, x.2.frz mem o)
def St.frz (σ : St) (o : Nat) : St := { tmps := σ.tmps.map (TV.frz σ.mem o), mem := frzM σ.mem o (del σ.mem o) }
theorem look_frzM (mem : List (Nat × MC)) (o : Nat) (l : List (Nat × MC)) (i : Nat) : look (frzM mem o l) i = (look l i).frz mem o := by
  induction l with
  | nil => rfl
  | cons x r ih =>
    obtain ⟨k, y⟩ := x
    by_cases h : k = i <;> simp [frzM, look, h] <;> simpa [frzM] using ih

def Node.on : Node → Nat
  | .root o => o
  | .at_ o _ _ => o
/-- What stays: what stayed, and what lies in root o. -/
def Froz (W : World) (S : Addr → Prop) (γ : Gh) (mem : List (Nat × MC)) (o : Nat) (a : Addr) : Prop :=
  S a ∨ ((∃ n, Owns γ mem n a.block ∧ n.on = o) ∧ a.block < W.heap.size)

section
variable {P : Program} {T : Tab} {W0 W W' : World} {M : Nat → Prop} {S0 S S' : Addr → Prop} {γ γ' : Gh} {γ0 : Gh × List (Nat × MC)} {σ τ : St} {a : Act} {mem mem' : List (Nat × MC)} {o : Nat}

theorem cell_frz (hM : MemOK W0 M S γ mem W) (p : PV) : ∀ (off : Nat) (π : Path) (u : Value), at_ mem o off π = some p → CellOK W S γ o off π p u → PRel W (Froz W S γ mem o) p.frz u := by
  intro off π u ha h
  match hp : p with
  | .vec k es =>
    obtain ⟨hu, _⟩ := h
    subst hu
    obtain ⟨hk, hrl, hv⟩ := hM.vecs o off π k es ha
    have hel : (frzE es).length = es.length := by rw [frzE_map]; simp
    rcases hv with ⟨rfl, A, hA⟩ | ⟨b, cap, w1, w2, w3, w4, cur, t, w5, w6, w7⟩
    · rw [hA]
      simp only [PV.frz, frzE]
      exact .sl k [] A 0 (fun _ _ => undef) (Nat.le_refl _) (fun h => absurd rfl h) (by simp) (by simp) (by simp)
    · have hown : Owns γ mem (.at_ o off π) b := ⟨⟨k, es, ha⟩, _, _, w2, w1⟩
      rw [w1, ← hel]
      simp only [PV.frz]
      have hget : ∀ {i : Nat} {e : List PV} {j : Nat} {q : PV}, (frzE es)[i]? = some e → e[j]? = some q → ∃ row x, es[i]? = some row ∧ row[j]? = some x ∧ q = x.frz ∧ i * k + j < cur.size := fun {i e j q} he hq => by
        rw [frzE_map, List.getElem?_map] at he
        obtain ⟨row, h1, rfl⟩ := Option.map_eq_some_iff.1 he
        rw [frzR_map, List.getElem?_map] at hq
        obtain ⟨x, h2, rfl⟩ := Option.map_eq_some_iff.1 hq
        refine ⟨row, x, h1, h2, rfl, ?_⟩
        rw [w6]
        have h3 := (List.getElem?_eq_some_iff.1 h1).1
        have h4 := (List.getElem?_eq_some_iff.1 h2).1
        rw [hrl row (List.mem_of_getElem? h1)] at h4
        exact at_lt (by omega) h4
      refine .sl k (frzE es) _ cap (fun i j => cur.getD (i * k + j) undef) (by omega) (fun _ => ⟨_, rfl⟩) (fun e he => ?_) (fun ad i e j q had he hq => ?_) (fun i e j q he hq => ?_)
      · obtain ⟨i, hi⟩ := List.mem_iff_getElem?.1 he
        rw [frzE_map, List.getElem?_map] at hi
        obtain ⟨row, h1, rfl⟩ := Option.map_eq_some_iff.1 hi
        rw [frzR_map, List.length_map]
        exact hrl row (List.mem_of_getElem? h1)
      · injection had with had
        subst had
        obtain ⟨row, x, h1, h2, rfl, h3⟩ := hget he hq
        have hc : W.cell? ((⟨b, 0, none⟩ : Addr).add (i * k + j)) = some (cur.getD (i * k + j) undef) := by
          rw [add_plain]
          simp [World.cell?, w5, Array.getD, h3]
        exact ⟨.inr ⟨⟨_, by rw [add_plain]; exact hown, rfl⟩, World.block_lt_of_cell? W _ hc⟩, hc⟩
      · obtain ⟨row, x, h1, h2, rfl, h3⟩ := hget he hq
        have hu : cur[i * k + j]? = some (cur.getD (i * k + j) undef) := by simp [Array.getD, h3]
        have hsz : SizeOf.sizeOf x < 1 + SizeOf.sizeOf k + SizeOf.sizeOf es := by
          have g1 := List.sizeOf_lt_of_mem (List.mem_of_getElem? h1)
          have g2 := List.sizeOf_lt_of_mem (List.mem_of_getElem? h2)
          omega
        exact cell_frz hM x off ((i, k, j) :: π) _ (at_child ha h1 h2) (w7 i row j x _ h1 h2 hu)
  | .bot => exact PRel.mono (fun _ _ => rfl) (fun _ h => .inl h) (show PRel W S .bot u from h)
  | .v x => exact PRel.mono (fun _ _ => rfl) (fun _ h => .inl h) (show PRel W S (.v x) u from h)
  | .sl k es => exact PRel.mono (fun _ _ => rfl) (fun _ h => .inl h) (show PRel W S (.sl k es) u from h)
  | .ref cs => exact PRel.mono (fun _ _ => rfl) (fun _ h => .inl h) (show PRel W S (.ref cs) u from h)
  | .clo f cap => exact PRel.mono (fun _ _ => rfl) (fun _ h => .inl h) (show PRel W S (.clo f cap) u from h)
  | .zc => exact PRel.mono (fun _ _ => rfl) (fun _ h => .inl h) (show PRel W S .zc u from h)
  | .mp ks vs => exact PRel.mono (fun _ _ => rfl) (fun _ h => .inl h) (show PRel W S (.mp ks vs) u from h)
  termination_by SizeOf.sizeOf p
  decreasing_by
  simp only [PV.vec.sizeOf_spec]
  omega

theorem obj_frz (hM : MemOK W0 M S γ mem W) {cs : List CV} (ho : look mem o = .obj cs) (off : Nat) : PRel W (Froz W S γ mem o) (.ref ((cs.drop off).map frzC)) (.pointer (some ⟨γ.base o, off, none⟩)) := by
  obtain ⟨C, t, h1, h2, h3⟩ := hM.objs o cs ho
  have hown : Owns γ mem (.root o) (γ.base o) := ⟨.inl ⟨cs, ho⟩, rfl⟩
  refine .ref _ _ (fun j => C.getD (off + j) undef) (fun j p hp => ?_) (fun j p hp => ?_)
  · rw [List.getElem?_map, List.getElem?_drop] at hp
    obtain ⟨c, hc, rfl⟩ := Option.map_eq_some_iff.1 hp
    have hlt : off + j < C.size := by rw [h2]; exact (List.getElem?_eq_some_iff.1 hc).1
    have hcell : W.cell? ((⟨γ.base o, off, none⟩ : Addr).add j) = some (C.getD (off + j) undef) := by
      rw [add_plain]
      simp [World.cell?, h1, Array.getD, hlt]
    exact ⟨.inr ⟨⟨_, by rw [add_plain]; exact hown, rfl⟩, World.block_lt_of_cell? W _ hcell⟩, hcell⟩
  · rw [List.getElem?_map, List.getElem?_drop] at hp
    obtain ⟨c, hc, rfl⟩ := Option.map_eq_some_iff.1 hp
    have hlt : off + j < C.size := by rw [h2]; exact (List.getElem?_eq_some_iff.1 hc).1
    have hr := h3 (off + j) c (C.getD (off + j) undef) hc (by simp [Array.getD, hlt])
    cases c with
    | c p =>
      refine cell_frz hM p (off + j) [] _ ?_ hr
      simp [Ew.at_, ho, cellAt, hc, PV.down]
    | _ => exact PRel.bot _ hr.one
theorem map_frz (hM : MemOK W0 M S γ mem W) {ks : List Value} {cs : List CV} (ho : look mem o = .map ks cs) : PRel W (Froz W S γ mem o) (.mp ks (cs.map frzC)) (.map (some (γ.base o))) := by
  obtain ⟨es, g1, g2, g3, g4, g5⟩ := hM.maps o ks cs ho
  have hown : Owns γ mem (.root o) (γ.base o) := ⟨.inr ⟨ks, cs, ho⟩, rfl⟩
  refine .mp ks _ _ es (.inr ⟨⟨_, hown, rfl⟩, hM.blk_lt hown⟩) g1 g2 (by simpa using g3) g4 (fun i p e hp he => ?_)
  rw [List.getElem?_map] at hp
  obtain ⟨c, hc, rfl⟩ := Option.map_eq_some_iff.1 hp
  have hr := g5 i c e hc he
  cases c with
  | c p =>
    have h1 : PRel W S p e.val := hr
    simp only [frzC, frz_nv h1.nv]
    exact PRel.mono (fun _ _ => rfl) (fun _ h => .inl h) h1
  | _ => exact PRel.bot _ hr.one
theorem sl_take {k n m c : Nat} {es : List (List PV)} {A : Option Addr} (hn : n ≤ m) (h : PRel W S (.sl k es) (.slice A m c)) (hl : es.length = m) : PRel W S (.sl k (es.take n)) (.slice A n c) := by
  subst hl
  cases h with
  | sl _ _ _ _ val hl hA hk hc hr =>
    have he : ∀ {i : Nat} {e : List PV}, (es.take n)[i]? = some e → es[i]? = some e := fun {i e} h => by
      rw [List.getElem?_take] at h
      split at h
      · exact h
      · cases h
    have : (PRel W S (.sl k (es.take n)) (.slice A (es.take n).length c)) := .sl k _ A c val (by simp; omega) (fun h => hA (by rintro rfl; simp at h)) (fun e h => hk e (List.mem_of_mem_take h)) (fun ad i e j p ha hi hj => hc ad i e j p ha (he hi) hj) (fun i e j p hi hj => hr i e j p (he hi) hj)
    rwa [show (es.take n).length = n by simp; omega] at this

theorem CapRel.frz (hM : MemOK W0 M S γ mem W) {c : Cap} {v : Value} (h : CapRel W S γ c v) : CapRel W (Froz W S γ mem o) γ (c.frz mem o) v := by
  cases c with
  | p x => exact PRel.mono (fun _ _ => rfl) (fun _ h => .inl h) h
  | r o' =>
    simp only [Cap.frz]
    split
    · rename_i e
      subst e
      cases hm : look mem o' with
      | obj cs =>
        simp only [frzO, hm]
        rw [show v = .pointer (some ⟨γ.base o', 0, none⟩) from h]
        exact obj_frz hM hm 0
      | map ks cs => simp only [frzO, hm]; exact PRel.bot v (by rw [show v = .pointer (some ⟨γ.base o', 0, none⟩) from h]; rfl)
      | no => simp only [frzO, hm]; exact PRel.bot v (by rw [show v = .pointer (some ⟨γ.base o', 0, none⟩) from h]; rfl)
      | reg p => simp only [frzO, hm]; exact PRel.bot v (by rw [show v = .pointer (some ⟨γ.base o', 0, none⟩) from h]; rfl)
    · exact h
theorem CRel.frz (hM : MemOK W0 M S γ mem W) {c : CV} {v : Value} (h : CRel W S γ c v) : CRel W (Froz W S γ mem o) γ (c.frz mem o) v := by
  have hmono : ∀ {c : CV}, CRel W S γ c v → CRel W (Froz W S γ mem o) γ c v := fun h => CRel.mono (fun _ _ => rfl) (fun _ h => .inl h) h
  cases c with
  | c p => exact hmono h
  | ptr o' off π =>
    cases π with
    | nil =>
      simp only [CV.frz]
      split
      · rename_i e
        subst e
        unfold frzO
        split
        · rename_i cs hm
          rw [show v = .pointer (some ⟨γ.base o', off, none⟩) from h]
          exact obj_frz hM hm off
        · exact bot_rel h.one
      · exact hmono h
    | cons s π =>
      obtain ⟨i, k, f⟩ := s
      simp only [CV.frz]
      split
      · rename_i e
        subst e
        split
        · rename_i k' es hat
          split
          · rename_i hk
            subst hk
            split
            · rename_i row hrow
              obtain ⟨hk0, hrl, hv⟩ := hM.vecs _ _ _ _ _ hat
              rcases hv with ⟨rfl, _⟩ | ⟨b, cap, w1, w2, w3, w4, cur, t, w5, w6, w7⟩
              · simp at hrow
              · have hown : Owns γ mem (.at_ o' off π) b := ⟨⟨k, es, hat⟩, _, _, w2, w1⟩
                rw [show v = .pointer (some ⟨b, i * k + f, none⟩) by rw [show v = .pointer (some ⟨blkD (γ.hd o' off π), i * k + f, none⟩) from h, w1]; rfl]
                have hlt : ∀ {j : Nat} {x : PV}, row[f + j]? = some x → i * k + f + j < cur.size := fun {j x} hx => by
                  have h4 := (List.getElem?_eq_some_iff.1 hx).1
                  rw [hrl row (List.mem_of_getElem? hrow)] at h4
                  have h3 := (List.getElem?_eq_some_iff.1 hrow).1
                  rw [w6, Nat.add_assoc]
                  exact at_lt (by omega) h4
                refine PRel.ref _ _ (fun j => cur.getD (i * k + f + j) undef) (fun j p hp => ?_) (fun j p hp => ?_)
                · rw [frzR_map, List.getElem?_map, List.getElem?_drop] at hp
                  obtain ⟨x, hx, rfl⟩ := Option.map_eq_some_iff.1 hp
                  have hcell : W.cell? ((⟨b, i * k + f, none⟩ : Addr).add j) = some (cur.getD (i * k + f + j) undef) := by
                    rw [add_plain]
                    simp [World.cell?, w5, Array.getD, hlt hx]
                  exact ⟨.inr ⟨⟨_, by rw [add_plain]; exact hown, rfl⟩, World.block_lt_of_cell? W _ hcell⟩, hcell⟩
                · rw [frzR_map, List.getElem?_map, List.getElem?_drop] at hp
                  obtain ⟨x, hx, rfl⟩ := Option.map_eq_some_iff.1 hp
                  have hu : cur[i * k + (f + j)]? = some (cur.getD (i * k + f + j) undef) := by
                    rw [← Nat.add_assoc]; simp [Array.getD, hlt hx]
                  exact cell_frz hM x off ((i, k, f + j) :: π) _ (at_child hat hrow hx) (w7 i row (f + j) x _ hrow hx hu)
            · exact bot_rel h.one
          · exact bot_rel h.one
        · exact bot_rel h.one
      · exact hmono h
  | view o' off π =>
    simp only [CV.frz]
    split
    · rename_i e
      subst e
      split
      · rename_i k es hat
        have := cell_frz hM (.vec k es) off π v hat h
        simp only [PV.frz] at this
        exact this
      · exact bot_rel h.one
    · exact hmono h
  | pre o' off π n =>
    simp only [CV.frz]
    split
    · rename_i e
      subst e
      split
      · rename_i k es hat
        obtain ⟨A, m, c, h1, h2, rfl⟩ := h
        have h3 := cell_frz hM (.vec k es) off π (γ.hd o' off π) hat ⟨rfl, by rw [h1]; rfl⟩
        rw [h1] at h3
        simp only [PV.frz] at h3
        have hl : (frzE es).length = m := by
          cases h3 with
          | sl => rfl
        exact sl_take h2 h3 hl
      · exact bot_rel h.one
    · exact hmono h
  | clo f cap =>
    obtain ⟨vs, rfl, h2, h3⟩ := h
    refine mkClo_ok f (by simp [h2]) (fun i c u hc hu => ?_)
    rw [List.getElem?_map] at hc
    obtain ⟨c0, h0, rfl⟩ := Option.map_eq_some_iff.1 hc
    exact (h3 i c0 u h0 hu).frz hM
  | mp o' =>
    simp only [CV.frz]
    split
    · rename_i e
      subst e
      unfold frzMp
      split
      · rename_i ks cs hm
        rw [show v = .map (some (γ.base o')) from h]
        exact map_frz hM hm
      · exact bot_rel h.one
    · exact hmono h
theorem CsRel.frz (hM : MemOK W0 M S γ mem W) {cs : List CV} {vs : List Value} (h : CsRel W S γ cs vs) : CsRel W (Froz W S γ mem o) γ (cs.map (CV.frz mem o)) vs := by
  refine ⟨by simp [h.1], fun i c v hc hv => ?_⟩
  rw [List.getElem?_map] at hc
  obtain ⟨c0, h0, rfl⟩ := Option.map_eq_some_iff.1 hc
  exact (h.2 i c0 v h0 hv).frz hM
theorem URel.frz (hM : MemOK W0 M S γ mem W) {x : UV} {v : Value} (h : URel W S γ x v) : URel W (Froz W S γ mem o) γ (x.frz mem o) v := by
  cases x with
  | one c => exact CRel.frz hM h
  | agg cs => obtain ⟨vs, rfl, hs⟩ := h; exact ⟨vs, rfl, hs.frz hM⟩
theorem TRel.frz (hM : MemOK W0 M S γ mem W) {x : TV} {v : Value} (h : TRel W S γ x v) : TRel W (Froz W S γ mem o) γ (x.frz mem o) v := by
  cases x with
  | bot => trivial
  | u x => exact URel.frz hM h
  | tup xs =>
    obtain ⟨vs, rfl, hl, hr⟩ := h
    refine ⟨vs, rfl, by simp [hl], fun i x y hx hy => ?_⟩
    rw [List.getElem?_map] at hx
    obtain ⟨x0, h0, rfl⟩ := Option.map_eq_some_iff.1 hx
    exact URel.frz hM (hr i x0 y h0 hy)
  | w g x => exact ⟨fun hg => URel.frz hM (h.1 hg), h.2⟩
theorem frz_c_mp {o' : Nat} {p : PV} (hn : p.nv = false) (h : (CV.mp o').frz mem o = .c p) : False := by
  simp only [CV.frz, frzMp] at h
  split at h
  · split at h <;> (injection h with h; subst h; simp [PV.nv] at hn)
  · cases h
theorem frz_c {c : CV} {p : PV} (hn : p.nv = false) (h : c.frz mem o = .c p) : c = .c p := by
  have hclo : ∀ {f : FuncId} {cs : List Cap}, mkClo f cs ≠ .c p := fun {f cs} e => by
    unfold mkClo at e
    split at e
    · injection e with e; subst e; simp [PV.nv] at hn
    · cases e
  cases c with
  | c q => exact h
  | mp o' => exact (frz_c_mp hn h).elim
  | clo f cap => exact absurd h hclo
  | ptr o' off π =>
    cases π with
    | nil =>
      simp only [CV.frz, frzO] at h
      split at h
      · split at h <;> (injection h with h; subst h; simp [PV.nv] at hn)
      · cases h
    | cons s π =>
      obtain ⟨i, k, f⟩ := s
      simp only [CV.frz] at h
      split at h
      · split at h
        · split at h
          · split at h <;> (injection h with h; subst h; simp [PV.nv] at hn)
          · injection h with h; subst h; simp [PV.nv] at hn
        · injection h with h; subst h; simp [PV.nv] at hn
      · cases h
  | view o' off π =>
    simp only [CV.frz] at h
    split at h
    · split at h <;> (injection h with h; subst h; simp [PV.nv] at hn)
    · cases h
  | pre o' off π n =>
    simp only [CV.frz] at h
    split at h
    · split at h <;> (injection h with h; subst h; simp [PV.nv] at hn)
    · cases h
theorem look_frz {i : Nat} {m : MC} (h : look (frzM mem o (del mem o)) i = m) (hm : m ≠ .no) : i ≠ o ∧ m = (look mem i).frz mem o := by
  rw [look_frzM] at h
  by_cases hi : i = o
  · subst hi
    rw [look_del_same] at h
    exact absurd h.symm hm
  · rw [look_del_other _ _ _ hi] at h
    exact ⟨hi, h.symm⟩
theorem frz_obj {m : MC} {cs : List CV} (h : m.frz mem o = .obj cs) : ∃ cs0, m = .obj cs0 ∧ cs = cs0.map (CV.frz mem o) := by cases m <;> simp [MC.frz] at h; exact ⟨_, rfl, h.symm⟩
theorem frz_map' {m : MC} {ks : List Value} {cs : List CV} (h : m.frz mem o = .map ks cs) : ∃ cs0, m = .map ks cs0 ∧ cs = cs0.map (CV.frz mem o) := by
  cases m <;> simp [MC.frz] at h
  obtain ⟨rfl, rfl⟩ := h
  exact ⟨_, rfl, rfl⟩
theorem frz_reg {m : MC} {p : PV} (h : m.frz mem o = .reg p) : m = .reg p := by cases m <;> simp [MC.frz] at h; rw [h]
theorem at_frz {i off : Nat} {π : Path} {k : Nat} {es : List (List PV)} (h : at_ (frzM mem o (del mem o)) i off π = some (.vec k es)) : i ≠ o ∧ at_ mem i off π = some (.vec k es) := by
  unfold Ew.at_ at h
  split at h
  · rename_i p hp
    have hn : p.nv = false := by
      cases p with
      | vec _ _ => rfl
      | _ =>
        have := down_nv rfl h
        subst this
        simp [PV.down] at h
    obtain ⟨hi, hl⟩ := look_frz (mem := mem) (o := o) (i := i) rfl (by intro h'; rw [h'] at hp; simp [cellAt] at hp)
    rw [hl] at hp
    refine ⟨hi, ?_⟩
    have : cellAt (look mem i) off = some p := by
      cases hm : look mem i with
      | no => rw [hm] at hp; exact hp
      | map ks cs => rw [hm] at hp; exact hp
      | reg q => rw [hm] at hp; exact hp
      | obj cs =>
        rw [hm] at hp
        simp only [MC.frz, cellAt, List.getElem?_map] at hp ⊢
        cases hc : cs[off]? with
        | none => rw [hc] at hp; simp at hp
        | some c =>
          rw [hc] at hp
          simp only [Option.map_some] at hp
          split at hp
          · rename_i q hq
            injection hp with hp
            subst hp
            injection hq with hq
            rw [frz_c hn hq]
          · cases hp
    unfold Ew.at_
    rw [this]
    exact h
  · cases h
theorem owns_frz {n : Node} {b : Nat} (h : Owns γ (frzM mem o (del mem o)) n b) : n.on ≠ o ∧ Owns γ mem n b := by
  cases n with
  | root i =>
    obtain ⟨⟨cs, hc⟩ | ⟨ks, cs, hc⟩, hb⟩ := h
    · obtain ⟨h1, h2⟩ := look_frz hc (by simp)
      obtain ⟨cs0, h3, _⟩ := frz_obj h2.symm
      exact ⟨h1, .inl ⟨cs0, h3⟩, hb⟩
    · obtain ⟨h1, h2⟩ := look_frz hc (by simp)
      obtain ⟨cs0, h3, _⟩ := frz_map' h2.symm
      exact ⟨h1, .inr ⟨ks, cs0, h3⟩, hb⟩
  | at_ i off π =>
    obtain ⟨⟨k, es, hc⟩, hb⟩ := h
    obtain ⟨h1, h2⟩ := at_frz hc
    exact ⟨h1, ⟨k, es, h2⟩, hb⟩
theorem MemOK.frz (hM : MemOK W0 M S γ mem W) (o : Nat) : MemOK W0 M (Froz W S γ mem o) γ (frzM mem o (del mem o)) W := by
  refine ⟨fun i cs hi => ?_, fun i ks cs hi => ?_, fun i off π k es ha => ?_, fun i q hq => ?_, fun n b hn => ?_, fun n n' b hn hn' => hM.inj n n' b (owns_frz hn).2 (owns_frz hn').2⟩
  · obtain ⟨_, h2⟩ := look_frz hi (by simp)
    obtain ⟨cs0, h3, rfl⟩ := frz_obj h2.symm
    obtain ⟨C, t, g1, g2, g3⟩ := hM.objs i cs0 h3
    refine ⟨C, t, g1, by simpa using g2, fun off c u hc hu => ?_⟩
    rw [List.getElem?_map] at hc
    obtain ⟨c0, h7, rfl⟩ := Option.map_eq_some_iff.1 hc
    have h8 := g3 off c0 u h7 hu
    cases c0 with
    | c p => exact h8.mono (fun _ _ => rfl) (fun _ h => .inl h)
    | _ =>
      simp only [RootOK] at h8
      exact RootOK.of (CRel.frz hM h8)
  · obtain ⟨_, h2⟩ := look_frz hi (by simp)
    obtain ⟨cs0, h3, rfl⟩ := frz_map' h2.symm
    obtain ⟨es, g1, g2, g3, g4, g5⟩ := hM.maps i ks cs0 h3
    refine ⟨es, g1, g2, by simpa using g3, g4, fun j c e hc he => ?_⟩
    rw [List.getElem?_map] at hc
    obtain ⟨c0, h7, rfl⟩ := Option.map_eq_some_iff.1 hc
    exact CRel.frz hM (g5 j c0 e h7 he)
  · exact (hM.vecs i off π k es (at_frz ha).2).world (fun _ _ => rfl) (fun _ h => .inl h) (fun _ _ _ _ _ => rfl)
  · exact hM.regs i q (frz_reg (look_frz hq (by simp)).2.symm)
  · obtain ⟨h1, h2⟩ := owns_frz hn
    refine ⟨(hM.own n b h2).1, fun x hx e => ?_⟩
    rcases hx with hx | ⟨⟨n', h3, h4⟩, _⟩
    · exact (hM.own n b h2).2 x hx e
    · rw [e] at h3
      have := hM.inj n n' b h2 h3
      subst this
      exact h1 h4
theorem Core.frz (hC : Core T W0 M S0 S γ mem W) (o : Nat) : Core T W0 M S0 (Froz W S γ mem o) γ (frzM mem o (del mem o)) W :=
  ⟨hC.os, hC.tape, hC.output, hC.size, hC.frame, fun x hx => .inl (hC.s0 x hx), hC.s0c, fun x hx => hx.elim (hC.sfit x) (fun h => h.2), fun g cs hg => PRel.mono (fun _ _ => rfl) (fun _ h => .inl h) (hC.glob g cs hg),
    fun x hx => hx.elim (hC.snew x) (fun ⟨⟨n, h, _⟩, _⟩ => .inr (hC.mem.own n _ h).1), hC.mem.frz o⟩
theorem frz_step (γ : Gh) (mem : List (Nat × MC)) (o : Nat) : Step γ γ mem (frzM mem o (del mem o)) :=
  ⟨fun i cs _ h => (by obtain ⟨cs0, h1, _⟩ := frz_obj (look_frz h (by simp)).2.symm; exact ⟨⟨cs0, h1⟩, rfl⟩), fun i p _ h => ⟨⟨p, frz_reg (look_frz h (by simp)).2.symm⟩, rfl⟩, fun i ks cs _ h => (by obtain ⟨cs0, h1, _⟩ := frz_map' (look_frz h (by simp)).2.symm; exact ⟨⟨ks, cs0, h1⟩, rfl⟩)⟩
theorem Imp.frz (o : Nat) : Imp T σ (σ.frz o) := fun W0 M S0 S γ a W hR => by
  refine ⟨_, γ, ⟨hR.core.frz o, hR.defers, by simp [St.frz, hR.len], fun i x v hx hv => ?_⟩, fun _ h => .inl h, fun γ0 hp => hp.step (frz_step γ σ.mem o)⟩
  simp only [St.frz, List.getElem?_map] at hx
  obtain ⟨x0, h0, rfl⟩ := Option.map_eq_some_iff.1 hx
  exact (hR.tmps i x0 v h0 hv).frz hR.core.mem
end
end Go.Ew
end
section
/- Whole functions; what is known of a program's types. -/
namespace Go.Ew

def resT (T : Tab) (σ : St) : ResultVar → Option TV
  | .tmp t => some (opg T [] σ (.tmp t))
  | .cell a t => loadOp T σ t (opg T [] σ (.tmp a))
def resUs (T : Tab) (σ : St) : List ResultVar → Option (List UV)
  | [] => some []
  | x :: xs => match resT T σ x, resUs T σ xs with
    | some (.u y), some ys => some (y :: ys)
    | _, _ => none
def resV (T : Tab) (σ : St) : List ResultVar → Option TV
  | [x] => resT T σ x
  | xs => match resUs T σ xs with
    | some ys => some (.tup ys)
    | none => none
/-- Its result is that, and what was handed over lies so. -/
def finish (T : Tab) (rs : List ResultVar) (e : Fin) (mem' : List (Nat × MC)) (σ : St) : Prop :=
  ∃ τ, Imp T σ τ ∧ ∃ x r l, resV T τ rs = some x ∧ e = .ret r ∧ keysOK l ∧ leT r (x.re (toNew l)) ∧ leMs mem' (view l τ.mem)
def finishP (T : Tab) (e : Fin) (mem' : List (Nat × MC)) (c : List PanicEntry) (σ : St) : Prop :=
  ∃ τ, Imp T σ τ ∧ ∃ v l, e = .pan v ∧ c = [{ v := v, recovered := false }] ∧ keysOK l ∧ leMs mem' (view l τ.mem)
def finishK (T : Tab) (rs : List ResultVar) (e : Fin) (mem' : List (Nat × MC)) : Exit → St → Prop
  | .normal, σ => finish T rs e mem' σ
  | .ret, σ => finish T rs e mem' σ
  | .panic c, σ => finishP T e mem' c σ
  | _, _ => False
def start (n : Nat) (xs : List TV) (mem : List (Nat × MC)) : St := { tmps := xs ++ List.replicate (n - xs.length) (.tup []), mem := mem }

section
variable {P : Program} {T : Tab} {W0 : World} {M : Nat → Prop} {S0 S : Addr → Prop} {γ : Gh} {σ : St} {a : Act} {W : World}
theorem load_var {t : TypeId} {p : TV} {x : TV} {v : Value} (hT : TabOK P T) (hR : Rel T W0 M S0 S γ σ a W) (hp : TRel W S γ p v) (h : loadOp T σ t p = some x) :
    ∃ r, (do loadVar t (← asAddr v) : Sem Value).run P W = .ok r W ∧ TRel W S γ x r := by
  have h' : loadOp T ⟨[], σ.mem⟩ t p = some x := h
  obtain ⟨r, h1, h2⟩ := load_ok hT hR.core hp h'
  refine ⟨r, ?_, h2⟩
  have h3 := h1 W (Agr.self _ _ _)
  have hv : ∃ ad, v = .pointer (some ad) := by
    unfold loadOp at h
    split at h
    · cases h
    · split at h
      · obtain ⟨ad, vs, rfl, _⟩ := ref_cells hp; exact ⟨ad, rfl⟩
      · exact ⟨_, hp⟩
      · cases h
  obtain ⟨ad, rfl⟩ := hv
  simpa [Instr.loadAt, Instr.sureAddr, asAddr] using h3

def resSem (a : Act) : ResultVar → Sem Value
  | .tmp t => pure (a.tmps.getD t undef)
  | .cell b t => do loadVar t (← asAddr (a.tmps.getD b undef))
theorem results_eq (fn : Func) (a : Act) : results fn a.tmps = (do
    let vs ← fn.results.mapM (resSem a)
    pure (if h : vs.size = 1 then vs[0] else .tuple vs)) := by
  unfold results
  congr
theorem resT_ok (hT : TabOK P T) (hR : Rel T W0 M S0 S γ σ a W) {x : ResultVar} {y : TV} (h : resT T σ x = some y) :
    ∃ v, (resSem a x).run P W = .ok v W ∧ TRel W S γ y v := by
  cases x with
  | tmp t =>
    simp only [resT, Option.some.injEq] at h
    subst h
    exact ⟨_, rfl, hR.opg rfl (.tmp t)⟩
  | cell b t =>
    simp only [resT] at h
    exact load_var hT hR (hR.opg rfl (.tmp b)) h

theorem resUs_ok (hT : TabOK P T) (hR : Rel T W0 M S0 S γ σ a W) : ∀ {xs : List ResultVar} {ys : List UV}, resUs T σ xs = some ys →
    ∃ vs : List Value, (xs.mapM (resSem a)).run P W = .ok vs W ∧ ys.length = vs.length ∧ xs.length = vs.length ∧ ∀ (i : Nat) (y : UV) (v : Value), ys[i]? = some y → vs[i]? = some v → URel W S γ y v
  | [], ys, h => by
    simp only [resUs, Option.some.injEq] at h
    subst h
    exact ⟨[], by simp, rfl, rfl, fun i y v h => by simp at h⟩
  | x :: xs, ys, h => by
    unfold resUs at h
    split at h
    · rename_i y ys' hy hys
      injection h with h; subst h
      obtain ⟨v, h1, h2⟩ := resT_ok hT hR hy
      obtain ⟨vs, h3, h4, h5, h6⟩ := resUs_ok hT hR hys
      refine ⟨v :: vs, ?_, by simp [h4], by simp [h5], fun i z u hz hu => ?_⟩
      · rw [List.mapM_cons, Sem.run_bind, h1]
        simp only [Result.andThen_ok]
        rw [Sem.run_bind, h3]
        rfl
      · cases i with
        | zero => simp at hz hu; subst hz hu; exact h2
        | succ i => simp at hz hu; exact h6 i z u hz hu
    · cases h

theorem results_ok (hT : TabOK P T) (hR : Rel T W0 M S0 S γ σ a W) {fn : Func} {x : TV} (h : resV T σ fn.results.toList = some x) : ∃ v, (results fn a.tmps).run P W = .ok v W ∧ TRel W S γ x v := by
  rw [results_eq, Sem.run_bind]
  have key : ∀ ys, resUs T σ fn.results.toList = some ys → ∃ vs : List Value, (fn.results.mapM (resSem a)).run P W = .ok vs.toArray W ∧ ys.length = vs.length ∧ fn.results.toList.length = vs.length ∧ ∀ (i : Nat) (y : UV) (v : Value), ys[i]? = some y → vs[i]? = some v → URel W S γ y v := fun ys hys => by
    obtain ⟨vs, h1, h2, h3, h4⟩ := resUs_ok hT hR hys
    refine ⟨vs, ?_, h2, h3, h4⟩
    rw [Array.mapM_eq_mapM_toList, Sem.run_map, h1]
    rfl
  unfold resV at h
  split at h
  · rename_i y hy
    obtain ⟨v, h1, h2⟩ := resT_ok hT hR h
    refine ⟨v, ?_, h2⟩
    rw [Array.mapM_eq_mapM_toList, Sem.run_map, hy, List.mapM_cons, Sem.run_bind, h1]
    simp
  · rename_i hne
    split at h
    · rename_i ys hys
      injection h with h; subst h
      obtain ⟨vs, h1, h2, h3, h4⟩ := key ys hys
      refine ⟨.tuple vs.toArray, ?_, vs.toArray, rfl, by simpa using h2, fun i y v hy hv => h4 i y v hy (by simpa using hv)⟩
      rw [h1]
      have hn1 : vs.toArray.size ≠ 1 := fun h5 => by
        have h6 : fn.results.toList.length = 1 := by rw [h3]; simpa using h5
        obtain ⟨x, hx⟩ := List.length_eq_one_iff.1 h6
        exact hne x hx
      simp only [Result.andThen_ok, dif_neg hn1]
      rfl
    · cases h


theorem same_of {γ0 γ : Gh} {mem mem' now : List (Nat × MC)} {l : List (Nat × Nat)} (hids : mem.all (fun x => decide (1000000 ≤ x.1) && decide (x.1 < span)) = true) (hl : keysOK l) (hp : Pin (γ0, mem) γ now) (hm : leMs mem' (view l now)) :
    Same γ0 (γ.via (toOld l)) mem mem' := by
  obtain ⟨hk, ho, hn⟩ := hl
  have hno : ∀ x ∈ l, 1000000 ≤ x.1 → x.1 < span → x.1 = x.2 := fun x hx h1 h2 => by
    have := List.all_eq_true.1 hn x hx
    simp only [Bool.or_eq_true, decide_eq_true_eq, beq_iff_eq] at this
    omega
  have hpv := pin_view hk (fun x hx h1 h2 _ => hno x hx h1 h2) hp hno
  have hid : ∀ i, look mem i ≠ .no → 1000000 ≤ i ∧ i < span := fun i h => by
    have := List.all_eq_true.1 hids _ (look_mem h)
    simpa using this
  have hobj : ∀ i cs, look mem' i = .obj cs → ∃ cs', look (view l now) i = .obj cs' := fun i cs h => (by obtain ⟨ds, h1, _⟩ := leM_obj (leMs_look hm i) h; exact ⟨ds, h1⟩)
  have hreg : ∀ i p, look mem' i = .reg p → look (view l now) i = .reg p := fun i p h => leM_reg (leMs_look hm i) h
  have hmap : ∀ i ks cs, look mem' i = .map ks cs → ∃ cs', look (view l now) i = .map ks cs' := fun i ks cs h => (by obtain ⟨ds, h1, _⟩ := leM_map (leMs_look hm i) h; exact ⟨ds, h1⟩)
  refine ⟨fun i cs cs' h1 h2 => ?_, fun i p p' h1 h2 => ?_, fun i cs p' h1 h2 => ?_, fun i p cs' h1 h2 => ?_, fun i ks cs ks' cs' h1 h2 => ?_, fun i h => ?_⟩
  · obtain ⟨g1, g2⟩ := hid i (by rw [h1]; simp)
    obtain ⟨ds, h3⟩ := hobj i cs' h2
    exact (hpv.1 i ds g1 g2 h3).2
  · obtain ⟨g1, g2⟩ := hid i (by rw [h1]; simp)
    exact (hpv.2.1 i p' g1 g2 (hreg i p' h2)).2
  · obtain ⟨g1, g2⟩ := hid i (by rw [h1]; simp)
    obtain ⟨⟨p0, h3⟩, _⟩ := hpv.2.1 i p' g1 g2 (hreg i p' h2)
    simp only at h3
    rw [h1] at h3; cases h3
  · obtain ⟨g1, g2⟩ := hid i (by rw [h1]; simp)
    obtain ⟨ds, h4⟩ := hobj i cs' h2
    obtain ⟨⟨p0, h3⟩, _⟩ := hpv.1 i ds g1 g2 h4
    simp only at h3
    rw [h1] at h3; cases h3
  · obtain ⟨g1, g2⟩ := hid i (by rw [h1]; simp)
    obtain ⟨ds, h3⟩ := hmap i ks' cs' h2
    exact (hpv.2.2 i ks' ds g1 g2 h3).2
  · have hi : look mem i ≠ .no ∧ look mem' i ≠ .no := by
      rcases h with ⟨⟨_, _, h1⟩, h2⟩ | ⟨h1, ⟨_, _, h2⟩⟩
      · exact ⟨by rw [h1]; simp, h2⟩
      · exact ⟨h1, by rw [h2]; simp⟩
    obtain ⟨g1, g2⟩ := hid i hi.1
    cases hm' : look mem' i with
    | no => exact absurd hm' hi.2
    | obj cs =>
      exfalso
      obtain ⟨ds, h4⟩ := hobj i cs hm'
      obtain ⟨⟨p0, h3⟩, _⟩ := hpv.1 i ds g1 g2 h4
      simp only at h3
      rcases h with ⟨⟨_, _, h1⟩, _⟩ | ⟨_, ⟨_, _, h2⟩⟩
      · rw [h1] at h3; cases h3
      · rw [hm'] at h2; cases h2
    | reg p =>
      exfalso
      obtain ⟨⟨p0, h3⟩, _⟩ := hpv.2.1 i p g1 g2 (hreg i p hm')
      simp only at h3
      rcases h with ⟨⟨_, _, h1⟩, _⟩ | ⟨_, ⟨_, _, h2⟩⟩
      · rw [h1] at h3; cases h3
      · rw [hm'] at h2; cases h2
    | map ks cs =>
      obtain ⟨ds, h4⟩ := hmap i ks cs hm'
      obtain ⟨h5, _⟩ := hpv.2.2 i ks ds g1 g2 h4
      exact ⟨h5, ks, cs, rfl⟩

theorem meets_of_aw (hT : TabOK P T) (cuts : List Nat) {f : FuncId} (fn : Func) (n : Nat) (rs : List ResultVar) {c : Code} {xs : List TV} {mem : List (Nat × MC)} {e : Fin} {mem' : List (Nat × MC)} (hf : P.funcs[f]? = some fn) (hn : (fn.name == "runtime.NumGoroutine") = false) (hb : fn.body = some c) (hnt : fn.ntmps = n) (hrs : fn.results.toList = rs)
    (hids : mem.all (fun x => decide (1000000 ≤ x.1) && decide (x.1 < span)) = true) {K : Exit → St → Prop} (hK : ∀ ex σ, K ex σ → finishK T rs e mem' ex σ) (h : aw P T cuts c K (start n xs mem)) : Meets P T f xs mem e mem' := by
  subst hnt hrs
  refine ⟨⟨fn, c, hf, hn, hb⟩, fun W S γ vals hC hA => calls_of_wp hf hb ?_⟩
  have hR : Rel T W (blk γ mem) S S γ (start fn.ntmps xs mem) { tmps := vals ++ Array.replicate (fn.ntmps - vals.size) undef, defers := [] } W := by
    refine ⟨hC, rfl, by simp [start, hA.1], fun i x v hx hv => ?_⟩
    simp only [start] at hx ⊢
    by_cases hi : i < vals.size
    · rw [List.getElem?_append_left (by rw [hA.1]; exact hi)] at hx
      rw [Array.getElem?_append_left hi] at hv
      exact hA.2 i x v hx hv
    · rw [List.getElem?_append_right (by rw [hA.1]; omega)] at hx
      rw [Array.getElem?_append_right (by omega)] at hv
      obtain ⟨_, rfl⟩ := List.getElem?_eq_some_iff.1 hx
      obtain ⟨_, rfl⟩ := Array.getElem?_eq_some_iff.1 hv
      simp only [List.getElem_replicate, Array.getElem_replicate]
      exact undef_rel
  refine wp_mono (aw_ok hT c _ hR (Pin.start γ mem) h) fun ex a' W' hq => ?_
  have hfin : ∀ {S1 γ1 σ1}, Rel T W (blk γ mem) S S1 γ1 σ1 a' W' → Pin (γ, mem) γ1 σ1.mem → finish T fn.results.toList e mem' σ1 → a'.defers = [] ∧ ∃ v, (results fn a'.tmps).run P W' = .ok v W' ∧ ∃ S' γ', endOK W' S' γ' e (.returned v) ∧ Core T W (blk γ mem) S S' γ' mem' W' ∧ Same γ γ' mem mem' := fun {S1 γ1 σ1} h1 h2 h3 => by
    obtain ⟨τ, hI, x, r, l, hx, rfl, hl, hlr, hlm⟩ := h3
    obtain ⟨S2, γ2, g1, _, g3⟩ := hI _ _ _ _ _ _ _ h1
    obtain ⟨v, h4, h5⟩ := results_ok hT g1 hx
    have hcore := g1.core.re hl.1 hl.2.1
    exact ⟨h1.defers, v, h4, S2, γ2.via (toOld l), ⟨v, rfl, leT_rel hlr (h5.re (via_view hl.1 γ2))⟩, hcore.less (leMs_less hcore.mem.regs hlm), same_of hids hl (g3 _ h2) hlm⟩
  cases ex with
  | normal => obtain ⟨S', γ', σ', h1, h2, h3⟩ := hq; exact hfin h1 h2 (hK _ _ h3)
  | ret => obtain ⟨S', γ', σ', h1, h2, h3⟩ := hq; exact hfin h1 h2 (hK _ _ h3)
  | exit i => obtain ⟨S', γ', σ', h1, h2, h3⟩ := hq; exact (hK _ _ h3).elim
  | goto i => exact hq.elim
  | outgrown => exact hq.elim
  | panic ch =>
    obtain ⟨hd, S', γ', m1, h1, h2, h3⟩ := hq
    obtain ⟨τ, hI, v, l, rfl, rfl, hl, hlm⟩ := hK _ _ h3
    obtain ⟨S2, γ2, g1, _, g3⟩ := hI W (blk γ mem) S S' γ' { tmps := #[], defers := [] } W' ⟨h1, rfl, rfl, fun i x v hx => by simp at hx⟩
    have hcore := g1.core.re hl.1 hl.2.1
    exact ⟨hd, S2, γ2.via (toOld l), rfl, hcore.less (leMs_less hcore.mem.regs hlm), same_of hids hl (g3 _ h2) hlm⟩

/-! ### Lending -/
def CV.isFlat : CV → Bool
  | .c (.v _) => true
  | _ => false
def UV.isFlat : UV → Bool
  | .one c => c.isFlat
  | .agg cs => cs.all CV.isFlat
def TV.isFlat : TV → Bool
  | .u x => x.isFlat
  | .tup xs => xs.all UV.isFlat
  | _ => false
theorem CRel.flat {W W' : World} {S S' : Addr → Prop} {γ γ' : Gh} {c : CV} {v : Value} (hf : c.isFlat = true) (h : CRel W S γ c v) : CRel W' S' γ' c v := by
  unfold CV.isFlat at hf
  split at hf
  · rename_i x
    have h' : PRel W S (.v x) v := h
    have h1 := h'.one
    cases h'
    exact PRel.v _ h1
  · cases hf
theorem URel.flat {W W' : World} {S S' : Addr → Prop} {γ γ' : Gh} {x : UV} {v : Value} (hf : x.isFlat = true) (h : URel W S γ x v) : URel W' S' γ' x v := by
  cases x with
  | one c => exact CRel.flat (W := W) (S := S) (γ := γ) hf h
  | agg cs =>
    obtain ⟨vs, rfl, h1, h2⟩ := h
    exact ⟨vs, rfl, h1, fun i c v hc hv => CRel.flat (List.all_eq_true.1 hf c (List.mem_of_getElem? hc)) (h2 i c v hc hv)⟩
theorem TRel.isFlat {W W' : World} {S S' : Addr → Prop} {γ γ' : Gh} {x : TV} {v : Value} (hf : x.isFlat = true) (h : TRel W S γ x v) : TRel W' S' γ' x v := by
  cases x with
  | u x => exact URel.flat (W := W) (S := S) (γ := γ) hf h
  | tup xs =>
    obtain ⟨vs, rfl, h1, h2⟩ := h
    exact ⟨vs, rfl, h1, fun i c v hc hv => URel.flat (List.all_eq_true.1 hf c (List.mem_of_getElem? hc)) (h2 i c v hc hv)⟩
  | bot => cases hf
  | w g x => cases hf
/-- What a call is lent while it computes a flat value is the caller's own again. -/
theorem Meets.lend {f : FuncId} {xs xs' : List TV} {mem : List (Nat × MC)} {r : TV} (hM : Meets P T f xs [] (.ret r) []) (hr : r.isFlat = true) (hI : Imp T ⟨xs', mem⟩ ⟨xs, []⟩) : Meets P T f xs' mem (.ret r) mem := by
  refine ⟨hM.1, fun W S γ vals hC hA => ?_⟩
  obtain ⟨S1, γ1, g1, g2, _⟩ := hI W (blk γ mem) S S γ { tmps := vals, defers := [] } W ⟨hC, rfl, hA.1, hA.2⟩
  refine Calls.mono (hM.2 W S1 γ1 vals (g1.core.start g1.core.mem) ⟨g1.len, g1.tmps⟩) (fun en W' he => ?_)
  obtain ⟨S2, γ2, ⟨v, rfl, h1⟩, h2, _⟩ := he
  have hw : ∀ x, S x → W'.heap[x.block]? = W.heap[x.block]? := fun x hx => h2.s0c x (g2 x hx)
  have h3 : Core T W (blk γ1 []) S S γ1 [] W' := ⟨h2.os, h2.tape, h2.output, h2.size, h2.frame, fun _ h => h, hw, fun x hx => h2.sfit x (h2.s0 x (g2 x hx)), fun g cs hg => PRel.mono hw (fun _ h => h) (hC.glob g cs hg), fun _ h => .inl h,
    ⟨fun o cs h => by simp [look] at h, fun o ks cs h => by simp [look] at h, fun o off π k es h => by simp [Ew.at_, look, cellAt] at h, fun o p h => by simp [look] at h, fun n b h => absurd h owns_nil, fun n n' b h => absurd h owns_nil⟩⟩
  exact ⟨S, γ, ⟨v, rfl, TRel.isFlat hr h1⟩, hC.pure h3, fun _ _ _ _ _ => rfl, fun _ _ _ _ _ => rfl, fun i cs p h h' => (by rw [h] at h'; cases h'), fun i p cs h h' => (by rw [h] at h'; cases h'), fun _ _ _ _ _ _ _ => rfl, fun i h => (by
    rcases h with ⟨h, _⟩ | ⟨_, h⟩
    · exact ⟨h, h⟩
    · exact ⟨h, h⟩)⟩
end

def tiOf (P : Program) (t : TypeId) : Option TI :=
  match P.info? t with
  | none => none
  | some info => match info.zero, pureIn P (isAgg t) with
    | some z, some b => if info.size = z.cells.size ∧ (z.cells.toList.all (·.oneCell')) = true ∧ 0 < info.size ∧ (b = false → info.size = 1) then some ⟨z.cells.toList, info.bytes, b⟩ else none
    | _, _ => none
def stcOf (P : Program) (t : TypeId) : Option (List (Nat × TypeId)) :=
  match P.underlying t with
  | some (.struct fields) => if fields.toList.all (fun f => (tiOf P f.type).isSome) then some (fields.toList.map fun f => (f.offset, f.type)) else none
  | _ => none
def arrOf (P : Program) (t : TypeId) : Option (Nat × TypeId) :=
  match P.underlying t with
  | some (.array n e) => if (tiOf P e).isSome then some (n, e) else none
  | _ => none
def elemOf (P : Program) (t : TypeId) : Option TypeId :=
  match P.underlying t with
  | some (.slice e) => some e
  | _ => none
def mapOfT (P : Program) (t : TypeId) : Option (Option IntKind × Value) :=
  match P.underlying t with
  | some (.map kt e) => match P.underlying kt, P.info? e with
    | some .string, some info => match info.zero with
      | some z => if z.oneCell' = true then some (none, z) else none
      | none => none
    | some (.int k), some info => match info.zero with
      | some z => if z.oneCell' = true then some (some k, z) else none
      | none => none
    | _, _ => none
  | _ => none
def tabOf (P : Program) (G : Nat → Option (List PV)) : Tab := { ti := tiOf P, stc := stcOf P, arr := arrOf P, elem := elemOf P, glob := G, mapT := mapOfT P }

theorem tabOf_ok (P : Program) (G : Nat → Option (List PV)) : TabOK P (tabOf P G) := by
  refine ⟨fun t i h => ?_, fun t l h => ?_, fun t n e h => ?_, fun t e h => ?_, fun t kd z h => ?_⟩
  · simp only [tabOf, tiOf] at h
    split at h
    · cases h
    · rename_i info hi
      split at h
      · rename_i z b hz hb
        split at h
        · rename_i hc
          injection h with h; subst h
          obtain ⟨h1, h2, h3, h4⟩ := hc
          refine ⟨info, z, hi, by simpa using h1, rfl, hz, rfl, fun u hu => List.all_eq_true.1 h2 u hu, by simp; omega, fun w => pureIn_run hb w, fun hA => by have := h4 hA; simp; omega⟩
        · cases h
      · cases h
  · simp only [tabOf, stcOf] at h
    split at h
    · rename_i fields hu
      split at h
      · rename_i hc
        injection h with h; subst h
        refine ⟨fields, hu, rfl, fun p hp => ?_⟩
        obtain ⟨f, hf, rfl⟩ := List.mem_map.1 hp
        exact List.all_eq_true.1 hc f hf
      · cases h
    · cases h
  · simp only [tabOf, arrOf] at h
    split at h
    · rename_i n' e' hu
      split at h
      · rename_i hc
        simp only [Option.some.injEq, Prod.mk.injEq] at h
        obtain ⟨rfl, rfl⟩ := h
        exact ⟨hu, hc⟩
      · cases h
    · cases h
  · simp only [tabOf, elemOf] at h
    split at h
    · rename_i e' hu
      injection h with h; subst h
      exact hu
    · cases h
  · simp only [tabOf, mapOfT] at h
    split at h
    · rename_i kt e hu
      split at h
      · rename_i info hk hi
        split at h
        · rename_i z' hz
          split at h
          · rename_i h1
            simp only [Option.some.injEq, Prod.mk.injEq] at h
            obtain ⟨rfl, rfl⟩ := h
            exact ⟨kt, e, info, hu, hk, hi, hz, h1⟩
          · cases h
        · cases h
      · rename_i k info hk hi
        split at h
        · rename_i z' hz
          split at h
          · rename_i h1
            simp only [Option.some.injEq, Prod.mk.injEq] at h
            obtain ⟨rfl, rfl⟩ := h
            exact ⟨kt, e, info, hu, hk, hi, hz, h1⟩
          · cases h
        · cases h
      · cases h
    · cases h
end Go.Ew
end
section
/- The abstract machine step by step: what is still to be done is data, so that nothing is gone through before its time. -/
namespace Go.Ew

def finR (r : TV) (mem' : List (Nat × MC)) (mem : List (Nat × MC)) (l : List (Nat × Nat)) : Option TV → Prop
  | some x => leT r (x.re (toNew l)) ∧ leMs mem' (view l mem)
  | none => False
def idl (mem : List (Nat × MC)) : List (Nat × Nat) := mem.map fun x => (x.1, x.1)
/-- The end, where no ghost step is needed. -/
def finA (T : Tab) (rs : List ResultVar) (e : Fin) (mem' : List (Nat × MC)) (σ : St) : Prop :=
  match e with
  | .ret r => keysOK (idl mem') ∧ finR r mem' σ.mem (idl mem') (resV T σ rs)
  | .pan _ => False
def finB (T : Tab) (rs : List ResultVar) (e : Fin) (mem' : List (Nat × MC)) : Exit → St → Prop
  | .normal, σ => finA T rs e mem' σ
  | .ret, σ => finA T rs e mem' σ
  | .panic c, σ => finishP T e mem' c σ
  | _, _ => False
inductive Kont where
  /-- ghost: the end is a stop -/
  | fin (ghost : Bool) (rs : List ResultVar) (e : Fin) (mem' : List (Nat × MC))
  | code (y : Code) (k : Kont)
  | block (id : Nat) (k : Kont)
  | ops (rid : Nat) (ops : Array Oper) (l : List Nat) (k : Kont)
  | plan (rid : Nat) (ops : Array Oper) (p : Plan) (k : Kont)
  | round (I : Nat → St → Prop) (n : Nat) (k : Kont)

def kK (P : Program) (T : Tab) (cuts : List Nat) : Kont → Exit → St → Prop
  | .fin true rs e mem' => finishK T rs e mem'
  | .fin false rs e mem' => finB T rs e mem'
  | .code y k => seqK (cutK T (cuts.contains (headOf y)) (aw P T cuts y (kK P T cuts k))) (kK P T cuts k)
  | .block id k => blockK id (kK P T cuts k)
  | .ops rid ops l k => seqK (awOps P T rid ops l (kK P T cuts k)) (kK P T cuts k)
  | .plan rid ops p k => seqK (awPlan P T rid ops p (kK P T cuts k)) (kK P T cuts k)
  | .round I n k => seqK (fun σ' => ∃ m τ', m < n ∧ I m τ' ∧ Imp T σ' τ') (kK P T cuts k)
structure Nx (P : Program) (T : Tab) (cuts : List Nat) (k : Kont) (σ : St) : Prop where
  h : kK P T cuts k .normal σ
theorem Nx_def (P : Program) (T : Tab) (cuts : List Nat) (k : Kont) (σ : St) : Nx P T cuts k σ = (kK P T cuts k .normal σ) := propext ⟨fun x => x.h, fun x => ⟨x⟩⟩
structure Ex (P : Program) (T : Tab) (cuts : List Nat) (k : Kont) (e : Exit) (σ : St) : Prop where
  h : kK P T cuts k e σ
theorem Ex_def (P : Program) (T : Tab) (cuts : List Nat) (k : Kont) (e : Exit) (σ : St) : Ex P T cuts k e σ = (kK P T cuts k e σ) := propext ⟨fun x => x.h, fun x => ⟨x⟩⟩
structure Cd (P : Program) (T : Tab) (cuts : List Nat) (c : Code) (k : Kont) (σ : St) : Prop where
  h : aw P T cuts c (kK P T cuts k) σ
theorem Cd_def (P : Program) (T : Tab) (cuts : List Nat) (c : Code) (k : Kont) (σ : St) : Cd P T cuts c k σ = (aw P T cuts c (kK P T cuts k) σ) := propext ⟨fun x => x.h, fun x => ⟨x⟩⟩
/-- In front of a code: a cut or not. -/
structure Ct (P : Program) (T : Tab) (cuts : List Nat) (b : Bool) (y : Code) (k : Kont) (σ : St) : Prop where
  h : cutK T b (aw P T cuts y (kK P T cuts k)) σ
theorem Ct_def (P : Program) (T : Tab) (cuts : List Nat) (b : Bool) (y : Code) (k : Kont) (σ : St) : Ct P T cuts b y k σ = (cutK T b (aw P T cuts y (kK P T cuts k)) σ) := propext ⟨fun x => x.h, fun x => ⟨x⟩⟩
structure Os (P : Program) (T : Tab) (cuts : List Nat) (rid : Nat) (ops : Array Oper) (l : List Nat) (k : Kont) (σ : St) : Prop where
  h : awOps P T rid ops l (kK P T cuts k) σ
theorem Os_def (P : Program) (T : Tab) (cuts : List Nat) (rid : Nat) (ops : Array Oper) (l : List Nat) (k : Kont) (σ : St) : Os P T cuts rid ops l k σ = (awOps P T rid ops l (kK P T cuts k) σ) := propext ⟨fun x => x.h, fun x => ⟨x⟩⟩
structure O1 (P : Program) (T : Tab) (cuts : List Nat) (C : Nat) (o : Oper) (k : Kont) (σ : St) : Prop where
  h : awOp P T C o (kK P T cuts k) σ
theorem O1_def (P : Program) (T : Tab) (cuts : List Nat) (C : Nat) (o : Oper) (k : Kont) (σ : St) : O1 P T cuts C o k σ = (awOp P T C o (kK P T cuts k) σ) := propext ⟨fun x => x.h, fun x => ⟨x⟩⟩
structure Pl (P : Program) (T : Tab) (cuts : List Nat) (rid : Nat) (ops : Array Oper) (p : Plan) (k : Kont) (σ : St) : Prop where
  h : awPlan P T rid ops p (kK P T cuts k) σ
theorem Pl_def (P : Program) (T : Tab) (cuts : List Nat) (rid : Nat) (ops : Array Oper) (p : Plan) (k : Kont) (σ : St) : Pl P T cuts rid ops p k σ = (awPlan P T rid ops p (kK P T cuts k) σ) := propext ⟨fun x => x.h, fun x => ⟨x⟩⟩
/-- An operation that was left out. -/
structure Sk (P : Program) (T : Tab) (cuts : List Nat) (d : Option Tmp) (k : Kont) (σ : St) : Prop where
  h : awSkip T d (kK P T cuts k) σ
theorem Sk_def (P : Program) (T : Tab) (cuts : List Nat) (d : Option Tmp) (k : Kont) (σ : St) : Sk P T cuts d k σ = (awSkip T d (kK P T cuts k) σ) := propext ⟨fun x => x.h, fun x => ⟨x⟩⟩
/-- Where a panic leads. -/
structure Pn (P : Program) (T : Tab) (cuts : List Nat) (k : Kont) (x : Value) (mem : List (Nat × MC)) : Prop where
  h : kK P T cuts k (.panic [{ v := x, recovered := false }]) { tmps := [], mem := mem }
theorem Pn_def (P : Program) (T : Tab) (cuts : List Nat) (k : Kont) (x : Value) (mem : List (Nat × MC)) : Pn P T cuts k x mem = (kK P T cuts k (.panic [{ v := x, recovered := false }]) { tmps := [], mem := mem }) := propext ⟨fun x => x.h, fun x => ⟨x⟩⟩
inductive Todo where
  | code (c : Code) (k : Kont)
  | op (C : Nat) (o : Oper) (k : Kont)
  | skip (d : Option Tmp) (k : Kont)
def Todo.run (P : Program) (T : Tab) (cuts : List Nat) (σ : St) : Todo → Prop
  | .code c k => Cd P T cuts c k σ
  | .op C o k => O1 P T cuts C o k σ
  | .skip d k => Sk P T cuts d k σ
/-- Two ways. -/
def Br (P : Program) (T : Tab) (cuts : List Nat) (g : Bool) (A B : Todo) (σ : St) : Prop := (g = true → A.run P T cuts σ) ∧ (g = false → B.run P T cuts σ)
/-- An operation under guards. -/
structure Gt (P : Program) (T : Tab) (cuts : List Nat) (C : Nat) (o : Oper) (gl : List Bool) (k : Kont) (σ : St) (q : Option TV) : Prop where
  h : awG P T C o gl (kK P T cuts k) σ q
theorem Gt_def (P : Program) (T : Tab) (cuts : List Nat) (C : Nat) (o : Oper) (gl : List Bool) (k : Kont) (σ : St) (q : Option TV) : Gt P T cuts C o gl k σ q = (awG P T C o gl (kK P T cuts k) σ q) := propext ⟨fun x => x.h, fun x => ⟨x⟩⟩
def gK (P : Program) (T : Tab) (cuts : List Nat) (C : Nat) (o : Oper) (k : Kont) (σ : St) : Option (List Bool) → Prop
  | some gl => Gt P T cuts C o gl k σ (quiet P T gl σ o)
  | none => False
structure qK (P : Program) (T : Tab) (cuts : List Nat) (o : Oper) (gl : List Bool) (k : Kont) (σ : St) (b : Bool) (x : Option TV) : Prop where
  h : awQ o gl (kK P T cuts k) σ b x
theorem qK_def (P : Program) (T : Tab) (cuts : List Nat) (o : Oper) (gl : List Bool) (k : Kont) (σ : St) (b : Bool) (x : Option TV) : qK P T cuts o gl k σ b x = (awQ o gl (kK P T cuts k) σ b x) := propext ⟨fun x => x.h, fun x => ⟨x⟩⟩
def cK (P : Program) (T : Tab) (cuts : List Nat) (o : Oper) (k : Kont) (σ : St) : Option (List Bool) → Prop
  | some gl => qK P T cuts o gl k σ (busy T gl σ o) (quiet P T gl σ o)
  | none => False
/-- Which roots a value has. -/
def Cap.roots : Cap → List Nat
  | .p _ => []
  | .r o => [o]
def CV.roots : CV → List Nat
  | .c _ => []
  | .ptr o _ _ => [o]
  | .view o _ _ => [o]
  | .pre o _ _ _ => [o]
  | .clo _ cap => cap.flatMap Cap.roots
  | .mp o => [o]
def TV.roots : TV → List Nat
  | .u (.one c) => c.roots
  | .u (.agg cs) => cs.flatMap CV.roots
  | _ => []
def MC.roots : MC → List Nat
  | .obj cs => cs.flatMap CV.roots
  | .map _ cs => cs.flatMap CV.roots
  | _ => []
def MC.live : MC → Bool
  | .no => false
  | _ => true
def addAll (mem : List (Nat × MC)) : List Nat → List Nat → List Nat
  | seen, [] => seen
  | seen, o :: r => addAll mem (if (!(look mem o).live || seen.contains o) = true then seen else seen ++ [o]) r
def deeper (mem : List (Nat × MC)) (rs : List Nat) : List Nat := addAll mem rs (rs.flatMap fun o => (look mem o).roots)
def number : Nat → List Nat → List (Nat × Nat)
  | _, [] => []
  | n, o :: r => (n, o) :: number (n + 1) r
/-- What a call is handed: what its arguments lead to. -/
def pairsOf (mem : List (Nat × MC)) (xs : List TV) : List (Nat × Nat) := number 1000000 (deeper mem (deeper mem (addAll mem [] (xs.flatMap TV.roots))))
abbrev Shown := Option (FuncId × List TV × List (Nat × MC) × List (Nat × Nat))
def shownBy (mem : List (Nat × MC)) (g : FuncId) (xs : List TV) (l : List (Nat × Nat)) : Shown := some (g, xs.map (TV.re (toNew l)), view l mem, l)
def shownOf (T : Tab) (σ : St) (f : Operand) (args : List Operand) : Shown :=
  match calleeOf (opg T [] σ f) with
  | some (g, caps) => shownBy σ.mem g (args.map (opg T [] σ) ++ caps) (pairsOf σ.mem (args.map (opg T [] σ) ++ caps))
  | none => none
/-- A call. shown: the function, what it is given, the memory that it is handed, the numbers. -/
structure Call1 (P : Program) (T : Tab) (cuts : List Nat) (C : Nat) (f : Operand) (args : List Operand) (shown : Shown) (σ : St) (d : Option Tmp) (k : Kont) : Prop where
  h : shown = shownOf T σ f args → awCall P T C f args d (kK P T cuts k) σ
theorem Call1_def (P : Program) (T : Tab) (cuts : List Nat) (C : Nat) (f : Operand) (args : List Operand) (σ : St) (d : Option Tmp) (k : Kont) : Call1 P T cuts C f args (shownOf T σ f args) σ d k = (awCall P T C f args d (kK P T cuts k) σ) := propext ⟨fun x => x.h rfl, fun x => ⟨fun _ => x⟩⟩

section
variable {P : Program} {T : Tab} {cuts : List Nat} {σ τ : St} {k : Kont} {C : Nat} {o : Oper} {gl : List Bool} {d : Option Tmp}
theorem Cd_skip : Cd P T cuts .skip k σ = Nx P T cuts k σ := by simp only [Nx_def, Ex_def, Cd_def, Ct_def, Os_def, O1_def, Pl_def, Sk_def, Pn_def, Gt_def, qK_def, Call1_def]; rfl
theorem Cd_label (l : Nat) : Cd P T cuts (.label l) k σ = Nx P T cuts k σ := by simp only [Nx_def, Ex_def, Cd_def, Ct_def, Os_def, O1_def, Pl_def, Sk_def, Pn_def, Gt_def, qK_def, Call1_def]; rfl
theorem Cd_seq (x y : Code) : Cd P T cuts (.seq x y) k σ = Cd P T cuts x (.code y k) σ := by simp only [Nx_def, Ex_def, Cd_def, Ct_def, Os_def, O1_def, Pl_def, Sk_def, Pn_def, Gt_def, qK_def, Call1_def]; rfl
theorem Ct_false (y : Code) : Ct P T cuts false y k σ = Cd P T cuts y k σ := by simp only [Nx_def, Ex_def, Cd_def, Ct_def, Os_def, O1_def, Pl_def, Sk_def, Pn_def, Gt_def, qK_def, Call1_def]; rfl
theorem Br_true (A B : Todo) : Br P T cuts true A B σ = A.run P T cuts σ := by simp [Br]
theorem Br_false (A B : Todo) : Br P T cuts false A B σ = B.run P T cuts σ := by simp [Br]
theorem Br_not (g : Bool) (A B : Todo) : Br P T cuts (!g) A B σ = Br P T cuts g B A σ := by cases g <;> simp [Br]
theorem Br_notc (g : Bool) (c c' : Code) (k k' : Kont) : Br P T cuts (!g) (.code c k) (.code c' k') σ = Br P T cuts g (.code c' k') (.code c k) σ := Br_not g _ _
/-- Two ways, where one knows which. -/
def condK (P : Program) (T : Tab) (cuts : List Nat) (x : Option Bool) (A B : Todo) (σ : St) : Prop :=
  match x with
  | some b => Br P T cuts b A B σ
  | none => False
theorem condK_some (b : Bool) (A B : Todo) : condK P T cuts (some b) A B σ = Br P T cuts b A B σ := rfl
theorem Cd_cond (c : Operand) (x y : Code) : Cd P T cuts (.cond c x y) k σ = condK P T cuts (opg T [] σ c).bool (.code x k) (.code y k) σ := by
  simp only [Cd_def, aw]
  cases (opg T [] σ c).bool with
  | none => rfl
  | some b => simp only [condK, Br, Todo.run, Cd_def]; rfl
theorem Cd_block (id : Nat) (c : Code) : Cd P T cuts (.block id c) k σ = Cd P T cuts c (.block id k) σ := by simp only [Nx_def, Ex_def, Cd_def, Ct_def, Os_def, O1_def, Pl_def, Sk_def, Pn_def, Gt_def, qK_def, Call1_def]; rfl
theorem Cd_exit (id : Nat) : Cd P T cuts (.exit id) k σ = Ex P T cuts k (.exit id) σ := by simp only [Nx_def, Ex_def, Cd_def, Ct_def, Os_def, O1_def, Pl_def, Sk_def, Pn_def, Gt_def, qK_def, Call1_def]; rfl
theorem Cd_ret : Cd P T cuts .ret k σ = Ex P T cuts k .ret σ := by simp only [Nx_def, Ex_def, Cd_def, Ct_def, Os_def, O1_def, Pl_def, Sk_def, Pn_def, Gt_def, qK_def, Call1_def]; rfl
theorem Cd_region (id : Nat) (ops : Array Oper) : Cd P T cuts (.region id ops false) k σ = Os P T cuts id ops (List.range ops.size) k σ := by simp only [Nx_def, Ex_def, Cd_def, Ct_def, Os_def, O1_def, Pl_def, Sk_def, Pn_def, Gt_def, qK_def, Call1_def]; rfl
theorem Nx_code (y : Code) : Nx P T cuts (.code y k) σ = Ct P T cuts (cuts.contains (headOf y)) y k σ := by simp only [Nx_def, Ex_def, Cd_def, Ct_def, Os_def, O1_def, Pl_def, Sk_def, Pn_def, Gt_def, qK_def, Call1_def]; rfl
theorem Nx_block (id : Nat) : Nx P T cuts (.block id k) σ = Nx P T cuts k σ := by simp only [Nx_def, Ex_def, Cd_def, Ct_def, Os_def, O1_def, Pl_def, Sk_def, Pn_def, Gt_def, qK_def, Call1_def]; rfl
theorem Nx_ops (rid : Nat) (ops : Array Oper) (l : List Nat) : Nx P T cuts (.ops rid ops l k) σ = Os P T cuts rid ops l k σ := by simp only [Nx_def, Ex_def, Cd_def, Ct_def, Os_def, O1_def, Pl_def, Sk_def, Pn_def, Gt_def, qK_def, Call1_def]; rfl
theorem Nx_plan (rid : Nat) (ops : Array Oper) (p : Plan) : Nx P T cuts (.plan rid ops p k) σ = Pl P T cuts rid ops p k σ := by simp only [Nx_def, Ex_def, Cd_def, Ct_def, Os_def, O1_def, Pl_def, Sk_def, Pn_def, Gt_def, qK_def, Call1_def]; rfl
theorem Nx_fin (rs : List ResultVar) (e : Fin) (mem' : List (Nat × MC)) : Nx P T cuts (.fin true rs e mem') σ = finish T rs e mem' σ := by simp only [Nx_def, Ex_def, Cd_def, Ct_def, Os_def, O1_def, Pl_def, Sk_def, Pn_def, Gt_def, qK_def, Call1_def]; rfl
theorem Nx_fin' (rs : List ResultVar) (e : Fin) (mem' : List (Nat × MC)) : Nx P T cuts (.fin false rs e mem') σ = finA T rs e mem' σ := by simp only [Nx_def, Ex_def, Cd_def, Ct_def, Os_def, O1_def, Pl_def, Sk_def, Pn_def, Gt_def, qK_def, Call1_def]; rfl
theorem Nx_round (I : Nat → St → Prop) (n : Nat) : Nx P T cuts (.round I n k) σ = ∃ m τ', m < n ∧ I m τ' ∧ Imp T σ τ' := by simp only [Nx_def, Ex_def, Cd_def, Ct_def, Os_def, O1_def, Pl_def, Sk_def, Pn_def, Gt_def, qK_def, Call1_def]; rfl
theorem Ex_code_exit (y : Code) (i : Nat) : Ex P T cuts (.code y k) (.exit i) σ = Ex P T cuts k (.exit i) σ := by simp only [Nx_def, Ex_def, Cd_def, Ct_def, Os_def, O1_def, Pl_def, Sk_def, Pn_def, Gt_def, qK_def, Call1_def]; rfl
theorem Ex_code_ret (y : Code) : Ex P T cuts (.code y k) .ret σ = Ex P T cuts k .ret σ := by simp only [Nx_def, Ex_def, Cd_def, Ct_def, Os_def, O1_def, Pl_def, Sk_def, Pn_def, Gt_def, qK_def, Call1_def]; rfl
theorem Ex_block_exit (id i : Nat) : Ex P T cuts (.block id k) (.exit i) σ = if i = id then Nx P T cuts k σ else Ex P T cuts k (.exit i) σ := by simp only [Nx_def, Ex_def, Cd_def, Ct_def, Os_def, O1_def, Pl_def, Sk_def, Pn_def, Gt_def, qK_def, Call1_def]; rfl
theorem Ex_block_ret (id : Nat) : Ex P T cuts (.block id k) .ret σ = Ex P T cuts k .ret σ := by simp only [Nx_def, Ex_def, Cd_def, Ct_def, Os_def, O1_def, Pl_def, Sk_def, Pn_def, Gt_def, qK_def, Call1_def]; rfl
theorem Ex_round_exit (I : Nat → St → Prop) (n i : Nat) : Ex P T cuts (.round I n k) (.exit i) σ = Ex P T cuts k (.exit i) σ := by simp only [Nx_def, Ex_def, Cd_def, Ct_def, Os_def, O1_def, Pl_def, Sk_def, Pn_def, Gt_def, qK_def, Call1_def]; rfl
theorem Ex_round_ret (I : Nat → St → Prop) (n : Nat) : Ex P T cuts (.round I n k) .ret σ = Ex P T cuts k .ret σ := by simp only [Nx_def, Ex_def, Cd_def, Ct_def, Os_def, O1_def, Pl_def, Sk_def, Pn_def, Gt_def, qK_def, Call1_def]; rfl
theorem Ex_fin_ret (rs : List ResultVar) (e : Fin) (mem' : List (Nat × MC)) : Ex P T cuts (.fin true rs e mem') .ret σ = finish T rs e mem' σ := by simp only [Nx_def, Ex_def, Cd_def, Ct_def, Os_def, O1_def, Pl_def, Sk_def, Pn_def, Gt_def, qK_def, Call1_def]; rfl
theorem Ex_fin_ret' (rs : List ResultVar) (e : Fin) (mem' : List (Nat × MC)) : Ex P T cuts (.fin false rs e mem') .ret σ = finA T rs e mem' σ := by simp only [Nx_def, Ex_def, Cd_def, Ct_def, Os_def, O1_def, Pl_def, Sk_def, Pn_def, Gt_def, qK_def, Call1_def]; rfl
variable {x : Value} {mem : List (Nat × MC)}
theorem Pn_code (y : Code) : Pn P T cuts (.code y k) x mem = Pn P T cuts k x mem := by simp only [Nx_def, Ex_def, Cd_def, Ct_def, Os_def, O1_def, Pl_def, Sk_def, Pn_def, Gt_def, qK_def, Call1_def]; rfl
theorem Pn_block (id : Nat) : Pn P T cuts (.block id k) x mem = Pn P T cuts k x mem := by simp only [Nx_def, Ex_def, Cd_def, Ct_def, Os_def, O1_def, Pl_def, Sk_def, Pn_def, Gt_def, qK_def, Call1_def]; rfl
theorem Pn_ops (rid : Nat) (ops : Array Oper) (l : List Nat) : Pn P T cuts (.ops rid ops l k) x mem = Pn P T cuts k x mem := by simp only [Nx_def, Ex_def, Cd_def, Ct_def, Os_def, O1_def, Pl_def, Sk_def, Pn_def, Gt_def, qK_def, Call1_def]; rfl
theorem Pn_plan (rid : Nat) (ops : Array Oper) (p : Plan) : Pn P T cuts (.plan rid ops p k) x mem = Pn P T cuts k x mem := by simp only [Nx_def, Ex_def, Cd_def, Ct_def, Os_def, O1_def, Pl_def, Sk_def, Pn_def, Gt_def, qK_def, Call1_def]; rfl
theorem Pn_round (I : Nat → St → Prop) (n : Nat) : Pn P T cuts (.round I n k) x mem = Pn P T cuts k x mem := by simp only [Nx_def, Ex_def, Cd_def, Ct_def, Os_def, O1_def, Pl_def, Sk_def, Pn_def, Gt_def, qK_def, Call1_def]; rfl
theorem Pn_fin (g : Bool) (rs : List ResultVar) (e : Fin) (mem' : List (Nat × MC)) : Pn P T cuts (.fin g rs e mem') x mem = finishP T e mem' [{ v := x, recovered := false }] { tmps := [], mem := mem } := by rw [Pn_def]; cases g <;> rfl
theorem Os_nil (rid : Nat) (ops : Array Oper) : Os P T cuts rid ops [] k σ = Nx P T cuts k σ := by simp only [Nx_def, Ex_def, Cd_def, Ct_def, Os_def, O1_def, Pl_def, Sk_def, Pn_def, Gt_def, qK_def, Call1_def]; rfl
theorem Os_cons (rid : Nat) (ops : Array Oper) (i : Nat) (l : List Nat) : Os P T cuts rid ops (i :: l) k σ = match ops[i]? with
    | none => False
    | some o => gK P T cuts ((rid * 1000 + i + 1) * span) o (.ops rid ops l k) σ (wantedA σ ops o) := by
  simp only [Os_def, awOps]
  cases ops[i]? with
  | none => rfl
  | some o =>
    simp only
    cases wantedA σ ops o with
    | none => rfl
    | some gl => simp only [gK, Gt_def]; rfl
theorem gK_some : gK P T cuts C o k σ (some gl) = Gt P T cuts C o gl k σ (quiet P T gl σ o) := rfl
theorem Gt_some (x : TV) : Gt P T cuts C o gl k σ (some x) = Nx P T cuts k (σ.putG gl o.dst x) := by simp only [Nx_def, Ex_def, Cd_def, Ct_def, Os_def, O1_def, Pl_def, Sk_def, Pn_def, Gt_def, qK_def, Call1_def]; rfl
theorem Gt_nil : Gt P T cuts C o [] k σ none = O1 P T cuts C o k σ := by simp only [Nx_def, Ex_def, Cd_def, Ct_def, Os_def, O1_def, Pl_def, Sk_def, Pn_def, Gt_def, qK_def, Call1_def]; rfl
theorem Gt_cons (b : Bool) (g : List Bool) : Gt P T cuts C o (b :: g) k σ none = Br P T cuts (allB (b :: g)) (.op C o k) (.skip o.dst k) σ := by
  simp only [Gt_def, Br, Todo.run, O1_def, Sk_def]
  rfl
theorem run_code (c : Code) : (Todo.code c k).run P T cuts σ = Cd P T cuts c k σ := rfl
theorem run_op : (Todo.op C o k).run P T cuts σ = O1 P T cuts C o k σ := rfl
theorem run_skip : (Todo.skip d k).run P T cuts σ = Sk P T cuts d k σ := rfl
/-- The state behind an operation of no call, if there is one. -/
def actK (P : Program) (T : Tab) (cuts : List Nat) (k : Kont) : Option St → Prop
  | some σ' => Nx P T cuts k σ'
  | none => False
theorem actK_some (σ' : St) : actK P T cuts k (some σ') = Nx P T cuts k σ' := rfl
def panOf (P : Program) (T : Tab) (cuts : List Nat) (k : Kont) (mem : List (Nat × MC)) : Option Value → Prop
  | some v => Pn P T cuts k v mem
  | none => False
theorem panOf_some (v : Value) : panOf P T cuts k mem (some v) = Pn P T cuts k v mem := rfl
theorem O1_eq : O1 P T cuts C o k σ = match asCall o.op with
    | some (f, args) => Call1 P T cuts C f args.toList (shownOf T σ f args.toList) σ o.dst k
    | none => match asPan o.op with
      | some x => panOf P T cuts k σ.mem (panArg (opg T [] σ x))
      | none => actK P T cuts k (act P T σ o) := by
  simp only [O1_def, awOp]
  cases asCall o.op with
  | some x => simp only [Call1_def]
  | none =>
    simp only
    cases asPan o.op with
    | some x =>
      simp only
      cases panArg (opg T [] σ x) with
      | none => rfl
      | some v => simp only [panOf, Pn_def]; rfl
    | none =>
      simp only
      cases act P T σ o with
      | none => rfl
      | some σ' => simp only [actK, Nx_def]
theorem Pl_done (rid : Nat) (ops : Array Oper) : Pl P T cuts rid ops .done k σ = Nx P T cuts k σ := by simp only [Nx_def, Ex_def, Cd_def, Ct_def, Os_def, O1_def, Pl_def, Sk_def, Pn_def, Gt_def, qK_def, Call1_def]; rfl
theorem Pl_stop (rid : Nat) (ops : Array Oper) : Pl P T cuts rid ops .stop k σ = True := by simp only [Nx_def, Ex_def, Cd_def, Ct_def, Os_def, O1_def, Pl_def, Sk_def, Pn_def, Gt_def, qK_def, Call1_def]; rfl
theorem Pl_first (rid : Nat) (ops : Array Oper) (i : Nat) (p : Plan) : Pl P T cuts rid ops (.first i p) k σ = match ops[i]? with
    | none => False
    | some o => cK P T cuts o (.plan rid ops p k) σ (wantedA σ ops o) := by
  simp only [Pl_def, awPlan, awCalm]
  cases ops[i]? with
  | none => rfl
  | some o =>
    simp only
    cases wantedA σ ops o with
    | none => rfl
    | some gl => simp only [cK, qK_def]; rfl
theorem cK_some : cK P T cuts o k σ (some gl) = qK P T cuts o gl k σ (busy T gl σ o) (quiet P T gl σ o) := rfl
theorem qK_some (x : TV) : qK P T cuts o gl k σ false (some x) = Nx P T cuts k (σ.putG gl o.dst x) := by simp only [Nx_def, Ex_def, Cd_def, Ct_def, Os_def, O1_def, Pl_def, Sk_def, Pn_def, Gt_def, qK_def, Call1_def]; rfl
theorem qK_none (b : Bool) : qK P T cuts o gl k σ b none = (allB gl = false ∧ Nx P T cuts k (σ.put o.dst (.tup []))) := by cases b <;> simp only [qK_def, Nx_def] <;> rfl
theorem qK_busy (x : TV) : qK P T cuts o gl k σ true (some x) = (allB gl = false ∧ Nx P T cuts k (σ.put o.dst (.tup []))) := by simp only [qK_def, Nx_def]; rfl
theorem Pl_alt (rid : Nat) (ops : Array Oper) (i : Nat) (p q : Plan) : Pl P T cuts rid ops (.alt i p q) k σ = ((match ops[i]? with
    | none => False
    | some o => gK P T cuts ((rid * 1000 + i + 1) * span) o (.plan rid ops p k) σ (wantedA σ ops o)) ∧ Pl P T cuts rid ops q k σ) := by
  simp only [Pl_def, awPlan, awOne]
  cases ops[i]? with
  | none => rfl
  | some o =>
    simp only
    cases wantedA σ ops o with
    | none => rfl
    | some gl => simp only [gK, Gt_def]; rfl
theorem Br_intro {g : Bool} {A B : Todo} (ht : g = true → A.run P T cuts σ) (hf : g = false → B.run P T cuts σ) : Br P T cuts g A B σ := ⟨ht, hf⟩
theorem Sk_go (h : Nx P T cuts k (σ.put d (.tup []))) : Sk P T cuts d k σ := ⟨⟨_, Imp.refl _ _, h.h⟩⟩
theorem Ct_go {y : Code} (hI : Imp T σ τ) (h : Cd P T cuts y k τ) : Ct P T cuts true y k σ := ⟨⟨τ, hI, h.h⟩⟩
/-- A ghost step in front of a call. -/
theorem Call_imp {f : Operand} {args : List Operand} {s : Shown} (hI : Imp T σ τ) (h : Call1 P T cuts C f args (shownOf T τ f args) τ d k) : Call1 P T cuts C f args s σ d k :=
  ⟨fun _ => by
    obtain ⟨υ, h1, h2⟩ := h.h rfl
    exact ⟨υ, hI.trans h1, h2⟩⟩
/-- Other numbers for what is handed over. -/
theorem Call_nums (l : List (Nat × Nat)) {f : Operand} {args : List Operand} {s s' : Shown} (hs : s' = s) (h : Call1 P T cuts C f args s' σ d k) : Call1 P T cuts C f args s σ d k := hs ▸ h
/-- The function that is called, and what it is given. -/
def callIs (T : Tab) (σ : St) (f : Operand) (args : List Operand) (re : TV → TV) (g : FuncId) (xs : List TV) : Option (FuncId × List TV) → Prop
  | some (h, caps) => h = g ∧ (args.map (opg T [] σ) ++ caps).map re = xs
  | none => False
theorem callIs_some {f : Operand} {args : List Operand} {re : TV → TV} {g : FuncId} {xs : List TV} {c : Option (FuncId × List TV)} (h : callIs T σ f args re g xs c) : ∃ caps, c = some (g, caps) ∧ (args.map (opg T [] σ) ++ caps).map re = xs := by
  unfold callIs at h
  split at h
  · obtain ⟨rfl, h⟩ := h; exact ⟨_, rfl, h⟩
  · exact h.elim
theorem shown_spec {f : Operand} {args : List Operand} {g : FuncId} {xs : List TV} {mem : List (Nat × MC)} {l : List (Nat × Nat)} (h : (some (g, xs, mem, l) : Shown) = shownOf T σ f args) :
    ∃ caps, calleeOf (opg T [] σ f) = some (g, caps) ∧ (args.map (opg T [] σ) ++ caps).map (TV.re (toNew l)) = xs ∧ view l σ.mem = mem := by
  unfold shownOf at h
  split at h
  · rename_i g' caps hc
    simp only [shownBy, Option.some.injEq, Prod.mk.injEq] at h
    obtain ⟨rfl, h1, h2, h3⟩ := h
    rw [← h3] at h1 h2
    exact ⟨caps, hc, h1.symm, h2.symm⟩
  · cases h
theorem toNew_nil : toNew [] = fun _ => none := rfl
/-- A call that is handed nothing of ours. -/
theorem Call_pure {f : Operand} {args : List Operand} {g : FuncId} {xs : List TV} {r : TV} (hM : Meets P T g xs [] (.ret r) []) (h : Nx P T cuts k (σ.put d (r.re fun _ => none))) : Call1 P T cuts C f args (some (g, xs, [], [])) σ d k :=
  ⟨fun hs => by
    obtain ⟨caps, h1, h2, _⟩ := shown_spec hs
    exact ⟨σ, Imp.refl _ _, g, caps, h1, .inr ⟨.ret r, by rw [← toNew_nil, h2]; exact hM, _, Imp.refl _ _, h.h⟩⟩⟩
theorem Call_pan {f : Operand} {args : List Operand} {g : FuncId} {xs : List TV} {v : Value} (hM : Meets P T g xs [] (.pan v) []) (h : Pn P T cuts k v σ.mem) : Call1 P T cuts C f args (some (g, xs, [], [])) σ d k :=
  ⟨fun hs => by
    obtain ⟨caps, h1, h2, _⟩ := shown_spec hs
    exact ⟨σ, Imp.refl _ _, g, caps, h1, .inr ⟨.pan v, by rw [← toNew_nil, h2]; exact hM, _, Imp.refl _ _, h.h⟩⟩⟩
/-- What is to be seen of the numbers. -/
def numsOK (C : Nat) (l : List (Nat × Nat)) (mem mem' : List (Nat × MC)) : Prop :=
  l ≠ [] ∧ (l.map (·.1)).Nodup ∧ (l.map (·.2)).Nodup ∧ (∀ y ∈ l, inRange C y.2 = false) ∧ (mem'.map (·.1)).Nodup ∧ (∀ y ∈ mem', y.1 < span) ∧ liveAll l mem
/-- A call that is handed the things of l. -/
theorem Call_own {l : List (Nat × Nat)} {f : Operand} {args : List Operand} {g : FuncId} {xs : List TV} {r : TV} {mem mem' : List (Nat × MC)} (hM : Meets P T g xs mem (.ret r) mem')
    (hn : numsOK C l σ.mem mem') (h : Nx P T cuts k (callSt C l σ mem' d r)) : Call1 P T cuts C f args (some (g, xs, mem, l)) σ d k :=
  ⟨fun hs => by
    obtain ⟨caps, h1, h2, hm⟩ := shown_spec hs
    exact ⟨σ, Imp.refl _ _, g, caps, h1, .inl ⟨l, .ret r, mem', hn.1, by rw [h2, hm]; exact hM, ⟨hn.2.1, hn.2.2.1, hn.2.2.2.1, hn.2.2.2.2.1, hn.2.2.2.2.2.1⟩, hn.2.2.2.2.2.2, _, Imp.refl _ _, h.h⟩⟩⟩
theorem Call_ownp {l : List (Nat × Nat)} {f : Operand} {args : List Operand} {g : FuncId} {xs : List TV} {v : Value} {mem mem' : List (Nat × MC)} (hM : Meets P T g xs mem (.pan v) mem')
    (hn : numsOK C l σ.mem mem') (h : Pn P T cuts k v (afterMem C l σ.mem mem')) : Call1 P T cuts C f args (some (g, xs, mem, l)) σ d k :=
  ⟨fun hs => by
    obtain ⟨caps, h1, h2, hm⟩ := shown_spec hs
    exact ⟨σ, Imp.refl _ _, g, caps, h1, .inl ⟨l, .pan v, mem', hn.1, by rw [h2, hm]; exact hM, ⟨hn.2.1, hn.2.2.1, hn.2.2.2.1, hn.2.2.2.2.1, hn.2.2.2.2.2.1⟩, hn.2.2.2.2.2.2, _, Imp.refl _ _, h.h⟩⟩⟩
/-- Another description of what was put. -/
theorem Imp.tmp {x y : TV} (h : ∀ (W : World) (S : Addr → Prop) (γ : Gh) (v : Value), TRel W S γ x v → TRel W S γ y v) : Imp T (σ.put d x) (σ.put d y) := fun W0 M S0 S γ a W hR => by
  cases d with
  | none => exact ⟨S, γ, hR, fun _ h => h, fun _ h => h⟩
  | some d =>
    refine ⟨S, γ, ⟨hR.core, hR.defers, by simpa [St.put] using hR.len, fun i z v hz hv => ?_⟩, fun _ h => h, fun _ h => h⟩
    rcases set_get hz with ⟨rfl, rfl⟩ | ⟨hid, hz'⟩
    · have hlt : i < σ.tmps.length := by
        have := (List.getElem?_eq_some_iff.1 hz).1
        simpa [St.put] using this
      exact h _ _ _ _ (hR.tmps i x v (by simp [St.put, hlt]) hv)
    · exact hR.tmps i z v (by simp only [St.put]; rw [List.getElem?_set_ne (Ne.symm hid)]; exact hz') hv
/-- A guarded call of a function that changes nothing: no two ways. -/
theorem Br_call {g : Bool} (y : UV) {f : Operand} {args : Array Operand} {h : FuncId} {xs : List TV} {r : TV} (ho : asCall o.op = some (f, args)) (hr : r.re (fun _ => none) = .u y)
    (hM : g = true → Meets P T h xs [] (.ret r) []) (hs : g = true → callIs T σ f args.toList (TV.re fun _ => none) h xs (calleeOf (opg T [] σ f)))
    (hk : Nx P T cuts k (σ.put o.dst (.w [g] y))) : Br P T cuts g (.op C o k) (.skip o.dst k) σ := by
  refine ⟨fun hg => ?_, fun hg => ?_⟩
  · rw [run_op, O1_eq, ho]
    obtain ⟨caps, h1, h2⟩ := callIs_some (hs hg)
    refine ⟨fun _ => ⟨σ, Imp.refl _ _, h, caps, h1, .inr ⟨.ret r, by rw [h2]; exact hM hg, _, ?_, hk.h⟩⟩⟩
    rw [hr]
    exact Imp.tmp (fun W S γ v hx => ⟨fun _ => hx, fun h => by rw [hg] at h; simp at h⟩)
  · refine ⟨⟨_, Imp.tmp (fun W S γ v hx => ?_), hk.h⟩⟩
    obtain ⟨vs, rfl, hl, _⟩ := hx
    have : vs = #[] := Array.eq_empty_of_size_eq_zero hl.symm
    subst this
    exact ⟨fun h => by rw [hg] at h; simp at h, fun _ => rfl⟩
/-- A guarded call of a function that changes nothing: no two ways; the guards one by one. -/
theorem Br_callg {g : Bool} (gl : List Bool) (hgl : g = allB gl) (y : UV) {f : Operand} {args : Array Operand} {h : FuncId} {xs : List TV} {r : TV} (ho : asCall o.op = some (f, args)) (hr : r.re (fun _ => none) = .u y)
    (hM : g = true → Meets P T h xs [] (.ret r) []) (hs : g = true → callIs T σ f args.toList (TV.re fun _ => none) h xs (calleeOf (opg T [] σ f)))
    (hk : Nx P T cuts k (σ.put o.dst (.w gl y))) : Br P T cuts g (.op C o k) (.skip o.dst k) σ := by
  refine ⟨fun hg => ?_, fun hg => ?_⟩
  · rw [run_op, O1_eq, ho]
    obtain ⟨caps, h1, h2⟩ := callIs_some (hs hg)
    refine ⟨fun _ => ⟨σ, Imp.refl _ _, h, caps, h1, .inr ⟨.ret r, by rw [h2]; exact hM hg, _, ?_, hk.h⟩⟩⟩
    rw [hr]
    exact Imp.tmp (fun W S γ v hx => ⟨fun _ => hx, fun h => (by rw [← allB_eq, ← hgl, hg] at h; cases h)⟩)
  · refine ⟨⟨_, Imp.tmp (fun W S γ v hx => ?_), hk.h⟩⟩
    obtain ⟨vs, rfl, hl, _⟩ := hx
    have : vs = #[] := Array.eq_empty_of_size_eq_zero hl.symm
    subst this
    exact ⟨fun h => (by rw [← allB_eq, ← hgl, hg] at h; cases h), fun _ => rfl⟩
/-- A loop: what holds before each round; the number falls. -/
theorem Cd_loop {c : Code} (I : Nat → St → Prop) (n : Nat) (τ : St) (h0 : I n τ) (hI : Imp T σ τ) (hr : ∀ n τ, I n τ → Cd P T cuts c (.round I n k) τ) : Cd P T cuts (.loop c) k σ :=
  ⟨⟨I, ⟨n, τ, h0, hI⟩, fun n τ h => (hr n τ h).h⟩⟩
theorem Cd_draw {id : Nat} {ops : Array Oper} (p : Plan) (hm : P.follows .mixedOrders = true) (hs : Region.noSelect ops = true) (hc : p.check ops ops.size (Array.replicate ops.size false) false = true) (h : Pl P T cuts id ops p k σ) : Cd P T cuts (.region id ops true) k σ := ⟨⟨hm, hs, p, hc, h.h⟩⟩
/-- The end of a round. -/
theorem round_intro {I : Nat → St → Prop} {n : Nat} (m : Nat) (τ : St) (hI : I m τ) (hm : m < n) (hle : Imp T σ τ) : Nx P T cuts (.round I n k) σ := ⟨⟨m, τ, hm, hI, hle⟩⟩
/-- A loop over states st x with ok x; the number falls. -/
def LoopI {α : Type} (st : α → St) (ok : α → Prop) (μ : α → Nat) (n : Nat) (τ : St) : Prop := ∃ x, ok x ∧ n = μ x ∧ τ = st x
theorem Cd_for {α : Type} {c : Code} (st : α → St) (ok : α → Prop) (μ : α → Nat) (x0 : α) (h0 : ok x0) (hle : Imp T σ (st x0)) (hr : ∀ x, ok x → Cd P T cuts c (.round (LoopI st ok μ) (μ x) k) (st x)) : Cd P T cuts (.loop c) k σ :=
  Cd_loop (LoopI st ok μ) (μ x0) (st x0) ⟨x0, h0, rfl, rfl⟩ hle (fun n τ ⟨x, h1, h2, h3⟩ => by subst h2 h3; exact hr x h1)
theorem Nx_for {α : Type} {st : α → St} {ok : α → Prop} {μ : α → Nat} {n : Nat} (x : α) (h : ok x) (hm : μ x < n) (hle : Imp T σ (st x)) : Nx P T cuts (.round (LoopI st ok μ) n k) σ := round_intro (μ x) (st x) ⟨x, h, rfl, rfl⟩ hm hle
/-- The end: these roots, under these numbers. -/
theorem finish_to (l : List (Nat × Nat)) {rs : List ResultVar} {r : TV} {mem' : List (Nat × MC)} (hl : keysOK l) (hr : finR r mem' σ.mem l (resV T σ rs)) : finish T rs (.ret r) mem' σ := by
  cases hx : resV T σ rs with
  | none => rw [hx] at hr; exact hr.elim
  | some x => rw [hx] at hr; exact ⟨σ, Imp.refl _ _, x, r, l, hx, rfl, hl, hr.1, hr.2⟩
theorem keysOK_nil : keysOK [] := ⟨by simp, by simp, by simp⟩
theorem finish_imp {rs : List ResultVar} {e : Fin} {mem' : List (Nat × MC)} (hI : Imp T σ τ) (h : finish T rs e mem' τ) : finish T rs e mem' σ := by
  obtain ⟨υ, h1, h2⟩ := h
  exact ⟨υ, hI.trans h1, h2⟩
theorem finishP_to (l : List (Nat × Nat)) {v : Value} {mem' : List (Nat × MC)} (hl : keysOK l) (hm : leMs mem' (view l σ.mem)) : finishP T (.pan v) mem' [{ v := v, recovered := false }] σ :=
  ⟨σ, Imp.refl _ _, v, l, rfl, rfl, hl, hm⟩
theorem meets_of (hT : TabOK P T) (cuts : List Nat) {f : FuncId} (fn : Func) (n : Nat) (rs : List ResultVar) {c : Code} {xs : List TV} {mem : List (Nat × MC)} {e : Fin} {mem' : List (Nat × MC)} (hf : P.funcs[f]? = some fn) (hn : (fn.name == "runtime.NumGoroutine") = false) (hb : fn.body = some c) (hnt : fn.ntmps = n) (hrs : fn.results.toList = rs)
    (hids : mem.all (fun x => decide (1000000 ≤ x.1) && decide (x.1 < span)) = true) (ghost : Bool) (h : Cd P T cuts c (.fin ghost rs e mem') (start n xs mem)) : Meets P T f xs mem e mem' := by
  refine meets_of_aw hT cuts fn n rs hf hn hb hnt hrs hids (fun ex σ hk => ?_) h.h
  cases ghost with
  | true => exact hk
  | false =>
    have key : ∀ {σ : St}, finA T rs e mem' σ → finish T rs e mem' σ := fun {σ} h => by
      cases e with
      | ret r => exact finish_to (idl mem') h.1 h.2
      | pan v => exact h.elim
    cases ex with
    | normal => exact key hk
    | ret => exact key hk
    | panic c => exact hk
    | _ => exact hk
end

theorem newPart_nil (C : Nat) (l : List (Nat × Nat)) : newPart C l [] = [] := rfl
theorem newPart_cons (C : Nat) (l : List (Nat × Nat)) (k : Nat) (m : MC) (r : List (Nat × MC)) : newPart C l ((k, m) :: r) = ((back C l k).getD 0, m.re (back C l)) :: newPart C l r := rfl
def oldGo (C : Nat) (l : List (Nat × Nat)) (mem mem' : List (Nat × MC)) : List (Nat × MC) → List (Nat × MC)
  | [] => []
  | (k, m) :: r => if stays C l k then (k, m.keep C l mem mem') :: oldGo C l mem mem' r else oldGo C l mem mem' r
theorem oldPart_eq (C : Nat) (l : List (Nat × Nat)) (mem mem' : List (Nat × MC)) : oldPart C l mem mem' = oldGo C l mem mem' mem := by
  simp only [oldPart]
  have key : ∀ m : List (Nat × MC), ((m.filter fun x => stays C l x.1).map fun x => (x.1, x.2.keep C l mem mem')) = oldGo C l mem mem' m := fun m => by
    induction m with
    | nil => rfl
    | cons x r ih =>
      simp only [List.filter_cons, oldGo]
      cases hs : stays C l x.1 <;> simp [ih]
  exact key mem
theorem map_re_c (f : Nat → Option Nat) (l : List PV) : List.map (CV.re f) (List.map CV.c l) = List.map CV.c l := by simp [Function.comp_def, CV.re]
theorem map_kill_c (κ : Kl) (l : List PV) : List.map (CV.kill κ) (List.map CV.c l) = List.map CV.c l := by simp [Function.comp_def, CV.kill]
theorem map_keep_c (C : Nat) (l : List (Nat × Nat)) (mem mem' : List (Nat × MC)) (ps : List PV) : List.map (CV.keep C l mem mem') (List.map CV.c ps) = List.map CV.c ps := by simp [Function.comp_def, CV.keep]
theorem map_frz_c (mem : List (Nat × MC)) (o : Nat) (ps : List PV) : List.map (CV.frz mem o) (List.map CV.c ps) = List.map CV.c ps := by simp [Function.comp_def, CV.frz]
theorem re_cc (f : Nat → Option Nat) : CV.re f ∘ CV.c = CV.c := by funext x; simp [CV.re]
theorem kill_cc (κ : Kl) : CV.kill κ ∘ CV.c = CV.c := by funext x; simp [CV.kill]
theorem keep_cc (C : Nat) (l : List (Nat × Nat)) (mem mem' : List (Nat × MC)) : CV.keep C l mem mem' ∘ CV.c = CV.c := by funext x; simp [CV.keep]
theorem frz_cc (mem : List (Nat × MC)) (o : Nat) : CV.frz mem o ∘ CV.c = CV.c := by funext x; simp [CV.frz]
theorem leCs_refl : ∀ l : List CV, leCs l l
  | [] => trivial
  | x :: xs => ⟨.inr rfl, leCs_refl xs⟩
theorem tabOf_ti (P : Program) (G : Nat → Option (List PV)) (t : TypeId) : (tabOf P G).ti t = tiOf P t := rfl
theorem tabOf_stc (P : Program) (G : Nat → Option (List PV)) (t : TypeId) : (tabOf P G).stc t = stcOf P t := rfl
theorem tabOf_arr (P : Program) (G : Nat → Option (List PV)) (t : TypeId) : (tabOf P G).arr t = arrOf P t := rfl
theorem tabOf_elem (P : Program) (G : Nat → Option (List PV)) (t : TypeId) : (tabOf P G).elem t = elemOf P t := rfl
theorem tabOf_mapT (P : Program) (G : Nat → Option (List PV)) (t : TypeId) : (tabOf P G).mapT t = mapOfT P t := rfl
theorem tabOf_glob (P : Program) (G : Nat → Option (List PV)) (g : Nat) : (tabOf P G).glob g = G g := rfl
theorem wrap64 {n m : Int} (h : n = m) (h' : -9223372036854775808 ≤ m ∧ m < 9223372036854775808) : IntKind.i64.wrap n = m := by
  subst h
  simp [IntKind.wrap, IntKind.bits, IntKind.signed]
  omega
end Go.Ew
end
section
/- Equations by which the abstract machine's steps are computed. -/
namespace Go.Ew

def allP : List PV → Bool
  | [] => true
  | p :: ps => p.nv && allP ps
def allNv : List CV → Bool
  | [] => true
  | c :: cs => c.nv && allNv cs
def allPs : List (List PV) → Bool
  | [] => true
  | r :: rs => allP r && allPs rs
theorem allP_eq : ∀ ps : List PV, allP ps = ps.all PV.nv
  | [] => rfl
  | p :: ps => by simp [allP, allP_eq ps]
theorem allNv_eq : ∀ ps : List CV, allNv ps = ps.all CV.nv
  | [] => rfl
  | p :: ps => by simp [allNv, allNv_eq ps]
theorem allPs_eq : ∀ ps : List (List PV), allPs ps = rowsNv ps
  | [] => rfl
  | p :: ps => by have := allPs_eq ps; simp only [allPs, rowsNv, List.all_cons, allP_eq] at this ⊢; rw [this]
theorem allNv_c (ps : List PV) : allNv (List.map CV.c ps) = allP ps := by
  induction ps with
  | nil => rfl
  | cons p ps ih => simp only [List.map_cons, allNv, allP, ih, CV.nv]
theorem allNv_append (a b : List CV) : allNv (a ++ b) = (allNv a && allNv b) := by simp [allNv_eq]
theorem allP_append (a b : List PV) : allP (a ++ b) = (allP a && allP b) := by simp [allP_eq]
theorem allPs_append (a b : List (List PV)) : allPs (a ++ b) = (allPs a && allPs b) := by
  induction a with
  | nil => rfl
  | cons r rs ih => simp only [List.cons_append, allPs, ih, Bool.and_assoc]
theorem allPs_map {α : Type} (f : α → List PV) (h : ∀ x, allP (f x) = true) (l : List α) : allPs (l.map f) = true := by
  induction l with
  | nil => rfl
  | cons x l ih => simp only [List.map_cons, allPs, h, ih, Bool.and_self]
def peekB (o off : Nat) (cs : List CV) : Bool → List CV
  | true => cs
  | false => peekG o off cs
theorem peekC_eq (o off : Nat) (cs : List CV) : peekC o off cs = peekB o off cs (allNv cs) := by
  unfold peekC
  rw [← allNv_eq]
  cases allNv cs <;> rfl
def peekPB (o off i k : Nat) (π : Path) (f : Nat) (ps : List PV) : Bool → List CV
  | true => ps.map .c
  | false => peekH o off i k π f ps
theorem peekP_eq (o off i k : Nat) (π : Path) (f : Nat) (ps : List PV) : peekP o off i k π f ps = peekPB o off i k π f ps (allP ps) := by
  unfold peekP
  rw [← allP_eq]
  cases allP ps <;> rfl
theorem rowsNv_eq (es : List (List PV)) : rowsNv es = allPs es := (allPs_eq es).symm
theorem strip_c (p : PV) : CV.strip (.c p) = .c p := rfl
theorem strip_cc : CV.strip ∘ CV.c = CV.c := by funext x; rfl
theorem map_strip_c (l : List PV) : List.map CV.strip (List.map CV.c l) = List.map CV.c l := by simp [Function.comp_def, strip_c]
theorem isView_c (p : PV) : CV.isView (.c p) = false := rfl
theorem any_view_c (l : List PV) : (List.map CV.c l).any CV.isView = false := by
  induction l with
  | nil => rfl
  | cons p l ih => simp only [List.map_cons, List.any_cons, isView_c, Bool.false_or, ih]
theorem any_view_cc (l : List PV) : l.any (CV.isView ∘ CV.c) = false := by
  induction l with
  | nil => rfl
  | cons p l ih => simp only [List.any_cons, Function.comp, isView_c, Bool.false_or]; exact ih
def stripL : List CV → Option (List PV)
  | [] => some []
  | c :: cs => match c.stripP, stripL cs with
    | some p, some ps => some (p :: ps)
    | _, _ => none
theorem mapM_strip_eq : ∀ cs : List CV, cs.mapM CV.stripP = stripL cs
  | [] => rfl
  | c :: cs => by
    rw [List.mapM_cons, mapM_strip_eq cs]
    simp only [stripL]
    cases c.stripP <;> cases stripL cs <;> rfl
theorem stripL_c : ∀ ps : List PV, stripL (List.map CV.c ps) = some ps
  | [] => rfl
  | p :: ps => by simp only [List.map_cons, stripL, CV.stripP, stripL_c ps]
theorem mapM_strip_cc (ps : List PV) : ps.mapM (CV.stripP ∘ CV.c) = some ps := by
  induction ps with
  | nil => rfl
  | cons p ps ih => rw [List.mapM_cons, ih]; rfl
theorem stripL_append (a b : List CV) : stripL (a ++ b) = match stripL a, stripL b with
    | some x, some y => some (x ++ y)
    | _, _ => none := by
  induction a with
  | nil => simp only [List.nil_append, stripL]; cases stripL b <;> rfl
  | cons c a ih =>
    simp only [List.cons_append, stripL, ih]
    cases c.stripP <;> cases stripL a <;> cases stripL b <;> rfl
theorem frzE_frz (es : List (List PV)) (h : allPs es = true) : frzE es = es := by
  induction es with
  | nil => rfl
  | cons r rs ih =>
    simp only [allPs, Bool.and_eq_true] at h
    have hr : ∀ ps : List PV, allP ps = true → frzR ps = ps := fun ps => by
      induction ps with
      | nil => intro _; rfl
      | cons p ps ih => intro h; simp only [allP, Bool.and_eq_true] at h; rw [frzR, frz_nv h.1, ih h.2]
    rw [frzE, hr r h.1, ih h.2]
theorem frzR_frz (ps : List PV) (h : allP ps = true) : frzR ps = ps := by
  have := frzE_frz [ps] (by simp [allPs, h])
  simpa [frzE] using this
theorem roots_c (l : List PV) : (List.map CV.c l).flatMap CV.roots = [] := by
  induction l with
  | nil => rfl
  | cons p l ih => simp only [List.map_cons, List.flatMap_cons, ih]; rfl
theorem roots_cc (l : List PV) : (l.flatMap fun x => CV.roots (CV.c x)) = [] := by
  induction l with
  | nil => rfl
  | cons p l ih => simp only [List.flatMap_cons, ih]; rfl
theorem roots_p (l : List PV) : (List.map TV.p l).flatMap TV.roots = [] := by
  induction l with
  | nil => rfl
  | cons p l ih => simp only [List.map_cons, List.flatMap_cons, ih]; rfl
theorem map_re_p (f : Nat → Option Nat) (l : List PV) : List.map (TV.re f ∘ TV.p) l = List.map TV.p l := rfl
theorem map_re_p' (f : Nat → Option Nat) (l : List PV) : List.map (TV.re f) (List.map TV.p l) = List.map TV.p l := by simp [Function.comp_def, TV.re, UV.re, CV.re]
theorem insK_some (x : Value) (ks : List Value) (i : Nat) : insK x ks (some i) = ks := rfl
theorem insK_none (x : Value) (ks : List Value) : insK x ks none = ks ++ [x] := rfl
theorem insC_some (c : CV) (cs : List CV) (i : Nat) : insC c cs (some i) = cs.set i c := rfl
theorem insC_none (c : CV) (cs : List CV) : insC c cs none = cs ++ [c] := rfl
theorem lookC_some (z : Value) (cs : List CV) (i : Nat) : lookC z cs (some i) = cs.getD i .bot := rfl
theorem lookC_none (z : Value) (cs : List CV) : lookC z cs none = .c (.v z) := rfl
theorem findK_nil (x : Value) : findK x [] = none := rfl
theorem findK_yes {x k : Value} {ks : List Value} (h : eqKey x k = true) : findK x (k :: ks) = some 0 := by simp [findK, h]
theorem findK_no {x k : Value} {ks : List Value} (h : eqKey x k = false) : findK x (k :: ks) = (findK x ks).map (· + 1) := by simp [findK, h]
theorem eqKey_lit (a b : Array UInt8) : eqKey (.string ⟨a⟩) (.string ⟨b⟩) = decide (a.toList = b.toList) := by simp [eqKey, ByteArray.toList_eq]
theorem eqKey_int (k k' : IntKind) (a b : Int) : eqKey (.int k a) (.int k' b) = decide (a = b) := rfl
theorem mapLen_eq {T : Tab} {σ : St} {t : TypeId} {x : TV} {kz : Option IntKind × Value} (h : T.mapT t = some kz) : mapLenOp T σ t x = match mapOf σ.mem x with
    | some (ks, _) => some (.val (.int .i64 (ks.length : Int)))
    | none => none := by
  unfold mapLenOp
  rw [h]
  cases mapOf σ.mem x <;> rfl
theorem keysOf_append (kd : Option IntKind) (a b : List Value) : keysOf kd (a ++ b) = (keysOf kd a && keysOf kd b) := by
  induction a with
  | nil => rfl
  | cons x a ih => simp [keysOf, ih, Bool.and_assoc]
theorem keysOf_str {α : Type} (f : α → ByteArray) (l : List α) : keysOf none (l.map fun x => .string (f x)) = true := by
  induction l with
  | nil => rfl
  | cons x l ih => simp [keysOf, keyOK, ih]
theorem flatOp_none {P : Program} {T : Tab} {gl : List Bool} {σ : St} {o : Oper} (h : flatArgs T gl σ o = false) : flatOp P T gl σ o = none := by
  unfold flatOp
  split <;> first | rfl | (rw [h]; rfl)
theorem eqAgg_l {P : Program} {op : BinOp} {t : TypeId} {y : TV} (xs : List UV) : eqAgg P op t (.tup xs) y = none := rfl
theorem eqAgg_b {P : Program} {op : BinOp} {t : TypeId} {y : TV} : eqAgg P op t .bot y = none := rfl
theorem eqAgg_1 {P : Program} {op : BinOp} {t : TypeId} {x : CV} {y : TV} : eqAgg P op t (.u (.one x)) y = none := rfl
end Go.Ew
end
