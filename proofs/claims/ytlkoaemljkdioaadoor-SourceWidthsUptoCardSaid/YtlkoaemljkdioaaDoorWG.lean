/- From what a row says of its arguments to what the contracts ask for, and back. -/
import Derived.Test.YtlkoaemljkdioaaDoorWF
import Derived.ChangeSame
import Derived.ReadAgain
import Derived.Deep.Modes
import Derived.Lib.LaidTab
section
/- From what a row says of its arguments to what the functions ask for. -/
open Go Go.Ew
namespace Go.Ew
/-- Everything that is there. -/
def SW (W : World) : Addr → Prop := fun a => a.block < W.heap.size
def PsRel (W : World) (ps : List PV) (cs : List Value) : Prop := ps.length = cs.length ∧ ∀ (i : Nat) (p : PV) (v : Value), ps[i]? = some p → cs[i]? = some v → PRel W (SW W) p v
/-- What a count of a datum must keep to. -/
structure Bulk {H : Type} (B : DataW H → Nat) : Prop where
  str : ∀ b, B (.lit (.string b)) = b.length + 1
  lit : ∀ l, 1 ≤ B (.lit l)
  nil : B .nil = 1
  slice : ∀ es sp, B (.slice es sp) = (es.map B).sum + (sp.map B).sum + 1
  agg : ∀ es, B (.agg es) = (es.map B).sum + 1
section
variable {H : Type} {en : TypeId × Value → H} {P : Program} {W : World} {spare : Nat → Bool} {held : Bool} {B : DataW H → Nat}
theorem PsRel.one {p : PV} {v : Value} (h : PRel W (SW W) p v) : PsRel W [p] [v] := by
  refine ⟨rfl, fun i q u h1 h2 => ?_⟩
  cases i with
  | zero => simp at h1 h2; subst h1; subst h2; exact h
  | succ i => simp at h1
theorem PsRel.append {a b : List PV} {c d : List Value} (h : PsRel W a c) (h' : PsRel W b d) : PsRel W (a ++ b) (c ++ d) := by
  refine ⟨by simp [h.1, h'.1], fun i p v h1 h2 => ?_⟩
  by_cases hi : i < a.length
  · rw [List.getElem?_append_left hi] at h1
    rw [List.getElem?_append_left (by rw [← h.1]; exact hi)] at h2
    exact h.2 i p v h1 h2
  · rw [List.getElem?_append_right (by omega)] at h1
    rw [List.getElem?_append_right (by rw [← h.1]; omega), ← h.1] at h2
    exact h'.2 _ p v h1 h2
/-- What a reading of this type stands for. -/
def Rd (en : TypeId × Value → H) (P : Program) (W : World) (spare : Nat → Bool) (held : Bool) (B : DataW H → Nat) (n : Nat) (t : TypeId) {α : Type} (enc : α → List PV) (cost : α → Nat) : Prop :=
  ∀ cs x, DataW.trod en P W 0 spare held n t cs = some x → ∃ a, PsRel W (enc a) cs ∧ cost a ≤ B x.1
theorem rd_int {n : Nat} {t : TypeId} {k : IntKind} (hB : Bulk B) (ht : P.underlying t = some (.int k)) : Rd en P W spare held B n t (fun i : Int => [.v (.int k i)]) (fun _ => 1) := by
  intro cs x h
  obtain ⟨i, rfl, rfl, _⟩ := DataW.trod_int ht h
  exact ⟨i, PsRel.one (.v _ rfl), hB.lit _⟩
theorem rd_str {n : Nat} {t : TypeId} (hB : Bulk B) (ht : P.underlying t = some .string) : Rd en P W spare held B n t (fun s : ByteArray => [.v (.string s)]) (fun s => s.size + 1) := by
  intro cs x h
  obtain ⟨s, rfl, rfl, _⟩ := DataW.trod_string ht h
  refine ⟨s, PsRel.one (.v _ rfl), ?_⟩
  rw [hB.str]
  simp
theorem rd_map {n : Nat} {t : TypeId} {α β : Type} {enc : α → List PV} {cost : α → Nat} (f : α → β) {enc' : β → List PV} {cost' : β → Nat} (h : Rd en P W spare held B n t enc cost) (he : ∀ a, enc' (f a) = enc a) (hc : ∀ a, cost' (f a) ≤ cost a) : Rd en P W spare held B n t enc' cost' := by
  intro cs x hx
  obtain ⟨a, h1, h2⟩ := h cs x hx
  exact ⟨f a, by rw [he]; exact h1, Nat.le_trans (hc a) h2⟩
theorem pick {α : Type} {p : Nat → α → Prop} : ∀ (n : Nat), (∀ i, i < n → ∃ a, p i a) → ∃ l : List α, l.length = n ∧ ∀ i a, l[i]? = some a → p i a
  | 0, _ => ⟨[], rfl, fun i a h => by simp at h⟩
  | n + 1, h => by
    obtain ⟨l, h1, h2⟩ := pick n (fun i hi => h i (by omega))
    obtain ⟨a, ha⟩ := h n (by omega)
    refine ⟨l ++ [a], by simp [h1], fun i b hb => ?_⟩
    by_cases hi : i < l.length
    · rw [List.getElem?_append_left hi] at hb
      exact h2 i b hb
    · rw [List.getElem?_append_right (by omega)] at hb
      have : i = n := by
        by_cases h0 : i - l.length = 0
        · omega
        · rw [List.getElem?_eq_none (by simp; omega)] at hb; cases hb
      subst this
      simp [h1] at hb
      subst hb
      exact ha
theorem sum_le {α β : Type} {f : α → Nat} {g : β → Nat} : ∀ {l : List α} {r : List β}, l.length = r.length → (∀ (i : Nat) (a : α) (b : β), l[i]? = some a → r[i]? = some b → f a ≤ g b) → (l.map f).sum ≤ (r.map g).sum
  | [], [], _, _ => by simp
  | a :: l, b :: r, h, hk => by
    have h0 := hk 0 a b rfl rfl
    have := sum_le (l := l) (r := r) (by simpa using h) (fun i x y hx hy => hk (i + 1) x y (by simpa using hx) (by simpa using hy))
    simp only [List.map_cons, List.sum_cons]
    omega
theorem rd_slice {n : Nat} {t e k : Nat} {α : Type} {enc : α → List PV} {cost : α → Nat} (hB : Bulk B) (ht : P.underlying t = some (.slice e)) (hk : P.cellsOf e = k) (h0 : 0 < k) (hl : ∀ a, (enc a).length = k)
    (h : ∀ m, m < n → Rd en P W spare held B m e enc cost) : Rd en P W spare held B n t (fun l : List α => [.sl k (l.map enc)]) (fun l => (l.map cost).sum + 1) := by
  intro cs x hx
  rcases DataW.trod_slice ht hx with ⟨rfl, rfl⟩ | ⟨ad, len, cap, elems, rest, m, hn, rfl, rfl, _, hlc, _, hlen, hel, _⟩
  · refine ⟨[], PsRel.one (.sl k [] none 0 (fun _ _ => undef) (Nat.le_refl _) (fun h => absurd rfl h) (fun e he => by cases he) ?_ ?_), by simp [hB.nil]⟩
    · intro _ _ _ _ _ h; cases h
    · intro i e j p h1; simp at h1
  · have hex : ∀ i, i < len → ∃ q : α × List Value, W.cells? 0 (ad.add (i * k)) k = some q.2 ∧ PsRel W (enc q.1) q.2 ∧ ∀ y, elems[i]? = some y → cost q.1 ≤ B y.1 := by
      intro i hi
      have he := hel i hi
      rw [hk] at he
      rw [List.getElem?_eq_getElem (show i < elems.length by omega)] at he
      obtain ⟨cs', hc, hd⟩ := Option.bind_eq_some_iff.1 he
      obtain ⟨a, h1, h2⟩ := h m (by omega) _ _ hd
      exact ⟨(a, cs'), hc, h1, fun y hy => by rw [List.getElem?_eq_getElem (show i < elems.length by omega)] at hy; cases hy; exact h2⟩
    obtain ⟨l, hll, hp⟩ := pick len hex
    refine ⟨l.map (·.1), PsRel.one ?_, ?_⟩
    · have hlen' : (((l.map (·.1)).map enc)).length = len := by simp [hll]
      have hgv : ∀ (i : Nat) (e : List PV) (j : Nat) (p : PV), ((l.map (·.1)).map enc)[i]? = some e → e[j]? = some p → ∃ v, W.cell? (ad.add (i * k + j)) = some v ∧ PRel W (SW W) p v := by
        intro i e j p he hj
        simp only [List.map_map, List.getElem?_map, Option.map_eq_some_iff] at he
        obtain ⟨q, hq, rfl⟩ := he
        obtain ⟨hc, hr, _⟩ := hp i q hq
        obtain ⟨_, hlq, hcell⟩ := World.cells?_some hc
        have hjk : j < k := by
          have := (List.getElem?_eq_some_iff.1 hj).1
          simp only [Function.comp_apply] at this
          rw [hl] at this; exact this
        have hv : q.2[j]? = some (q.2[j]'(by omega)) := List.getElem?_eq_getElem (by omega)
        refine ⟨q.2[j]'(by omega), ?_, hr.2 j p _ (by simpa using hj) hv⟩
        rw [← add_add, hcell j hjk, hv]
      rw [← hlen'] at hlc ⊢
      refine .sl k _ (some ad) cap (fun i j => (W.cell? (ad.add (i * k + j))).getD undef) hlc (fun _ => ⟨ad, rfl⟩) ?_ ?_ ?_
      · intro e he
        simp only [List.map_map, List.mem_map] at he
        obtain ⟨q, _, rfl⟩ := he
        exact hl _
      · intro ad' i e j p hA he hj
        cases hA
        obtain ⟨v, hv, _⟩ := hgv i e j p he hj
        refine ⟨?_, by rw [hv]; rfl⟩
        show _ < _
        cases hh : W.heap[(ad.add (i * k + j)).block]? with
        | some o => exact (Array.getElem?_eq_some_iff.1 hh).1
        | none => rw [World.cell?] at hv; simp [hh] at hv
      · intro i e j p he hj
        obtain ⟨v, hv, hr⟩ := hgv i e j p he hj
        simp only [hv, Option.getD_some]
        exact hr
    · rw [hB.slice]
      have : ((l.map (·.1)).map cost).sum ≤ ((elems.map (·.1)).map B).sum := by
        rw [List.map_map, List.map_map]
        refine sum_le (by omega) fun i q y hq hy => ?_
        exact (hp i q hq).2.2 y hy
      dsimp only
      omega
def RdFs (en : TypeId × Value → H) (P : Program) (W : World) (spare : Nat → Bool) (held : Bool) (B : DataW H → Nat) (n : Nat) (fs : List Field) (off tot : Nat) {α : Type} (enc : α → List PV) (cost : α → Nat) : Prop :=
  ∀ (cs : List Value) (xs : List (DataW H × List MemPlace)), cs.length = tot → xs.length = fs.length → (∀ (i : Nat) (f : Field), fs[i]? = some f → DataW.trod en P W 0 spare held n f.type ((cs.drop f.offset).take (P.cellsOf f.type)) = xs[i]?) →
    ∃ a, PsRel W (enc a) (cs.drop off) ∧ cost a ≤ ((xs.map (·.1)).map B).sum
theorem rdFs_nil {n tot : Nat} : RdFs en P W spare held B n [] tot tot (fun _ : Unit => []) (fun _ => 0) := by
  intro cs xs hc hx _
  exact ⟨(), ⟨by simp [hc], fun i p v h => by simp at h⟩, Nat.zero_le _⟩
theorem rdFs_cons {n off k tot : Nat} {f : Field} {fs : List Field} {α β : Type} {enc1 : α → List PV} {cost1 : α → Nat} {enc2 : β → List PV} {cost2 : β → Nat} (ho : f.offset = off) (hk : P.cellsOf f.type = k)
    (h1 : Rd en P W spare held B n f.type enc1 cost1) (h2 : RdFs en P W spare held B n fs (off + k) tot enc2 cost2) :
    RdFs en P W spare held B n (f :: fs) off tot (fun a : α × β => enc1 a.1 ++ enc2 a.2) (fun a => cost1 a.1 + cost2 a.2) := by
  intro cs xs hc hx hf
  cases xs with
  | nil => simp at hx
  | cons x xs =>
    have hd := hf 0 f rfl
    rw [ho, hk] at hd
    obtain ⟨a, ha, hca⟩ := h1 _ _ hd
    obtain ⟨b, hb, hcb⟩ := h2 cs xs hc (by simpa using hx) (fun i g hg => by simpa using hf (i + 1) g (by simpa using hg))
    refine ⟨(a, b), ?_, by simp only [List.map_cons, List.sum_cons]; omega⟩
    rw [← List.take_append_drop k (cs.drop off), List.drop_drop]
    exact ha.append hb
theorem rd_struct {n tot : Nat} {t : TypeId} {fs : Array Field} {α : Type} {enc : α → List PV} {cost : α → Nat} (hB : Bulk B) (ht : P.underlying t = some (.struct fs)) (hk : P.cellsOf t = tot)
    (h : ∀ m, m < n → RdFs en P W spare held B m fs.toList 0 tot enc cost) : Rd en P W spare held B n t enc (fun a => cost a + 1) := by
  intro cs x hx
  obtain ⟨xs, m, hn, rfl, hl, hlen, hf⟩ := DataW.trod_struct ht hx
  obtain ⟨a, h1, h2⟩ := h m (by omega) cs xs (by rw [hl, hk]) (by simpa using hlen) (fun i f hi => hf i f (by simpa using hi))
  refine ⟨a, by simpa using h1, ?_⟩
  rw [hB.agg]
  dsimp only
  omega
/-- A struct argument. -/
theorem rd_agg {ps : List PV} {cs : Array Value} {γ : Gh} (h : PsRel W ps cs.toList) : TRel W (SW W) γ (.u (.agg (ps.map CV.c))) (.agg cs) := by
  refine ⟨cs, rfl, by simpa using h.1, fun i c v hc hv => ?_⟩
  simp only [List.getElem?_map, Option.map_eq_some_iff] at hc
  obtain ⟨p, hp, rfl⟩ := hc
  exact h.2 i p v hp hv
end
end Go.Ew
namespace Go.Ew
section
variable {H : Type} {en : TypeId × Value → H} {P : Program} {W W' : World} {spare : Nat → Bool} {held : Bool}
theorem trodAll_carry : ∀ {ts : List TypeId} {vs : List Value} {ds : List (DataW H)} {ps : List MemPlace}, DataW.TrodAll en P W 0 spare held ts vs ds ps → (∀ p ∈ ps, W.sameAt W' p) → DataW.TrodAll en P W' 0 spare held ts vs ds ps
  | [], [], [], _, h, _ => h
  | [], [], _ :: _, _, h, _ => h.elim
  | [], _ :: _, _, _, h, _ => h.elim
  | _ :: _, [], _, _, h, _ => h.elim
  | _ :: _, _ :: _, [], _, h, _ => h.elim
  | _ :: _, _ :: _, _ :: _, _, ⟨p, q, ⟨n, h1⟩, h2, e⟩, hs => by
    subst e
    exact ⟨p, q, ⟨n, DataW.trod_carry n _ _ _ h1 (fun x hx => hs x (by simp [hx]))⟩, trodAll_carry h2 (fun x hx => hs x (by simp [hx])), rfl⟩
theorem sameAt_of (h : ∀ k, k < W.heap.size → W'.heap[k]? = W.heap[k]?) {p : MemPlace} (hp : p.block < W.heap.size) : W.sameAt W' p := by
  cases p with
  | cell b off =>
    show W'.cell? _ = W.cell? _
    have := h b hp
    simp only [World.cell?, this]
  | map b => exact h b hp
/-- A law that says true: what its row asks for behind the call. -/
theorem post_true {f : Func} {s : ChangeSpec} {apart fresh handsOn again : Bool} {args : Array Value} {ds gs : List (DataW H)} {before : List MemPlace} {Tp : TypeId → Prop} {b4 : TypeId}
    (hW : DataW.Whole en P f.params.toList s.vars apart W args.toList ds gs before) (hvs : s.vars = [])
    (hs : (s.fn H (ds ++ gs)).results = [.lit (.bool true)] ∧ (s.fn H (ds ++ gs)).args = ds ∧ (s.fn H (ds ++ gs)).vars = [])
    (hr : f.resultTypes = #[b4]) (h4 : P.underlying b4 = some .bool) (K : Kids P Tp) (hz : ∀ t e, Tp t → P.underlying t = some (.slice e) → 0 < P.cellsOf e) (hT : ∀ t ∈ f.params.toList, Tp t)
    (hos : W'.os = W.os) (hout : W'.output = W.output) (hfr : ∀ k, k < W.heap.size → W'.heap[k]? = W.heap[k]?) :
    s.post en P f apart fresh handsOn again W args (.bool true) W' := by
  have hlt := hW.lt
  have hW0 := hW
  obtain ⟨p, q, hA, hV, rfl, hfz, hnd⟩ := hW
  rw [hvs] at hV
  have hg : gs = [] ∧ q = [] := by
    cases gs with
    | nil => exact ⟨rfl, hV⟩
    | cons g gs => exact hV.elim
  obtain ⟨rfl, rfl⟩ := hg
  simp only [List.append_nil] at hlt hfz hnd hs hW0
  have hsame : ∀ x ∈ p, W.sameAt W' x := fun x hx => sameAt_of hfr (hlt x hx)
  have hargs : ∀ sp : Nat → Bool, (∀ x ∈ p, sp x.block = true) → DataW.TrodAll en P W' 0 sp true f.params.toList args.toList (s.fn H (ds ++ [])).args p := by
    intro sp hsp
    rw [List.append_nil, hs.2.1]
    exact DataW.TrodAll.respare K hz hT (trodAll_carry hA hsame) hsp
  have hres : ∀ (b : Nat) (sp : Nat → Bool) (hd : Bool), DataW.TrodAll en P W' b sp hd f.resultTypes.toList ((Value.bool true).resultList f.resultTypes.size) (s.fn H (ds ++ [])).results [] := by
    intro b sp hd
    rw [List.append_nil, hs.1, hr]
    exact ⟨[], [], ⟨1, by simp [DataW.trod, h4, Value.cells]⟩, rfl, rfl⟩
  have hvars : ∀ sp : Nat → Bool, DataW.TrodVars en P W' sp s.vars (s.fn H (ds ++ [])).vars [] := by
    intro sp
    rw [List.append_nil, hs.2.2, hvs]
    exact rfl
  have hfroz : ∀ (b off : Nat), b < W.heap.size → W'.frozen? ⟨b, off, none⟩ = W.frozen? ⟨b, off, none⟩ := by
    intro b off hb
    simp only [World.frozen?, hfr b hb]
  have hkept : ∀ may : MemPlace → Prop, W.keptBut W' may := by
    intro may
    refine ⟨hos, hout, fun i hi => ?_⟩
    rw [hfr i hi]
    cases hh : W.heap[i]? with
    | none => simp
    | some o =>
      cases o with
      | cells c t fr => simp
      | map es k => simp
      | _ => simp
  refine ⟨ds, [], p, [], p, [], by simpa using hW0, hres _ _ _, hargs _ (fun x hx => by simpa using hlt x hx), hvars _, hkept _, fun _ => ?_⟩
  refine ⟨?_, _, _, ([] ++ p) ++ [], ⟨[] ++ p, [], Go.ChangeShapes.trodAll_append (hargs _ (fun _ _ => rfl)) (hres _ _ _), hvars _, rfl, ?_, ?_⟩, ?_⟩
  · intro j t r h1 h2
    rw [hr] at h1 h2
    cases j with
    | zero =>
      simp [Value.resultList] at h1 h2
      subst h1; subst h2
      simp [Value.okWide, h4, Cell.okWide, Cell.ok]
    | succ j => simp at h1
  · intro b off hp
    simp only [List.nil_append, List.append_nil] at hp
    rw [hfroz b off (hlt _ hp)]
    exact hfz b off hp
  · intro ha
    simpa using hnd ha
  · intro x hx _
    simpa using hx
end
end Go.Ew
namespace Go.Ew
def ghost0 : Gh := ⟨fun _ => 0, fun _ _ _ => undef⟩
theorem core0 {T : Tab} {W : World} {γ : Gh} (hg : ∀ g cs, T.glob g = some cs → PRel W (SW W) (.ref cs) (.pointer (some ⟨g, 0, none⟩))) : Core T W (blk γ []) (SW W) (SW W) γ [] W := by
  refine ⟨rfl, rfl, rfl, Nat.le_refl _, fun _ _ _ => rfl, fun _ h => h, fun _ _ => rfl, fun _ h => h, hg, fun _ h => .inl h, ⟨?_, ?_, ?_, ?_, ?_, ?_⟩⟩
  · intro o cs h; simp [look] at h
  · intro o ks cs h; simp [look] at h
  · intro o off π k es h; simp [at_, look, cellAt] at h
  · intro o p h; simp [look] at h
  · intro n b h; exact absurd h owns_nil
  · intro n n' b h; exact absurd h owns_nil
/-- A function without memory of its own, called from outside. -/
theorem runs {P : Program} {T : Tab} {f : FuncId} {xs : List TV} {r : TV} {W : World} {args : Array Value} (hM : Meets P T f xs [] (.ret r) [])
    (hg : ∀ g cs, T.glob g = some cs → PRel W (SW W) (.ref cs) (.pointer (some ⟨g, 0, none⟩))) (ha : ArgsRel W (SW W) ghost0 xs args) :
    Calls P f args W fun e W' => ∃ v, e = .returned v ∧ (∃ S γ, TRel W' S γ r v) ∧ W'.os = W.os ∧ W'.output = W.output ∧ ∀ k, k < W.heap.size → W'.heap[k]? = W.heap[k]? := by
  refine (hM.2 W (SW W) ghost0 args (core0 hg) ha).mono fun e W' ⟨S, γ, he, hc, _⟩ => ?_
  obtain ⟨v, rfl, hv⟩ := he
  exact ⟨v, rfl, ⟨S, γ, hv⟩, hc.os, hc.output, fun k hk => hc.frame k hk (fun ⟨n, h⟩ => absurd h owns_nil)⟩
end Go.Ew
namespace Go.Ew
section
variable {H : Type} {en : TypeId × Value → H} {P : Program} {W : World} {spare : Nat → Bool} {held : Bool}
theorem bytes_inj {a b : ByteArray} (h : a.data.toList = b.data.toList) : a = b := by
  cases a; cases b; simp only [ByteArray.mk.injEq]; exact Array.toList_inj.1 h
/-- A slice of given texts. -/
theorem strs_of {n : Nat} {t e : TypeId} {cs : List Value} {ws : List ByteArray} {sp : List (DataW H)} {ps : List MemPlace} (ht : P.underlying t = some (.slice e)) (he : P.underlying e = some .string) (hk : P.cellsOf e = 1)
    (h : DataW.trod en P W 0 spare held n t cs = some (.slice (ws.map fun s => .lit (.string s.data.toList)) sp, ps)) : ∃ v, cs = [v] ∧ PRel W (SW W) (.sl 1 (ws.map fun s => [.v (.string s)])) v := by
  rcases DataW.trod_slice ht h with ⟨_, hx⟩ | ⟨ad, len, cap, elems, rest, m, hn, rfl, hx, _, hlc, _, hlen, hel, _⟩
  · simp at hx
  · simp only [Prod.mk.injEq, DataW.slice.injEq] at hx
    obtain ⟨⟨hws, _⟩, _⟩ := hx
    have hwl : ws.length = len := by have := congrArg List.length hws; simpa [hlen] using this
    have hcell : ∀ (i : Nat) (s : ByteArray), ws[i]? = some s → W.cell? (ad.add i) = some (.string s) := by
      intro i s hi
      have hil := (List.getElem?_eq_some_iff.1 hi).1
      have he' := hel i (by omega)
      rw [hk, Nat.mul_one, List.getElem?_eq_getElem (show i < elems.length by omega)] at he'
      obtain ⟨cs', hc, hd⟩ := Option.bind_eq_some_iff.1 he'
      obtain ⟨s', rfl, hy, _⟩ := DataW.trod_string he hd
      have hc0 := (World.cells?_some hc).2.2 0 (by omega)
      have h1 := congrArg (fun l => l[i]?) hws
      simp only [List.getElem?_map, hi, Option.map_some, List.getElem?_eq_getElem (show i < elems.length by omega), hy] at h1
      simp only [Option.some.injEq, DataW.lit.injEq, Lit.string.injEq] at h1
      have := bytes_inj h1
      subst this
      rw [add_add] at hc0
      simpa using hc0
    refine ⟨_, rfl, ?_⟩
    have hl' : (ws.map fun s => [PV.v (.string s)]).length = len := by simp [hwl]
    have hg : ∀ (i : Nat) (e : List PV) (j : Nat) (p : PV), (ws.map fun s => [PV.v (.string s)])[i]? = some e → e[j]? = some p → j = 0 ∧ ∃ s, p = .v (.string s) ∧ W.cell? (ad.add i) = some (.string s) := by
      intro i e j p hi hj
      simp only [List.getElem?_map, Option.map_eq_some_iff] at hi
      obtain ⟨s, hs, rfl⟩ := hi
      cases j with
      | zero => simp at hj; exact ⟨rfl, s, hj.symm, hcell i s hs⟩
      | succ j => simp at hj
    rw [← hl'] at hlc ⊢
    refine .sl 1 _ (some ad) cap (fun i j => (W.cell? (ad.add (i * 1 + j))).getD undef) hlc (fun _ => ⟨ad, rfl⟩) ?_ ?_ ?_
    · intro e he
      simp only [List.mem_map] at he
      obtain ⟨s, _, rfl⟩ := he
      rfl
    · intro ad' i e j p hA hi hj
      cases hA
      obtain ⟨rfl, s, rfl, hc⟩ := hg i e j p hi hj
      rw [Nat.mul_one, Nat.add_zero, hc]
      refine ⟨?_, rfl⟩
      show _ < _
      cases hh : W.heap[(ad.add i).block]? with
      | some o => exact (Array.getElem?_eq_some_iff.1 hh).1
      | none => rw [World.cell?] at hc; simp [hh] at hc
    · intro i e j p hi hj
      obtain ⟨rfl, s, rfl, hc⟩ := hg i e j p hi hj
      rw [Nat.mul_one, Nat.add_zero, hc]
      exact .v _ rfl
/-- A package's variable of one cell. -/
theorem glob_of {name : String} {g : Nat} {cs : Array Value} {v : Value} {p : PV} (hg : P.globalNamed name = some g) (hv : W.var? P name = some cs) (hc : cs.toList = [v]) (hp : PRel W (SW W) p v) :
    PRel W (SW W) (.ref [p]) (.pointer (some ⟨g, 0, none⟩)) := by
  have hcell : W.cell? ⟨g, 0, none⟩ = some v := by
    have := World.var?_cell hg hv 0
    rw [this]
    have : cs = #[v] := by cases cs; simpa using hc
    subst this
    rfl
  refine .ref _ _ (fun _ => v) ?_ ?_
  · intro j q hj
    cases j with
    | zero =>
      refine ⟨?_, by simpa [Addr.add] using hcell⟩
      show _ < _
      cases hh : W.heap[g]? with
      | some o => have := (Array.getElem?_eq_some_iff.1 hh).1; simpa [Addr.add] using this
      | none => rw [World.cell?] at hcell; simp [hh] at hcell
    | succ j => simp at hj
  · intro j q hj
    cases j with
    | zero => simp at hj; subst hj; exact hp
    | succ j => simp at hj
end
end Go.Ew
end
