/- For every program, index and expression whose readings are together of bulk at most 1048576, the law returns true and leaves its arguments as they were; the table of words is tied to the program's text. -/
import Derived.Test.YtlkoaemljkdioaaDoorDM
import Derived.Test.YtlkoaemljkdioaaDoorCards
import Derived.Test.YtlkoaemljkdioaaDoorTie
import Derived.ProofKit
import Derived.Deep.DeepHandedRow
import Derived.Deep.DeepWitnessRowRef
import Derived.OpenShut
section
/- The law: its row and its card. -/
open Go.Ew
namespace Go.Proofs.YtlkoaemljkdioaaDoor.sourceWidths
open Go.ChangeShapes Go.WideShapes Go.ChangeAt Go.RowKit
theorem own : ownKnob Tryd.prog.godebug = none := by kernel_rfl
theorem gTab : Tryd.prog.globalNamed "retarget/retargetref20.words" = some 0 := by kernel_rfl
theorem gTabType : (Tryd.prog.globals[0]?).map (·.type) = some 73 := by kernel_rfl
theorem all_sum {H : Type} : ∀ l : List (DataW H), Rows.uptoBulkAll l = (l.map Rows.uptoBulk).sum
  | [] => rfl
  | d :: r => by simp [Rows.uptoBulkAll, all_sum r]
theorem bulk (H : Type) : Bulk (Rows.uptoBulk (H := H)) := by
  refine ⟨fun b => rfl, fun l => ?_, rfl, fun es sp => ?_, fun es => ?_⟩
  · cases l <;> simp [Rows.uptoBulk]
  · simp [Rows.uptoBulk, all_sum]
  · simp [Rows.uptoBulk, all_sum]
/-- What the row's list gives. -/
theorem table {W : World} (h : laidMetH Tryd.prog Rows.sourceWidthsUptoRow.laid W) : ∀ g cs, (tabOf Tryd.prog GG).glob g = some cs → PRel W (SW W) (.ref cs) (.pointer (some ⟨g, 0, none⟩)) := by
  have h' : laidMet Tryd.prog [("retarget/retargetref20.words", Rows.laid_retarget_retargetref20_words)] W := h
  obtain ⟨ps, ⟨g', t', cs, fuel, p, q, hg', ht', hvar, hd, _, _⟩, _⟩ := h'
  obtain rfl := Option.some.inj (gTab.symm.trans hg')
  obtain rfl := Option.some.inj (gTabType.symm.trans ht')
  obtain ⟨v, hv, hp⟩ := strs_of (ws := wordsL) Tryd.underlying73 Tryd.underlying9 (by kernel_rfl) hd
  have hG := glob_of gTab hvar hv hp
  intro g cs' hg
  by_cases h0 : g = 0
  · subst h0
    have : cs' = [.sl 1 (encTs wordsL)] := by simpa [tabOf, GG] using hg.symm
    subst this
    exact hG
  · simp [tabOf, GG, h0] at hg
theorem kids : Kids Tryd.prog (· < Tryd.prog.types.size) := kids_rows (by kernel_rfl) (by kernel_rfl)
theorem sliceB : (List.range Tryd.prog.types.size).all (fun t => match Tryd.prog.underlying t with | some (.slice e) => decide (0 < Tryd.prog.cellsOf e) | _ => true) = true := by kernel_rfl
theorem slices : ∀ t e, t < Tryd.prog.types.size → Tryd.prog.underlying t = some (.slice e) → 0 < Tryd.prog.cellsOf e := by
  intro t e ht hu
  have := List.all_eq_true.1 sliceB t (List.mem_range.2 ht)
  simpa [hu] using this

set_option maxRecDepth 100000 in
theorem contract (H : Type) (enc : TypeId × Value → H) (W : World) (base : Nat) (args : Array Value) (ds gs : List (DataW H)) (before : List MemPlace)
    (hval : ∀ (j : Nat) t v, Tryd.f3.params[j]? = some t → args[j]? = some v → Value.okWide Tryd.prog W .any base t v)
    (hW : DataW.Whole enc Tryd.prog Tryd.f3.params.toList Rows.sourceWidthsSpec.vars false W args.toList ds gs before) (hk : Rows.uptoSmall H (ds ++ gs) = true) (hL : laidMetH Tryd.prog Rows.sourceWidthsUptoRow.laid W) :
    Calls Tryd.prog 3 args W fun e W' => ∃ v, e = .returned v ∧ Rows.sourceWidthsSpec.post enc Tryd.prog Tryd.f3 false true false false W args v W' := by
  have hW' := hW
  obtain ⟨p, q, hA0, hV, rfl, hfz, hnd⟩ := hW
  have hA : DataW.TrodAll enc Tryd.prog W 0 (fun _ => true) true Tryd.f3.params.toList args.toList ds p := hA0
  rw [Tryd.params3] at hA
  obtain ⟨v0, vs0, d0, ds0, p0, q0, hargs, rfl, rfl, h0, r0⟩ := trodAll_cons hA
  obtain ⟨v1, vs1, d1, ds1, p1, q1, rfl, rfl, rfl, h1, r1⟩ := trodAll_cons r0
  obtain ⟨v2, vs2, d2, ds2, p2, q2, rfl, rfl, rfl, h2, r2⟩ := trodAll_cons r1
  obtain ⟨rfl, rfl, rfl⟩ := trodAll_nil r2
  obtain rfl : args = #[v0, v1, v2] := by cases args; simp_all
  obtain ⟨rfl, rfl⟩ := trodVars_none hV
  clear hA0
  have hb : Rows.uptoBulk d0 + (Rows.uptoBulk d1 + Rows.uptoBulk d2) ≤ 1048576 := by
    simp only [Rows.uptoSmall, decide_eq_true_eq, List.append_nil, Rows.uptoBulkAll] at hk
    omega
  obtain ⟨c0, rfl, _⟩ := okWide_struct Tryd.underlying25 (hval 0 25 v0 (by rw [Tryd.params3]; rfl) rfl)
  obtain ⟨fi, rfl, rfl, _, _⟩ := open_int Tryd.underlying3 (hval 1 3 v1 (by rw [Tryd.params3]; rfl) rfl) h1
  obtain ⟨c2, rfl, _⟩ := okWide_struct Tryd.underlying29 (hval 2 29 v2 (by rw [Tryd.params3]; rfl) rfl)
  obtain ⟨n0, h0⟩ := h0
  obtain ⟨n2, h2⟩ := h2
  obtain ⟨pr, hp, hpb⟩ := rdPro (bulk H) n0 _ _ h0
  obtain ⟨x, hx, hxb⟩ := rdE (bulk H) n2 _ _ h2
  have hxb : bkE x ≤ Rows.uptoBulk d2 := hxb
  have hxw := bkE_wt x
  have ha := szA_bk pr.arrays
  have hf := wtFL_bk pr.funcs
  simp only [bkPro] at hpb
  have hM := f3 pr fi x (by omega) (by omega) (fun f hf => by have := bodies_bk hf; omega) (by omega)
  have hrel : ArgsRel W (SW W) ghost0 [.u (.agg ((encPro pr).map CV.c)), .u (.one (.c (.v (.int .i64 fi)))), .u (.agg ((encE x).map CV.c))] #[.agg c0, .int .i64 fi, .agg c2] := by
    refine ⟨rfl, fun j y v hy hv => ?_⟩
    match j with
    | 0 => simp at hy hv; subst hy; subst hv; exact rd_agg hp
    | 1 => simp at hy hv; subst hy; subst hv; exact PRel.v _ rfl
    | 2 => simp at hy hv; subst hy; subst hv; exact rd_agg hx
    | j + 3 => simp at hy
  refine (runs hM (table hL) hrel).mono fun e W' ⟨v, he, ⟨S, γ, hv⟩, hos, hout, hfr⟩ => ?_
  have hv' : v = .bool true := by cases hv; rfl
  subst hv'
  subst he
  exact ⟨_, rfl, post_true (b4 := 4) hW' rfl ⟨rfl, rfl, rfl⟩ rfl Tryd.underlying4 kids slices (by rw [Tryd.params3]; decide +kernel) hos hout hfr⟩
end Go.Proofs.YtlkoaemljkdioaaDoor.sourceWidths
end
section
/- The law: its witness, its row and its card. -/
open Go.Ew
namespace Go.Proofs.YtlkoaemljkdioaaDoor.sourceWidths
open Go.ChangeShapes Go.WideShapes Go.ChangeAt Go.RowKit
set_option maxRecDepth 100000
noncomputable def low : Nat := (World.holding Tryd.prog default ⟨#[], #[], []⟩).heap.size
/-- A world for the witness. -/
noncomputable def laidWorld (os : Os) : World :=
  let w0 := World.holding Tryd.prog os ⟨#[.cells (wordsL.map Value.string).toArray 9], #[], []⟩
  { w0 with heap := w0.heap.modify 0 fun
      | .cells _ t frozen => .cells #[.slice (some ⟨low, 0, none⟩) 14 14] t frozen
      | o => o }
def args0 : Array Value := #[.agg #[.slice none 0 0, .slice none 0 0], .int .i64 0, .agg #[.int .u8 0, .int .i64 0, .int .u64 0, .string ⟨#[]⟩, .int .u8 0, .slice none 0 0]]
theorem laid_met (os : Os) : laidMet Tryd.prog Rows.sourceWidthsUptoRow.laid ((laidWorld os).forCall (fun _ _ => 0) ⟨#[], args0, []⟩).memory :=
  laidMet_of_run' 8 (by kernel_rfl) (by kernel_rfl)
theorem reads (os : Os) {H : Type} (enc : TypeId × Value → H) : ∃ places, DataW.whole enc Tryd.prog ((laidWorld os).forCall (fun _ _ => 0) ⟨#[], args0, []⟩).memory Tryd.f3.params.toList Rows.sourceWidthsSpec.vars false args0.toList 8 =
    some ([.agg [.nil, .nil], .lit (.int .i64 0), .agg [.lit (.int .u8 0), .lit (.int .i64 0), .lit (.int .u64 0), .lit (.string []), .lit (.int .u8 0), .nil]], [], places) :=
  ⟨[], by kernel_rfl⟩
theorem lifted (os : Os) (started : os.Started) (H : Type) (enc : TypeId × Value → H) (F : Stop.Interp) :
    ReturnsInHanded {} Tryd.checked os 3 .any ((Rows.OpenSpec.upto Rows.sourceWidthsSpec).preRow enc Tryd.prog Tryd.f3 Rows.sourceWidthsUptoRow.domain false Rows.sourceWidthsUptoRow.laid) (((Rows.OpenSpec.upto Rows.sourceWidthsSpec).at F).post enc Tryd.prog Tryd.f3 false true false false) := by
  obtain ⟨places, hx⟩ := reads os enc
  refine returnsInHanded_of_row (C := Tryd.checked) (s := Rows.OpenSpec.upto Rows.sourceWidthsSpec) own started (by kernel_rfl) Tryd.func3
    (witness_row_atRef (enc := enc) (C := Tryd.checked) false (laidWorld os) args0 rfl (by kernel_rfl) (by kernel_rfl) (by kernel_rfl)
      (OpenSpec.preRow_of_cond 8 hx (by kernel_rfl) (fun k hk => by cases hk; kernel_rfl) (by kernel_rfl) (laid_met os))) ?_
  intro W base args ds gs before hval hW _ hcond _ hL _ _
  exact contract H enc W base args ds gs before hval hW (hcond _ rfl) hL
theorem said : Rows.SourceWidthsUptoSaid :=
  OpenClaim.holds_of_cond 3 Tryd.f3 rfl rfl rfl rfl rfl rfl rfl ⟨rfl, rfl, rfl, rfl, rfl⟩ rfl rfl rfl rfl rfl (by kernel_rfl) Tryd.func3 (by kernel_rfl)
    (of_decide_eq_true (by kernel_rfl)) (by unfold Func.isWrapper; first | (rw [if_pos (by decide +kernel)]; kernel_rfl) | (rw [if_neg (by decide +kernel)]; exact ⟨rfl, rfl⟩))
    (fun os started H enc _ F => by rw [OpenClaim.pre_eq_preRow]; exact lifted os started H enc F)
/-- No parameter wants a stand-in; the program's own looks are off. -/
theorem plain (f : FuncId) (fn : Func) (hf : Tryd.pinned.checked.prog.funcNamed "retarget/retargetlaw20.SourceWidths" = some f) (hfn : Tryd.pinned.checked.prog.funcs[f]? = some fn) :
    false = Tryd.pinned.checked.prog.looks [] ∧ ∀ (j : Nat) t, fn.params[j]? = some t → Tryd.pinned.checked.prog.wantsStandIn t = false := by
  obtain rfl : f = 3 := Option.some.inj ((show Tryd.prog.funcNamed "retarget/retargetlaw20.SourceWidths" = some 3 by kernel_rfl).symm.trans hf) |>.symm
  obtain rfl : fn = Tryd.f3 := (Option.some.inj (Tryd.func3.symm.trans hfn)).symm
  refine ⟨by kernel_rfl, fun j t ht => ?_⟩
  rw [Tryd.params3] at ht
  have hm := Array.mem_of_getElem? ht
  simp only [List.mem_toArray, List.mem_cons, List.not_mem_nil, or_false] at hm
  rcases hm with rfl | rfl | rfl
  · exact (show Tryd.prog.wantsStandIn 25 = false by kernel_rfl)
  · exact (show Tryd.prog.wantsStandIn 3 = false by kernel_rfl)
  · exact (show Tryd.prog.wantsStandIn 29 = false by kernel_rfl)
/-- The card. -/
theorem card : Rows.SourceWidthsUptoCardSaid :=
  Claim7.holds_tied_plain_at .later [] _ _ _ _ said (fun _ h => by cases h) (by kernel_rfl) (fun _ h => by cases h) sourceWidthsUpto_row_tie rfl ⟨rfl, rfl⟩ (by kernel_rfl) rfl plain (by kernel_rfl)
end Go.Proofs.YtlkoaemljkdioaaDoor.sourceWidths
end
