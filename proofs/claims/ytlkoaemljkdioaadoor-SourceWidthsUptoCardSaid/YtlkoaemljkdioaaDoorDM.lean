/- What functions of the seat do: variables, widths; both ways agree; the law's function. -/
import Derived.Test.YtlkoaemljkdioaaDoorDL
import Derived.Test.YtlkoaemljkdioaaDoorWG
import Derived.KernelRfl
section
/- Functions of the seat: variables and widths. -/
open Go Go.Proofs Go.Ew
namespace Go.Ew
def outX (p : Pro) (fi : Int) : Bool := decide (fi < 0) || decide ((p.funcs.length : Int) ≤ fi)
def varsX (p : Pro) (fi : Int) : List Par × Int := if checkX p = 0 then (if outX p fi = true then ([], 2) else funcX p (p.funcs.getD fi.toNat noF)) else ([], checkX p)
def varsR (p : Pro) (fi : Int) : List Par × Int := if checkR p = 0 then (if outX p fi = true then ([], 2) else ((funcR p (p.funcs.getD fi.toNat noF)).1, 0)) else ([], checkR p)
def widthX (p : Pro) (fi : Int) (x : Expr) : Int × Int := if (varsX p fi).2 = 0 then (if largeX x = true then (0, 4) else if wellE x = true then exprX p.arrays (varsX p fi).1 x else (0, 8)) else (0, (varsX p fi).2)
def widthR (p : Pro) (fi : Int) (x : Expr) : Int × Int := if (varsR p fi).2 = 0 then (if largeX x = true then (0, 4) else if wellE x = true then (if (refX p.arrays (varsR p fi).1 x 0).2 = 0 then ((refX p.arrays (varsR p fi).1 x 0).1, 0) else (0, (refX p.arrays (varsR p fi).1 x 0).2)) else (0, 8)) else (0, (varsR p fi).2)
theorem holds_parR (l : List Par) : Holds (parR l) l := by cases l; exact .nil; exact .sl _
theorem funcX_le (p : Pro) (f : Fun) : (funcX p f).1.length ≤ f.params.length + stNs f.body := by
  have h1 := declPs_le p f.params []
  have h2 := blockX_le p f.result f.body (declPs p f.params []).1 false
  unfold funcX
  split
  · simp at h1 ⊢; omega
  · simp
theorem funcR_le (p : Pro) (f : Fun) : (funcR p f).1.length ≤ f.params.length + stNs f.body := by
  have h2 := blockR_le p f.result f.body f.params false (declR p f.params [] 0)
  unfold funcR
  simp; omega
theorem checkX_well {p : Pro} (h : checkX p = 0) : ∀ f ∈ p.funcs, wellSs f.body = true := fun f hf => by
  unfold checkX at h
  split at h
  · cases h
  · split at h
    · cases h
    · rename_i hb
      have h3 : p.funcs.all wellF = true := by
        cases hc : p.funcs.all wellF with
        | true => rfl
        | false => simp [badX, hc] at hb
      have := List.all_eq_true.1 h3 f hf
      simp only [wellF, Bool.and_eq_true] at this
      exact this.2
theorem checkR_well {p : Pro} (h : checkR p = 0) : ∀ f ∈ p.funcs, wellSs f.body = true := fun f hf => by
  unfold checkR at h
  split at h
  · cases h
  · split at h
    · cases h
    · rename_i hb
      have h3 : p.funcs.any badF = false := by
        cases hc : p.funcs.any badF with
        | false => rfl
        | true => simp [formedX, hc] at hb
      have := List.any_eq_false.1 h3 f hf
      cases hw : wellSs f.body with
      | true => rfl
      | false => simp [badF, hw] at this
attribute [local simp] Cd_skip Cd_label Cd_seq Ct_false Br_notc Br_true Br_false Cd_cond Cd_block Cd_exit Cd_ret Cd_region Nx_code Nx_block Nx_ops Nx_plan  Nx_fin Nx_fin' Ex_code_exit Ex_code_ret Ex_block_exit Ex_block_ret Ex_round_exit Ex_round_ret Ex_fin_ret Ex_fin_ret' Pn_code Pn_block Pn_ops Pn_plan Pn_round Pn_fin Os_nil Os_cons gK_some Gt_some Gt_nil Gt_cons run_code run_op run_skip O1_eq Pl_done Pl_stop Pl_first Pl_alt cK_some qK_some qK_none qK_busy flatOp_none flatArgs Op.operands eqAgg_l eqAgg_b eqAgg_1 asCall asPan actK_some panOf_some condK_some map_re_c map_kill_c map_keep_c map_frz_c re_cc kill_cc keep_cc frz_cc leCs_refl finA finR idl headOf allB
attribute [local simp] wantedA act quiet opd opg TV.acc imp ofConst St.get St.put St.putG orElse one1 one2 binA unA convA idxA strLen maxA minA TV.flat TV.int TV.bool TV.cells UV.cells CV.els TV.els viewOf PV.nv CV.nv peekC_eq peekB peekG peekH peekP_eq peekPB allP allNv allPs allNv_c allNv_append allP_append allPs_append rowsNv_eq at_ cellAt PV.down PV.elem readAt loadOp bump fieldAddrOp fieldOp indexAddrOp extractOp nilCheckOp lenOp boundOf sliceOp fillCells buildOp pickOp Tab.fld Tab.place tabOf_ti tabOf_mapT tabOf_stc tabOf_arr tabOf_elem tabOf_glob mk busy TV.isPtr TV.isMap keyOK keysOf lookupOp mapOf lookC_some lookC_none findK_nil findK_yes findK_no eqKey_lit eqKey_int mapLen_eq look lay del
attribute [local simp] makeMapOp updateOp insK_some insK_none insC_some insC_none frzMp allocOp boxOp storeOp killOf writeAt moves grabOf takeAt putAt PV.put setCell CV.isView CV.strip CV.stripP strip_cc map_strip_c any_view_c any_view_cc mapM_strip_eq stripL stripL_c mapM_strip_cc frzR_frz frzE_frz stripL_append Ew.newObj newReg rowsOf stripRows movesR buildSliceOp makeSliceOp srcOf baseOf appendOp room killM St.kill Kl.b Kl.h Cap.hit TV.kill UV.kill CV.kill MC.kill capOf capsOf plainCaps mkClo capTV calleeOf panArg resV resT resUs
attribute [local simp] toNew toOld view TV.re UV.re CV.re MC.re Cap.re caps_re leT leU leC leCs leMs leM leTs St.le St.re keysOK  roots_p map_re_p map_re_p' roots_c roots_cc shownOf shownBy pairsOf number deeper addAll MC.live TV.roots CV.roots MC.roots Cap.roots callIs numsOK liveAll start List.range_succ callSt afterMem newPart_nil newPart_cons oldPart_eq oldGo back isKey stays inRange aliveO aliveM MC.isMap aliveR aliveP MC.isObj MC.isReg Cap.alive CV.keep UV.keep TV.keep MC.keep span St.frz frzM TV.frz UV.frz CV.frz MC.frz frzO frzC Cap.frz PV.frz frzE frzR
attribute [local simp] encAs_len encAs_at encA encFs_len encFs_at encPs_len encPs_at encF encP
set_option maxRecDepth 8000
set_option maxHeartbeats 4000000
abbrev vVars (r : List Par × Int) : TV := .tup [.one (.c (parR r.1)), .one (cI r.2)]
abbrev vTwo (r : Int × Int) : TV := .tup [.one (cI r.1), .one (cI r.2)]
theorem f6 (p : Pro) (fi : Int) (hs : Small p) : Meets Tryd.prog (tabOf Tryd.prog GG) 6 [vPro p, vI fi] [] (.ret (vVars (varsX p fi))) [] := by
  have hA := hs.arrays
  have hF := hs.funcs
  have hP : ∀ f ∈ p.funcs, f.params.length < 1000000 := fun f h => by have := hs.params f h; omega
  refine meets_of (tabOf_ok _ _) [] Tryd.f6 35 [.tmp 4, .tmp 5] (by kernel_rfl) (by kernel_rfl) rfl rfl rfl rfl false ?_
  simp
  refine Call_pure (f13 p hs) ?_
  simp
  refine Br_intro (fun h => ?_) (fun h => ?_) <;> simp at h
  rotate_left
  · simp [varsX, h, parR]
  have hwf := checkX_well h
  simp
  refine Br_intro (fun g => ?_) (fun g => ?_)
  · have hg : outX p fi = true := g
    simp [varsX, h, hg, parR]
  have hg : outX p fi = false := g
  simp [outX] at hg
  obtain ⟨j, rfl⟩ : ∃ j : Nat, fi = (j : Int) := ⟨fi.toNat, by omega⟩
  have hj : j < p.funcs.length := by omega
  have hgo : outX p (j : Int) = false := g
  have hmem := List.getElem_mem hj
  have hv : varsX p (j : Int) = funcX p p.funcs[j] := by simp [varsX, h, hgo, hj]
  rw [hv]
  simp
  refine Cd_draw (.first 1 (.first 3 (.alt 0 (.alt 2 (.first 4 (.first 5 (.alt 6 (.first 7 (.first 8 (.first 9 (.first 10 (.first 11 .done))))) .stop))) .stop) (.alt 2 (.first 4 (.first 5 (.alt 0 (.alt 6 (.first 7 (.first 8 (.first 9 (.first 10 (.first 11 .done))))) .stop) .stop))) .stop)))) (by kernel_rfl) (by kernel_rfl) (by kernel_rfl) ?_
  simp [hj]
  refine Call_pure (f14 p p.funcs[j] (by omega) (by omega) hP (hs.params _ hmem) (hs.bodies _ hmem) (hwf _ hmem)) ?_
  simp
theorem f7 (p : Pro) (fi : Int) (hs : Small p) : Meets Tryd.prog (tabOf Tryd.prog GG) 7 [vPro p, vI fi] [] (.ret (vVars (varsR p fi))) [] := by
  have hA := hs.arrays
  have hF := hs.funcs
  have hP : ∀ f ∈ p.funcs, f.params.length < 1000000 := fun f h => by have := hs.params f h; omega
  refine meets_of (tabOf_ok _ _) [] Tryd.f7 34 [.tmp 4, .tmp 5] (by kernel_rfl) (by kernel_rfl) rfl rfl rfl rfl false ?_
  simp
  refine Call_pure (f15 p hs) ?_
  simp
  by_cases h : checkR p = 0
  rotate_left
  · simp [h]
    repeat (refine Sk_go ?_; simp [h])
    simp [varsR, h, parR]
  have hwf := checkR_well h
  simp [h]
  refine Br_intro (fun g => ?_) (fun g => ?_)
  · have hg : outX p fi = true := g
    simp [varsR, h, hg, parR]
  have hg : outX p fi = false := g
  simp [outX] at hg
  obtain ⟨j, rfl⟩ : ∃ j : Nat, fi = (j : Int) := ⟨fi.toNat, by omega⟩
  have hj : j < p.funcs.length := by omega
  have hgo : outX p (j : Int) = false := g
  have hmem := List.getElem_mem hj
  have hv : varsR p (j : Int) = ((funcR p p.funcs[j]).1, 0) := by simp [varsR, h, hgo, hj]
  rw [hv]
  simp [h]
  refine Call_pure (f16 p j hj (by omega) (by omega) hP (hs.params _ hmem) (hs.bodies _ hmem) (hwf _ hmem)) ?_
  simp
theorem varsX_ok {p : Pro} {fi : Int} (hs : Small p) (h : (varsX p fi).2 = 0) : ∃ j : Nat, fi = (j : Int) ∧ ∃ hj : j < p.funcs.length, varsX p fi = funcX p p.funcs[j] := by
  unfold varsX at h ⊢
  split at h
  · rename_i h0
    split at h
    · cases h
    · rename_i hg
      simp [outX] at hg
      refine ⟨fi.toNat, by omega, by omega, ?_⟩
      rw [if_pos h0, if_neg (by simp [outX]; omega)]
      congr 1
      simp [List.getD_eq_getElem?_getD, List.getElem?_eq_getElem (show fi.toNat < p.funcs.length by omega)]
  · rename_i h0; exact absurd h h0
theorem varsR_ok {p : Pro} {fi : Int} (hs : Small p) (h : (varsR p fi).2 = 0) : ∃ j : Nat, fi = (j : Int) ∧ ∃ hj : j < p.funcs.length, varsR p fi = ((funcR p p.funcs[j]).1, 0) := by
  unfold varsR at h ⊢
  split at h
  · rename_i h0
    split at h
    · cases h
    · rename_i hg
      simp [outX] at hg
      refine ⟨fi.toNat, by omega, by omega, ?_⟩
      rw [if_pos h0, if_neg (by simp [outX]; omega)]
      congr 2
      simp [List.getD_eq_getElem?_getD, List.getElem?_eq_getElem (show fi.toNat < p.funcs.length by omega)]
  · rename_i h0; exact absurd h h0
theorem f8 (p : Pro) (fi : Int) (x : Expr) (hs : Small p) (hx : nodes x < 1000000) : Meets Tryd.prog (tabOf Tryd.prog GG) 8 [vPro p, vI fi, vE x] [] (.ret (vTwo (widthX p fi x))) [] := by
  have hA := hs.arrays
  have hF := hs.funcs
  have hP : ∀ f ∈ p.funcs, f.params.length < 1000000 := fun f h => by have := hs.params f h; omega
  refine meets_of (tabOf_ok _ _) [] Tryd.f8 47 [.tmp 6, .tmp 7] (by kernel_rfl) (by kernel_rfl) rfl rfl rfl rfl false ?_
  simp
  refine Call_pure (f6 p fi hs) ?_
  simp
  refine Br_intro (fun h => ?_) (fun h => ?_) <;> simp at h
  rotate_left
  · simp [widthX, h]
  simp [encE_len, encE_nv, encE_take]
  refine Call_pure (f17 x hx) ?_
  simp
  refine Br_intro (fun h1 => ?_) (fun h1 => ?_)
  · simp [widthX, h, h1]
  simp [encE_len, encE_nv, encE_take]
  refine Call_pure (f18 f35 _ x (Nat.le_refl _) hx) ?_
  simp
  refine Br_intro (fun h2 => ?_) (fun h2 => ?_)
  rotate_left
  · simp [widthX, h, h1, h2]
  have hX : widthX p fi x = exprX p.arrays (varsX p fi).1 x := by simp [widthX, h, h1, h2]
  rw [hX]
  obtain ⟨j, rfl, hj, hv⟩ := varsX_ok hs h
  have hmem := List.getElem_mem hj
  have hpl := hs.params _ hmem
  have hbl := hs.bodies _ hmem
  have hst := stNs_le p.funcs[j].body
  have hkl : (varsX p (j : Int)).1.length < 1000000 := by
    rw [hv]; have := funcX_le p p.funcs[j]; omega
  generalize (varsX p (j : Int)).1 = kl at *
  simp
  refine Cd_draw (.first 1 (.first 3 (.first 6 (.alt 0 (.alt 2 (.first 4 (.alt 5 (.first 7 (.alt 8 (.first 9 .done) .stop)) .stop)) .stop) (.alt 2 (.first 4 (.alt 0 (.alt 5 (.first 7 (.alt 8 (.first 9 .done) .stop)) .stop) (.alt 5 (.alt 0 (.first 7 (.alt 8 (.first 9 .done) .stop)) .stop) .stop))) .stop))))) (by kernel_rfl) (by kernel_rfl) (by kernel_rfl) ?_
  simp [hj, encE_len, encE_nv, encE_take]
  refine Call_own (f19 p _ _ _ _ _ kl (by omega) hkl (holds_parR kl) _ x (Nat.le_refl _) hx h2) (by simp) ?_
  simp
theorem f9 (p : Pro) (fi : Int) (x : Expr) (hs : Small p) (hx : nodes x < 1000000) : Meets Tryd.prog (tabOf Tryd.prog GG) 9 [vPro p, vI fi, vE x] [] (.ret (vTwo (widthR p fi x))) [] := by
  have hA := hs.arrays
  have hF := hs.funcs
  have hP : ∀ f ∈ p.funcs, f.params.length < 1000000 := fun f h => by have := hs.params f h; omega
  refine meets_of (tabOf_ok _ _) [] Tryd.f9 47 [.tmp 6, .tmp 7] (by kernel_rfl) (by kernel_rfl) rfl rfl rfl rfl false ?_
  simp
  refine Call_pure (f7 p fi hs) ?_
  simp
  refine Br_intro (fun h => ?_) (fun h => ?_) <;> simp at h
  rotate_left
  · simp [widthR, h]
  simp [encE_len, encE_nv, encE_take]
  refine Call_pure (f20 x hx) ?_
  simp
  refine Br_intro (fun h1 => ?_) (fun h1 => ?_)
  · simp [widthR, h, h1]
  simp [encE_len, encE_nv, encE_take]
  refine Call_pure (f21 _ x (Nat.le_refl _) hx) ?_
  simp
  refine Br_intro (fun h2 => ?_) (fun h2 => ?_)
  rotate_left
  · simp [widthR, h, h1, h2]
  have hX : widthR p fi x = (if (refX p.arrays (varsR p fi).1 x 0).2 = 0 then ((refX p.arrays (varsR p fi).1 x 0).1, 0) else (0, (refX p.arrays (varsR p fi).1 x 0).2)) := by simp [widthR, h, h1, h2]
  rw [hX]
  obtain ⟨j, rfl, hj, hv⟩ := varsR_ok hs h
  have hmem := List.getElem_mem hj
  have hpl := hs.params _ hmem
  have hbl := hs.bodies _ hmem
  have hst := stNs_le p.funcs[j].body
  have hkl : (varsR p (j : Int)).1.length < 1000000 := by
    rw [hv]; have := funcR_le p p.funcs[j]; simp only; omega
  generalize (varsR p (j : Int)).1 = kl at *
  simp [encE_len, encE_nv, encE_take]
  refine Call_own (f22 p _ _ kl (by omega) hkl (holds_parR kl) _ x 0 (Nat.le_refl _) hx h2) (by simp) ?_
  simp
  refine Br_intro (fun h3 => ?_) (fun h3 => ?_) <;> simp at h3
  · simp [h3]
  · simp
    refine Cd_draw (.first 0 (.first 1 (.first 2 (.first 4 (.alt 3 (.first 5 .done) .stop))))) (by kernel_rfl) (by kernel_rfl) (by kernel_rfl) ?_
    simp [h3]
theorem eqPar (a c : ByteArray) (b d : Int) : eqAgg Tryd.prog .neq 50 (.u (.agg [.c (.v (.string a)), .c (.v (.int .i64 b))])) (.u (.agg [.c (.v (.string c)), .c (.v (.int .i64 d))])) = some (.val (.bool (!(decide (a.toList = c.toList) && (decide (b = d) && true))))) := by kernel_rfl
attribute [local simp] eqPar
theorem f10 (l : List Par) (hl : l.length < 1000000) : Meets Tryd.prog (tabOf Tryd.prog GG) 10 [.p (parR l), .p (parR l)] [] (.ret (vB true)) [] := by
  cases l with
  | nil =>
    refine meets_of (tabOf_ok _ _) [] Tryd.f10 26 [.tmp 4] (by kernel_rfl) (by kernel_rfl) rfl rfl rfl rfl false ?_
    simp [parR]
    refine Cd_for (fun i : Nat => ⟨[.p nilP, .p nilP, .bot, .bot, .bot, vI i, .bot, .bot, .bot, .bot, .bot, .bot, .bot, .bot, .bot, .bot, .bot, .bot, .bot, .bot, .bot, .bot, .bot, .bot, .bot, .bot], []⟩) (fun i => i = 0) (fun i => 0) 0 rfl (Imp.le (by simp)) ?_
    rintro i rfl
    simp
  | cons x xs =>
    refine meets_of (tabOf_ok _ _) [] Tryd.f10 26 [.tmp 4] (by kernel_rfl) (by kernel_rfl) rfl rfl rfl rfl false ?_
    simp only [parR]
    generalize x :: xs = l at *
    simp
    refine Cd_for (fun i : Nat => ⟨[.p (.sl 2 (encPs l)), .p (.sl 2 (encPs l)), .bot, .bot, .bot, vI i, .bot, .bot, .bot, .bot, .bot, .bot, .bot, .bot, .bot, .bot, .bot, .bot, .bot, .bot, .bot, .bot, .bot, .bot, .bot, .bot], []⟩) (fun i => i ≤ l.length) (fun i => l.length - i) 0 (by simp) (Imp.le (by simp)) ?_
    intro i hi
    simp
    refine Br_intro (fun h => ?_) (fun h => ?_)
    · simp at h
      have h2 : IntKind.i64.wrap ((i : Int) + 1) = ((i + 1 : Nat) : Int) := wrap64 (by omega) ⟨by omega, by omega⟩
      simp
      refine Cd_draw (.first 0 (.first 1 (.first 2 (.first 3 (.first 4 (.first 5 (.first 6 (.first 7 (.first 8 .done))))))))) (by kernel_rfl) (by kernel_rfl) (by kernel_rfl) ?_
      simp [h, h2]
      exact Nx_for (i + 1) (by omega) (by omega) (Imp.le (by simp))
    · simp at h
      simp
end Go.Ew
end
section
/- The program's checks answer as the reference's. No program in sight. -/
open Go Go.Proofs Go.Ew
namespace Go.Ew
theorem rule_same (ar : List Arr) (kl : List Par) (k w : Int) (nm : ByteArray) (op : Int) (l : List Int) : (ruleR ar kl k w nm op l).2 = (ruleE ar kl k w nm op l).2 ∧ ((ruleE ar kl k w nm op l).2 = 0 → (ruleR ar kl k w nm op l).1 = (ruleE ar kl k w nm op l).1) := by
  unfold ruleR ruleE
  repeat' split
  all_goals simp_all
mutual
theorem refX_keeps (ar : List Arr) (kl : List Par) : ∀ (x : Expr) (e : Int), e ≠ 0 → (refX ar kl x e).2 = e
  | .mk k w b nm op sub, e, h => by
    have := refXs_keeps ar kl sub e h
    rw [refX, if_neg (by rw [this]; exact h)]
    exact this
theorem refXs_keeps (ar : List Arr) (kl : List Par) : ∀ (l : List Expr) (e : Int), e ≠ 0 → (refXs ar kl l e).2 = e
  | [], e, h => by rw [refXs]
  | x :: xs, e, h => by
    have h1 := refX_keeps ar kl x e h
    rw [refXs]
    simp only
    rw [h1]
    exact refXs_keeps ar kl xs e h
end
mutual
theorem refX_same (ar : List Arr) (kl : List Par) : ∀ (x : Expr), (refX ar kl x 0).2 = (exprX ar kl x).2 ∧ ((exprX ar kl x).2 = 0 → (refX ar kl x 0).1 = (exprX ar kl x).1)
  | .mk k w b nm op sub => by
    obtain ⟨h1, h2⟩ := refXs_same ar kl sub
    rw [refX, exprX, h1]
    by_cases h : (subsX ar kl sub).2 = 0
    · rw [if_pos h, if_pos h, h2 h]
      exact rule_same ar kl k w nm op _
    · rw [if_neg h, if_neg h]
      exact ⟨rfl, fun h' => absurd h' h⟩
theorem refXs_same (ar : List Arr) (kl : List Par) : ∀ (l : List Expr), (refXs ar kl l 0).2 = (subsX ar kl l).2 ∧ ((subsX ar kl l).2 = 0 → (refXs ar kl l 0).1 = (subsX ar kl l).1)
  | [] => by simp [refXs, subsX]
  | x :: xs => by
    obtain ⟨h1, h2⟩ := refX_same ar kl x
    obtain ⟨h3, h4⟩ := refXs_same ar kl xs
    rw [refXs, subsX]
    by_cases h : (exprX ar kl x).2 = 0
    · rw [if_pos h]
      rw [h] at h1
      simp only [h1]
      refine ⟨h3, fun h' => ?_⟩
      rw [h2 h, h4 h']
    · rw [if_neg h]
      have h5 := refXs_keeps ar kl xs (refX ar kl x 0).2 (by rw [h1]; exact h)
      simp only [h5]
      exact ⟨h1, fun h' => absurd h' h⟩
end
theorem ext_same (p : Pro) (res : Int) (kl : List Par) (k : Int) (nm f : ByteArray) (w : Int) (l : List Int) (loop : Bool) (h : ruleX p res kl k nm f w l loop = 0) : extR k nm w = declX p kl k nm w := by
  unfold extR declX
  by_cases hk : k = 1
  · subst hk
    cases ht : twiceX kl p.arrays nm with
    | false => simp
    | true => simp [ruleX, ht] at h
  · simp [hk]
theorem blockR_keeps (p : Pro) (res : Int) (l : List Stm) (kl : List Par) (loop : Bool) (e : Int) (h : e ≠ 0) : blockR p res l kl loop e = ([], e) := by
  cases l with
  | nil => rw [blockR]
  | cons x xs => rw [blockR, if_neg h]
mutual
theorem stm_same (p : Pro) (res : Int) : ∀ (s : Stm) (kl : List Par) (loop : Bool), (stmR p res s kl loop).2 = (stmX p res s kl loop).2 ∧ ((stmX p res s kl loop).2 = 0 → (stmR p res s kl loop).1 = (stmX p res s kl loop).1)
  | .mk k nm f w es b e, kl, loop => by
    obtain ⟨h1, h2⟩ := refXs_same p.arrays kl es
    rw [stmR, stmX, h1]
    by_cases h : (subsX p.arrays kl es).2 = 0
    · rw [if_pos h, if_pos h, h2 h]
      by_cases hr : ruleX p res kl k nm f w (subsX p.arrays kl es).1 loop = 0
      · rw [if_pos hr, hr, ext_same p res kl k nm f w _ loop hr]
        generalize declX p kl k nm w = D
        obtain ⟨h3, h4⟩ := block_same p res b (kl ++ D) (loop || decide (k = 5))
        by_cases hb : (blockX p res b (kl ++ D) (loop || decide (k = 5))).2 = 0
        · rw [if_pos hb, h4 hb, h3, hb]
          obtain ⟨h5, h6⟩ := block_same p res e (kl ++ (D ++ (blockX p res b (kl ++ D) (loop || decide (k = 5))).1)) loop
          refine ⟨h5, fun h' => ?_⟩
          simp only at h'
          simp only
          rw [h6 h', List.append_assoc]
        · rw [if_neg hb, h3, blockR_keeps p res e _ loop _ hb]
          exact ⟨rfl, fun h' => absurd h' hb⟩
      · rw [if_neg hr, blockR_keeps p res b _ _ _ hr]
        simp only
        rw [blockR_keeps p res e _ _ _ hr]
        exact ⟨rfl, fun h' => absurd h' hr⟩
    · rw [if_neg h, if_neg h]
      exact ⟨rfl, fun h' => absurd h' h⟩
theorem block_same (p : Pro) (res : Int) : ∀ (l : List Stm) (kl : List Par) (loop : Bool), (blockR p res l kl loop 0).2 = (blockX p res l kl loop).2 ∧ ((blockX p res l kl loop).2 = 0 → (blockR p res l kl loop 0).1 = (blockX p res l kl loop).1)
  | [], kl, loop => by simp [blockR, blockX]
  | s :: ss, kl, loop => by
    obtain ⟨h1, h2⟩ := stm_same p res s kl loop
    rw [blockR, blockX, if_pos rfl]
    by_cases h : (stmX p res s kl loop).2 = 0
    · rw [if_pos h, h1, h, h2 h]
      obtain ⟨h3, h4⟩ := block_same p res ss (kl ++ (stmX p res s kl loop).1) loop
      refine ⟨h3, fun h' => ?_⟩
      simp only at h'
      simp only
      rw [h4 h']
    · rw [if_neg h, h1, blockR_keeps p res ss _ loop _ h]
      exact ⟨rfl, fun h' => absurd h' h⟩
end
theorem declR_keeps (p : Pro) : ∀ (l kl : List Par) (e : Int), e ≠ 0 → declR p l kl e = e
  | [], kl, e, h => by rw [declR]
  | v :: vs, kl, e, h => by rw [declR]; simp [h]; exact declR_keeps p vs _ e h
theorem decl_same (p : Pro) : ∀ (l kl : List Par), declR p l kl 0 = (declPs p l kl).2 ∧ ((declPs p l kl).2 = 0 → (declPs p l kl).1 = kl ++ l)
  | [], kl => by simp [declR, declPs]
  | v :: vs, kl => by
    rw [declR, declPs]
    cases ht : twiceX kl p.arrays v.name with
    | true => simp; exact declR_keeps p vs _ 18 (by decide)
    | false =>
      obtain ⟨h1, h2⟩ := decl_same p vs (kl ++ [v])
      simp
      exact ⟨h1, fun h => by rw [h2 h]; simp⟩
theorem func_same (p : Pro) (f : Fun) : (funcR p f).2 = (funcX p f).2 ∧ ((funcX p f).2 = 0 → (funcR p f).1 = (funcX p f).1) := by
  obtain ⟨h1, h2⟩ := decl_same p f.params []
  unfold funcR funcX
  rw [h1]
  by_cases h : (declPs p f.params []).2 = 0
  · have h3 := h2 h
    rw [List.nil_append] at h3
    rw [if_pos h, h, h3]
    obtain ⟨h4, h5⟩ := block_same p f.result f.body f.params false
    refine ⟨h4, fun h' => ?_⟩
    simp only at h'
    simp only
    rw [h5 h']
  · rw [if_neg h, blockR_keeps p _ _ _ _ _ h]
    exact ⟨rfl, fun h' => absurd h' h⟩
theorem wellA_bad (a : Arr) : wellA a = !badA a := by
  unfold wellA badA sizedX
  by_cases h1 : a.width = 1
  · simp [h1]
  · by_cases h2 : 1 < a.width
    · have e1 : decide (1 ≤ a.len) = !decide (a.len < 1) := by rw [← decide_not]; congr 1; simp
      have e2 : decide (a.len ≤ 64) = !decide (64 < a.len) := by rw [← decide_not]; congr 1; simp
      rw [e1, e2]
      simp only [h1, h2, decide_true, decide_false, Bool.false_or, Bool.or_false, Bool.and_true]
      cases nameX a.name <;> cases (decide (a.width = 8) || decide (a.width = 16) || decide (a.width = 32)) <;> cases decide (a.len < 1) <;> cases decide (64 < a.len) <;> cases pow2X a.len <;> rfl
    · have h8 : a.width ≠ 8 := by omega
      have h16 : a.width ≠ 16 := by omega
      have h32 : a.width ≠ 32 := by omega
      simp [h1, h2, h8, h16, h32]
theorem wellF_bad (f : Fun) : wellF f = !badF f := by
  unfold wellF badF
  have hp : f.params.all wellP = !f.params.any badP := by
    rw [List.all_eq_not_any_not]
    congr 2
    funext a
    simp [wellP, badP]
  rw [hp]
  cases nameX f.name <;> cases f.params.any badP <;> cases decide (f.result = 0) <;> cases sizedX f.result <;> cases wellSs f.body <;> rfl
theorem bad_formed (p : Pro) : badX p = !formedX p := by
  unfold badX formedX
  have h1 : p.arrays.all wellA = !p.arrays.any badA := by
    rw [List.all_eq_not_any_not]; congr 2; funext a; rw [wellA_bad, Bool.not_not]
  have h2 : p.funcs.all wellF = !p.funcs.any badF := by
    rw [List.all_eq_not_any_not]; congr 2; funext a; rw [wellF_bad, Bool.not_not]
  have h3 : decide (p.funcs.length = 0) = !decide (0 < p.funcs.length) := by by_cases h : p.funcs.length = 0 <;> simp [h]; omega
  rw [h1, h2, h3]
  cases p.arrays.any badA <;> cases p.funcs.any badF <;> cases decide (0 < p.funcs.length) <;> rfl
theorem findK_none {a : ByteArray} : ∀ {pre : List ByteArray}, findK (.string a) (pre.map .string) = none ↔ pre.any (fun x => decide (x.toList = a.toList)) = false
  | [] => by simp [findK]
  | x :: xs => by
    have hc : eqKey (.string a) (.string x) = decide (x.toList = a.toList) := by simp only [eqKey]; congr 1; exact propext ⟨Eq.symm, Eq.symm⟩
    rw [List.map_cons, List.any_cons]
    by_cases h : x.toList = a.toList
    · rw [findK_yes (by rw [hc]; simp [h])]
      simp [h]
    · rw [findK_no (by rw [hc]; simp [h])]
      simp [h, findK_none]
theorem seenK_full : ∀ (l pre : List ByteArray), decide ((seenK l (pre.map .string)).length < pre.length + l.length) = dupR l pre
  | [], pre => by simp [seenK, dupR]
  | a :: r, pre => by
    rw [seenK, dupR]
    cases hf : findK (.string a) (pre.map .string) with
    | none =>
      rw [findK_none.1 hf, Bool.false_or]
      have e : insK (.string a) (pre.map .string) none = (pre ++ [a]).map .string := by simp [insK]
      rw [e, ← seenK_full r (pre ++ [a])]
      simp
      omega
    | some i =>
      have hany : pre.any (fun x => decide (x.toList = a.toList)) = true := by
        cases h : pre.any (fun x => decide (x.toList = a.toList)) with
        | true => rfl
        | false => rw [findK_none.2 h] at hf; cases hf
      rw [hany, Bool.true_or]
      have := seenK_le r (pre.map .string)
      simp at this
      rw [decide_eq_true_eq]
      simp only [insK, List.length_cons]
      omega
theorem dup_same (p : Pro) : dupX p = dupR (namesX p) [] := by
  have := seenK_full (namesX p) []
  rw [← this]
  unfold dupX
  congr 1
  simp [namesX]
theorem first_same (g h : Fun → Int) : ∀ (l : List Fun), (∀ f ∈ l, g f = h f) → firstE g l = firstE h l
  | [], _ => rfl
  | f :: fs, hh => by
    rw [firstE, firstE, hh f List.mem_cons_self, first_same g h fs (fun f hf => hh f (List.mem_cons_of_mem _ hf))]
theorem check_same (p : Pro) : checkR p = checkX p := by
  unfold checkR checkX
  rw [bad_formed, dup_same, first_same (fun f => (funcX p f).2) (fun f => (funcR p f).2) p.funcs (fun f _ => (func_same p f).1.symm)]
  cases formedX p <;> simp
theorem firstE_zero {g : Fun → Int} : ∀ {l : List Fun}, firstE g l = 0 → ∀ f ∈ l, g f = 0
  | [], _, f, hf => by simp at hf
  | x :: xs, h, f, hf => by
    rw [firstE] at h
    split at h
    · rename_i h0
      rcases List.mem_cons.1 hf with rfl | hf
      · exact h0
      · exact firstE_zero h f hf
    · rename_i h0; exact absurd h h0
theorem checkX_first {p : Pro} (h : checkX p = 0) : ∀ f ∈ p.funcs, (funcX p f).2 = 0 := by
  unfold checkX at h
  split at h
  · cases h
  · split at h
    · cases h
    · split at h
      · cases h
      · exact firstE_zero h
theorem vars_same (p : Pro) (fi : Int) : varsR p fi = varsX p fi := by
  unfold varsR varsX
  rw [check_same]
  by_cases h : checkX p = 0
  · rw [if_pos h, if_pos h]
    cases ho : outX p fi with
    | true => rfl
    | false =>
      simp [outX] at ho
      have hlt : fi.toNat < p.funcs.length := by omega
      have hg : p.funcs.getD fi.toNat noF = p.funcs[fi.toNat] := by simp [hlt]
      have hz := checkX_first h _ (List.getElem_mem hlt)
      obtain ⟨h1, h2⟩ := func_same p p.funcs[fi.toNat]
      simp only [Bool.false_eq_true, if_false]
      rw [hg, h2 hz, ← hz]
  · rw [if_neg h, if_neg h]
theorem ruleE_zero (ar : List Arr) (kl : List Par) (k w : Int) (nm : ByteArray) (op : Int) (l : List Int) (h : (ruleE ar kl k w nm op l).2 ≠ 0) : (ruleE ar kl k w nm op l).1 = 0 := by
  unfold ruleE at h ⊢
  repeat' split
  all_goals simp_all
theorem exprX_zero (ar : List Arr) (kl : List Par) (x : Expr) (h : (exprX ar kl x).2 ≠ 0) : exprX ar kl x = (0, (exprX ar kl x).2) := by
  cases x with
  | mk k w b nm op sub =>
    rw [exprX] at h ⊢
    split
    · rename_i h0
      rw [if_pos h0] at h
      rw [← ruleE_zero _ _ _ _ _ _ _ h]
    · rfl
theorem width_same (p : Pro) (fi : Int) (x : Expr) : widthR p fi x = widthX p fi x := by
  unfold widthR widthX
  rw [vars_same]
  obtain ⟨h1, h2⟩ := refX_same p.arrays (varsX p fi).1 x
  rw [h1]
  by_cases h : (exprX p.arrays (varsX p fi).1 x).2 = 0
  · rw [if_pos h, h2 h]
    congr 1; congr 1; congr 1
    rw [← h]
  · rw [if_neg h]
    congr 1; congr 1; congr 1
    exact (exprX_zero _ _ _ h).symm
end Go.Ew
end
section
/- The law's function. -/
open Go Go.Proofs Go.Ew
namespace Go.Ew
theorem grF_params : ∀ (l : List Fun) (n : Nat), grF l n = false → ∀ f ∈ l, f.params.length ≤ 50
  | [], _, _, f, hf => by simp at hf
  | x :: xs, n, h, f, hf => by
    rw [grF] at h
    split at h
    · cases h
    · rcases List.mem_cons.1 hf with rfl | hf
      · omega
      · exact grF_params xs _ h f hf
theorem encE_frz (x : Expr) : List.map (CV.c ∘ frzC ∘ CV.c) (encE x) = List.map CV.c (encE x) := by cases x; rfl
attribute [local simp] Cd_skip Cd_label Cd_seq Ct_false Br_notc Br_true Br_false Cd_cond Cd_block Cd_exit Cd_ret Cd_region Nx_code Nx_block Nx_ops Nx_plan  Nx_fin Nx_fin' Ex_code_exit Ex_code_ret Ex_block_exit Ex_block_ret Ex_round_exit Ex_round_ret Ex_fin_ret Ex_fin_ret' Pn_code Pn_block Pn_ops Pn_plan Pn_round Pn_fin Os_nil Os_cons gK_some Gt_some Gt_nil Gt_cons run_code run_op run_skip O1_eq Pl_done Pl_stop Pl_first Pl_alt cK_some qK_some qK_none qK_busy flatOp_none flatArgs Op.operands eqAgg_l eqAgg_b eqAgg_1 asCall asPan actK_some panOf_some condK_some map_re_c map_kill_c map_keep_c map_frz_c re_cc kill_cc keep_cc frz_cc leCs_refl finA finR idl headOf allB
attribute [local simp] wantedA act quiet opd opg TV.acc imp ofConst St.get St.put St.putG orElse one1 one2 binA unA convA idxA strLen maxA minA TV.flat TV.int TV.bool TV.cells UV.cells CV.els TV.els viewOf PV.nv CV.nv peekC_eq peekB peekG peekH peekP_eq peekPB allP allNv allPs allNv_c allNv_append allP_append allPs_append rowsNv_eq at_ cellAt PV.down PV.elem readAt loadOp bump fieldAddrOp fieldOp indexAddrOp extractOp nilCheckOp lenOp boundOf sliceOp fillCells buildOp pickOp Tab.fld Tab.place tabOf_ti tabOf_mapT tabOf_stc tabOf_arr tabOf_elem tabOf_glob mk busy TV.isPtr TV.isMap keyOK keysOf lookupOp mapOf lookC_some lookC_none findK_nil findK_yes findK_no eqKey_lit eqKey_int mapLen_eq look lay del
attribute [local simp] makeMapOp updateOp insK_some insK_none insC_some insC_none frzMp allocOp boxOp storeOp killOf writeAt moves grabOf takeAt putAt PV.put setCell CV.isView CV.strip CV.stripP strip_cc map_strip_c any_view_c any_view_cc mapM_strip_eq stripL stripL_c mapM_strip_cc frzR_frz frzE_frz stripL_append Ew.newObj newReg rowsOf stripRows movesR buildSliceOp makeSliceOp srcOf baseOf appendOp room killM St.kill Kl.b Kl.h Cap.hit TV.kill UV.kill CV.kill MC.kill capOf capsOf plainCaps mkClo capTV calleeOf panArg resV resT resUs
attribute [local simp] toNew toOld view TV.re UV.re CV.re MC.re Cap.re caps_re leT leU leC leCs leMs leM leTs St.le St.re keysOK  roots_p map_re_p map_re_p' roots_c roots_cc shownOf shownBy pairsOf number deeper addAll MC.live TV.roots CV.roots MC.roots Cap.roots callIs numsOK liveAll start List.range_succ callSt afterMem newPart_nil newPart_cons oldPart_eq oldGo back isKey stays inRange aliveO aliveM MC.isMap aliveR aliveP MC.isObj MC.isReg Cap.alive CV.keep UV.keep TV.keep MC.keep span St.frz frzM TV.frz UV.frz CV.frz MC.frz frzO frzC Cap.frz PV.frz frzE frzR
attribute [local simp] encEs_len encE_len encE_nv encE_take encEs_at
theorem f3 (p : Pro) (fi : Int) (x : Expr) (hw : szA p.arrays + wtFL p.funcs < 10000000) (hx : wtE x < 100000000) (hb : ∀ f ∈ p.funcs, nodesSL f.body < 500000) (hn : nodes x < 1000000) :
    Meets Tryd.prog (tabOf Tryd.prog GG) 3 [vPro p, vI fi, vE x] [] (.ret (vB true)) [] := by
  refine meets_of (tabOf_ok _ _) [] Tryd.f3 65 [.tmp 6] (by kernel_rfl) (by kernel_rfl) rfl rfl rfl rfl false ?_
  simp
  refine Call_imp (Imp.frz 3) ?_
  simp
  refine Call_pure (f4 p hw) ?_
  simp
  refine Br_call (.one (.c (.v (.bool (decide (5000 < byL [x] 0)))))) (by rfl) (by rfl) (fun _ => f5 x hx) (fun h => by simp [h]) ?_
  simp
  refine Br_intro (fun h => ?_) (fun h => ?_)
  · simp
  simp at h
  simp
  have hg : ¬ 20 < p.arrays.length ∧ ¬ 20 < p.funcs.length ∧ grF p.funcs (szA p.arrays) = false := by
    have := h.1; simp [greatX] at this; exact ⟨by omega, by omega, this.2⟩
  have hs : Small p := ⟨by omega, by omega, fun f hf => by have := grF_params _ _ hg.2.2 f hf; omega, hb⟩
  have hv : (varsX p fi).1.length < 1000000 := by
    unfold varsX
    split
    · split
      · simp
      · rename_i hk
        simp [outX] at hk
        have hlt : fi.toNat < p.funcs.length := by omega
        have h1 := funcX_le p (p.funcs.getD fi.toNat noF)
        have h2 := hs.params _ (List.getElem_mem hlt)
        have h3 := hs.bodies _ (List.getElem_mem hlt)
        have h4 := stNs_le p.funcs[fi.toNat].body
        simp [hlt] at h1 ⊢
        omega
    · simp
  refine Call_pure (f6 p fi hs) ?_
  simp
  refine Call_pure (f7 p fi hs) ?_
  rw [vars_same]
  simp
  refine Call_imp (Imp.frz 5) ?_
  simp [encE_len, encE_nv, encE_take, encE_frz]
  refine Call_pure (f8 p fi x hs hn) ?_
  simp [encE_len, encE_nv, encE_take, encE_frz]
  refine Call_pure (f9 p fi x hs hn) ?_
  rw [width_same]
  simp
  refine Call_pure (f10 _ hv) ?_
  simp
end Go.Ew
end
section
/- The arguments of the seat's rows, read. -/
open Go Go.Proofs Go.Ew
namespace Go.Ew
mutual
def bkE : Expr → Nat
  | .mk _ _ _ nm _ sub => nm.size + bkL sub + 7
def bkL : List Expr → Nat
  | [] => 0
  | x :: xs => bkE x + bkL xs
end
theorem bkL_map : ∀ l, bkL l = (l.map bkE).sum
  | [] => rfl
  | x :: xs => by simp [bkL, bkL_map xs]
mutual
def bkS : Stm → Nat
  | .mk _ nm f _ es b e => nm.size + f.size + bkL es + bkSL b + bkSL e + 8
def bkSL : List Stm → Nat
  | [] => 0
  | x :: xs => bkS x + bkSL xs
end
theorem bkSL_map : ∀ l, bkSL l = (l.map bkS).sum
  | [] => rfl
  | x :: xs => by simp [bkSL, bkSL_map xs]
def bkA (a : Arr) : Nat := a.name.size + 4
def bkP (a : Par) : Nat := a.name.size + 3
def bkF (f : Fun) : Nat := f.name.size + (f.params.map bkP).sum + bkSL f.body + 5
def bkPro (p : Pro) : Nat := (p.arrays.map bkA).sum + (p.funcs.map bkF).sum + 3
section
variable {H : Type} {en : TypeId × Value → H} {W : World} {spare : Nat → Bool} {held : Bool} {B : DataW H → Nat}
theorem rdE (hB : Bulk B) : ∀ n, Rd en Tryd.prog W spare held B n 29 encE bkE := by
  intro n
  induction n using Nat.strongRecOn with
  | ind n ih =>
    refine rd_map (fun a : Int × Int × Int × ByteArray × Int × List Expr × Unit => Expr.mk a.1 a.2.1 a.2.2.1 a.2.2.2.1 a.2.2.2.2.1 a.2.2.2.2.2.1)
      (rd_struct (tot := 6) hB Tryd.underlying29 (by kernel_rfl) (fun m hm =>
        rdFs_cons rfl (k := 1) (by kernel_rfl) (rd_int hB Tryd.underlying5) <| rdFs_cons rfl (k := 1) (by kernel_rfl) (rd_int hB Tryd.underlying3) <| rdFs_cons rfl (k := 1) (by kernel_rfl) (rd_int hB Tryd.underlying26) <|
        rdFs_cons rfl (k := 1) (by kernel_rfl) (rd_str hB Tryd.underlying9) <| rdFs_cons rfl (k := 1) (by kernel_rfl) (rd_int hB Tryd.underlying5) <|
        rdFs_cons rfl (k := 1) (by kernel_rfl) (rd_slice hB Tryd.underlying27 (by kernel_rfl) (by decide) encE_len (fun q hq => ih q (by omega))) <| rdFs_nil))
      (fun a => ?_) (fun a => ?_)
    · simp [encE, encEs_map]
    · simp only [bkE, bkL_map]; omega
theorem rdS (hB : Bulk B) : ∀ n, Rd en Tryd.prog W spare held B n 65 encS bkS := by
  intro n
  induction n using Nat.strongRecOn with
  | ind n ih =>
    refine rd_map (fun a : Int × ByteArray × ByteArray × Int × List Expr × List Stm × List Stm × Unit => Stm.mk a.1 a.2.1 a.2.2.1 a.2.2.2.1 a.2.2.2.2.1 a.2.2.2.2.2.1 a.2.2.2.2.2.2.1)
      (rd_struct (tot := 7) hB Tryd.underlying65 (by kernel_rfl) (fun m hm =>
        rdFs_cons rfl (k := 1) (by kernel_rfl) (rd_int hB Tryd.underlying5) <| rdFs_cons rfl (k := 1) (by kernel_rfl) (rd_str hB Tryd.underlying9) <| rdFs_cons rfl (k := 1) (by kernel_rfl) (rd_str hB Tryd.underlying9) <|
        rdFs_cons rfl (k := 1) (by kernel_rfl) (rd_int hB Tryd.underlying3) <|
        rdFs_cons rfl (k := 1) (by kernel_rfl) (rd_slice hB Tryd.underlying27 (by kernel_rfl) (by decide) encE_len (fun q hq => rdE hB q)) <|
        rdFs_cons rfl (k := 1) (by kernel_rfl) (rd_slice hB Tryd.underlying46 (by kernel_rfl) (by decide) encS_len (fun q hq => ih q (by omega))) <|
        rdFs_cons rfl (k := 1) (by kernel_rfl) (rd_slice hB Tryd.underlying46 (by kernel_rfl) (by decide) encS_len (fun q hq => ih q (by omega))) <| rdFs_nil))
      (fun a => ?_) (fun a => ?_)
    · simp [encS, encEs_map, encSs_map]
    · simp only [bkS, bkL_map, bkSL_map]; omega
theorem rdP (hB : Bulk B) (n : Nat) : Rd en Tryd.prog W spare held B n 50 encP bkP :=
  rd_map (fun a : ByteArray × Int × Unit => (⟨a.1, a.2.1⟩ : Par))
    (rd_struct (tot := 2) hB Tryd.underlying50 (by kernel_rfl) (fun m hm =>
      rdFs_cons rfl (k := 1) (by kernel_rfl) (rd_str hB Tryd.underlying9) <| rdFs_cons rfl (k := 1) (by kernel_rfl) (rd_int hB Tryd.underlying3) <| rdFs_nil))
    (fun a => by simp [encP]) (fun a => by simp only [bkP]; omega)
theorem rdA (hB : Bulk B) (n : Nat) : Rd en Tryd.prog W spare held B n 45 encA bkA :=
  rd_map (fun a : ByteArray × Int × Int × Unit => (⟨a.1, a.2.1, a.2.2.1⟩ : Arr))
    (rd_struct (tot := 3) hB Tryd.underlying45 (by kernel_rfl) (fun m hm =>
      rdFs_cons rfl (k := 1) (by kernel_rfl) (rd_str hB Tryd.underlying9) <| rdFs_cons rfl (k := 1) (by kernel_rfl) (rd_int hB Tryd.underlying3) <| rdFs_cons rfl (k := 1) (by kernel_rfl) (rd_int hB Tryd.underlying3) <| rdFs_nil))
    (fun a => by simp [encA]) (fun a => by simp only [bkA]; omega)
theorem rdF (hB : Bulk B) (n : Nat) : Rd en Tryd.prog W spare held B n 48 encF bkF :=
  rd_map (fun a : ByteArray × List Par × Int × List Stm × Unit => (⟨a.1, a.2.1, a.2.2.1, a.2.2.2.1⟩ : Fun))
    (rd_struct (tot := 4) hB Tryd.underlying48 (by kernel_rfl) (fun m hm =>
      rdFs_cons rfl (k := 1) (by kernel_rfl) (rd_str hB Tryd.underlying9) <|
      rdFs_cons rfl (k := 1) (by kernel_rfl) (rd_slice (k := 2) (enc := encP) (cost := bkP) hB Tryd.underlying32 (by kernel_rfl) (by decide) (fun _ => rfl) (fun q hq => rdP hB q)) <|
      rdFs_cons rfl (k := 1) (by kernel_rfl) (rd_int hB Tryd.underlying3) <|
      rdFs_cons rfl (k := 1) (by kernel_rfl) (rd_slice hB Tryd.underlying46 (by kernel_rfl) (by decide) encS_len (fun q hq => rdS hB q)) <| rdFs_nil))
    (fun a => by simp [encF, encPs, encSs_map]) (fun a => by simp only [bkF, bkSL_map]; omega)
def encPro (p : Pro) : List PV := [.sl 3 (encAs p.arrays), .sl 4 (encFs p.funcs)]
theorem rdPro (hB : Bulk B) (n : Nat) : Rd en Tryd.prog W spare held B n 25 encPro bkPro :=
  rd_map (fun a : List Arr × List Fun × Unit => (⟨a.1, a.2.1⟩ : Pro))
    (rd_struct (tot := 2) hB Tryd.underlying25 (by kernel_rfl) (fun m hm =>
      rdFs_cons rfl (k := 1) (by kernel_rfl) (rd_slice (k := 3) (enc := encA) (cost := bkA) hB Tryd.underlying22 (by kernel_rfl) (by decide) (fun _ => rfl) (fun q hq => rdA hB q)) <|
      rdFs_cons rfl (k := 1) (by kernel_rfl) (rd_slice (k := 4) (enc := encF) (cost := bkF) hB Tryd.underlying23 (by kernel_rfl) (by decide) (fun _ => rfl) (fun q hq => rdF hB q)) <| rdFs_nil))
    (fun a => by simp [encPro, encAs, encFs]) (fun a => by simp only [bkPro]; omega)
end
mutual
theorem bkE_wt : ∀ x : Expr, wtE x ≤ bkE x ∧ 7 * nodes x ≤ bkE x
  | .mk _ _ _ nm _ sub => by have := bkL_wt sub; simp only [wtE, bkE, nodes]; omega
theorem bkL_wt : ∀ l : List Expr, wtL l ≤ bkL l ∧ 7 * nodesL l ≤ bkL l
  | [] => by simp [wtL, bkL, nodesL]
  | x :: xs => by have h1 := bkE_wt x; have h2 := bkL_wt xs; simp only [wtL, bkL, nodesL]; omega
end
mutual
theorem bkS_wt : ∀ x : Stm, wtS x ≤ bkS x ∧ 7 * nodesS x ≤ bkS x
  | .mk _ nm f _ es b e => by have h1 := bkL_wt es; have h2 := bkSL_wt b; have h3 := bkSL_wt e; simp only [wtS, bkS, nodesS]; omega
theorem bkSL_wt : ∀ l : List Stm, wtSL l ≤ bkSL l ∧ 7 * nodesSL l ≤ bkSL l
  | [] => by simp [wtSL, bkSL, nodesSL]
  | x :: xs => by have h1 := bkS_wt x; have h2 := bkSL_wt xs; simp only [wtSL, bkSL, nodesSL]; omega
end
theorem szA_bk : ∀ l : List Arr, szA l ≤ (l.map bkA).sum
  | [] => by simp [szA]
  | a :: r => by have := szA_bk r; simp only [szA, List.map_cons, List.sum_cons, bkA]; omega
theorem szP_bk : ∀ l : List Par, szP l + l.length ≤ (l.map bkP).sum
  | [] => by simp [szP]
  | a :: r => by have := szP_bk r; simp only [szP, List.map_cons, List.sum_cons, bkP, List.length_cons]; omega
theorem wtFL_bk : ∀ l : List Fun, wtFL l ≤ (l.map bkF).sum
  | [] => by simp [wtFL]
  | f :: r => by have h1 := wtFL_bk r; have h2 := szP_bk f.params; have h3 := bkSL_wt f.body; simp only [wtFL, wtF, List.map_cons, List.sum_cons, bkF]; omega
theorem bodies_bk {l : List Fun} {f : Fun} (h : f ∈ l) : 7 * nodesSL f.body ≤ (l.map bkF).sum := by
  induction l with
  | nil => simp at h
  | cons g r ih =>
    simp only [List.map_cons, List.sum_cons]
    rcases List.mem_cons.1 h with rfl | h
    · have := bkSL_wt f.body; simp only [bkF]; omega
    · have := ih h; omega
end Go.Ew
end
