/- What functions of the seat do: searches over slices, how large a thing is. -/
import Derived.Test.YtlkoaemljkdioaaDoorDB
section
/- Functions of the seat: numbers that fit; signs; all and contains over arrays. -/
open Go Go.Proofs Go.Ew
namespace Go.Ew
attribute [local simp] Cd_skip Cd_label Cd_seq Ct_false Br_notc Br_true Br_false Cd_cond Cd_block Cd_exit Cd_ret Cd_region Nx_code Nx_block Nx_ops Nx_plan  Nx_fin Nx_fin' Ex_code_exit Ex_code_ret Ex_block_exit Ex_block_ret Ex_round_exit Ex_round_ret Ex_fin_ret Ex_fin_ret' Pn_code Pn_block Pn_ops Pn_plan Pn_round Pn_fin Os_nil Os_cons gK_some Gt_some Gt_nil Gt_cons run_code run_op run_skip O1_eq Pl_done Pl_stop Pl_first Pl_alt cK_some qK_some asCall asPan actK_some panOf_some condK_some map_re_c map_kill_c map_keep_c map_frz_c re_cc kill_cc keep_cc frz_cc leCs_refl finA finR idl headOf allB
attribute [local simp] wantedA act quiet opd opg TV.acc imp ofConst St.get St.put St.putG orElse one1 one2 binA unA convA idxA strLen maxA minA TV.flat TV.int TV.bool TV.cells UV.cells CV.els TV.els viewOf PV.nv CV.nv peekC_eq peekB peekG peekH peekP_eq peekPB allP allNv allPs allNv_c allNv_append allP_append allPs_append rowsNv_eq at_ cellAt PV.down PV.elem readAt loadOp bump fieldAddrOp fieldOp indexAddrOp extractOp nilCheckOp lenOp boundOf sliceOp fillCells buildOp pickOp Tab.fld Tab.place tabOf_ti tabOf_mapT tabOf_stc tabOf_arr tabOf_elem tabOf_glob mk busy TV.isPtr TV.isMap keyOK keysOf lookupOp mapOf lookC_some lookC_none findK_nil findK_yes findK_no eqKey_lit eqKey_int mapLen_eq look lay del
attribute [local simp] makeMapOp updateOp insK_some insK_none insC_some insC_none frzMp allocOp boxOp storeOp killOf writeAt moves grabOf takeAt putAt PV.put setCell CV.isView CV.strip CV.stripP strip_cc map_strip_c any_view_c any_view_cc mapM_strip_eq stripL stripL_c mapM_strip_cc frzR_frz frzE_frz stripL_append Ew.newObj newReg rowsOf stripRows movesR buildSliceOp makeSliceOp srcOf baseOf appendOp room killM St.kill Kl.b Kl.h Cap.hit TV.kill UV.kill CV.kill MC.kill capOf capsOf plainCaps mkClo capTV calleeOf panArg resV resT resUs
attribute [local simp] toNew toOld view TV.re UV.re CV.re MC.re Cap.re caps_re leT leU leC leCs leMs leM leTs St.le St.re keysOK  roots_p map_re_p map_re_p' roots_c roots_cc shownOf shownBy pairsOf number deeper addAll MC.live TV.roots CV.roots MC.roots Cap.roots callIs numsOK liveAll start List.range_succ callSt afterMem newPart_nil newPart_cons oldPart_eq oldGo back isKey stays inRange aliveO aliveM MC.isMap aliveR aliveP MC.isObj MC.isReg Cap.alive CV.keep UV.keep TV.keep MC.keep span St.frz frzM TV.frz UV.frz CV.frz MC.frz frzO frzC Cap.frz PV.frz frzE frzR
attribute [local simp] encAs_len encAs_at encFs_len encFs_at encPs_len encPs_at encA encF encP encEs_len encE_len encE_nv encE_take encEs_at encSs_len encS_len encS_nv encS_take encSs_at
theorem ixP_any {α : Type} (f : α → Bool) : ∀ (l : List α) (i : Nat), decide (0 ≤ ixP f l i) = l.any f
  | [], i => by simp [ixP]
  | x :: xs, i => by
    have := ixP_any f xs (i + 1)
    cases h : f x
    · simp only [ixP, h, Bool.false_eq_true, if_false, this]; simp [h]
    · simp [ixP, h]
theorem f51 (l : List Arr) (g : FuncId) (cap : List PV) (f : Arr → Bool) (hl : l.length < 1000000) (hg : ∀ a ∈ l, Meets Tryd.prog (tabOf Tryd.prog GG) g (vArr a :: cap.map .p) [] (.ret (vB (f a))) []) :
    Meets Tryd.prog (tabOf Tryd.prog GG) 51 [.p (.sl 3 (encAs l)), .p (.clo g cap)] [] (.ret (vB (l.any f))) [] := by
  refine meets_of (tabOf_ok _ _) [] Tryd.f51 9 [.tmp 4] (by kernel_rfl) (by kernel_rfl) rfl rfl rfl rfl false ?_
  simp
  refine Call_pure (f71 l g cap f hl hg) ?_
  simp [← ixP_any f l 0]
theorem f52 (a : Arr) (g : FuncId) (cap : List PV) (f : Arr → Bool) (hg : Meets Tryd.prog (tabOf Tryd.prog GG) g (vArr a :: cap.map .p) [] (.ret (vB (f a))) []) :
    Meets Tryd.prog (tabOf Tryd.prog GG) 52 [vArr a, .p (.ref [.clo g cap])] [] (.ret (vB (!f a))) [] := by
  refine meets_of (tabOf_ok _ _) [] Tryd.f52 8 [.tmp 3] (by kernel_rfl) (by kernel_rfl) rfl rfl rfl rfl false ?_
  simp
  refine Call_pure (r := vB (f a)) hg ?_
  simp
theorem f24 (l : List Arr) (g : FuncId) (cap : List PV) (f : Arr → Bool) (hl : l.length < 1000000) (hg : ∀ a ∈ l, Meets Tryd.prog (tabOf Tryd.prog GG) g (vArr a :: cap.map .p) [] (.ret (vB (f a))) []) :
    Meets Tryd.prog (tabOf Tryd.prog GG) 24 [.p (.sl 3 (encAs l)), .p (.clo g cap)] [] (.ret (vB (l.all f))) [] := by
  refine meets_of (tabOf_ok _ _) [] Tryd.f24 9 [.tmp 4] (by kernel_rfl) (by kernel_rfl) rfl rfl rfl rfl false ?_
  simp
  refine Call_imp (Imp.frz 3) ?_
  simp
  refine Call_pure (f51 l 52 [.ref [.clo g cap]] (fun a => !f a) hl (fun a ha => f52 a g cap f (hg a ha))) ?_
  simp
  exact List.all_eq_not_any_not
theorem f53 (l : List Fun) (g : FuncId) (cap : List PV) (f : Fun → Bool) (hl : l.length < 1000000) (hg : ∀ a ∈ l, Meets Tryd.prog (tabOf Tryd.prog GG) g (vFun a :: cap.map .p) [] (.ret (vB (f a))) []) :
    Meets Tryd.prog (tabOf Tryd.prog GG) 53 [.p (.sl 4 (encFs l)), .p (.clo g cap)] [] (.ret (vB (l.any f))) [] := by
  refine meets_of (tabOf_ok _ _) [] Tryd.f53 9 [.tmp 4] (by kernel_rfl) (by kernel_rfl) rfl rfl rfl rfl false ?_
  simp
  refine Call_pure (f75 l g cap f hl hg) ?_
  simp [← ixP_any f l 0]
theorem f54 (a : Fun) (g : FuncId) (cap : List PV) (f : Fun → Bool) (hg : Meets Tryd.prog (tabOf Tryd.prog GG) g (vFun a :: cap.map .p) [] (.ret (vB (f a))) []) :
    Meets Tryd.prog (tabOf Tryd.prog GG) 54 [vFun a, .p (.ref [.clo g cap])] [] (.ret (vB (!f a))) [] := by
  refine meets_of (tabOf_ok _ _) [] Tryd.f54 8 [.tmp 3] (by kernel_rfl) (by kernel_rfl) rfl rfl rfl rfl false ?_
  simp
  refine Call_pure (r := vB (f a)) hg ?_
  simp
theorem f26 (l : List Fun) (g : FuncId) (cap : List PV) (f : Fun → Bool) (hl : l.length < 1000000) (hg : ∀ a ∈ l, Meets Tryd.prog (tabOf Tryd.prog GG) g (vFun a :: cap.map .p) [] (.ret (vB (f a))) []) :
    Meets Tryd.prog (tabOf Tryd.prog GG) 26 [.p (.sl 4 (encFs l)), .p (.clo g cap)] [] (.ret (vB (l.all f))) [] := by
  refine meets_of (tabOf_ok _ _) [] Tryd.f26 9 [.tmp 4] (by kernel_rfl) (by kernel_rfl) rfl rfl rfl rfl false ?_
  simp
  refine Call_imp (Imp.frz 3) ?_
  simp
  refine Call_pure (f53 l 54 [.ref [.clo g cap]] (fun a => !f a) hl (fun a ha => f54 a g cap f (hg a ha))) ?_
  simp
  exact List.all_eq_not_any_not
theorem f85 (l : List Expr) (g : FuncId) (cap : List PV) (f : Expr → Bool) (hl : l.length < 1000000) (hg : ∀ a ∈ l, Meets Tryd.prog (tabOf Tryd.prog GG) g (vE a :: cap.map .p) [] (.ret (vB (f a))) []) :
    Meets Tryd.prog (tabOf Tryd.prog GG) 85 [.p (.sl 6 (encEs l)), .p (.clo g cap)] [] (.ret (vI (ixP f l 0))) [] := by
  refine meets_of (tabOf_ok _ _) [] Tryd.f85 19 [.tmp 4] (by kernel_rfl) (by kernel_rfl) rfl rfl rfl rfl false ?_
  simp
  refine Cd_for (fun i : Nat => ⟨[.p (.sl 6 (encEs l)), .p (.clo g cap), .bot, .bot, .bot, .bot, .bot, vI l.length, vI i, .bot, .bot, .bot, .bot, .bot, .bot, .bot, .bot, .bot, .bot], []⟩)
    (fun i => i ≤ l.length ∧ ixP f (l.drop i) i = ixP f l 0) (fun i => l.length - i) 0 ⟨by simp, by simp⟩ (Imp.le (by simp)) ?_
  rintro i ⟨hi, hw⟩
  simp
  refine Br_intro (fun h => ?_) (fun h => ?_)
  · simp at h
    simp [h]
    have hd : l.drop i = l[i] :: l.drop (i + 1) := List.drop_eq_getElem_cons h
    rw [hd, ixP] at hw
    have h2 : IntKind.i64.wrap ((i : Int) + 1) = ((i + 1 : Nat) : Int) := wrap64 (by omega) ⟨by omega, by omega⟩
    have hm := hg l[i] (List.getElem_mem h)
    refine Call_pure (r := vB (f l[i])) hm ?_
    simp
    refine Br_intro (fun h' => ?_) (fun h' => ?_)
    · rw [if_pos h'] at hw
      simp [h', hw]
    · rw [if_neg (by simp [h'])] at hw
      simp [h', h2]
      exact Nx_for (i + 1) ⟨by omega, hw⟩ (by omega) (Imp.le (by simp))
  · simp at h
    have : l.drop i = [] := by simp; omega
    rw [this, ixP] at hw
    simp [h, ← hw]
theorem f69 (l : List Expr) (g : FuncId) (cap : List PV) (f : Expr → Bool) (hl : l.length < 1000000) (hg : ∀ a ∈ l, Meets Tryd.prog (tabOf Tryd.prog GG) g (vE a :: cap.map .p) [] (.ret (vB (f a))) []) :
    Meets Tryd.prog (tabOf Tryd.prog GG) 69 [.p (.sl 6 (encEs l)), .p (.clo g cap)] [] (.ret (vB (l.any f))) [] := by
  refine meets_of (tabOf_ok _ _) [] Tryd.f69 9 [.tmp 4] (by kernel_rfl) (by kernel_rfl) rfl rfl rfl rfl false ?_
  simp
  refine Call_pure (f85 l g cap f hl hg) ?_
  simp [← ixP_any f l 0]
theorem f70 (a : Expr) (g : FuncId) (cap : List PV) (f : Expr → Bool) (hg : Meets Tryd.prog (tabOf Tryd.prog GG) g (vE a :: cap.map .p) [] (.ret (vB (f a))) []) :
    Meets Tryd.prog (tabOf Tryd.prog GG) 70 [vE a, .p (.ref [.clo g cap])] [] (.ret (vB (!f a))) [] := by
  refine meets_of (tabOf_ok _ _) [] Tryd.f70 8 [.tmp 3] (by kernel_rfl) (by kernel_rfl) rfl rfl rfl rfl false ?_
  simp
  refine Call_pure (r := vB (f a)) hg ?_
  simp
theorem f38 (l : List Expr) (g : FuncId) (cap : List PV) (f : Expr → Bool) (hl : l.length < 1000000) (hg : ∀ a ∈ l, Meets Tryd.prog (tabOf Tryd.prog GG) g (vE a :: cap.map .p) [] (.ret (vB (f a))) []) :
    Meets Tryd.prog (tabOf Tryd.prog GG) 38 [.p (.sl 6 (encEs l)), .p (.clo g cap)] [] (.ret (vB (l.all f))) [] := by
  refine meets_of (tabOf_ok _ _) [] Tryd.f38 9 [.tmp 4] (by kernel_rfl) (by kernel_rfl) rfl rfl rfl rfl false ?_
  simp
  refine Call_imp (Imp.frz 3) ?_
  simp
  refine Call_pure (f69 l 70 [.ref [.clo g cap]] (fun a => !f a) hl (fun a ha => f70 a g cap f (hg a ha))) ?_
  simp
  exact List.all_eq_not_any_not
theorem f86 (l : List Par) (g : FuncId) (cap : List PV) (f : Par → Bool) (hl : l.length < 1000000) (hg : ∀ a ∈ l, Meets Tryd.prog (tabOf Tryd.prog GG) g (vPar a :: cap.map .p) [] (.ret (vB (f a))) []) :
    Meets Tryd.prog (tabOf Tryd.prog GG) 86 [.p (.sl 2 (encPs l)), .p (.clo g cap)] [] (.ret (vI (ixP f l 0))) [] := by
  refine meets_of (tabOf_ok _ _) [] Tryd.f86 19 [.tmp 4] (by kernel_rfl) (by kernel_rfl) rfl rfl rfl rfl false ?_
  simp
  refine Cd_for (fun i : Nat => ⟨[.p (.sl 2 (encPs l)), .p (.clo g cap), .bot, .bot, .bot, .bot, .bot, vI l.length, vI i, .bot, .bot, .bot, .bot, .bot, .bot, .bot, .bot, .bot, .bot], []⟩)
    (fun i => i ≤ l.length ∧ ixP f (l.drop i) i = ixP f l 0) (fun i => l.length - i) 0 ⟨by simp, by simp⟩ (Imp.le (by simp)) ?_
  rintro i ⟨hi, hw⟩
  simp
  refine Br_intro (fun h => ?_) (fun h => ?_)
  · simp at h
    simp [h]
    have hd : l.drop i = l[i] :: l.drop (i + 1) := List.drop_eq_getElem_cons h
    rw [hd, ixP] at hw
    have h2 : IntKind.i64.wrap ((i : Int) + 1) = ((i + 1 : Nat) : Int) := wrap64 (by omega) ⟨by omega, by omega⟩
    have hm := hg l[i] (List.getElem_mem h)
    refine Call_pure (r := vB (f l[i])) hm ?_
    simp
    refine Br_intro (fun h' => ?_) (fun h' => ?_)
    · rw [if_pos h'] at hw
      simp [h', hw]
    · rw [if_neg (by simp [h'])] at hw
      simp [h', h2]
      exact Nx_for (i + 1) ⟨by omega, hw⟩ (by omega) (Imp.le (by simp))
  · simp at h
    have : l.drop i = [] := by simp; omega
    rw [this, ixP] at hw
    simp [h, ← hw]
theorem f76 (l : List Par) (g : FuncId) (cap : List PV) (f : Par → Bool) (hl : l.length < 1000000) (hg : ∀ a ∈ l, Meets Tryd.prog (tabOf Tryd.prog GG) g (vPar a :: cap.map .p) [] (.ret (vB (f a))) []) :
    Meets Tryd.prog (tabOf Tryd.prog GG) 76 [.p (.sl 2 (encPs l)), .p (.clo g cap)] [] (.ret (vB (l.any f))) [] := by
  refine meets_of (tabOf_ok _ _) [] Tryd.f76 9 [.tmp 4] (by kernel_rfl) (by kernel_rfl) rfl rfl rfl rfl false ?_
  simp
  refine Call_pure (f86 l g cap f hl hg) ?_
  simp [← ixP_any f l 0]
theorem f77 (a : Par) (g : FuncId) (cap : List PV) (f : Par → Bool) (hg : Meets Tryd.prog (tabOf Tryd.prog GG) g (vPar a :: cap.map .p) [] (.ret (vB (f a))) []) :
    Meets Tryd.prog (tabOf Tryd.prog GG) 77 [vPar a, .p (.ref [.clo g cap])] [] (.ret (vB (!f a))) [] := by
  refine meets_of (tabOf_ok _ _) [] Tryd.f77 8 [.tmp 3] (by kernel_rfl) (by kernel_rfl) rfl rfl rfl rfl false ?_
  simp
  refine Call_pure (r := vB (f a)) hg ?_
  simp
theorem f55 (l : List Par) (g : FuncId) (cap : List PV) (f : Par → Bool) (hl : l.length < 1000000) (hg : ∀ a ∈ l, Meets Tryd.prog (tabOf Tryd.prog GG) g (vPar a :: cap.map .p) [] (.ret (vB (f a))) []) :
    Meets Tryd.prog (tabOf Tryd.prog GG) 55 [.p (.sl 2 (encPs l)), .p (.clo g cap)] [] (.ret (vB (l.all f))) [] := by
  refine meets_of (tabOf_ok _ _) [] Tryd.f55 9 [.tmp 4] (by kernel_rfl) (by kernel_rfl) rfl rfl rfl rfl false ?_
  simp
  refine Call_imp (Imp.frz 3) ?_
  simp
  refine Call_pure (f76 l 77 [.ref [.clo g cap]] (fun a => !f a) hl (fun a ha => f77 a g cap f (hg a ha))) ?_
  simp
  exact List.all_eq_not_any_not
theorem f87 (l : List Stm) (g : FuncId) (cap : List PV) (f : Stm → Bool) (hl : l.length < 1000000) (hg : ∀ a ∈ l, Meets Tryd.prog (tabOf Tryd.prog GG) g (vS a :: cap.map .p) [] (.ret (vB (f a))) []) :
    Meets Tryd.prog (tabOf Tryd.prog GG) 87 [.p (.sl 7 (encSs l)), .p (.clo g cap)] [] (.ret (vI (ixP f l 0))) [] := by
  refine meets_of (tabOf_ok _ _) [] Tryd.f87 19 [.tmp 4] (by kernel_rfl) (by kernel_rfl) rfl rfl rfl rfl false ?_
  simp
  refine Cd_for (fun i : Nat => ⟨[.p (.sl 7 (encSs l)), .p (.clo g cap), .bot, .bot, .bot, .bot, .bot, vI l.length, vI i, .bot, .bot, .bot, .bot, .bot, .bot, .bot, .bot, .bot, .bot], []⟩)
    (fun i => i ≤ l.length ∧ ixP f (l.drop i) i = ixP f l 0) (fun i => l.length - i) 0 ⟨by simp, by simp⟩ (Imp.le (by simp)) ?_
  rintro i ⟨hi, hw⟩
  simp
  refine Br_intro (fun h => ?_) (fun h => ?_)
  · simp at h
    simp [h]
    have hd : l.drop i = l[i] :: l.drop (i + 1) := List.drop_eq_getElem_cons h
    rw [hd, ixP] at hw
    have h2 : IntKind.i64.wrap ((i : Int) + 1) = ((i + 1 : Nat) : Int) := wrap64 (by omega) ⟨by omega, by omega⟩
    have hm := hg l[i] (List.getElem_mem h)
    refine Call_pure (r := vB (f l[i])) hm ?_
    simp
    refine Br_intro (fun h' => ?_) (fun h' => ?_)
    · rw [if_pos h'] at hw
      simp [h', hw]
    · rw [if_neg (by simp [h'])] at hw
      simp [h', h2]
      exact Nx_for (i + 1) ⟨by omega, hw⟩ (by omega) (Imp.le (by simp))
  · simp at h
    have : l.drop i = [] := by simp; omega
    rw [this, ixP] at hw
    simp [h, ← hw]
theorem f78 (l : List Stm) (g : FuncId) (cap : List PV) (f : Stm → Bool) (hl : l.length < 1000000) (hg : ∀ a ∈ l, Meets Tryd.prog (tabOf Tryd.prog GG) g (vS a :: cap.map .p) [] (.ret (vB (f a))) []) :
    Meets Tryd.prog (tabOf Tryd.prog GG) 78 [.p (.sl 7 (encSs l)), .p (.clo g cap)] [] (.ret (vB (l.any f))) [] := by
  refine meets_of (tabOf_ok _ _) [] Tryd.f78 9 [.tmp 4] (by kernel_rfl) (by kernel_rfl) rfl rfl rfl rfl false ?_
  simp
  refine Call_pure (f87 l g cap f hl hg) ?_
  simp [← ixP_any f l 0]
theorem f79 (a : Stm) (g : FuncId) (cap : List PV) (f : Stm → Bool) (hg : Meets Tryd.prog (tabOf Tryd.prog GG) g (vS a :: cap.map .p) [] (.ret (vB (f a))) []) :
    Meets Tryd.prog (tabOf Tryd.prog GG) 79 [vS a, .p (.ref [.clo g cap])] [] (.ret (vB (!f a))) [] := by
  refine meets_of (tabOf_ok _ _) [] Tryd.f79 8 [.tmp 3] (by kernel_rfl) (by kernel_rfl) rfl rfl rfl rfl false ?_
  simp
  refine Call_pure (r := vB (f a)) hg ?_
  simp
theorem f57 (l : List Stm) (g : FuncId) (cap : List PV) (f : Stm → Bool) (hl : l.length < 1000000) (hg : ∀ a ∈ l, Meets Tryd.prog (tabOf Tryd.prog GG) g (vS a :: cap.map .p) [] (.ret (vB (f a))) []) :
    Meets Tryd.prog (tabOf Tryd.prog GG) 57 [.p (.sl 7 (encSs l)), .p (.clo g cap)] [] (.ret (vB (l.all f))) [] := by
  refine meets_of (tabOf_ok _ _) [] Tryd.f57 9 [.tmp 4] (by kernel_rfl) (by kernel_rfl) rfl rfl rfl rfl false ?_
  simp
  refine Call_imp (Imp.frz 3) ?_
  simp
  refine Call_pure (f78 l 79 [.ref [.clo g cap]] (fun a => !f a) hl (fun a ha => f79 a g cap f (hg a ha))) ?_
  simp
  exact List.all_eq_not_any_not
end Go.Ew
end
section
/- Functions of the seat: numbers that fit, signs. -/
open Go Go.Proofs Go.Ew
namespace Go.Ew
attribute [local simp] Cd_skip Cd_label Cd_seq Ct_false Br_notc Br_true Br_false Cd_cond Cd_block Cd_exit Cd_ret Cd_region Nx_code Nx_block Nx_ops Nx_plan  Nx_fin Nx_fin' Ex_code_exit Ex_code_ret Ex_block_exit Ex_block_ret Ex_round_exit Ex_round_ret Ex_fin_ret Ex_fin_ret' Pn_code Pn_block Pn_ops Pn_plan Pn_round Pn_fin Os_nil Os_cons gK_some Gt_some Gt_nil Gt_cons run_code run_op run_skip O1_eq Pl_done Pl_stop Pl_first Pl_alt cK_some qK_some asCall asPan actK_some panOf_some condK_some map_re_c map_kill_c map_keep_c map_frz_c re_cc kill_cc keep_cc frz_cc leCs_refl finA finR idl headOf allB
attribute [local simp] wantedA act quiet opd opg TV.acc imp ofConst St.get St.put St.putG orElse one1 one2 binA unA convA idxA strLen maxA minA TV.flat TV.int TV.bool TV.cells UV.cells CV.els TV.els viewOf PV.nv CV.nv peekC_eq peekB peekG peekH peekP_eq peekPB allP allNv allPs allNv_c allNv_append allP_append allPs_append rowsNv_eq at_ cellAt PV.down PV.elem readAt loadOp bump fieldAddrOp fieldOp indexAddrOp extractOp nilCheckOp lenOp boundOf sliceOp fillCells buildOp pickOp Tab.fld Tab.place tabOf_ti tabOf_mapT tabOf_stc tabOf_arr tabOf_elem tabOf_glob mk busy TV.isPtr TV.isMap keyOK keysOf lookupOp mapOf lookC_some lookC_none findK_nil findK_yes findK_no eqKey_lit eqKey_int mapLen_eq look lay del
attribute [local simp] makeMapOp updateOp insK_some insK_none insC_some insC_none frzMp allocOp boxOp storeOp killOf writeAt moves grabOf takeAt putAt PV.put setCell CV.isView CV.strip CV.stripP strip_cc map_strip_c any_view_c any_view_cc mapM_strip_eq stripL stripL_c mapM_strip_cc frzR_frz frzE_frz stripL_append Ew.newObj newReg rowsOf stripRows movesR buildSliceOp makeSliceOp srcOf baseOf appendOp room killM St.kill Kl.b Kl.h Cap.hit TV.kill UV.kill CV.kill MC.kill capOf capsOf plainCaps mkClo capTV calleeOf panArg resV resT resUs
attribute [local simp] toNew toOld view TV.re UV.re CV.re MC.re Cap.re caps_re leT leU leC leCs leMs leM leTs St.le St.re keysOK  roots_p map_re_p map_re_p' roots_c roots_cc shownOf shownBy pairsOf number deeper addAll MC.live TV.roots CV.roots MC.roots Cap.roots callIs numsOK liveAll start List.range_succ callSt afterMem newPart_nil newPart_cons oldPart_eq oldGo back isKey stays inRange aliveO aliveM MC.isMap aliveR aliveP MC.isObj MC.isReg Cap.alive CV.keep UV.keep TV.keep MC.keep span St.frz frzM TV.frz UV.frz CV.frz MC.frz frzO frzC Cap.frz PV.frz frzE frzR
def maskX (w : Int) : Int := if wideX w then Int.fdiv 18446744073709551615 (2 ^ (64 - w).toNat) else 0
theorem f65 (w : Int) : Meets Tryd.prog (tabOf Tryd.prog GG) 65 [vI w] [] (.ret (.val (.int .u64 (maskX w)))) [] := by
  refine meets_of (tabOf_ok _ _) [] Tryd.f65 9 [.tmp 2] (by kernel_rfl) (by kernel_rfl) rfl rfl rfl rfl false ?_
  simp
  refine Call_pure (f64 w) ?_
  simp
  refine Br_intro (fun h => ?_) (fun h => ?_)
  · have hw : 1 ≤ w ∧ w ≤ 64 := by simpa [wideX] using h
    have h1 : IntKind.i64.wrap (64 - w) = 64 - w := wrap64 rfl ⟨by omega, by omega⟩
    have h2 : w ≤ 64 := hw.2
    have h3 : min (64 - w).toNat 64 = (64 - w).toNat := by omega
    simp [h, h1, h2, IntKind.bits, h3, maskX]
  · simp [h, maskX]
def okX (w b : Int) : Bool := wideX w && decide (b ≤ maskX w)
theorem f36 (w b : Int) : Meets Tryd.prog (tabOf Tryd.prog GG) 36 [vI w, .val (.int .u64 b)] [] (.ret (vB (okX w b))) [] := by
  refine meets_of (tabOf_ok _ _) [] Tryd.f36 13 [.tmp 4] (by kernel_rfl) (by kernel_rfl) rfl rfl rfl rfl false ?_
  simp
  refine Call_pure (f64 w) ?_
  simp
  refine Br_call (.one (.c (.v (.int .u64 (maskX w))))) (by rfl) (by rfl) (fun _ => f65 w) (fun h => by simp [h]) ?_
  simp [okX]
def signX (k : Int) : ByteArray :=
  if k = 5 then ⟨#[43]⟩ else if k = 6 then ⟨#[45]⟩ else if k = 7 then ⟨#[42]⟩ else if k = 8 then ⟨#[38]⟩ else if k = 9 then ⟨#[124]⟩ else if k = 10 then ⟨#[94]⟩ else if k = 11 then ⟨#[60, 60]⟩ else if k = 12 then ⟨#[62, 62]⟩
  else if k = 13 then ⟨#[126, 62]⟩ else if k = 14 then ⟨#[47]⟩ else if k = 15 then ⟨#[37]⟩ else if k = 16 then ⟨#[61, 61]⟩ else if k = 17 then ⟨#[60]⟩ else if k = 18 then ⟨#[60, 126]⟩ else ⟨#[]⟩
theorem f46 (k : Int) : Meets Tryd.prog (tabOf Tryd.prog GG) 46 [.val (.int .u8 k)] [] (.ret (vT (signX k))) [] := by
  refine meets_of (tabOf_ok _ _) [] Tryd.f46 32 [.tmp 2] (by kernel_rfl) (by kernel_rfl) rfl rfl rfl rfl false ?_
  simp
  repeat' (refine Br_intro (fun h => ?_) (fun h => ?_) <;> simp [h])
  all_goals (simp only [decide_eq_true_eq, decide_eq_false_iff_not] at *; simp [signX, *])
end Go.Ew
end
section
/- Functions of the seat: how large a thing is. -/
open Go Go.Proofs Go.Ew
namespace Go.Ew
mutual
def wtE : Expr → Nat
  | .mk _ _ _ nm _ sub => 1 + nm.size + wtL sub
def wtL : List Expr → Nat
  | [] => 0
  | x :: xs => wtE x + wtL xs
end
mutual
/-- What 'bytes' adds for one; and from a sum on. -/
def byE : Expr → Nat
  | .mk _ _ _ nm _ sub => 1 + nm.size + byL sub 0
def byL : List Expr → Nat → Nat
  | [], acc => acc
  | x :: xs, acc => if acc < 100000 then byL xs (acc + byE x) else acc
end
theorem byL_end (l : List Expr) (acc : Nat) (h : ¬ acc < 100000) : byL l acc = acc := by
  cases l with
  | nil => simp [byL]
  | cons x xs => simp [byL, h]
mutual
theorem byE_le : ∀ x : Expr, byE x ≤ wtE x
  | .mk _ _ _ nm _ sub => by have := byL_le sub 0; simp only [byE, wtE]; omega
theorem byL_le : ∀ (l : List Expr) (acc : Nat), byL l acc ≤ acc + wtL l
  | [], acc => by simp [byL, wtL]
  | x :: xs, acc => by
    have h1 := byE_le x
    have h2 := byL_le xs (acc + byE x)
    simp only [byL, wtL]
    split <;> omega
end
def Expr.name : Expr → ByteArray
  | .mk _ _ _ nm _ _ => nm
def Expr.sub : Expr → List Expr
  | .mk _ _ _ _ _ sub => sub
theorem wtL_len : ∀ (l : List Expr), l.length ≤ wtL l
  | [] => by simp [wtL]
  | x :: xs => by have := wtL_len xs; cases x; simp [wtL, wtE]; omega
theorem wt_le : ∀ {l : List Expr} {x : Expr}, x ∈ l → wtE x ≤ wtL l
  | y :: ys, x, h => by
    rcases List.mem_cons.1 h with rfl | h
    · simp [wtL]
    · have := wt_le h; simp [wtL]; omega
attribute [local simp] Cd_skip Cd_label Cd_seq Ct_false Br_notc Br_true Br_false Cd_cond Cd_block Cd_exit Cd_ret Cd_region Nx_code Nx_block Nx_ops Nx_plan  Nx_fin Nx_fin' Ex_code_exit Ex_code_ret Ex_block_exit Ex_block_ret Ex_round_exit Ex_round_ret Ex_fin_ret Ex_fin_ret' Pn_code Pn_block Pn_ops Pn_plan Pn_round Pn_fin Os_nil Os_cons gK_some Gt_some Gt_nil Gt_cons run_code run_op run_skip O1_eq Pl_done Pl_stop Pl_first Pl_alt cK_some qK_some asCall asPan actK_some panOf_some condK_some map_re_c map_kill_c map_keep_c map_frz_c re_cc kill_cc keep_cc frz_cc leCs_refl finA finR idl headOf allB
attribute [local simp] wantedA act quiet opd opg TV.acc imp ofConst St.get St.put St.putG orElse one1 one2 binA unA convA idxA strLen maxA minA TV.flat TV.int TV.bool TV.cells UV.cells CV.els TV.els viewOf PV.nv CV.nv peekC_eq peekB peekG peekH peekP_eq peekPB allP allNv allPs allNv_c allNv_append allP_append allPs_append rowsNv_eq at_ cellAt PV.down PV.elem readAt loadOp bump fieldAddrOp fieldOp indexAddrOp extractOp nilCheckOp lenOp boundOf sliceOp fillCells buildOp pickOp Tab.fld Tab.place tabOf_ti tabOf_mapT tabOf_stc tabOf_arr tabOf_elem tabOf_glob mk busy TV.isPtr TV.isMap keyOK keysOf lookupOp mapOf lookC_some lookC_none findK_nil findK_yes findK_no eqKey_lit eqKey_int mapLen_eq look lay del
attribute [local simp] makeMapOp updateOp insK_some insK_none insC_some insC_none frzMp allocOp boxOp storeOp killOf writeAt moves grabOf takeAt putAt PV.put setCell CV.isView CV.strip CV.stripP strip_cc map_strip_c any_view_c any_view_cc mapM_strip_eq stripL stripL_c mapM_strip_cc frzR_frz frzE_frz stripL_append Ew.newObj newReg rowsOf stripRows movesR buildSliceOp makeSliceOp srcOf baseOf appendOp room killM St.kill Kl.b Kl.h Cap.hit TV.kill UV.kill CV.kill MC.kill capOf capsOf plainCaps mkClo capTV calleeOf panArg resV resT resUs
attribute [local simp] toNew toOld view TV.re UV.re CV.re MC.re Cap.re caps_re leT leU leC leCs leMs leM leTs St.le St.re keysOK  roots_p map_re_p map_re_p' roots_c roots_cc shownOf shownBy pairsOf number deeper addAll MC.live TV.roots CV.roots MC.roots Cap.roots callIs numsOK liveAll start List.range_succ callSt afterMem newPart_nil newPart_cons oldPart_eq oldGo back isKey stays inRange aliveO aliveM MC.isMap aliveR aliveP MC.isObj MC.isReg Cap.alive CV.keep UV.keep TV.keep MC.keep span St.frz frzM TV.frz UV.frz CV.frz MC.frz frzO frzC Cap.frz PV.frz frzE frzR
attribute [local simp] encEs_len encE_len encE_nv encE_take encEs_at
set_option maxRecDepth 8000
theorem f12 : ∀ (n : Nat) (l : List Expr), wtL l ≤ n → wtL l < 100000000 → Meets Tryd.prog (tabOf Tryd.prog GG) 12 [vEs l] [] (.ret (vI (byL l 0))) [] := by
  intro n
  induction n with
  | zero =>
    intro l hn hx
    have hl := wtL_len l
    have : l = [] := List.eq_nil_of_length_eq_zero (by omega)
    subst this
    refine meets_of (tabOf_ok _ _) [] Tryd.f12 32 [.tmp 2] (by kernel_rfl) (by kernel_rfl) rfl rfl rfl rfl false ?_
    simp [encEs]
    refine Cd_for (fun i : Nat => ⟨[vEs [], .bot, .bot, vI 0, vI 0, .bot, .bot, .bot, .bot, .bot, .bot, .bot, .bot, .bot, .bot, .bot, .bot, .bot, .bot, .bot, .bot, .bot, .bot, .bot, .bot, .bot, .bot, .bot, .bot, .bot, .bot, .bot], []⟩) (fun i => i = 0) (fun i => 0) 0 rfl (Imp.le (by simp [encEs])) ?_
    rintro i rfl
    simp [encEs, byL]
  | succ n ih =>
    intro l hn hx
    refine meets_of (tabOf_ok _ _) [] Tryd.f12 32 [.tmp 2] (by kernel_rfl) (by kernel_rfl) rfl rfl rfl rfl false ?_
    simp
    refine Cd_for (fun p : Nat × Nat => ⟨[vEs l, .bot, .bot, vI p.2, vI p.1, .bot, .bot, .bot, .bot, .bot, .bot, .bot, .bot, .bot, .bot, .bot, .bot, .bot, .bot, .bot, .bot, .bot, .bot, .bot, .bot, .bot, .bot, .bot, .bot, .bot, .bot, .bot], []⟩)
      (fun p => p.1 ≤ l.length ∧ byL (l.drop p.1) p.2 = byL l 0 ∧ p.2 + wtL (l.drop p.1) ≤ wtL l) (fun p => l.length - p.1) (0, 0) ⟨by simp, by simp, by simp⟩ (Imp.le (by simp)) ?_
    rintro ⟨i, acc⟩ ⟨hi, hw, hb⟩
    simp at hi hw hb
    simp
    refine Br_intro (fun h => ?_) (fun h => ?_)
    · have h' : i < l.length ∧ acc < 100000 := by simp at h; omega
      simp
      refine Cd_draw (.first 0 (.first 1 (.first 2 (.first 3 (.first 4 (.first 5 (.first 6 (.first 7 (.first 8 (.first 9 (.first 10 (.first 11 (.first 12 (.alt 13 (.first 14 (.first 15 (.first 16 .done))) .stop)))))))))))))) (by kernel_rfl) (by kernel_rfl) (by kernel_rfl) ?_
      have hd : l.drop i = l[i] :: l.drop (i + 1) := List.drop_eq_getElem_cons h'.1
      rw [hd, byL, if_pos (by omega)] at hw
      rw [hd, wtL] at hb
      have hwt := wt_le (List.getElem_mem h'.1)
      have hby := byE_le l[i]
      have hlen := wtL_len l
      cases hx' : l[i] with
      | mk k w b nm op sub =>
        rw [hx'] at hw hb hwt hby
        simp only [wtE, byE] at hw hb hwt hby
        have h1 : IntKind.i64.wrap (1 + (nm.size : Int)) = ((1 + nm.size : Nat) : Int) := wrap64 (by omega) ⟨by omega, by omega⟩
        have h2 : IntKind.i64.wrap (((1 + nm.size : Nat) : Int) + (byL sub 0 : Int)) = ((1 + nm.size + byL sub 0 : Nat) : Int) := wrap64 (by omega) ⟨by omega, by omega⟩
        have h3 : IntKind.i64.wrap ((acc : Int) + ((1 + nm.size + byL sub 0 : Nat) : Int)) = ((acc + (1 + nm.size + byL sub 0) : Nat) : Int) := wrap64 (by omega) ⟨by omega, by omega⟩
        have h4 : IntKind.i64.wrap ((i : Int) + 1) = ((i + 1 : Nat) : Int) := wrap64 (by omega) ⟨by omega, by omega⟩
        simp [h'.1, hx', encE, -Int.natCast_add, h1]
        refine Call_pure (ih sub (by omega) (by omega)) ?_
        simp [-Int.natCast_add, h2, h3, h4]
        exact Nx_for (i + 1, acc + (1 + nm.size + byL sub 0)) ⟨by omega, hw, by simp; omega⟩ (by simp; omega) (Imp.le (by simp))
    · have h' : l.drop i = [] ∨ ¬ acc < 100000 := by simp at h ⊢; omega
      have h1 : byL (l.drop i) acc = acc := by
        rcases h' with h' | h'
        · rw [h', byL]
        · exact byL_end _ _ h'
      rw [h1] at hw
      simp [hw]
end Go.Ew
end
section
open Go Go.Proofs Go.Ew
namespace Go.Ew
attribute [local simp] Cd_skip Cd_label Cd_seq Ct_false Br_notc Br_true Br_false Cd_cond Cd_block Cd_exit Cd_ret Cd_region Nx_code Nx_block Nx_ops Nx_plan  Nx_fin Nx_fin' Ex_code_exit Ex_code_ret Ex_block_exit Ex_block_ret Ex_round_exit Ex_round_ret Ex_fin_ret Ex_fin_ret' Pn_code Pn_block Pn_ops Pn_plan Pn_round Pn_fin Os_nil Os_cons gK_some Gt_some Gt_nil Gt_cons run_code run_op run_skip O1_eq Pl_done Pl_stop Pl_first Pl_alt cK_some qK_some asCall asPan actK_some panOf_some condK_some map_re_c map_kill_c map_keep_c map_frz_c re_cc kill_cc keep_cc frz_cc leCs_refl finA finR idl headOf allB
attribute [local simp] wantedA act quiet opd opg TV.acc imp ofConst St.get St.put St.putG orElse one1 one2 binA unA convA idxA strLen maxA minA TV.flat TV.int TV.bool TV.cells UV.cells CV.els TV.els viewOf PV.nv CV.nv peekC_eq peekB peekG peekH peekP_eq peekPB allP allNv allPs allNv_c allNv_append allP_append allPs_append rowsNv_eq at_ cellAt PV.down PV.elem readAt loadOp bump fieldAddrOp fieldOp indexAddrOp extractOp nilCheckOp lenOp boundOf sliceOp fillCells buildOp pickOp Tab.fld Tab.place tabOf_ti tabOf_mapT tabOf_stc tabOf_arr tabOf_elem tabOf_glob mk busy TV.isPtr TV.isMap keyOK keysOf lookupOp mapOf lookC_some lookC_none findK_nil findK_yes findK_no eqKey_lit eqKey_int mapLen_eq look lay del
attribute [local simp] makeMapOp updateOp insK_some insK_none insC_some insC_none frzMp allocOp boxOp storeOp killOf writeAt moves grabOf takeAt putAt PV.put setCell CV.isView CV.strip CV.stripP strip_cc map_strip_c any_view_c any_view_cc mapM_strip_eq stripL stripL_c mapM_strip_cc frzR_frz frzE_frz stripL_append Ew.newObj newReg rowsOf stripRows movesR buildSliceOp makeSliceOp srcOf baseOf appendOp room killM St.kill Kl.b Kl.h Cap.hit TV.kill UV.kill CV.kill MC.kill capOf capsOf plainCaps mkClo capTV calleeOf panArg resV resT resUs
attribute [local simp] toNew toOld view TV.re UV.re CV.re MC.re Cap.re caps_re leT leU leC leCs leMs leM leTs St.le St.re keysOK  roots_p map_re_p map_re_p' roots_c roots_cc shownOf shownBy pairsOf number deeper addAll MC.live TV.roots CV.roots MC.roots Cap.roots callIs numsOK liveAll start List.range_succ callSt afterMem newPart_nil newPart_cons oldPart_eq oldGo back isKey stays inRange aliveO aliveM MC.isMap aliveR aliveP MC.isObj MC.isReg Cap.alive CV.keep UV.keep TV.keep MC.keep span St.frz frzM TV.frz UV.frz CV.frz MC.frz frzO frzC Cap.frz PV.frz frzE frzR
attribute [local simp] encEs_len encE_len encE_nv encE_take encEs_at
theorem f5 (x : Expr) (hx : wtE x < 100000000) : Meets Tryd.prog (tabOf Tryd.prog GG) 5 [vE x] [] (.ret (vB (decide (5000 < byL [x] 0)))) [] := by
  refine meets_of (tabOf_ok _ _) [] Tryd.f5 7 [.tmp 2] (by kernel_rfl) (by kernel_rfl) rfl rfl rfl rfl false ?_
  simp
  refine Call_imp (Imp.frz 4) ?_
  simp
  refine Call_pure (f12 _ [x] (Nat.le_refl _) (by simp [wtL]; exact hx)) ?_
  simp
  omega
end Go.Ew
end
section
/- Functions of the seat: how large a block is. -/
open Go Go.Proofs Go.Ew
namespace Go.Ew
mutual
def wtS : Stm → Nat
  | .mk _ nm f _ es b e => 1 + nm.size + f.size + wtL es + wtSL b + wtSL e
def wtSL : List Stm → Nat
  | [] => 0
  | x :: xs => wtS x + wtSL xs
end
mutual
def hvS : Stm → Nat
  | .mk _ nm f _ es b e => 1 + nm.size + f.size + byL es 0 + hvL b 0 + hvL e 0
def hvL : List Stm → Nat → Nat
  | [], acc => acc
  | x :: xs, acc => if acc < 100000 then hvL xs (acc + hvS x) else acc
end
theorem hvL_end (l : List Stm) (acc : Nat) (h : ¬ acc < 100000) : hvL l acc = acc := by
  cases l with
  | nil => simp [hvL]
  | cons x xs => simp [hvL, h]
mutual
theorem hvS_le : ∀ x : Stm, hvS x ≤ wtS x
  | .mk _ nm f _ es b e => by have := byL_le es 0; have := hvL_le b 0; have := hvL_le e 0; simp only [hvS, wtS]; omega
theorem hvL_le : ∀ (l : List Stm) (acc : Nat), hvL l acc ≤ acc + wtSL l
  | [], acc => by simp [hvL, wtSL]
  | x :: xs, acc => by
    have h1 := hvS_le x
    have h2 := hvL_le xs (acc + hvS x)
    simp only [hvL, wtSL]
    split <;> omega
end
theorem wtSL_len : ∀ (l : List Stm), l.length ≤ wtSL l
  | [] => by simp [wtSL]
  | x :: xs => by have := wtSL_len xs; cases x; simp [wtSL, wtS]; omega
theorem wtS_le : ∀ {l : List Stm} {x : Stm}, x ∈ l → wtS x ≤ wtSL l
  | y :: ys, x, h => by
    rcases List.mem_cons.1 h with rfl | h
    · simp [wtSL]
    · have := wtS_le h; simp [wtSL]; omega
attribute [local simp] Cd_skip Cd_label Cd_seq Ct_false Br_notc Br_true Br_false Cd_cond Cd_block Cd_exit Cd_ret Cd_region Nx_code Nx_block Nx_ops Nx_plan  Nx_fin Nx_fin' Ex_code_exit Ex_code_ret Ex_block_exit Ex_block_ret Ex_round_exit Ex_round_ret Ex_fin_ret Ex_fin_ret' Pn_code Pn_block Pn_ops Pn_plan Pn_round Pn_fin Os_nil Os_cons gK_some Gt_some Gt_nil Gt_cons run_code run_op run_skip O1_eq Pl_done Pl_stop Pl_first Pl_alt cK_some qK_some asCall asPan actK_some panOf_some condK_some map_re_c map_kill_c map_keep_c map_frz_c re_cc kill_cc keep_cc frz_cc leCs_refl finA finR idl headOf allB
attribute [local simp] wantedA act quiet opd opg TV.acc imp ofConst St.get St.put St.putG orElse one1 one2 binA unA convA idxA strLen maxA minA TV.flat TV.int TV.bool TV.cells UV.cells CV.els TV.els viewOf PV.nv CV.nv peekC_eq peekB peekG peekH peekP_eq peekPB allP allNv allPs allNv_c allNv_append allP_append allPs_append rowsNv_eq at_ cellAt PV.down PV.elem readAt loadOp bump fieldAddrOp fieldOp indexAddrOp extractOp nilCheckOp lenOp boundOf sliceOp fillCells buildOp pickOp Tab.fld Tab.place tabOf_ti tabOf_mapT tabOf_stc tabOf_arr tabOf_elem tabOf_glob mk busy TV.isPtr TV.isMap keyOK keysOf lookupOp mapOf lookC_some lookC_none findK_nil findK_yes findK_no eqKey_lit eqKey_int mapLen_eq look lay del
attribute [local simp] makeMapOp updateOp insK_some insK_none insC_some insC_none frzMp allocOp boxOp storeOp killOf writeAt moves grabOf takeAt putAt PV.put setCell CV.isView CV.strip CV.stripP strip_cc map_strip_c any_view_c any_view_cc mapM_strip_eq stripL stripL_c mapM_strip_cc frzR_frz frzE_frz stripL_append Ew.newObj newReg rowsOf stripRows movesR buildSliceOp makeSliceOp srcOf baseOf appendOp room killM St.kill Kl.b Kl.h Cap.hit TV.kill UV.kill CV.kill MC.kill capOf capsOf plainCaps mkClo capTV calleeOf panArg resV resT resUs
attribute [local simp] toNew toOld view TV.re UV.re CV.re MC.re Cap.re caps_re leT leU leC leCs leMs leM leTs St.le St.re keysOK  roots_p map_re_p map_re_p' roots_c roots_cc shownOf shownBy pairsOf number deeper addAll MC.live TV.roots CV.roots MC.roots Cap.roots callIs numsOK liveAll start List.range_succ callSt afterMem newPart_nil newPart_cons oldPart_eq oldGo back isKey stays inRange aliveO aliveM MC.isMap aliveR aliveP MC.isObj MC.isReg Cap.alive CV.keep UV.keep TV.keep MC.keep span St.frz frzM TV.frz UV.frz CV.frz MC.frz frzO frzC Cap.frz PV.frz frzE frzR
attribute [local simp] encSs_len encS_len encS_nv encS_take encSs_at
set_option maxRecDepth 8000
theorem f11 : ∀ (n : Nat) (l : List Stm), wtSL l ≤ n → wtSL l < 100000000 → Meets Tryd.prog (tabOf Tryd.prog GG) 11 [vSs l] [] (.ret (vI (hvL l 0))) [] := by
  intro n
  induction n with
  | zero =>
    intro l hn hx
    have hl := wtSL_len l
    have : l = [] := List.eq_nil_of_length_eq_zero (by omega)
    subst this
    refine meets_of (tabOf_ok _ _) [] Tryd.f11 53 [.tmp 2] (by kernel_rfl) (by kernel_rfl) rfl rfl rfl rfl false ?_
    simp [encSs]
    refine Cd_for (fun i : Nat => ⟨[vSs [], .bot, .bot, vI 0, vI 0, .bot, .bot, .bot, .bot, .bot, .bot, .bot, .bot, .bot, .bot, .bot, .bot, .bot, .bot, .bot, .bot, .bot, .bot, .bot, .bot, .bot, .bot, .bot, .bot, .bot, .bot, .bot, .bot, .bot, .bot, .bot, .bot, .bot, .bot, .bot, .bot, .bot, .bot, .bot, .bot, .bot, .bot, .bot, .bot, .bot, .bot, .bot, .bot], []⟩) (fun i => i = 0) (fun i => 0) 0 rfl (Imp.le (by simp [encSs])) ?_
    rintro i rfl
    simp [encSs, hvL]
  | succ n ih =>
    intro l hn hx
    refine meets_of (tabOf_ok _ _) [] Tryd.f11 53 [.tmp 2] (by kernel_rfl) (by kernel_rfl) rfl rfl rfl rfl false ?_
    simp
    refine Cd_for (fun p : Nat × Nat => ⟨[vSs l, .bot, .bot, vI p.2, vI p.1, .bot, .bot, .bot, .bot, .bot, .bot, .bot, .bot, .bot, .bot, .bot, .bot, .bot, .bot, .bot, .bot, .bot, .bot, .bot, .bot, .bot, .bot, .bot, .bot, .bot, .bot, .bot, .bot, .bot, .bot, .bot, .bot, .bot, .bot, .bot, .bot, .bot, .bot, .bot, .bot, .bot, .bot, .bot, .bot, .bot, .bot, .bot, .bot], []⟩)
      (fun p => p.1 ≤ l.length ∧ hvL (l.drop p.1) p.2 = hvL l 0 ∧ p.2 + wtSL (l.drop p.1) ≤ wtSL l) (fun p => l.length - p.1) (0, 0) ⟨by simp, by simp, by simp⟩ (Imp.le (by simp)) ?_
    rintro ⟨i, acc⟩ ⟨hi, hw, hb⟩
    simp at hi hw hb
    simp
    refine Br_intro (fun h => ?_) (fun h => ?_)
    · have h' : i < l.length ∧ acc < 100000 := by simp at h; omega
      simp
      refine Cd_draw (.first 0 (.first 1 (.first 2 (.first 3 (.first 4 (.first 5 (.first 6 (.first 7 (.first 8 (.first 9 (.first 10 (.first 11 (.first 12 (.first 13 (.first 14 (.first 15 (.first 16 (.first 17 (.first 18 (.first 19 (.first 22 (.first 23 (.first 24 (.first 25 (.first 26 (.first 29 (.first 30 (.first 31 (.first 32 (.first 33 (.alt 20 (.first 21 (.alt 27 (.first 28 (.alt 34 (.first 35 (.first 36 (.first 37 .done))) .stop)) .stop)) .stop))))))))))))))))))))))))))))))) (by kernel_rfl) (by kernel_rfl) (by kernel_rfl) ?_
      have hd : l.drop i = l[i] :: l.drop (i + 1) := List.drop_eq_getElem_cons h'.1
      rw [hd, hvL, if_pos (by omega)] at hw
      rw [hd, wtSL] at hb
      have hwt := wtS_le (List.getElem_mem h'.1)
      have hby := hvS_le l[i]
      have hlen := wtSL_len l
      cases hx' : l[i] with
      | mk k nm f w es b e =>
        rw [hx'] at hw hb hwt hby
        simp only [wtS, hvS] at hw hb hwt hby
        have q1 := byL_le es 0
        have q2 := hvL_le b 0
        have q3 := hvL_le e 0
        have h1 : IntKind.i64.wrap (1 + (nm.size : Int)) = ((1 + nm.size : Nat) : Int) := wrap64 (by omega) ⟨by omega, by omega⟩
        have h2 : IntKind.i64.wrap (((1 + nm.size : Nat) : Int) + (f.size : Int)) = ((1 + nm.size + f.size : Nat) : Int) := wrap64 (by omega) ⟨by omega, by omega⟩
        have h3 : IntKind.i64.wrap (((1 + nm.size + f.size : Nat) : Int) + (byL es 0 : Int)) = ((1 + nm.size + f.size + byL es 0 : Nat) : Int) := wrap64 (by omega) ⟨by omega, by omega⟩
        have h4 : IntKind.i64.wrap (((1 + nm.size + f.size + byL es 0 : Nat) : Int) + (hvL b 0 : Int)) = ((1 + nm.size + f.size + byL es 0 + hvL b 0 : Nat) : Int) := wrap64 (by omega) ⟨by omega, by omega⟩
        have h5 : IntKind.i64.wrap (((1 + nm.size + f.size + byL es 0 + hvL b 0 : Nat) : Int) + (hvL e 0 : Int)) = ((1 + nm.size + f.size + byL es 0 + hvL b 0 + hvL e 0 : Nat) : Int) := wrap64 (by omega) ⟨by omega, by omega⟩
        have h6 : IntKind.i64.wrap ((acc : Int) + ((1 + nm.size + f.size + byL es 0 + hvL b 0 + hvL e 0 : Nat) : Int)) = ((acc + (1 + nm.size + f.size + byL es 0 + hvL b 0 + hvL e 0) : Nat) : Int) := wrap64 (by omega) ⟨by omega, by omega⟩
        have h7 : IntKind.i64.wrap ((i : Int) + 1) = ((i + 1 : Nat) : Int) := wrap64 (by omega) ⟨by omega, by omega⟩
        simp [h'.1, hx', encS, -Int.natCast_add, h1, h2]
        refine Call_pure (f12 _ es (Nat.le_refl _) (by omega)) ?_
        simp [-Int.natCast_add, h'.1, hx', encS, h3]
        refine Call_pure (ih b (by omega) (by omega)) ?_
        simp [-Int.natCast_add, h'.1, hx', encS, h4]
        refine Call_pure (ih e (by omega) (by omega)) ?_
        simp [-Int.natCast_add, h5, h6, h7]
        exact Nx_for (i + 1, acc + (1 + nm.size + f.size + byL es 0 + hvL b 0 + hvL e 0)) ⟨by omega, hw, by simp; omega⟩ (by simp; omega) (Imp.le (by simp))
    · have h' : l.drop i = [] ∨ ¬ acc < 100000 := by simp at h ⊢; omega
      have h1 : hvL (l.drop i) acc = acc := by
        rcases h' with h' | h'
        · rw [h', hvL]
        · exact hvL_end _ _ h'
      rw [h1] at hw
      simp [hw]
end Go.Ew
end
section
/- Functions of the seat: whether a program is larger than the statements consider. -/
open Go Go.Proofs Go.Ew
namespace Go.Ew
def szA : List Arr → Nat
  | [] => 0
  | a :: r => a.name.size + szA r
def szP : List Par → Nat
  | [] => 0
  | a :: r => a.name.size + szP r
def wtF (f : Fun) : Nat := 1 + szP f.params + f.params.length + f.name.size + wtSL f.body
def wtFL : List Fun → Nat
  | [] => 0
  | f :: r => wtF f + wtFL r
def grF : List Fun → Nat → Bool
  | [], n => decide (5000 < n)
  | f :: r, n => if 50 < f.params.length then true else grF r (n + szP f.params + (f.name.size + hvL f.body 0))
def greatX (p : Pro) : Bool := decide (20 < p.arrays.length) || decide (20 < p.funcs.length) || grF p.funcs (szA p.arrays)
theorem szA_le (l : List Arr) (i : Nat) : szA (l.drop i) ≤ szA l := by
  induction l generalizing i with
  | nil => simp
  | cons a r ih =>
    cases i with
    | zero => simp
    | succ i => simp only [List.drop_succ_cons, szA]; have := ih i; omega
attribute [local simp] Cd_skip Cd_label Cd_seq Ct_false Br_notc Br_true Br_false Cd_cond Cd_block Cd_exit Cd_ret Cd_region Nx_code Nx_block Nx_ops Nx_plan  Nx_fin Nx_fin' Ex_code_exit Ex_code_ret Ex_block_exit Ex_block_ret Ex_round_exit Ex_round_ret Ex_fin_ret Ex_fin_ret' Pn_code Pn_block Pn_ops Pn_plan Pn_round Pn_fin Os_nil Os_cons gK_some Gt_some Gt_nil Gt_cons run_code run_op run_skip O1_eq Pl_done Pl_stop Pl_first Pl_alt cK_some qK_some asCall asPan actK_some panOf_some condK_some map_re_c map_kill_c map_keep_c map_frz_c re_cc kill_cc keep_cc frz_cc leCs_refl finA finR idl headOf allB
attribute [local simp] wantedA act quiet opd opg TV.acc imp ofConst St.get St.put St.putG orElse one1 one2 binA unA convA idxA strLen maxA minA TV.flat TV.int TV.bool TV.cells UV.cells CV.els TV.els viewOf PV.nv CV.nv peekC_eq peekB peekG peekH peekP_eq peekPB allP allNv allPs allNv_c allNv_append allP_append allPs_append rowsNv_eq at_ cellAt PV.down PV.elem readAt loadOp bump fieldAddrOp fieldOp indexAddrOp extractOp nilCheckOp lenOp boundOf sliceOp fillCells buildOp pickOp Tab.fld Tab.place tabOf_ti tabOf_mapT tabOf_stc tabOf_arr tabOf_elem tabOf_glob mk busy TV.isPtr TV.isMap keyOK keysOf lookupOp mapOf lookC_some lookC_none findK_nil findK_yes findK_no eqKey_lit eqKey_int mapLen_eq look lay del
attribute [local simp] makeMapOp updateOp insK_some insK_none insC_some insC_none frzMp allocOp boxOp storeOp killOf writeAt moves grabOf takeAt putAt PV.put setCell CV.isView CV.strip CV.stripP strip_cc map_strip_c any_view_c any_view_cc mapM_strip_eq stripL stripL_c mapM_strip_cc frzR_frz frzE_frz stripL_append Ew.newObj newReg rowsOf stripRows movesR buildSliceOp makeSliceOp srcOf baseOf appendOp room killM St.kill Kl.b Kl.h Cap.hit TV.kill UV.kill CV.kill MC.kill capOf capsOf plainCaps mkClo capTV calleeOf panArg resV resT resUs
attribute [local simp] toNew toOld view TV.re UV.re CV.re MC.re Cap.re caps_re leT leU leC leCs leMs leM leTs St.le St.re keysOK  roots_p map_re_p map_re_p' roots_c roots_cc shownOf shownBy pairsOf number deeper addAll MC.live TV.roots CV.roots MC.roots Cap.roots callIs numsOK liveAll start List.range_succ callSt afterMem newPart_nil newPart_cons oldPart_eq oldGo back isKey stays inRange aliveO aliveM MC.isMap aliveR aliveP MC.isObj MC.isReg Cap.alive CV.keep UV.keep TV.keep MC.keep span St.frz frzM TV.frz UV.frz CV.frz MC.frz frzO frzC Cap.frz PV.frz frzE frzR
attribute [local simp] encAs_len encAs_at encFs_len encFs_at encPs_len encPs_at encA encF encP
set_option maxRecDepth 8000
theorem f4 (p : Pro) (hx : szA p.arrays + wtFL p.funcs < 10000000) : Meets Tryd.prog (tabOf Tryd.prog GG) 4 [vPro p] [] (.ret (vB (greatX p))) [] := by
  refine meets_of (tabOf_ok _ _) [] Tryd.f4 77 [.tmp 2] (by kernel_rfl) (by kernel_rfl) rfl rfl rfl rfl false ?_
  simp
  refine Br_intro (fun h => ?_) (fun h => ?_)
  · have h' : 20 < p.arrays.length ∨ 20 < p.funcs.length := by simp at h; omega
    have h1 : greatX p = true := by rcases h' with h' | h' <;> simp [greatX, h']
    simp [h1]
  have h' : ¬ 20 < p.arrays.length ∧ ¬ 20 < p.funcs.length := by simp at h; omega
  simp
  refine Cd_for (fun q : Nat × Nat => ⟨[.bot, .a (.ptr 1 0 []), .bot, vI q.2, vI q.1, .bot, .bot, .bot, .bot, .bot, .bot, .bot, .bot, .bot, .bot, .bot, .bot, .bot, .bot, .bot, .bot, .bot, .bot, .bot, .bot, .bot, .bot, .bot, .bot, .bot, .bot, .bot, .bot, .bot, .bot, .bot, .bot, .bot, .bot, .bot, .bot, .bot, .bot, .bot, .bot, .bot, .bot, .bot, .bot, .bot, .bot, .bot, .bot, .bot, .bot, .bot, .bot, .bot, .bot, .bot, .bot, .bot, .bot, .bot, .bot, .bot, .bot, .bot, .bot, .bot, .bot, .bot, .bot, .bot, .bot, .bot, .bot], [(1, .obj [.c (.sl 3 (encAs p.arrays)), .c (.sl 4 (encFs p.funcs))])]⟩)
    (fun q => q.1 ≤ p.arrays.length ∧ q.2 + szA (p.arrays.drop q.1) = szA p.arrays) (fun q => p.arrays.length - q.1) (0, 0) ⟨by simp, by simp⟩ (Imp.le (by simp)) ?_
  rintro ⟨i, n⟩ ⟨hi, hw⟩
  simp at hi hw
  simp
  refine Br_intro (fun a => ?_) (fun a => ?_)
  · have a' := a
    simp at a'
    have hd : p.arrays.drop i = p.arrays[i] :: p.arrays.drop (i + 1) := List.drop_eq_getElem_cons a'
    rw [hd, szA] at hw
    have h1 : IntKind.i64.wrap ((n : Int) + (p.arrays[i].name.size : Int)) = ((n + p.arrays[i].name.size : Nat) : Int) := wrap64 (by omega) ⟨by omega, by omega⟩
    have h2 : IntKind.i64.wrap ((i : Int) + 1) = ((i + 1 : Nat) : Int) := wrap64 (by omega) ⟨by omega, by omega⟩
    simp [a, a', -Int.natCast_add, h1, h2]
    exact Nx_for (i + 1, n + p.arrays[i].name.size) ⟨by omega, by simp; omega⟩ (by simp; omega) (Imp.le (by simp))
  · have a' := a
    simp at a'
    have hdn : p.arrays.drop i = [] := by simp; omega
    rw [hdn, szA] at hw
    simp [a]
    refine Cd_for (fun q : Nat × Nat => ⟨[.bot, .a (.ptr 1 0 []), .bot, vI q.2, .bot, vI q.1, .bot, .bot, .bot, .bot, .bot, .bot, .bot, .bot, .bot, .bot, .bot, .bot, .bot, .bot, .bot, .bot, .bot, .bot, .bot, .bot, .bot, .bot, .bot, .bot, .bot, .bot, .bot, .bot, .bot, .bot, .bot, .bot, .bot, .bot, .bot, .bot, .bot, .bot, .bot, .bot, .bot, .bot, .bot, .bot, .bot, .bot, .bot, .bot, .bot, .bot, .bot, .bot, .bot, .bot, .bot, .bot, .bot, .bot, .bot, .bot, .bot, .bot, .bot, .bot, .bot, .bot, .bot, .bot, .bot, .bot, .bot], [(1, .obj [.c (.sl 3 (encAs p.arrays)), .c (.sl 4 (encFs p.funcs))])]⟩)
      (fun q => q.1 ≤ p.funcs.length ∧ grF (p.funcs.drop q.1) q.2 = grF p.funcs (szA p.arrays) ∧ q.2 + wtFL (p.funcs.drop q.1) ≤ szA p.arrays + wtFL p.funcs) (fun q => p.funcs.length - q.1) (0, n) ⟨by simp, by simp; rw [← hw]; rfl, by simp; omega⟩ (Imp.le (by simp)) ?_
    rintro ⟨j, m⟩ ⟨hj, hv, hb⟩
    simp at hj hv hb
    simp
    refine Br_intro (fun b => ?_) (fun b => ?_)
    · have b' := b
      simp at b'
      have he : p.funcs.drop j = p.funcs[j] :: p.funcs.drop (j + 1) := List.drop_eq_getElem_cons b'
      rw [he, grF] at hv
      rw [he, wtFL, wtF] at hb
      simp [b, b']
      refine Br_intro (fun c => ?_) (fun c => ?_)
      · have c' := of_decide_eq_true c
        rw [if_pos (by omega)] at hv
        simp only [greatX, ← hv]
        simp [c]
      · have c' := of_decide_eq_false c
        rw [if_neg (by omega)] at hv
        simp [c]
        refine Cd_for (fun q : Nat × Nat => ⟨[.bot, .a (.ptr 1 0 []), .bot, vI q.2, .bot, vI j, .a (.ptr 6 0 []), vI q.1, .bot, .bot, .bot, .bot, .bot, .bot, .bot, .bot, .bot, .bot, .bot, .bot, .bot, .bot, .bot, .bot, .bot, .bot, .bot, .bot, .bot, .bot, .bot, .bot, .bot, .bot, .bot, .bot, .bot, .bot, .bot, .bot, .bot, .bot, .bot, .bot, .bot, .bot, .bot, .bot, .bot, .bot, .bot, .bot, .bot, .bot, .bot, .bot, .bot, .bot, .bot, .bot, .bot, .bot, .bot, .bot, .bot, .bot, .bot, .bot, .bot, .bot, .bot, .bot, .bot, .bot, .bot, .bot, .bot], [(1, .obj [.c (.sl 3 (encAs p.arrays)), .c (.sl 4 (encFs p.funcs))]), (6, .obj ((encF p.funcs[j]).map CV.c))]⟩)
          (fun q => q.1 ≤ p.funcs[j].params.length ∧ q.2 + szP (p.funcs[j].params.drop q.1) = m + szP p.funcs[j].params) (fun q => p.funcs[j].params.length - q.1) (0, m) ⟨by simp, by simp⟩ (Imp.le (by simp)) ?_
        rintro ⟨k, o⟩ ⟨hk, hu⟩
        simp at hk hu
        simp
        refine Br_intro (fun d => ?_) (fun d => ?_)
        · have d' := d
          simp at d'
          have hf : p.funcs[j].params.drop k = p.funcs[j].params[k] :: p.funcs[j].params.drop (k + 1) := List.drop_eq_getElem_cons d'
          rw [hf, szP] at hu
          have h1 : IntKind.i64.wrap ((o : Int) + (p.funcs[j].params[k].name.size : Int)) = ((o + p.funcs[j].params[k].name.size : Nat) : Int) := wrap64 (by omega) ⟨by omega, by omega⟩
          have h2 : IntKind.i64.wrap ((k : Int) + 1) = ((k + 1 : Nat) : Int) := wrap64 (by omega) ⟨by omega, by omega⟩
          simp [d, d', -Int.natCast_add, h1, h2]
          exact Nx_for (k + 1, o + p.funcs[j].params[k].name.size) ⟨by omega, by simp; omega⟩ (by simp; omega) (Imp.le (by simp))
        · have d' := d
          simp at d'
          have hf : p.funcs[j].params.drop k = [] := by simp; omega
          rw [hf, szP] at hu
          simp [d]
          have q1 := hvL_le p.funcs[j].body 0
          have hjl : p.funcs.length ≤ 20 := by omega
          have h1 : IntKind.i64.wrap ((p.funcs[j].name.size : Int) + (hvL p.funcs[j].body 0 : Int)) = ((p.funcs[j].name.size + hvL p.funcs[j].body 0 : Nat) : Int) := wrap64 (by omega) ⟨by omega, by omega⟩
          have h2 : IntKind.i64.wrap ((o : Int) + ((p.funcs[j].name.size + hvL p.funcs[j].body 0 : Nat) : Int)) = ((o + (p.funcs[j].name.size + hvL p.funcs[j].body 0) : Nat) : Int) := wrap64 (by omega) ⟨by omega, by omega⟩
          have h3 : IntKind.i64.wrap ((j : Int) + 1) = ((j + 1 : Nat) : Int) := wrap64 (by omega) ⟨by omega, by omega⟩
          refine Cd_draw (.first 0 (.first 1 (.first 4 (.alt 2 (.first 3 (.alt 5 (.alt 6 (.first 7 (.first 8 (.first 9 .done))) .stop) .stop)) (.alt 5 (.alt 2 (.first 3 (.alt 6 (.first 7 (.first 8 (.first 9 .done))) .stop)) (.alt 6 (.alt 2 (.first 3 (.first 7 (.first 8 (.first 9 .done)))) .stop) .stop)) .stop))))) (by kernel_rfl) (by kernel_rfl) (by kernel_rfl) ?_
          simp
          repeat' apply And.intro
          all_goals
            refine Call_pure (f11 _ p.funcs[j].body (Nat.le_refl _) (by omega)) ?_
            simp [-Int.natCast_add, h1, h2, h3]
            exact Nx_for (j + 1, o + (p.funcs[j].name.size + hvL p.funcs[j].body 0)) ⟨by omega, by simp; rw [← hv]; congr 1; omega, by simp; omega⟩ (by simp; omega) (Imp.le (by simp))
    · have b' := b
      simp at b'
      have he : p.funcs.drop j = [] := by simp; omega
      rw [he, grF] at hv
      simp only [greatX, ← hv]
      simp [b]
      have e1 : decide (20 < p.arrays.length) = false := by simp; omega
      have e2 : decide (20 < p.funcs.length) = false := by simp; omega
      rw [e1, e2]
      simp
      omega
end Go.Ew
end
section
/- Functions of the seat: well formed arrays, functions. -/
open Go Go.Proofs Go.Ew
namespace Go.Ew
def sizedX (w : Int) : Bool := decide (w = 1) || decide (w = 8) || decide (w = 16) || decide (w = 32)
def pow2X (n : Int) : Bool := decide (IntKind.i64.wrap (BitVec.ofInt 64 n &&& BitVec.ofInt 64 (IntKind.i64.wrap (n - 1))).toNat = 0)
def wellA (a : Arr) : Bool := nameX a.name && sizedX a.width && decide (1 < a.width) && decide (1 ≤ a.len) && decide (a.len ≤ 64) && pow2X a.len
def wellP (a : Par) : Bool := nameX a.name && sizedX a.width
attribute [local simp] Cd_skip Cd_label Cd_seq Ct_false Br_notc Br_true Br_false Cd_cond Cd_block Cd_exit Cd_ret Cd_region Nx_code Nx_block Nx_ops Nx_plan  Nx_fin Nx_fin' Ex_code_exit Ex_code_ret Ex_block_exit Ex_block_ret Ex_round_exit Ex_round_ret Ex_fin_ret Ex_fin_ret' Pn_code Pn_block Pn_ops Pn_plan Pn_round Pn_fin Os_nil Os_cons gK_some Gt_some Gt_nil Gt_cons run_code run_op run_skip O1_eq Pl_done Pl_stop Pl_first Pl_alt cK_some qK_some asCall asPan actK_some panOf_some condK_some map_re_c map_kill_c map_keep_c map_frz_c re_cc kill_cc keep_cc frz_cc leCs_refl finA finR idl headOf allB
attribute [local simp] wantedA act quiet opd opg TV.acc imp ofConst St.get St.put St.putG orElse one1 one2 binA unA convA idxA strLen maxA minA TV.flat TV.int TV.bool TV.cells UV.cells CV.els TV.els viewOf PV.nv CV.nv peekC_eq peekB peekG peekH peekP_eq peekPB allP allNv allPs allNv_c allNv_append allP_append allPs_append rowsNv_eq at_ cellAt PV.down PV.elem readAt loadOp bump fieldAddrOp fieldOp indexAddrOp extractOp nilCheckOp lenOp boundOf sliceOp fillCells buildOp pickOp Tab.fld Tab.place tabOf_ti tabOf_mapT tabOf_stc tabOf_arr tabOf_elem tabOf_glob mk busy TV.isPtr TV.isMap keyOK keysOf lookupOp mapOf lookC_some lookC_none findK_nil findK_yes findK_no eqKey_lit eqKey_int mapLen_eq look lay del
attribute [local simp] makeMapOp updateOp insK_some insK_none insC_some insC_none frzMp allocOp boxOp storeOp killOf writeAt moves grabOf takeAt putAt PV.put setCell CV.isView CV.strip CV.stripP strip_cc map_strip_c any_view_c any_view_cc mapM_strip_eq stripL stripL_c mapM_strip_cc frzR_frz frzE_frz stripL_append Ew.newObj newReg rowsOf stripRows movesR buildSliceOp makeSliceOp srcOf baseOf appendOp room killM St.kill Kl.b Kl.h Cap.hit TV.kill UV.kill CV.kill MC.kill capOf capsOf plainCaps mkClo capTV calleeOf panArg resV resT resUs
attribute [local simp] toNew toOld view TV.re UV.re CV.re MC.re Cap.re caps_re leT leU leC leCs leMs leM leTs St.le St.re keysOK  roots_p map_re_p map_re_p' roots_c roots_cc shownOf shownBy pairsOf number deeper addAll MC.live TV.roots CV.roots MC.roots Cap.roots callIs numsOK liveAll start List.range_succ callSt afterMem newPart_nil newPart_cons oldPart_eq oldGo back isKey stays inRange aliveO aliveM MC.isMap aliveR aliveP MC.isObj MC.isReg Cap.alive CV.keep UV.keep TV.keep MC.keep span St.frz frzM TV.frz UV.frz CV.frz MC.frz frzO frzC Cap.frz PV.frz frzE frzR
attribute [local simp] encAs_len encAs_at encFs_len encFs_at encPs_len encPs_at encA encF encP
theorem f25 (h35 : ∀ w, Meets Tryd.prog (tabOf Tryd.prog GG) 35 [vI w] [] (.ret (vB (sizedX w))) []) (a : Arr) : Meets Tryd.prog (tabOf Tryd.prog GG) 25 [vArr a] [] (.ret (vB (wellA a))) [] := by
  refine meets_of (tabOf_ok _ _) [] Tryd.f25 35 [.tmp 2] (by kernel_rfl) (by kernel_rfl) rfl rfl rfl rfl false ?_
  simp
  refine Call_pure (f37 a.name) ?_
  simp
  refine Br_call (.one (.c (.v (.bool (sizedX a.width))))) (by rfl) (by rfl) (fun _ => h35 a.width) (fun h => by simp [h]) ?_
  simp [IntKind.bits]
  rfl
theorem f56 (h35 : ∀ w, Meets Tryd.prog (tabOf Tryd.prog GG) 35 [vI w] [] (.ret (vB (sizedX w))) []) (a : Par) : Meets Tryd.prog (tabOf Tryd.prog GG) 56 [vPar a] [] (.ret (vB (wellP a))) [] := by
  refine meets_of (tabOf_ok _ _) [] Tryd.f56 11 [.tmp 2] (by kernel_rfl) (by kernel_rfl) rfl rfl rfl rfl false ?_
  simp
  refine Call_pure (f37 a.name) ?_
  simp
  refine Br_call (.one (.c (.v (.bool (sizedX a.width))))) (by rfl) (by rfl) (fun _ => h35 a.width) (fun h => by simp [h]) ?_
  simp [wellP]
end Go.Ew
end
