/- What functions of the seat do: whether statements are well formed. -/
import Derived.Test.YtlkoaemljkdioaaDoorDD
section
/- Functions of the seat: well formed expressions, the reference. -/
open Go Go.Proofs Go.Ew
namespace Go.Ew
theorem u64_nonneg (n : Int) : 0 ≤ IntKind.u64.wrap n := by
  simp only [IntKind.wrap, IntKind.bits, IntKind.signed]
  simp
  omega
theorem signX_ok (k : Int) : (!decide ((signX k).toList = [])) = (decide (5 ≤ k) && decide (k ≤ 18)) := by
  by_cases h : 5 ≤ k ∧ k ≤ 18
  · have : k = 5 ∨ k = 6 ∨ k = 7 ∨ k = 8 ∨ k = 9 ∨ k = 10 ∨ k = 11 ∨ k = 12 ∨ k = 13 ∨ k = 14 ∨ k = 15 ∨ k = 16 ∨ k = 17 ∨ k = 18 := by omega
    rcases this with rfl | rfl | rfl | rfl | rfl | rfl | rfl | rfl | rfl | rfl | rfl | rfl | rfl | rfl <;> (rw [ByteArray.toList_eq]; rfl)
  · have h1 : signX k = ⟨#[]⟩ := by
      unfold signX
      repeat (rw [if_neg (by omega)])
    have h2 : (decide (5 ≤ k) && decide (k ≤ 18)) = false := by
      simp
      omega
    rw [h1, h2, ByteArray.toList_eq]
    rfl
def fitsX (w b : Int) : Bool := decide (b < IntKind.u64.wrap (1 * 2 ^ min (IntKind.u64.wrap w).toNat 64))
theorem fits_ok (w b : Int) : (sizedX w && fitsX w b) = (sizedX w && okX w b) := by
  by_cases h : w = 1 ∨ w = 8 ∨ w = 16 ∨ w = 32
  · rcases h with rfl | rfl | rfl | rfl <;>
      simp [sizedX, fitsX, okX, wideX, maskX, IntKind.wrap, IntKind.bits, IntKind.signed, Int.fdiv] <;> omega
  · have : sizedX w = false := by simp [sizedX]; omega
    simp [this]
theorem fits_ok' (w b : Int) : (sizedX w && decide (b < IntKind.u64.wrap (2 ^ min (IntKind.u64.wrap w).toNat IntKind.u64.bits))) = (sizedX w && okX w b) := by
  have := fits_ok w b
  simp only [fitsX, Int.one_mul] at this
  exact this
attribute [local simp] Cd_skip Cd_label Cd_seq Ct_false Br_notc Br_true Br_false Cd_cond Cd_block Cd_exit Cd_ret Cd_region Nx_code Nx_block Nx_ops Nx_plan  Nx_fin Nx_fin' Ex_code_exit Ex_code_ret Ex_block_exit Ex_block_ret Ex_round_exit Ex_round_ret Ex_fin_ret Ex_fin_ret' Pn_code Pn_block Pn_ops Pn_plan Pn_round Pn_fin Os_nil Os_cons gK_some Gt_some Gt_nil Gt_cons run_code run_op run_skip O1_eq Pl_done Pl_stop Pl_first Pl_alt cK_some qK_some asCall asPan actK_some panOf_some condK_some map_re_c map_kill_c map_keep_c map_frz_c re_cc kill_cc keep_cc frz_cc leCs_refl finA finR idl headOf allB
attribute [local simp] wantedA act quiet opd opg TV.acc imp ofConst St.get St.put St.putG orElse one1 one2 binA unA convA idxA strLen maxA minA TV.flat TV.int TV.bool TV.cells UV.cells CV.els TV.els viewOf PV.nv CV.nv peekC_eq peekB peekG peekH peekP_eq peekPB allP allNv allPs allNv_c allNv_append allP_append allPs_append rowsNv_eq at_ cellAt PV.down PV.elem readAt loadOp bump fieldAddrOp fieldOp indexAddrOp extractOp nilCheckOp lenOp boundOf sliceOp fillCells buildOp pickOp Tab.fld Tab.place tabOf_ti tabOf_mapT tabOf_stc tabOf_arr tabOf_elem tabOf_glob mk busy TV.isPtr TV.isMap keyOK keysOf lookupOp mapOf lookC_some lookC_none findK_nil findK_yes findK_no eqKey_lit eqKey_int mapLen_eq look lay del
attribute [local simp] makeMapOp updateOp insK_some insK_none insC_some insC_none frzMp allocOp boxOp storeOp killOf writeAt moves grabOf takeAt putAt PV.put setCell CV.isView CV.strip CV.stripP strip_cc map_strip_c any_view_c any_view_cc mapM_strip_eq stripL stripL_c mapM_strip_cc frzR_frz frzE_frz stripL_append Ew.newObj newReg rowsOf stripRows movesR buildSliceOp makeSliceOp srcOf baseOf appendOp room killM St.kill Kl.b Kl.h Cap.hit TV.kill UV.kill CV.kill MC.kill capOf capsOf plainCaps mkClo capTV calleeOf panArg resV resT resUs
attribute [local simp] toNew toOld view TV.re UV.re CV.re MC.re Cap.re caps_re leT leU leC leCs leMs leM leTs St.le St.re keysOK  roots_p map_re_p map_re_p' roots_c roots_cc shownOf shownBy pairsOf number deeper addAll MC.live TV.roots CV.roots MC.roots Cap.roots callIs numsOK liveAll start List.range_succ callSt afterMem newPart_nil newPart_cons oldPart_eq oldGo back isKey stays inRange aliveO aliveM MC.isMap aliveR aliveP MC.isObj MC.isReg Cap.alive CV.keep UV.keep TV.keep MC.keep span St.frz frzM TV.frz UV.frz CV.frz MC.frz frzO frzC Cap.frz PV.frz frzE frzR
attribute [local simp] encEs_len encE_len encE_nv encE_take encEs_at u64_nonneg
set_option maxRecDepth 8000
set_option maxHeartbeats 2000000
theorem f21 (n : Nat) : ∀ (x : Expr), nodes x ≤ n → nodes x < 1000000 → Meets Tryd.prog (tabOf Tryd.prog GG) 21 [vE x] [] (.ret (vB (wellE x))) [] := by
  induction n with
  | zero => intro x h _; cases x; simp [nodes] at h
  | succ n ih =>
    intro x hn hx
    obtain ⟨k, w, b, nm, op, sub⟩ := x
    simp only [nodes] at hn hx
    have hsl := nodesL_len sub
    refine meets_of (tabOf_ok _ _) [] Tryd.f21 153 [.tmp 2] (by kernel_rfl) (by kernel_rfl) rfl rfl rfl rfl false ?_
    simp [encE]
    refine Cd_for (fun i : Nat => ⟨[.bot, .a (.ptr 1 0 []), .bot, vI i, .bot, .bot, .bot, .bot, .bot, .bot, .bot, .bot, .bot, .bot, .bot, .bot, .bot, .bot, .bot, .bot, .bot, .bot, .bot, .bot, .bot, .bot, .bot, .bot, .bot, .bot, .bot, .bot, .bot, .bot, .bot, .bot, .bot, .bot, .bot, .bot, .bot, .bot, .bot, .bot, .bot, .bot, .bot, .bot, .bot, .bot, .bot, .bot, .bot, .bot, .bot, .bot, .bot, .bot, .bot, .bot, .bot, .bot, .bot, .bot, .bot, .bot, .bot, .bot, .bot, .bot, .bot, .bot, .bot, .bot, .bot, .bot, .bot, .bot, .bot, .bot, .bot, .bot, .bot, .bot, .bot, .bot, .bot, .bot, .bot, .bot, .bot, .bot, .bot, .bot, .bot, .bot, .bot, .bot, .bot, .bot, .bot, .bot, .bot, .bot, .bot, .bot, .bot, .bot, .bot, .bot, .bot, .bot, .bot, .bot, .bot, .bot, .bot, .bot, .bot, .bot, .bot, .bot, .bot, .bot, .bot, .bot, .bot, .bot, .bot, .bot, .bot, .bot, .bot, .bot, .bot, .bot, .bot, .bot, .bot, .bot, .bot, .bot, .bot, .bot, .bot, .bot, .bot, .bot, .bot, .bot, .bot, .bot, .bot], [(1, .obj [.c (.v (.int .u8 k)), .c (.v (.int .i64 w)), .c (.v (.int .u64 b)), .c (.v (.string nm)), .c (.v (.int .u8 op)), .c (.sl 6 (encEs sub))])]⟩)
      (fun i => i ≤ sub.length ∧ wellEs (sub.drop i) = wellEs sub) (fun i => sub.length - i) 0 ⟨by simp, by simp⟩ (Imp.le (by simp)) ?_
    rintro i ⟨hi, hw⟩
    simp
    refine Br_intro (fun h => ?_) (fun h => ?_)
    · simp at h
      simp [h]
      have hd : sub.drop i = sub[i] :: sub.drop (i + 1) := List.drop_eq_getElem_cons h
      rw [hd, wellEs] at hw
      have hb := nodes_le (List.getElem_mem h)
      refine Call_pure (ih sub[i] (by omega) (by omega)) ?_
      have h2 : IntKind.i64.wrap ((i : Int) + 1) = ((i + 1 : Nat) : Int) := wrap64 (by omega) ⟨by omega, by omega⟩
      simp
      refine Br_intro (fun g => ?_) (fun g => ?_)
      · rw [g, Bool.true_and] at hw
        simp [h2]
        exact Nx_for (i + 1) ⟨by omega, hw⟩ (by omega) (Imp.le (by simp))
      · rw [g, Bool.false_and] at hw
        simp [wellE, ← hw]
    · simp at h
      have hnil : sub.drop i = [] := by simp; omega
      rw [hnil, wellEs] at hw
      simp
      have hs : wellEs sub = true := hw.symm
      have h44 : Meets Tryd.prog (tabOf Tryd.prog GG) 44 [vI w] [] (.ret (vB (sizedX w))) [] := f44 w
      refine Br_intro (fun h1 => ?_) (fun h1 => ?_)
      · simp at h1
        subst h1
        simp
        refine Call_pure h44 ?_
        simp
        rw [fits_ok']
        simp [wellE, headE, partsE, emptyT, hs, Bool.and_assoc, Bool.and_comm, Bool.and_left_comm]
      simp [h1]
      refine Br_intro (fun h2 => ?_) (fun h2 => ?_)
      · simp at h2
        subst h2
        simp
        refine Br_call (.one (.c (.v (.bool (nameX nm))))) (by rfl) (by rfl) (fun _ => f45 nm) (fun h => by simp [h]) ?_
        simp
        simp [wellE, headE, partsE, emptyT, hs, Bool.and_assoc, Bool.and_comm, Bool.and_left_comm]
      simp [h2]
      refine Br_intro (fun h3 => ?_) (fun h3 => ?_)
      · simp at h3
        subst h3
        simp
        refine Br_call (.one (.c (.v (.bool (nameX nm))))) (by rfl) (by rfl) (fun _ => f45 nm) (fun h => by simp [h]) ?_
        simp
        simp [wellE, headE, partsE, emptyT, hs, Bool.and_assoc, Bool.and_comm, Bool.and_left_comm]
      simp [h3]
      refine Br_intro (fun h4 => ?_) (fun h4 => ?_)
      · simp at h4
        subst h4
        simp
        simp [wellE, headE, partsE, emptyT, hs, Bool.and_assoc, Bool.and_comm, Bool.and_left_comm]
      simp [h4]
      refine Br_intro (fun h5 => ?_) (fun h5 => ?_)
      · simp at h5
        subst h5
        simp
        simp [wellE, headE, partsE, emptyT, hs, Bool.and_assoc, Bool.and_comm, Bool.and_left_comm]
      simp [h5]
      refine Br_intro (fun h6 => ?_) (fun h6 => ?_)
      · simp at h6
        subst h6
        simp
        refine Br_call (.one (.c (.v (.string (signX op))))) (by rfl) (by rfl) (fun _ => f46 op) (fun h => by simp [h]) ?_
        simp
        rw [signX_ok]
        simp [wellE, headE, partsE, emptyT, hs, Bool.and_assoc, Bool.and_comm, Bool.and_left_comm]
      simp [h6]
      refine Br_intro (fun h7 => ?_) (fun h7 => ?_)
      · simp at h7
        subst h7
        simp
        refine Call_pure h44 ?_
        simp
        simp [wellE, headE, partsE, emptyT, hs, Bool.and_assoc, Bool.and_comm, Bool.and_left_comm]
      simp [h7]
      refine Br_intro (fun h8 => ?_) (fun h8 => ?_)
      · simp at h8
        subst h8
        simp
        refine Call_pure h44 ?_
        simp
        simp [wellE, headE, partsE, emptyT, hs, Bool.and_assoc, Bool.and_comm, Bool.and_left_comm]
      simp [h8]
      simp [wellE, headE, h1, h2, h3, h4, h5, h6, h7, h8]
end Go.Ew
end
section
/- Functions of the seat: well formed statements, the reference. -/
open Go Go.Proofs Go.Ew
namespace Go.Ew
mutual
def nodesS : Stm → Nat
  | .mk _ _ _ _ es b e => nodesL es + nodesSL b + nodesSL e + 1
def nodesSL : List Stm → Nat
  | [] => 0
  | x :: xs => nodesS x + nodesSL xs
end
theorem nodesSL_len : ∀ (l : List Stm), l.length ≤ nodesSL l
  | [] => by simp [nodesSL]
  | x :: xs => by have := nodesSL_len xs; cases x; simp [nodesSL, nodesS]; omega
theorem nodesS_le : ∀ {l : List Stm} {x : Stm}, x ∈ l → nodesS x ≤ nodesSL l
  | y :: ys, x, h => by
    rcases List.mem_cons.1 h with rfl | h
    · simp [nodesSL]
    · have := nodesS_le h; simp [nodesSL]; omega
def tailS (k : Int) (nm f : ByteArray) (w : Int) (len : Int) (bl el : Bool) : Bool :=
  if k = 1 then nameX nm && sizedX w && decide (len = 1) && (bl && el)
  else if k = 2 then nameX nm && decide (len = 1) && (bl && el)
  else if k = 3 then nameX nm && decide (len = 2) && (bl && el)
  else if k = 4 then emptyT nm && decide (len = 1)
  else if k = 5 then emptyT nm && decide (len = 1) && el
  else if k = 6 then emptyT nm && decide (len = 0) && (bl && el)
  else if k = 7 then emptyT nm && decide (len = 1) && (bl && el)
  else if k = 8 then emptyT nm && decide (len ≤ 1) && (bl && el)
  else if k = 9 then (emptyT nm || nameX nm) && nameX f && (bl && el)
  else false
def emptyL {α : Type} : List α → Bool
  | [] => true
  | _ => false
mutual
def wellS : Stm → Bool
  | .mk k nm f w es b e => wellEs es && (wellSs b && wellSs e) && !((!decide (k = 1) && !decide (w = 0)) || (!decide (k = 9) && !emptyT f)) && tailS k nm f w es.length (emptyL b) (emptyL e)
def wellSs : List Stm → Bool
  | [] => true
  | x :: xs => wellS x && wellSs xs
end
theorem wellSs_all : ∀ l : List Stm, wellSs l = l.all wellS
  | [] => rfl
  | x :: xs => by simp [wellSs, wellSs_all xs]
attribute [local simp] Cd_skip Cd_label Cd_seq Ct_false Br_notc Br_true Br_false Cd_cond Cd_block Cd_exit Cd_ret Cd_region Nx_code Nx_block Nx_ops Nx_plan  Nx_fin Nx_fin' Ex_code_exit Ex_code_ret Ex_block_exit Ex_block_ret Ex_round_exit Ex_round_ret Ex_fin_ret Ex_fin_ret' Pn_code Pn_block Pn_ops Pn_plan Pn_round Pn_fin Os_nil Os_cons gK_some Gt_some Gt_nil Gt_cons run_code run_op run_skip O1_eq Pl_done Pl_stop Pl_first Pl_alt cK_some qK_some asCall asPan actK_some panOf_some condK_some map_re_c map_kill_c map_keep_c map_frz_c re_cc kill_cc keep_cc frz_cc leCs_refl finA finR idl headOf allB
attribute [local simp] wantedA act quiet opd opg TV.acc imp ofConst St.get St.put St.putG orElse one1 one2 binA unA convA idxA strLen maxA minA TV.flat TV.int TV.bool TV.cells UV.cells CV.els TV.els viewOf PV.nv CV.nv peekC_eq peekB peekG peekH peekP_eq peekPB allP allNv allPs allNv_c allNv_append allP_append allPs_append rowsNv_eq at_ cellAt PV.down PV.elem readAt loadOp bump fieldAddrOp fieldOp indexAddrOp extractOp nilCheckOp lenOp boundOf sliceOp fillCells buildOp pickOp Tab.fld Tab.place tabOf_ti tabOf_mapT tabOf_stc tabOf_arr tabOf_elem tabOf_glob mk busy TV.isPtr TV.isMap keyOK keysOf lookupOp mapOf lookC_some lookC_none findK_nil findK_yes findK_no eqKey_lit eqKey_int mapLen_eq look lay del
attribute [local simp] makeMapOp updateOp insK_some insK_none insC_some insC_none frzMp allocOp boxOp storeOp killOf writeAt moves grabOf takeAt putAt PV.put setCell CV.isView CV.strip CV.stripP strip_cc map_strip_c any_view_c any_view_cc mapM_strip_eq stripL stripL_c mapM_strip_cc frzR_frz frzE_frz stripL_append Ew.newObj newReg rowsOf stripRows movesR buildSliceOp makeSliceOp srcOf baseOf appendOp room killM St.kill Kl.b Kl.h Cap.hit TV.kill UV.kill CV.kill MC.kill capOf capsOf plainCaps mkClo capTV calleeOf panArg resV resT resUs
attribute [local simp] toNew toOld view TV.re UV.re CV.re MC.re Cap.re caps_re leT leU leC leCs leMs leM leTs St.le St.re keysOK  roots_p map_re_p map_re_p' roots_c roots_cc shownOf shownBy pairsOf number deeper addAll MC.live TV.roots CV.roots MC.roots Cap.roots callIs numsOK liveAll start List.range_succ callSt afterMem newPart_nil newPart_cons oldPart_eq oldGo back isKey stays inRange aliveO aliveM MC.isMap aliveR aliveP MC.isObj MC.isReg Cap.alive CV.keep UV.keep TV.keep MC.keep span St.frz frzM TV.frz UV.frz CV.frz MC.frz frzO frzC Cap.frz PV.frz frzE frzR
attribute [local simp] encSs_len encS_len encS_nv encS_take encSs_at
set_option maxRecDepth 8000
set_option maxHeartbeats 2000000
theorem f61 (l : List Stm) (hl : l.length < 1000000) (h82 : ∀ a ∈ l, Meets Tryd.prog (tabOf Tryd.prog GG) 82 [vS a] [] (.ret (vB (wellS a))) []) : Meets Tryd.prog (tabOf Tryd.prog GG) 61 [vSs l] [] (.ret (vB (wellSs l))) [] := by
  refine meets_of (tabOf_ok _ _) [] Tryd.f61 16 [.tmp 2] (by kernel_rfl) (by kernel_rfl) rfl rfl rfl rfl false ?_
  simp
  refine Cd_for (fun i : Nat => ⟨[vSs l, .bot, .bot, vI i, .bot, .bot, .bot, .bot, .bot, .bot, .bot, .bot, .bot, .bot, .bot, .bot], []⟩)
    (fun i => i ≤ l.length ∧ wellSs (l.drop i) = wellSs l) (fun i => l.length - i) 0 ⟨by simp, by simp⟩ (Imp.le (by simp)) ?_
  rintro i ⟨hi, hw⟩
  simp
  refine Br_intro (fun h => ?_) (fun h => ?_)
  · simp at h
    simp [h]
    have hd : l.drop i = l[i] :: l.drop (i + 1) := List.drop_eq_getElem_cons h
    rw [hd, wellSs] at hw
    have h2 : IntKind.i64.wrap ((i : Int) + 1) = ((i + 1 : Nat) : Int) := wrap64 (by omega) ⟨by omega, by omega⟩
    refine Call_pure (h82 l[i] (List.getElem_mem h)) ?_
    simp
    refine Br_intro (fun g => ?_) (fun g => ?_)
    · rw [g, Bool.true_and] at hw
      simp [h2]
      exact Nx_for (i + 1) ⟨by omega, hw⟩ (by omega) (Imp.le (by simp))
    · rw [g, Bool.false_and] at hw
      simp [← hw]
  · simp at h
    have hnil : l.drop i = [] := by simp; omega
    rw [hnil, wellSs] at hw
    simp [← hw]
theorem emptyL_eq {α : Type} (l : List α) [Decidable (l = [])] : emptyL l = decide (l = []) := by cases l <;> simp [emptyL]
theorem wellEs_step (l : List Expr) (i : Nat) (h : i < l.length) : wellEs (l.drop i) = (wellE l[i] && wellEs (l.drop (i + 1))) := by
  rw [List.drop_eq_getElem_cons h, wellEs]
attribute [local simp] encEs_len encE_len encE_nv encE_take encEs_at
theorem f82 (n : Nat) : ∀ (x : Stm), nodesS x ≤ n → nodesS x < 1000000 → Meets Tryd.prog (tabOf Tryd.prog GG) 82 [vS x] [] (.ret (vB (wellS x))) [] := by
  induction n with
  | zero => intro x h _; cases x; simp [nodesS] at h
  | succ n ih =>
    intro x hn hx
    obtain ⟨k, nm, f, w, es, b, e⟩ := x
    simp only [nodesS] at hn hx
    have hel := nodesL_len es
    have hbl := nodesSL_len b
    have hll := nodesSL_len e
    have hB : Meets Tryd.prog (tabOf Tryd.prog GG) 61 [vSs b] [] (.ret (vB (wellSs b))) [] := f61 b (by omega) (fun a ha => by have := nodesS_le ha; exact ih a (by omega) (by omega))
    have hE : Meets Tryd.prog (tabOf Tryd.prog GG) 61 [vSs e] [] (.ret (vB (wellSs e))) [] := f61 e (by omega) (fun a ha => by have := nodesS_le ha; exact ih a (by omega) (by omega))
    have h44 : Meets Tryd.prog (tabOf Tryd.prog GG) 44 [vI w] [] (.ret (vB (sizedX w))) [] := f44 w
    refine meets_of (tabOf_ok _ _) [] Tryd.f82 182 [.tmp 2] (by kernel_rfl) (by kernel_rfl) rfl rfl rfl rfl false ?_
    simp [encS]
    refine Cd_for (fun i : Nat => ⟨[.bot, .a (.ptr 1 0 []), .bot, vI i, .bot, .bot, .bot, .bot, .bot, .bot, .bot, .bot, .bot, .bot, .bot, .bot, .bot, .bot, .bot, .bot, .bot, .bot, .bot, .bot, .bot, .bot, .bot, .bot, .bot, .bot, .bot, .bot, .bot, .bot, .bot, .bot, .bot, .bot, .bot, .bot, .bot, .bot, .bot, .bot, .bot, .bot, .bot, .bot, .bot, .bot, .bot, .bot, .bot, .bot, .bot, .bot, .bot, .bot, .bot, .bot, .bot, .bot, .bot, .bot, .bot, .bot, .bot, .bot, .bot, .bot, .bot, .bot, .bot, .bot, .bot, .bot, .bot, .bot, .bot, .bot, .bot, .bot, .bot, .bot, .bot, .bot, .bot, .bot, .bot, .bot, .bot, .bot, .bot, .bot, .bot, .bot, .bot, .bot, .bot, .bot, .bot, .bot, .bot, .bot, .bot, .bot, .bot, .bot, .bot, .bot, .bot, .bot, .bot, .bot, .bot, .bot, .bot, .bot, .bot, .bot, .bot, .bot, .bot, .bot, .bot, .bot, .bot, .bot, .bot, .bot, .bot, .bot, .bot, .bot, .bot, .bot, .bot, .bot, .bot, .bot, .bot, .bot, .bot, .bot, .bot, .bot, .bot, .bot, .bot, .bot, .bot, .bot, .bot, .bot, .bot, .bot, .bot, .bot, .bot, .bot, .bot, .bot, .bot, .bot, .bot, .bot, .bot, .bot, .bot, .bot, .bot, .bot, .bot, .bot, .bot, .bot, .bot, .bot, .bot, .bot, .bot, .bot], [(1, .obj [.c (.v (.int .u8 k)), .c (.v (.string nm)), .c (.v (.string f)), .c (.v (.int .i64 w)), .c (.sl 6 (encEs es)), .c (.sl 7 (encSs b)), .c (.sl 7 (encSs e))])]⟩)
      (fun i => i ≤ es.length ∧ wellEs (es.drop i) = wellEs es) (fun i => es.length - i) 0 ⟨by simp, by simp⟩ (Imp.le (by simp)) ?_
    rintro i ⟨hi, hw⟩
    simp
    refine Br_intro (fun h => ?_) (fun h => ?_)
    · simp at h
      simp [h]
      rw [wellEs_step es i h] at hw
      have hb := nodes_le (List.getElem_mem h)
      refine Call_pure (f21 _ es[i] (Nat.le_refl _) (by omega)) ?_
      have h2 : IntKind.i64.wrap ((i : Int) + 1) = ((i + 1 : Nat) : Int) := wrap64 (by omega) ⟨by omega, by omega⟩
      simp
      refine Br_intro (fun g => ?_) (fun g => ?_)
      · rw [g, Bool.true_and] at hw
        simp [h2]
        exact Nx_for (i + 1) ⟨by omega, hw⟩ (by omega) (Imp.le (by simp))
      · rw [g, Bool.false_and] at hw
        simp [wellS, ← hw]
    · simp at h
      have hnil : es.drop i = [] := by simp; omega
      rw [hnil, wellEs] at hw
      have hs : wellEs es = true := hw.symm
      simp
      refine Call_pure hB ?_
      simp
      refine Br_call (.one (.c (.v (.bool (wellSs e))))) (by rfl) (by rfl) (fun _ => hE) (fun h => by simp [h]) ?_
      simp
      refine Br_intro (fun g => ?_) (fun g => ?_)
      · have g1 : (wellSs b && wellSs e) = false := by cases hb : wellSs b <;> cases he : wellSs e <;> simp [hb, he] at g ⊢
        simp [wellS, g1]
      have g1 : wellSs b = true ∧ wellSs e = true := by simpa using g
      simp
      refine Br_intro (fun c => ?_) (fun c => ?_)
      · have c1 : ((!decide (k = 1) && !decide (w = 0)) || (!decide (k = 9) && !emptyT f)) = true := c
        simp [wellS, c1]
      have c1 : ((!decide (k = 1) && !decide (w = 0)) || (!decide (k = 9) && !emptyT f)) = false := c
      have key : wellS (.mk k nm f w es b e) = tailS k nm f w es.length (emptyL b) (emptyL e) := by
        rw [wellS, hs, g1.1, g1.2, c1]
        simp
      rw [key]
      clear key c1 c
      simp
      refine Br_intro (fun h1 => ?_) (fun h1 => ?_)
      · simp at h1
        subst h1
        simp
        refine Call_pure (f45 nm) ?_
        simp
        refine Br_call (.one (.c (.v (.bool (sizedX w))))) (by rfl) (by rfl) (fun _ => h44) (fun h => by simp [h]) ?_
        simp
        simp [tailS, emptyT, emptyL_eq, Bool.and_assoc, Bool.and_comm, Bool.and_left_comm]
      simp [h1]
      refine Br_intro (fun h2 => ?_) (fun h2 => ?_)
      · simp at h2
        subst h2
        simp
        refine Call_pure (f45 nm) ?_
        simp
        simp [tailS, emptyT, emptyL_eq, Bool.and_assoc, Bool.and_comm, Bool.and_left_comm]
      simp [h2]
      refine Br_intro (fun h3 => ?_) (fun h3 => ?_)
      · simp at h3
        subst h3
        simp
        refine Call_pure (f45 nm) ?_
        simp
        simp [tailS, emptyT, emptyL_eq, Bool.and_assoc, Bool.and_comm, Bool.and_left_comm]
      simp [h3]
      refine Br_intro (fun h4 => ?_) (fun h4 => ?_)
      · simp at h4
        subst h4
        simp
        simp [tailS, emptyT, emptyL_eq, Bool.and_assoc, Bool.and_comm, Bool.and_left_comm]
      simp [h4]
      refine Br_intro (fun h5 => ?_) (fun h5 => ?_)
      · simp at h5
        subst h5
        simp
        simp [tailS, emptyT, emptyL_eq, Bool.and_assoc, Bool.and_comm, Bool.and_left_comm]
      simp [h5]
      refine Br_intro (fun h6 => ?_) (fun h6 => ?_)
      · simp at h6
        subst h6
        simp
        simp [tailS, emptyT, emptyL_eq, Bool.and_assoc, Bool.and_comm, Bool.and_left_comm]
      simp [h6]
      refine Br_intro (fun h7 => ?_) (fun h7 => ?_)
      · simp at h7
        subst h7
        simp
        simp [tailS, emptyT, emptyL_eq, Bool.and_assoc, Bool.and_comm, Bool.and_left_comm]
      simp [h7]
      refine Br_intro (fun h8 => ?_) (fun h8 => ?_)
      · simp at h8
        subst h8
        simp
        simp [tailS, emptyT, emptyL_eq, Bool.and_assoc, Bool.and_comm, Bool.and_left_comm]
      simp [h8]
      refine Br_intro (fun h9 => ?_) (fun h9 => ?_)
      · simp at h9
        subst h9
        simp
        refine Br_call (.one (.c (.v (.bool (nameX nm))))) (by rfl) (by rfl) (fun _ => f45 nm) (fun h => by simp [h]) ?_
        simp
        refine Br_call (.one (.c (.v (.bool (nameX f))))) (by rfl) (by rfl) (fun _ => f45 f) (fun h => by simp [h]) ?_
        simp
        simp [tailS, emptyT, emptyL_eq, Bool.and_assoc, Bool.and_comm, Bool.and_left_comm]
      simp [h9]
      simp [tailS, h1, h2, h3, h4, h5, h6, h7, h8, h9]
end Go.Ew
end
section
/- Functions of the seat: well formed programs, the reference. -/
open Go Go.Proofs Go.Ew
namespace Go.Ew
def badA (a : Arr) : Bool := !nameX a.name || decide (a.width = 1) || !sizedX a.width || decide (a.len < 1) || decide (64 < a.len) || !pow2X a.len
def badP (a : Par) : Bool := !nameX a.name || !sizedX a.width
def badF (f : Fun) : Bool := f.params.any badP || (!nameX f.name || !decide (f.result = 0) && !sizedX f.result || !wellSs f.body)
def formedX (p : Pro) : Bool := !p.arrays.any badA && (!p.funcs.any badF && decide (0 < p.funcs.length))
theorem any_step {α : Type} (f : α → Bool) (l : List α) (i : Nat) (h : i < l.length) : (l.drop i).any f = (f l[i] || (l.drop (i + 1)).any f) := by
  rw [List.drop_eq_getElem_cons h, List.any_cons]
attribute [local simp] Cd_skip Cd_label Cd_seq Ct_false Br_notc Br_true Br_false Cd_cond Cd_block Cd_exit Cd_ret Cd_region Nx_code Nx_block Nx_ops Nx_plan  Nx_fin Nx_fin' Ex_code_exit Ex_code_ret Ex_block_exit Ex_block_ret Ex_round_exit Ex_round_ret Ex_fin_ret Ex_fin_ret' Pn_code Pn_block Pn_ops Pn_plan Pn_round Pn_fin Os_nil Os_cons gK_some Gt_some Gt_nil Gt_cons run_code run_op run_skip O1_eq Pl_done Pl_stop Pl_first Pl_alt cK_some qK_some asCall asPan actK_some panOf_some condK_some map_re_c map_kill_c map_keep_c map_frz_c re_cc kill_cc keep_cc frz_cc leCs_refl finA finR idl headOf allB
attribute [local simp] wantedA act quiet opd opg TV.acc imp ofConst St.get St.put St.putG orElse one1 one2 binA unA convA idxA strLen maxA minA TV.flat TV.int TV.bool TV.cells UV.cells CV.els TV.els viewOf PV.nv CV.nv peekC_eq peekB peekG peekH peekP_eq peekPB allP allNv allPs allNv_c allNv_append allP_append allPs_append rowsNv_eq at_ cellAt PV.down PV.elem readAt loadOp bump fieldAddrOp fieldOp indexAddrOp extractOp nilCheckOp lenOp boundOf sliceOp fillCells buildOp pickOp Tab.fld Tab.place tabOf_ti tabOf_mapT tabOf_stc tabOf_arr tabOf_elem tabOf_glob mk busy TV.isPtr TV.isMap keyOK keysOf lookupOp mapOf lookC_some lookC_none findK_nil findK_yes findK_no eqKey_lit eqKey_int mapLen_eq look lay del
attribute [local simp] makeMapOp updateOp insK_some insK_none insC_some insC_none frzMp allocOp boxOp storeOp killOf writeAt moves grabOf takeAt putAt PV.put setCell CV.isView CV.strip CV.stripP strip_cc map_strip_c any_view_c any_view_cc mapM_strip_eq stripL stripL_c mapM_strip_cc frzR_frz frzE_frz stripL_append Ew.newObj newReg rowsOf stripRows movesR buildSliceOp makeSliceOp srcOf baseOf appendOp room killM St.kill Kl.b Kl.h Cap.hit TV.kill UV.kill CV.kill MC.kill capOf capsOf plainCaps mkClo capTV calleeOf panArg resV resT resUs
attribute [local simp] toNew toOld view TV.re UV.re CV.re MC.re Cap.re caps_re leT leU leC leCs leMs leM leTs St.le St.re keysOK  roots_p map_re_p map_re_p' roots_c roots_cc shownOf shownBy pairsOf number deeper addAll MC.live TV.roots CV.roots MC.roots Cap.roots callIs numsOK liveAll start List.range_succ callSt afterMem newPart_nil newPart_cons oldPart_eq oldGo back isKey stays inRange aliveO aliveM MC.isMap aliveR aliveP MC.isObj MC.isReg Cap.alive CV.keep UV.keep TV.keep MC.keep span St.frz frzM TV.frz UV.frz CV.frz MC.frz frzO frzC Cap.frz PV.frz frzE frzR
attribute [local simp] encAs_len encAs_at encFs_len encFs_at encPs_len encPs_at encA encF encP
set_option maxRecDepth 8000
set_option maxHeartbeats 2000000
theorem f31 (p : Pro) (hA : p.arrays.length < 1000000) (hF : p.funcs.length < 1000000) (hP : ∀ f ∈ p.funcs, f.params.length < 1000000) (hB : ∀ f ∈ p.funcs, nodesSL f.body < 1000000) : Meets Tryd.prog (tabOf Tryd.prog GG) 31 [vPro p] [] (.ret (vB (formedX p))) [] := by
  refine meets_of (tabOf_ok _ _) [] Tryd.f31 116 [.tmp 2] (by kernel_rfl) (by kernel_rfl) rfl rfl rfl rfl false ?_
  simp
  refine Cd_for (fun i : Nat => ⟨[.bot, .a (.ptr 1 0 []), .bot, vI i, .bot, .bot, .bot, .bot, .bot, .bot, .bot, .bot, .bot, .bot, .bot, .bot, .bot, .bot, .bot, .bot, .bot, .bot, .bot, .bot, .bot, .bot, .bot, .bot, .bot, .bot, .bot, .bot, .bot, .bot, .bot, .bot, .bot, .bot, .bot, .bot, .bot, .bot, .bot, .bot, .bot, .bot, .bot, .bot, .bot, .bot, .bot, .bot, .bot, .bot, .bot, .bot, .bot, .bot, .bot, .bot, .bot, .bot, .bot, .bot, .bot, .bot, .bot, .bot, .bot, .bot, .bot, .bot, .bot, .bot, .bot, .bot, .bot, .bot, .bot, .bot, .bot, .bot, .bot, .bot, .bot, .bot, .bot, .bot, .bot, .bot, .bot, .bot, .bot, .bot, .bot, .bot, .bot, .bot, .bot, .bot, .bot, .bot, .bot, .bot, .bot, .bot, .bot, .bot, .bot, .bot, .bot, .bot, .bot, .bot, .bot, .bot], [(1, .obj [.c (.sl 3 (encAs p.arrays)), .c (.sl 4 (encFs p.funcs))])]⟩)
    (fun i => i ≤ p.arrays.length ∧ (p.arrays.drop i).any badA = p.arrays.any badA) (fun i => p.arrays.length - i) 0 ⟨by simp, by simp⟩ (Imp.le (by simp)) ?_
  rintro i ⟨hi, hw⟩
  simp
  refine Br_intro (fun h => ?_) (fun h => ?_)
  · simp at h
    simp [h]
    rw [any_step badA _ i h] at hw
    have h2 : IntKind.i64.wrap ((i : Int) + 1) = ((i + 1 : Nat) : Int) := wrap64 (by omega) ⟨by omega, by omega⟩
    refine Call_pure (f45 p.arrays[i].name) ?_
    simp
    have h44 : Meets Tryd.prog (tabOf Tryd.prog GG) 44 [vI p.arrays[i].width] [] (.ret (vB (sizedX p.arrays[i].width))) [] := f44 _
    refine Br_call (.one (.c (.v (.bool (sizedX p.arrays[i].width))))) (by rfl) (by rfl) (fun _ => h44) (fun h => by simp [h]) ?_
    simp [IntKind.bits]
    refine Br_intro (fun c => ?_) (fun c => ?_)
    · have c1 : badA p.arrays[i] = true := c
      rw [c1, Bool.true_or] at hw
      simp [formedX, ← hw]
    · have c1 : badA p.arrays[i] = false := c
      rw [c1, Bool.false_or] at hw
      simp [h2]
      exact Nx_for (i + 1) ⟨by omega, hw⟩ (by omega) (Imp.le (by simp))
  · simp at h
    have hnil : p.arrays.drop i = [] := by simp; omega
    rw [hnil, List.any_nil] at hw
    have ha : p.arrays.any badA = false := hw.symm
    simp
    refine Cd_for (fun j : Nat => ⟨[.bot, .a (.ptr 1 0 []), .bot, .bot, .bot, vI j, .bot, .bot, .bot, .bot, .bot, .bot, .bot, .bot, .bot, .bot, .bot, .bot, .bot, .bot, .bot, .bot, .bot, .bot, .bot, .bot, .bot, .bot, .bot, .bot, .bot, .bot, .bot, .bot, .bot, .bot, .bot, .bot, .bot, .bot, .bot, .bot, .bot, .bot, .bot, .bot, .bot, .bot, .bot, .bot, .bot, .bot, .bot, .bot, .bot, .bot, .bot, .bot, .bot, .bot, .bot, .bot, .bot, .bot, .bot, .bot, .bot, .bot, .bot, .bot, .bot, .bot, .bot, .bot, .bot, .bot, .bot, .bot, .bot, .bot, .bot, .bot, .bot, .bot, .bot, .bot, .bot, .bot, .bot, .bot, .bot, .bot, .bot, .bot, .bot, .bot, .bot, .bot, .bot, .bot, .bot, .bot, .bot, .bot, .bot, .bot, .bot, .bot, .bot, .bot, .bot, .bot, .bot, .bot, .bot, .bot], [(1, .obj [.c (.sl 3 (encAs p.arrays)), .c (.sl 4 (encFs p.funcs))])]⟩)
      (fun j => j ≤ p.funcs.length ∧ (p.funcs.drop j).any badF = p.funcs.any badF) (fun j => p.funcs.length - j) 0 ⟨by simp, by simp⟩ (Imp.le (by simp)) ?_
    rintro j ⟨hj, hv⟩
    simp
    refine Br_intro (fun g => ?_) (fun g => ?_)
    · simp at g
      simp [g]
      rw [any_step badF _ j g] at hv
      have h2 : IntKind.i64.wrap ((j : Int) + 1) = ((j + 1 : Nat) : Int) := wrap64 (by omega) ⟨by omega, by omega⟩
      have hpl := hP _ (List.getElem_mem g)
      have hbl := hB _ (List.getElem_mem g)
      refine Cd_for (fun q : Nat => ⟨[.bot, .a (.ptr 1 0 []), .bot, .bot, .bot, vI j, .a (.ptr 6 0 []), vI q, .bot, .bot, .bot, .bot, .bot, .bot, .bot, .bot, .bot, .bot, .bot, .bot, .bot, .bot, .bot, .bot, .bot, .bot, .bot, .bot, .bot, .bot, .bot, .bot, .bot, .bot, .bot, .bot, .bot, .bot, .bot, .bot, .bot, .bot, .bot, .bot, .bot, .bot, .bot, .bot, .bot, .bot, .bot, .bot, .bot, .bot, .bot, .bot, .bot, .bot, .bot, .bot, .bot, .bot, .bot, .bot, .bot, .bot, .bot, .bot, .bot, .bot, .bot, .bot, .bot, .bot, .bot, .bot, .bot, .bot, .bot, .bot, .bot, .bot, .bot, .bot, .bot, .bot, .bot, .bot, .bot, .bot, .bot, .bot, .bot, .bot, .bot, .bot, .bot, .bot, .bot, .bot, .bot, .bot, .bot, .bot, .bot, .bot, .bot, .bot, .bot, .bot, .bot, .bot, .bot, .bot, .bot, .bot], [(1, .obj [.c (.sl 3 (encAs p.arrays)), .c (.sl 4 (encFs p.funcs))]), (6, .obj ((encF p.funcs[j]).map CV.c))]⟩)
        (fun q => q ≤ p.funcs[j].params.length ∧ (p.funcs[j].params.drop q).any badP = p.funcs[j].params.any badP) (fun q => p.funcs[j].params.length - q) 0 ⟨by simp, by simp⟩ (Imp.le (by simp)) ?_
      rintro q ⟨hq, hu⟩
      simp
      refine Br_intro (fun d => ?_) (fun d => ?_)
      · simp at d
        simp [d]
        rw [any_step badP _ q d] at hu
        have h3 : IntKind.i64.wrap ((q : Int) + 1) = ((q + 1 : Nat) : Int) := wrap64 (by omega) ⟨by omega, by omega⟩
        refine Call_pure (f45 p.funcs[j].params[q].name) ?_
        simp [d]
        have h44 : Meets Tryd.prog (tabOf Tryd.prog GG) 44 [vI p.funcs[j].params[q].width] [] (.ret (vB (sizedX p.funcs[j].params[q].width))) [] := f44 _
        refine Br_call (.one (.c (.v (.bool (sizedX p.funcs[j].params[q].width))))) (by rfl) (by rfl) (fun _ => h44) (fun h => by simp [h]) ?_
        simp
        refine Br_intro (fun c => ?_) (fun c => ?_)
        · have c1 : badP p.funcs[j].params[q] = true := c
          rw [c1, Bool.true_or] at hu
          have c2 : badF p.funcs[j] = true := by simp only [badF, ← hu, Bool.true_or]
          rw [c2, Bool.true_or] at hv
          simp [formedX, ← hv]
        · have c1 : badP p.funcs[j].params[q] = false := c
          rw [c1, Bool.false_or] at hu
          simp [h3]
          exact Nx_for (q + 1) ⟨by omega, hu⟩ (by omega) (Imp.le (by simp))
      · simp at d
        have hnq : p.funcs[j].params.drop q = [] := by simp; omega
        rw [hnq, List.any_nil] at hu
        simp
        refine Call_pure (f45 p.funcs[j].name) ?_
        simp
        have h44 : Meets Tryd.prog (tabOf Tryd.prog GG) 44 [vI p.funcs[j].result] [] (.ret (vB (sizedX p.funcs[j].result))) [] := f44 _
        have h61 : Meets Tryd.prog (tabOf Tryd.prog GG) 61 [vSs p.funcs[j].body] [] (.ret (vB (wellSs p.funcs[j].body))) [] := f61 _ (by have := nodesSL_len p.funcs[j].body; omega) (fun a ha => by have := nodesS_le ha; exact f82 _ a (Nat.le_refl _) (by omega))
        refine Br_callg [nameX p.funcs[j].name, !decide (p.funcs[j].result = 0)] (by simp [allB]) (.one (.c (.v (.bool (sizedX p.funcs[j].result))))) (by rfl) (by rfl) (fun _ => h44) (fun h => by simp [h]) ?_
        simp
        refine Br_call (.one (.c (.v (.bool (wellSs p.funcs[j].body))))) (by rfl) (by rfl) (fun _ => h61) (fun h => by simp [h]) ?_
        simp
        refine Br_intro (fun c => ?_) (fun c => ?_)
        · have c2 : badF p.funcs[j] = true := by
            simp only [badF, ← hu, Bool.false_or]
            exact c
          rw [c2, Bool.true_or] at hv
          simp [formedX, ← hv]
        · have c2 : badF p.funcs[j] = false := by
            simp only [badF, ← hu, Bool.false_or]
            exact c
          rw [c2, Bool.false_or] at hv
          simp [h2]
          exact Nx_for (j + 1) ⟨by omega, hv⟩ (by omega) (Imp.le (by simp))
    · simp at g
      have hnj : p.funcs.drop j = [] := by simp; omega
      rw [hnj, List.any_nil] at hv
      simp [formedX, ha, ← hv]
end Go.Ew
end
