/- What functions of the seat do: whether an expression is well formed. -/
import Derived.Test.YtlkoaemljkdioaaDoorDC
section
/- Functions of the seat: well formed expressions. -/
open Go Go.Proofs Go.Ew
namespace Go.Ew
def emptyT (s : ByteArray) : Bool := decide (s.toList = [])
def headE (k w b : Int) (nm : ByteArray) (op : Int) : Bool :=
  if k = 1 then sizedX w && okX w b && emptyT nm && decide (op = 0)
  else if k = 2 ∨ k = 3 then nameX nm && decide (w = 0) && decide (b = 0) && decide (op = 0)
  else if k = 4 ∨ k = 5 then decide (w = 0) && decide (b = 0) && emptyT nm && decide (op = 0)
  else if k = 6 then decide (5 ≤ op) && decide (op ≤ 18) && decide (w = 0) && decide (b = 0) && emptyT nm
  else if k = 7 ∨ k = 8 then sizedX w && decide (b = 0) && emptyT nm && decide (op = 0)
  else false
def partsE (k : Int) : Int := if k = 1 then 0 else if k = 2 then 0 else if k = 6 then 2 else 1
mutual
def wellE : Expr → Bool
  | .mk k w b nm op sub => headE k w b nm op && decide ((sub.length : Int) = partsE k) && wellEs sub
def wellEs : List Expr → Bool
  | [] => true
  | x :: xs => wellE x && wellEs xs
end
theorem wellEs_all : ∀ l : List Expr, wellEs l = l.all wellE
  | [] => rfl
  | x :: xs => by simp [wellEs, wellEs_all xs]
attribute [local simp] Cd_skip Cd_label Cd_seq Ct_false Br_notc Br_true Br_false Cd_cond Cd_block Cd_exit Cd_ret Cd_region Nx_code Nx_block Nx_ops Nx_plan  Nx_fin Nx_fin' Ex_code_exit Ex_code_ret Ex_block_exit Ex_block_ret Ex_round_exit Ex_round_ret Ex_fin_ret Ex_fin_ret' Pn_code Pn_block Pn_ops Pn_plan Pn_round Pn_fin Os_nil Os_cons gK_some Gt_some Gt_nil Gt_cons run_code run_op run_skip O1_eq Pl_done Pl_stop Pl_first Pl_alt cK_some qK_some asCall asPan actK_some panOf_some condK_some map_re_c map_kill_c map_keep_c map_frz_c re_cc kill_cc keep_cc frz_cc leCs_refl finA finR idl headOf allB
attribute [local simp] wantedA act quiet opd opg TV.acc imp ofConst St.get St.put St.putG orElse one1 one2 binA unA convA idxA strLen maxA minA TV.flat TV.int TV.bool TV.cells UV.cells CV.els TV.els viewOf PV.nv CV.nv peekC_eq peekB peekG peekH peekP_eq peekPB allP allNv allPs allNv_c allNv_append allP_append allPs_append rowsNv_eq at_ cellAt PV.down PV.elem readAt loadOp bump fieldAddrOp fieldOp indexAddrOp extractOp nilCheckOp lenOp boundOf sliceOp fillCells buildOp pickOp Tab.fld Tab.place tabOf_ti tabOf_mapT tabOf_stc tabOf_arr tabOf_elem tabOf_glob mk busy TV.isPtr TV.isMap keyOK keysOf lookupOp mapOf lookC_some lookC_none findK_nil findK_yes findK_no eqKey_lit eqKey_int mapLen_eq look lay del
attribute [local simp] makeMapOp updateOp insK_some insK_none insC_some insC_none frzMp allocOp boxOp storeOp killOf writeAt moves grabOf takeAt putAt PV.put setCell CV.isView CV.strip CV.stripP strip_cc map_strip_c any_view_c any_view_cc mapM_strip_eq stripL stripL_c mapM_strip_cc frzR_frz frzE_frz stripL_append Ew.newObj newReg rowsOf stripRows movesR buildSliceOp makeSliceOp srcOf baseOf appendOp room killM St.kill Kl.b Kl.h Cap.hit TV.kill UV.kill CV.kill MC.kill capOf capsOf plainCaps mkClo capTV calleeOf panArg resV resT resUs
attribute [local simp] toNew toOld view TV.re UV.re CV.re MC.re Cap.re caps_re leT leU leC leCs leMs leM leTs St.le St.re keysOK  roots_p map_re_p map_re_p' roots_c roots_cc shownOf shownBy pairsOf number deeper addAll MC.live TV.roots CV.roots MC.roots Cap.roots callIs numsOK liveAll start List.range_succ callSt afterMem newPart_nil newPart_cons oldPart_eq oldGo back isKey stays inRange aliveO aliveM MC.isMap aliveR aliveP MC.isObj MC.isReg Cap.alive CV.keep UV.keep TV.keep MC.keep span St.frz frzM TV.frz UV.frz CV.frz MC.frz frzO frzC Cap.frz PV.frz frzE frzR
attribute [local simp] encEs_len encE_len encE_nv encE_take encEs_at
set_option maxRecDepth 8000
set_option maxHeartbeats 2000000
theorem f18 (h35 : ∀ w, Meets Tryd.prog (tabOf Tryd.prog GG) 35 [vI w] [] (.ret (vB (sizedX w))) []) (n : Nat) : ∀ (x : Expr), nodes x ≤ n → nodes x < 1000000 → Meets Tryd.prog (tabOf Tryd.prog GG) 18 [vE x] [] (.ret (vB (wellE x))) [] := by
  induction n with
  | zero => intro x h _; cases x; simp [nodes] at h
  | succ n ih =>
    intro x hn hx
    obtain ⟨k, w, b, nm, op, sub⟩ := x
    simp only [nodes] at hn hx
    have hsl := nodesL_len sub
    have hall : Meets Tryd.prog (tabOf Tryd.prog GG) 38 [.p (.sl 6 (encEs sub)), .p (.clo 18 [])] [] (.ret (vB (sub.all wellE))) [] :=
      f38 sub 18 [] wellE (by omega) (fun a ha => by have := nodes_le ha; exact ih a (by omega) (by omega))
    have e0 : IntKind.i64.wrap (IntKind.u8.wrap 0) = 0 := by decide
    have e1 : IntKind.i64.wrap (IntKind.u8.wrap 1) = 1 := by decide
    refine meets_of (tabOf_ok _ _) [] Tryd.f18 112 [.tmp 2] (by kernel_rfl) (by kernel_rfl) rfl rfl rfl rfl false ?_
    simp [encE]
    by_cases h1 : k = 1
    · subst h1
      simp
      refine Cd_draw (.first 0 (.first 2 (.alt 1 (.first 4 (.alt 3 (.alt 5 (.first 6 (.alt 7 .done .stop)) .stop) (.alt 5 (.alt 3 (.first 6 (.alt 7 .done .stop)) .stop) .stop))) (.alt 3 (.alt 1 (.first 4 (.alt 5 (.first 6 (.alt 7 .done .stop)) .stop)) .stop) .stop)))) (by kernel_rfl) (by kernel_rfl) (by kernel_rfl) ?_
      simp
      refine Call_pure (h35 w) ?_
      simp
      refine Br_call (.one (.c (.v (.bool (okX w b))))) (by rfl) (by rfl) (fun _ => f36 w b) (fun h => by simp [h]) ?_
      simp
      refine Br_call (.one (.c (.v (.bool (sub.all wellE))))) (by rfl) (by rfl) (fun _ => hall) (fun h => by simp [h]) ?_
      simp [wellE, headE, partsE, emptyT, wellEs_all, Bool.and_assoc, e0, e1]
    by_cases h2 : k = 2
    · subst h2
      simp
      refine Call_pure (f37 nm) ?_
      simp
      refine Br_call (.one (.c (.v (.bool (sub.all wellE))))) (by rfl) (by rfl) (fun _ => hall) (fun h => by simp [h]) ?_
      simp [wellE, headE, partsE, emptyT, wellEs_all, Bool.and_assoc, e0, e1]
    by_cases h3 : k = 3
    · subst h3
      simp
      refine Call_pure (f37 nm) ?_
      simp
      refine Br_call (.one (.c (.v (.bool (sub.all wellE))))) (by rfl) (by rfl) (fun _ => hall) (fun h => by simp [h]) ?_
      simp [wellE, headE, partsE, emptyT, wellEs_all, Bool.and_assoc, e0, e1]
    by_cases h4 : k = 4
    · subst h4
      simp
      refine Br_call (.one (.c (.v (.bool (sub.all wellE))))) (by rfl) (by rfl) (fun _ => hall) (fun h => by simp [h]) ?_
      simp [wellE, headE, partsE, emptyT, wellEs_all, Bool.and_assoc, e0, e1]
    by_cases h5 : k = 5
    · subst h5
      simp
      refine Br_call (.one (.c (.v (.bool (sub.all wellE))))) (by rfl) (by rfl) (fun _ => hall) (fun h => by simp [h]) ?_
      simp [wellE, headE, partsE, emptyT, wellEs_all, Bool.and_assoc, e0, e1]
    by_cases h6 : k = 6
    · subst h6
      simp
      refine Br_call (.one (.c (.v (.bool (sub.all wellE))))) (by rfl) (by rfl) (fun _ => hall) (fun h => by simp [h]) ?_
      simp [wellE, headE, partsE, emptyT, wellEs_all, Bool.and_assoc, e0, e1]
    by_cases h7 : k = 7
    · subst h7
      simp
      refine Call_pure (h35 w) ?_
      simp
      refine Br_call (.one (.c (.v (.bool (sub.all wellE))))) (by rfl) (by rfl) (fun _ => hall) (fun h => by simp [h]) ?_
      simp [wellE, headE, partsE, emptyT, wellEs_all, Bool.and_assoc, e0, e1]
    by_cases h8 : k = 8
    · subst h8
      simp
      refine Call_pure (h35 w) ?_
      simp
      refine Br_call (.one (.c (.v (.bool (sub.all wellE))))) (by rfl) (by rfl) (fun _ => hall) (fun h => by simp [h]) ?_
      simp [wellE, headE, partsE, emptyT, wellEs_all, Bool.and_assoc, e0, e1]
    simp [h1, h2, h3, h4, h5, h6, h7, h8]
    refine Sk_go ?_
    simp [wellE, headE, h1, h2, h3, h4, h5, h6, h7, h8]
end Go.Ew
end
