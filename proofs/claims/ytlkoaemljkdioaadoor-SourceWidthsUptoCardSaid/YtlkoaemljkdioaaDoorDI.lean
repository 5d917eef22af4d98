/- What functions of the seat do: a statement's check. -/
import Derived.Test.YtlkoaemljkdioaaDoorDH
section
/- Functions of the seat: the rules for statements, the program's. -/
open Go Go.Proofs Go.Ew
namespace Go.Ew
def funA (p : Pro) (i : Int) : Fun := p.funcs.getD i.toNat ⟨⟨#[]⟩, [], 0, []⟩
def callX (p : Pro) (kl : List Par) (nm f : ByteArray) (l : List Int) : Int :=
  if ixT (p.funcs.map Fun.name) f 0 < 0 then 16
  else if l = (funA p (ixT (p.funcs.map Fun.name) f 0)).params.map Par.width then
    (if nm.toList = [] then 0 else if lookW kl nm = 0 then 16 else if lookW kl nm = (funA p (ixT (p.funcs.map Fun.name) f 0)).result then 0 else 14)
  else 14
attribute [local simp] Cd_skip Cd_label Cd_seq Ct_false Br_notc Br_true Br_false Cd_cond Cd_block Cd_exit Cd_ret Cd_region Nx_code Nx_block Nx_ops Nx_plan  Nx_fin Nx_fin' Ex_code_exit Ex_code_ret Ex_block_exit Ex_block_ret Ex_round_exit Ex_round_ret Ex_fin_ret Ex_fin_ret' Pn_code Pn_block Pn_ops Pn_plan Pn_round Pn_fin Os_nil Os_cons gK_some Gt_some Gt_nil Gt_cons run_code run_op run_skip O1_eq Pl_done Pl_stop Pl_first Pl_alt cK_some qK_some asCall asPan actK_some panOf_some condK_some map_re_c map_kill_c map_keep_c map_frz_c re_cc kill_cc keep_cc frz_cc leCs_refl finA finR idl headOf allB
attribute [local simp] wantedA act quiet opd opg TV.acc imp ofConst St.get St.put St.putG orElse one1 one2 binA unA convA idxA strLen maxA minA TV.flat TV.int TV.bool TV.cells UV.cells CV.els TV.els viewOf PV.nv CV.nv peekC_eq peekB peekG peekH peekP_eq peekPB allP allNv allPs allNv_c allNv_append allP_append allPs_append rowsNv_eq at_ cellAt PV.down PV.elem readAt loadOp bump fieldAddrOp fieldOp indexAddrOp extractOp nilCheckOp lenOp boundOf sliceOp fillCells buildOp pickOp Tab.fld Tab.place tabOf_ti tabOf_mapT tabOf_stc tabOf_arr tabOf_elem tabOf_glob mk busy TV.isPtr TV.isMap keyOK keysOf lookupOp mapOf lookC_some lookC_none findK_nil findK_yes findK_no eqKey_lit eqKey_int mapLen_eq look lay del
attribute [local simp] makeMapOp updateOp insK_some insK_none insC_some insC_none frzMp allocOp boxOp storeOp killOf writeAt moves grabOf takeAt putAt PV.put setCell CV.isView CV.strip CV.stripP strip_cc map_strip_c any_view_c any_view_cc mapM_strip_eq stripL stripL_c mapM_strip_cc frzR_frz frzE_frz stripL_append Ew.newObj newReg rowsOf stripRows movesR buildSliceOp makeSliceOp srcOf baseOf appendOp room killM St.kill Kl.b Kl.h Cap.hit TV.kill UV.kill CV.kill MC.kill capOf capsOf plainCaps mkClo capTV calleeOf panArg resV resT resUs
attribute [local simp] toNew toOld view TV.re UV.re CV.re MC.re Cap.re caps_re leT leU leC leCs leMs leM leTs St.le St.re keysOK  roots_p map_re_p map_re_p' roots_c roots_cc shownOf shownBy pairsOf number deeper addAll MC.live TV.roots CV.roots MC.roots Cap.roots callIs numsOK liveAll start List.range_succ callSt afterMem newPart_nil newPart_cons oldPart_eq oldGo back isKey stays inRange aliveO aliveM MC.isMap aliveR aliveP MC.isObj MC.isReg Cap.alive CV.keep UV.keep TV.keep MC.keep span St.frz frzM TV.frz UV.frz CV.frz MC.frz frzO frzC Cap.frz PV.frz frzE frzR
attribute [local simp] encIs_len encIs_nv encIs_app encAs_len encAs_at encA encFs_len encFs_at encPs_len encPs_at encF encP
set_option maxRecDepth 8000
set_option maxHeartbeats 2000000
theorem encIs_at (l : List Int) (i : Nat) (h : i < (encIs l).length) : (encIs l)[i] = [.v (.int .i64 (l[i]'(by rw [← encIs_len]; exact h)))] := by simp [encIs]
attribute [local simp] encIs_at
theorem f89 (l m : List Int) (hl : l.length < 1000000) (hm : m.length < 1000000) : Meets Tryd.prog (tabOf Tryd.prog GG) 89 [.p (.sl 1 (encIs l)), .p (.sl 1 (encIs m))] [] (.ret (vB (decide (l = m)))) [] := by
  refine meets_of (tabOf_ok _ _) [] Tryd.f89 26 [.tmp 4] (by kernel_rfl) (by kernel_rfl) rfl rfl rfl rfl false ?_
  simp
  refine Br_intro (fun h => ?_) (fun h => ?_) <;> simp at h
  rotate_left
  · have : ¬ l = m := fun e => h (by rw [e])
    simp [this]
  simp
  refine Cd_for (fun i : Nat => ⟨[.p (.sl 1 (encIs l)), .p (.sl 1 (encIs m)), .bot, .bot, .bot, .bot, .bot, .bot, .bot, .bot, .bot, .bot, vI l.length, vI i, .bot, .bot, .bot, .bot, .bot, .bot, .bot, .bot, .bot, .bot, .bot, .bot], []⟩)
    (fun i => i ≤ l.length ∧ l.take i = m.take i) (fun i => l.length - i) 0 ⟨by simp, by simp⟩ (Imp.le (by simp)) ?_
  rintro i ⟨hi, hw⟩
  simp
  refine Br_intro (fun g => ?_) (fun g => ?_)
  · simp at g
    have g2 : i < m.length := by omega
    have h2 : IntKind.i64.wrap ((i : Int) + 1) = ((i + 1 : Nat) : Int) := wrap64 (by omega) ⟨by omega, by omega⟩
    simp
    refine Cd_draw (.first 0 (.first 1 (.first 2 (.first 4 (.first 5 (.first 6 (.alt 3 (.alt 7 (.first 8 .done) .stop) (.alt 7 (.alt 3 (.first 8 .done) .stop) .stop)))))))) (by kernel_rfl) (by kernel_rfl) (by kernel_rfl) ?_
    simp [g, g2]
    refine Br_intro (fun c => ?_) (fun c => ?_) <;> simp at c
    · simp [h2]
      exact Nx_for (i + 1) ⟨by omega, by rw [List.take_add_one, List.take_add_one, hw]; simp [g, g2, c]⟩ (by omega) (Imp.le (by simp))
    · have : ¬ l = m := fun e => c (by subst e; rfl)
      simp [this]
  · simp at g
    have e1 : l.take i = l := List.take_of_length_le (by omega)
    have e2 : m.take i = m := List.take_of_length_le (by omega)
    rw [e1, e2] at hw
    simp [hw]
theorem f81 (p : Pro) (a2 a3 a4 a5 kn : PV) (kl : List Par) (k : Int) (nm f : ByteArray) (w : Int) (es b e : PV) (L : List Int) (hF : p.funcs.length < 1000000) (hP : ∀ f ∈ p.funcs, f.params.length < 1000000) (hL : kl.length < 1000000) (hk : Holds kn kl) (hLl : L.length < 1000000) :
    Meets Tryd.prog (tabOf Tryd.prog GG) 81 [.a (.ptr 1000000 0 []), .u (.agg [.c (.v (.int .u8 k)), .c (.v (.string nm)), .c (.v (.string f)), .c (.v (.int .i64 w)), .c es, .c b, .c e]), .p (.sl 1 (encIs L))] [(1000000, .obj [.c (.sl 3 (encAs p.arrays)), .c (.sl 4 (encFs p.funcs)), .c a2, .c a3, .c a4, .c a5, .c kn])] (.ret (vI (callX p kl nm f L))) [(1000000, .obj [.c (.sl 3 (encAs p.arrays)), .c (.sl 4 (encFs p.funcs)), .c a2, .c a3, .c a4, .c a5, .c kn])] := by
  have hn : Meets Tryd.prog (tabOf Tryd.prog GG) 88 [vPro p, vT f] [] (.ret (vI (ixT (p.funcs.map Fun.name) f 0))) [] := f88 p f hF
  refine meets_of (tabOf_ok _ _) [] Tryd.f81 62 [.tmp 6] (by kernel_rfl) (by kernel_rfl) rfl rfl rfl rfl false ?_
  simp
  refine Cd_draw (.first 0 (.first 1 (.first 2 (.first 4 (.alt 3 (.alt 5 (.alt 6 (.first 7 .done) .stop) .stop) (.alt 5 (.alt 3 (.alt 6 (.first 7 .done) .stop) .stop) .stop)))))) (by kernel_rfl) (by kernel_rfl) (by kernel_rfl) ?_
  simp
  refine Call_pure hn ?_
  simp
  rcases ixT_range f (p.funcs.map Fun.name) 0 with hix | ⟨j, hix, hj⟩
  · simp [hix, callX]
  simp at hix hj
  have hjn : ¬ ((j : Int) < 0) := by omega
  have hpl := hP _ (List.getElem_mem hj)
  have hfun : funA p (j : Int) = p.funcs[j] := by simp [funA, hj]
  simp [hix, hj, hjn]
  refine Cd_for (fun i : Nat => ⟨[.a (.ptr 1000000 0 []), .bot, .p (.sl 1 (encIs L)), .bot, .a (.ptr 4 0 []), .bot, .bot, .bot, .a (.ptr 8 0 []), .a (.view 9 0 []), .bot, .bot, .bot, .bot, .bot, .bot, .bot, .bot, .bot, .bot, .bot, .bot, .bot, .bot, .bot, .bot, .bot, .bot, .bot, .bot, vPars p.funcs[j].params, vI p.funcs[j].params.length, vI i, .bot, .bot, .bot, .bot, .bot, .bot, .bot, .bot, .bot, .bot, .bot, .bot, .bot, .bot, .bot, .bot, .bot, .bot, .bot, .bot, .bot, .bot, .bot, .bot, .bot, .bot, .bot, .bot, .bot], [(1000000, .obj [.c (.sl 3 (encAs p.arrays)), .c (.sl 4 (encFs p.funcs)), .c a2, .c a3, .c a4, .c a5, .c kn]), (4, .obj [.c (.v (.int .u8 k)), .c (.v (.string nm)), .c (.v (.string f)), .c (.v (.int .i64 w)), .c es, .c b, .c e]), (8, .obj ((encF p.funcs[j]).map CV.c)), (9, .reg (.vec 1 (encIs ((p.funcs[j].params.map Par.width).take i))))]⟩)
    (fun i => i ≤ p.funcs[j].params.length) (fun i => p.funcs[j].params.length - i) 0 (by simp) ((Imp.ownNil 9 1 rfl (by simp)).trans (Imp.le (by simp [encIs]))) ?_
  intro i hi
  simp
  refine Br_intro (fun g => ?_) (fun g => ?_)
  · simp at g
    have h2 : IntKind.i64.wrap ((i : Int) + 1) = ((i + 1 : Nat) : Int) := wrap64 (by omega) ⟨by omega, by omega⟩
    have r1 : (min i p.funcs[j].params.length + 1) * 8 ≤ 140737488355328 := by omega
    have r2 : min i p.funcs[j].params.length ≤ 140737488355327 := by omega
    have e1 : List.take i (List.map Par.width p.funcs[j].params) ++ [p.funcs[j].params[i].width] = List.take (i + 1) (List.map Par.width p.funcs[j].params) := by
      rw [List.take_add_one]; simp [g]
    simp [g, h2, r1, r2, e1]
    exact Nx_for (i + 1) (by omega) (by omega) (Imp.to [(1000000, 1000000), (4, 4), (8, 8), (9, 40)] (by simp) (by simp))
  · simp at g
    have e1 : List.take i (List.map Par.width p.funcs[j].params) = List.map Par.width p.funcs[j].params := List.take_of_length_le (by simp; omega)
    simp [e1]
    refine Call_imp (Imp.frz 9) ?_
    simp
    refine Call_pure (f89 L _ hLl (by simp; omega)) ?_
    simp
    refine Br_intro (fun c => ?_) (fun c => ?_) <;> simp at c
    rotate_left
    · simp [callX, hix, hjn, hfun, c]
    have hfin : ∀ r, r = (if nm.toList = [] then 0 else if lookW kl nm = 0 then 16 else if lookW kl nm = p.funcs[j].result then 0 else 14 : Int) → callX p kl nm f L = r := fun r hr => by
      rw [hr]; simp [callX, hix, hjn, hfun, ← c]
    simp
    refine Br_intro (fun d => ?_) (fun d => ?_) <;> simp at d
    · simp [hfin 0 (by simp [d])]
    simp
    refine Call_own (f39 _ _ _ _ _ _ _ _ nm hL hk) (by simp) ?_
    simp
    refine Br_intro (fun d2 => ?_) (fun d2 => ?_) <;> simp at d2
    · simp [hfin 16 (by simp [d, d2])]
    simp
    refine Cd_draw (.first 0 (.first 1 (.first 4 (.alt 2 (.alt 3 (.alt 5 (.first 6 (.alt 7 (.first 8 .done) .stop)) .stop) (.alt 5 (.alt 3 (.first 6 (.alt 7 (.first 8 .done) .stop)) .stop) .stop)) (.alt 5 (.alt 2 (.alt 3 (.first 6 (.alt 7 (.first 8 .done) .stop)) .stop) .stop) .stop))))) (by kernel_rfl) (by kernel_rfl) (by kernel_rfl) ?_
    simp
    refine ⟨?_, ?_⟩
    all_goals
      refine Call_own (f39 _ _ _ _ _ _ _ _ nm hL hk) (by simp) ?_
      simp
      refine Call_pure (f80 _) ?_
      simp [hfin _ rfl, d, d2]
end Go.Ew
end
section
/- Functions of the seat: a statement's rule, the program's. -/
open Go Go.Proofs Go.Ew
namespace Go.Ew
def declX (p : Pro) (kl : List Par) (k : Int) (nm : ByteArray) (w : Int) : List Par := if k = 1 ∧ twiceX kl p.arrays nm = false then [⟨nm, w⟩] else []
def ruleX (p : Pro) (res : Int) (kl : List Par) (k : Int) (nm f : ByteArray) (w : Int) (l : List Int) (loop : Bool) : Int :=
  if k = 1 then (if twiceX kl p.arrays nm = true then 18 else if l.headD 0 = w then 0 else 14)
  else if k = 2 then (if lookW kl nm = 0 then 16 else if l.headD 0 = lookW kl nm then 0 else 14)
  else if k = 3 then (if ixT (p.arrays.map Arr.name) nm 0 < 0 then 16 else if l.headD 0 = 32 ∧ l.getD 1 0 = widA p.arrays (ixT (p.arrays.map Arr.name) nm 0) then 0 else 14)
  else if k = 4 then (if l.headD 0 = 1 then 0 else 14)
  else if k = 5 then (if l.headD 0 = 1 then 0 else 14)
  else if k = 6 then (if loop then 0 else 12)
  else if k = 8 then (if l = [] ∧ res = 0 ∨ l.length = 1 ∧ l.headD 0 = res then 0 else 14)
  else if k = 9 then callX p kl nm f l
  else 0
/-- How many expressions a statement has. -/
def lensOK (k : Int) (n : Nat) : Prop := (k = 1 → n = 1) ∧ (k = 2 → n = 1) ∧ (k = 3 → n = 2) ∧ (k = 4 → n = 1) ∧ (k = 5 → n = 1) ∧ (k = 8 → n ≤ 1)
/-- The cell of known variables, more of them known. -/
def knE (kn : PV) (kl : List Par) : List Par → PV
  | [] => kn
  | m :: ms => .vec 2 (encPs (kl ++ m :: ms))
theorem knE_grows {kn : PV} {kl : List Par} (h : Grows kn kl) (m : List Par) : Grows (knE kn kl m) (kl ++ m) := by
  cases m with
  | nil => simpa [knE] using h
  | cons x xs => exact .own _
theorem knE_app (kn : PV) (kl m m' : List Par) : knE (knE kn kl m) (kl ++ m) m' = knE kn kl (m ++ m') := by
  cases m with
  | nil => cases m' <;> simp [knE]
  | cons x xs => cases m' <;> simp [knE]
theorem one_of {L : List Int} (h : L.length = 1) : ∃ a, L = [a] := List.length_eq_one_iff.1 h
theorem two_of {L : List Int} (h : L.length = 2) : ∃ a b, L = [a, b] := by
  match L, h with
  | [a, b], _ => exact ⟨a, b, rfl⟩
attribute [local simp] Cd_skip Cd_label Cd_seq Ct_false Br_notc Br_true Br_false Cd_cond Cd_block Cd_exit Cd_ret Cd_region Nx_code Nx_block Nx_ops Nx_plan  Nx_fin Nx_fin' Ex_code_exit Ex_code_ret Ex_block_exit Ex_block_ret Ex_round_exit Ex_round_ret Ex_fin_ret Ex_fin_ret' Pn_code Pn_block Pn_ops Pn_plan Pn_round Pn_fin Os_nil Os_cons gK_some Gt_some Gt_nil Gt_cons run_code run_op run_skip O1_eq Pl_done Pl_stop Pl_first Pl_alt cK_some qK_some qK_none qK_busy flatOp_none flatArgs Op.operands eqAgg_l eqAgg_b eqAgg_1 asCall asPan actK_some panOf_some condK_some map_re_c map_kill_c map_keep_c map_frz_c re_cc kill_cc keep_cc frz_cc leCs_refl finA finR idl headOf allB
attribute [local simp] wantedA act quiet opd opg TV.acc imp ofConst St.get St.put St.putG orElse one1 one2 binA unA convA idxA strLen maxA minA TV.flat TV.int TV.bool TV.cells UV.cells CV.els TV.els viewOf PV.nv CV.nv peekC_eq peekB peekG peekH peekP_eq peekPB allP allNv allPs allNv_c allNv_append allP_append allPs_append rowsNv_eq at_ cellAt PV.down PV.elem readAt loadOp bump fieldAddrOp fieldOp indexAddrOp extractOp nilCheckOp lenOp boundOf sliceOp fillCells buildOp pickOp Tab.fld Tab.place tabOf_ti tabOf_mapT tabOf_stc tabOf_arr tabOf_elem tabOf_glob mk busy TV.isPtr TV.isMap keyOK keysOf lookupOp mapOf lookC_some lookC_none findK_nil findK_yes findK_no eqKey_lit eqKey_int mapLen_eq look lay del
attribute [local simp] makeMapOp updateOp insK_some insK_none insC_some insC_none frzMp allocOp boxOp storeOp killOf writeAt moves grabOf takeAt putAt PV.put setCell CV.isView CV.strip CV.stripP strip_cc map_strip_c any_view_c any_view_cc mapM_strip_eq stripL stripL_c mapM_strip_cc frzR_frz frzE_frz stripL_append Ew.newObj newReg rowsOf stripRows movesR buildSliceOp makeSliceOp srcOf baseOf appendOp room killM St.kill Kl.b Kl.h Cap.hit TV.kill UV.kill CV.kill MC.kill capOf capsOf plainCaps mkClo capTV calleeOf panArg resV resT resUs
attribute [local simp] toNew toOld view TV.re UV.re CV.re MC.re Cap.re caps_re leT leU leC leCs leMs leM leTs St.le St.re keysOK  roots_p map_re_p map_re_p' roots_c roots_cc shownOf shownBy pairsOf number deeper addAll MC.live TV.roots CV.roots MC.roots Cap.roots callIs numsOK liveAll start List.range_succ callSt afterMem newPart_nil newPart_cons oldPart_eq oldGo back isKey stays inRange aliveO aliveM MC.isMap aliveR aliveP MC.isObj MC.isReg Cap.alive CV.keep UV.keep TV.keep MC.keep span St.frz frzM TV.frz UV.frz CV.frz MC.frz frzO frzC Cap.frz PV.frz frzE frzR
attribute [local simp] encIs_len encIs_nv encIs_app encIs_at encAs_len encAs_at encA encFs_len encFs_at encPs_len encPs_at encF encP
set_option maxRecDepth 8000
set_option maxHeartbeats 2000000
theorem f59 (p : Pro) (a2 a3 a5 kn : PV) (res : Int) (kl : List Par) (k : Int) (nm f : ByteArray) (w : Int) (es : List Expr) (b e : List Stm) (L : List Int) (loop : Bool) (hA : p.arrays.length < 1000000) (hF : p.funcs.length < 1000000) (hP : ∀ f ∈ p.funcs, f.params.length < 1000000) (hL : kl.length < 1000000) (hk : Grows kn kl) (hLl : L.length < 1000000) (hn : lensOK k L.length) :
    Meets Tryd.prog (tabOf Tryd.prog GG) 59 [.a (.ptr 1000000 0 []), .u (.agg [.c (.v (.int .u8 k)), .c (.v (.string nm)), .c (.v (.string f)), .c (.v (.int .i64 w)), .c (.sl 6 (encEs es)), .c (.sl 7 (encSs b)), .c (.sl 7 (encSs e))]), .p (.sl 1 (encIs L)), vB loop] [(1000000, .obj [.c (.sl 3 (encAs p.arrays)), .c (.sl 4 (encFs p.funcs)), .c a2, .c a3, cI res, .c a5, .c kn])] (.ret (vI (ruleX p res kl k nm f w L loop))) [(1000000, .obj [.c (.sl 3 (encAs p.arrays)), .c (.sl 4 (encFs p.funcs)), .c a2, .c a3, cI res, .c a5, .c (knE kn kl (declX p kl k nm w))])] := by
  have hnA : Meets Tryd.prog (tabOf Tryd.prog GG) 40 [vPro p, vT nm] [] (.ret (vI (ixT (p.arrays.map Arr.name) nm 0))) [] := f40 p nm hA
  obtain ⟨n1, n2, n3, n4, n5, n8⟩ := hn
  refine meets_of (tabOf_ok _ _) [] Tryd.f59 127 [.tmp 8] (by kernel_rfl) (by kernel_rfl) rfl rfl rfl rfl false ?_
  simp
  by_cases h1 : k = 1
  · subst h1
    obtain ⟨a, rfl⟩ := one_of (n1 rfl)
    simp
    refine Call_own (f28 p _ _ _ _ _ kl nm w hL hA hk) (by simp) ?_
    simp
    by_cases ht : twiceX kl p.arrays nm = true
    · simp [ht, ruleX, declX, knE]
    · simp at ht
      simp [ht]
      refine Cd_draw (.first 0 (.first 1 (.first 3 (.alt 2 (.alt 4 (.first 5 (.alt 6 (.first 7 .done) .stop)) .stop) (.alt 4 (.alt 2 (.first 5 (.alt 6 (.first 7 .done) .stop)) .stop) .stop))))) (by kernel_rfl) (by kernel_rfl) (by kernel_rfl) ?_
      simp
      refine Call_pure (f80 _) ?_
      simp [ht, ruleX, declX, knE]
  have hd : declX p kl k nm w = [] := by simp [declX, h1]
  rw [hd]
  simp [h1, knE]
  by_cases h2 : k = 2
  · subst h2
    obtain ⟨a, rfl⟩ := one_of (n2 rfl)
    simp
    refine Call_own (f39 _ _ _ _ _ _ _ _ nm hL hk.holds) (by simp) ?_
    simp
    refine Br_intro (fun d => ?_) (fun d => ?_) <;> simp at d
    · simp [ruleX, d]
    simp
    refine Call_pure (f80 _) ?_
    simp [ruleX, d]
  simp [h2]
  by_cases h3 : k = 3
  · subst h3
    obtain ⟨a, c, rfl⟩ := two_of (n3 rfl)
    simp
    refine Cd_draw (.first 0 (.first 1 (.first 2 (.first 4 (.alt 3 (.alt 5 (.alt 6 (.first 7 .done) .stop) .stop) (.alt 5 (.alt 3 (.alt 6 (.first 7 .done) .stop) .stop) .stop)))))) (by kernel_rfl) (by kernel_rfl) (by kernel_rfl) ?_
    simp
    refine Call_pure hnA ?_
    simp
    rcases ixT_range nm (p.arrays.map Arr.name) 0 with hix | ⟨j, hix, hj⟩
    · simp [hix, ruleX]
    simp at hix hj
    have hjn : ¬ ((j : Int) < 0) := by omega
    simp [hix, hj, hjn]
    refine Cd_draw (.first 0 (.first 1 (.first 2 (.alt 3 (.alt 4 (.first 5 (.first 6 (.first 7 (.first 8 (.first 9 (.first 10 (.first 11 (.first 12 (.first 13 (.first 15 (.alt 14 (.first 16 (.first 17 (.alt 18 (.first 19 (.first 20 (.alt 21 (.first 22 .done) .stop))) .stop))) .stop))))))))))) .stop) .stop)))) (by kernel_rfl) (by kernel_rfl) (by kernel_rfl) ?_
    simp
    refine Call_pure f41 ?_
    simp [tBit, tByte, tHalf, tWord, hj]
    refine Call_pure (f80 _) ?_
    simp [ruleX, hix, hjn, widA, hj]
  simp [h3]
  by_cases h4 : k = 4
  · subst h4
    obtain ⟨a, rfl⟩ := one_of (n4 rfl)
    simp
    refine Call_pure (f80 _) ?_
    simp [ruleX]
  simp [h4]
  by_cases h5 : k = 5
  · subst h5
    obtain ⟨a, rfl⟩ := one_of (n5 rfl)
    simp
    refine Call_pure (f80 _) ?_
    simp [ruleX]
  simp [h5]
  by_cases h6 : k = 6
  · subst h6
    simp
    cases loop <;> simp [ruleX]
  simp [h6]
  by_cases h8 : k = 8
  · subst h8
    simp
    have hL8 : L = [] ∨ ∃ a, L = [a] := by
      match L, n8 rfl with
      | [], _ => exact .inl rfl
      | [a], _ => exact .inr ⟨a, rfl⟩
    refine Cd_draw (.first 0 (.first 1 (.first 2 (.first 3 (.first 4 (.first 5 (.first 6 (.first 7 (.alt 8 (.first 9 (.first 10 (.first 11 (.first 12 (.first 13 (.first 14 (.first 15 (.first 16 (.first 17 (.first 18 (.first 19 (.first 20 (.first 21 (.first 22 (.alt 23 (.first 24 (.first 25 (.first 26 (.alt 27 (.first 28 .done) .stop)))) .stop))))))))))))))) .stop))))))))) (by kernel_rfl) (by kernel_rfl) (by kernel_rfl) ?_
    rcases hL8 with rfl | ⟨a, rfl⟩
    · simp
      refine Call_pure (f80 _) ?_
      simp [ruleX]
    · simp
      refine Call_pure (f80 _) ?_
      simp [ruleX]
  simp [h8]
  by_cases h9 : k = 9
  · subst h9
    simp
    refine Call_own (f81 p _ _ _ _ _ kl _ nm f w _ _ _ L hF hP hL hk.holds hLl) (by simp) ?_
    simp [ruleX]
  simp [h9, ruleX, h1, h2, h3, h4, h5, h6, h8]
end Go.Ew
end
