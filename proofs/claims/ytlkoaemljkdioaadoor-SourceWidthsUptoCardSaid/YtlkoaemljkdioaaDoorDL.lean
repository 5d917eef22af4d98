/- What functions of the seat do: the check of a program. -/
import Derived.Test.YtlkoaemljkdioaaDoorDK
section
/- Functions of the seat: blocks and functions, the reference's. -/
open Go Go.Proofs Go.Ew
namespace Go.Ew
attribute [local simp] Cd_skip Cd_label Cd_seq Ct_false Br_notc Br_true Br_false Cd_cond Cd_block Cd_exit Cd_ret Cd_region Nx_code Nx_block Nx_ops Nx_plan  Nx_fin Nx_fin' Ex_code_exit Ex_code_ret Ex_block_exit Ex_block_ret Ex_round_exit Ex_round_ret Ex_fin_ret Ex_fin_ret' Pn_code Pn_block Pn_ops Pn_plan Pn_round Pn_fin Os_nil Os_cons gK_some Gt_some Gt_nil Gt_cons run_code run_op run_skip O1_eq Pl_done Pl_stop Pl_first Pl_alt cK_some qK_some qK_none qK_busy flatOp_none flatArgs Op.operands eqAgg_l eqAgg_b eqAgg_1 asCall asPan actK_some panOf_some condK_some map_re_c map_kill_c map_keep_c map_frz_c re_cc kill_cc keep_cc frz_cc leCs_refl finA finR idl headOf allB
attribute [local simp] wantedA act quiet opd opg TV.acc imp ofConst St.get St.put St.putG orElse one1 one2 binA unA convA idxA strLen maxA minA TV.flat TV.int TV.bool TV.cells UV.cells CV.els TV.els viewOf PV.nv CV.nv peekC_eq peekB peekG peekH peekP_eq peekPB allP allNv allPs allNv_c allNv_append allP_append allPs_append rowsNv_eq at_ cellAt PV.down PV.elem readAt loadOp bump fieldAddrOp fieldOp indexAddrOp extractOp nilCheckOp lenOp boundOf sliceOp fillCells buildOp pickOp Tab.fld Tab.place tabOf_ti tabOf_mapT tabOf_stc tabOf_arr tabOf_elem tabOf_glob mk busy TV.isPtr TV.isMap keyOK keysOf lookupOp mapOf lookC_some lookC_none findK_nil findK_yes findK_no eqKey_lit eqKey_int mapLen_eq look lay del
attribute [local simp] makeMapOp updateOp insK_some insK_none insC_some insC_none frzMp allocOp boxOp storeOp killOf writeAt moves grabOf takeAt putAt PV.put setCell CV.isView CV.strip CV.stripP strip_cc map_strip_c any_view_c any_view_cc mapM_strip_eq stripL stripL_c mapM_strip_cc frzR_frz frzE_frz stripL_append Ew.newObj newReg rowsOf stripRows movesR buildSliceOp makeSliceOp srcOf baseOf appendOp room killM St.kill Kl.b Kl.h Cap.hit TV.kill UV.kill CV.kill MC.kill capOf capsOf plainCaps mkClo capTV calleeOf panArg resV resT resUs
attribute [local simp] toNew toOld view TV.re UV.re CV.re MC.re Cap.re caps_re leT leU leC leCs leMs leM leTs St.le St.re keysOK  roots_p map_re_p map_re_p' roots_c roots_cc shownOf shownBy pairsOf number deeper addAll MC.live TV.roots CV.roots MC.roots Cap.roots callIs numsOK liveAll start List.range_succ callSt afterMem newPart_nil newPart_cons oldPart_eq oldGo back isKey stays inRange aliveO aliveM MC.isMap aliveR aliveP MC.isObj MC.isReg Cap.alive CV.keep UV.keep TV.keep MC.keep span St.frz frzM TV.frz UV.frz CV.frz MC.frz frzO frzC Cap.frz PV.frz frzE frzR
attribute [local simp] encIs_len encIs_nv encIs_app encIs_at encAs_len encAs_at encA encFs_len encFs_at encPs_len encPs_at encF encP encSs_len encS_len encS_nv encS_take encSs_at
set_option maxRecDepth 8000
set_option maxHeartbeats 4000000
abbrev noF : Fun := ⟨⟨#[]⟩, [], 0, []⟩
theorem f33 (p : Pro) (fi : Nat) (hfi : fi < p.funcs.length) (hA : p.arrays.length < 1000000) (hF : p.funcs.length < 1000000) (hP : ∀ f ∈ p.funcs, f.params.length < 1000000) (n : Nat) : BlkR p fi n := by
  induction n with
  | zero =>
    intro l hn
    cases l with
    | nil =>
      intro _ _ kn kl loop e hk _
      refine meets_of (tabOf_ok _ _) [] Tryd.f33 27 [] (by kernel_rfl) (by kernel_rfl) rfl rfl rfl rfl false ?_
      simp
      refine Cd_for (fun i : Nat => ⟨[.a (.ptr 1000000 0 []), vSs [], vB loop, .bot, .bot, .bot, vI i, .bot, .bot, .bot, .bot, .bot, .bot, .bot, .bot, .bot, .bot, .bot, .bot, .bot, .bot, .bot, .bot, .bot, .bot, .bot, .bot], [(1000000, .obj [.c (.sl 3 (encAs p.arrays)), .c (.sl 4 (encFs p.funcs)), cI fi, .c kn, cI e])]⟩) (fun i => i = 0) (fun i => 0) 0 rfl (Imp.le (by simp)) ?_
      rintro i rfl
      simp [blockR, knE]
    | cons x xs => cases x; simp [nodesSL, nodesS] at hn
  | succ n ih =>
    intro l hn hl hwell kn kl loop e hk hkl
    generalize hR : (p.funcs.getD fi noF).result = res
    have hll := nodesSL_len l
    have hwall := hwell
    rw [wellSs_all] at hwall
    refine meets_of (tabOf_ok _ _) [] Tryd.f33 27 [] (by kernel_rfl) (by kernel_rfl) rfl rfl rfl rfl false ?_
    simp
    refine Cd_for (fun q : Nat × List Par × Int => ⟨[.a (.ptr 1000000 0 []), vSs l, vB loop, .bot, .bot, .bot, vI q.1, .bot, .bot, .bot, .bot, .bot, .bot, .bot, .bot, .bot, .bot, .bot, .bot, .bot, .bot, .bot, .bot, .bot, .bot, .bot, .bot], [(1000000, .obj [.c (.sl 3 (encAs p.arrays)), .c (.sl 4 (encFs p.funcs)), cI fi, .c (knE kn kl q.2.1), cI q.2.2])]⟩)
      (fun q => q.1 ≤ l.length ∧ q.2.1.length + stNs (l.drop q.1) ≤ stNs l ∧ q.2.1 ++ (blockR p res (l.drop q.1) (kl ++ q.2.1) loop q.2.2).1 = (blockR p res l kl loop e).1 ∧ (blockR p res (l.drop q.1) (kl ++ q.2.1) loop q.2.2).2 = (blockR p res l kl loop e).2)
      (fun q => l.length - q.1) (0, [], e) ⟨by simp, by simp, by simp, by simp⟩ (Imp.le (by simp [knE])) ?_
    rintro ⟨i, m, er⟩ ⟨hi, w0, w1, w2⟩
    simp at hi w0 w1 w2
    simp
    refine Br_intro (fun h => ?_) (fun h => ?_)
    · simp at h
      obtain ⟨h, he⟩ := h
      subst he
      have hd : l.drop i = l[i] :: l.drop (i + 1) := List.drop_eq_getElem_cons h
      rw [hd, blockR] at w1 w2
      rw [hd, stNs] at w0
      have hb := nodesS_le (List.getElem_mem h)
      have hws := List.all_eq_true.1 hwall _ (List.getElem_mem h)
      have hg := knE_grows hk m
      have h2 : IntKind.i64.wrap ((i : Int) + 1) = ((i + 1 : Nat) : Int) := wrap64 (by omega) ⟨by omega, by omega⟩
      have hM := f62 p fi hfi hA hF hP n ih l[i] (by omega) (by omega) hws (knE kn kl m) (kl ++ m) loop hg (by simp; omega)
      have hle := stmR_le p res l[i] (kl ++ m) loop
      rw [show (p.funcs.getD fi ⟨⟨#[]⟩, [], 0, []⟩).result = res from hR] at hM
      generalize stmR p res l[i] (kl ++ m) loop = X at *
      obtain ⟨X, x2⟩ := X
      simp only [knE_app] at hM hle
      simp at w1 w2
      simp [h]
      refine Call_own hM (by simp) ?_
      simp [h2]
      exact Nx_for (i + 1, m ++ X, x2) ⟨by omega, by simp; omega, by rw [← w1]; simp, by rw [← w2]⟩ (by simp; omega) (Imp.le (by simp))
    · have hend : blockR p res (l.drop i) (kl ++ m) loop er = ([], er) := by
        by_cases hil : i < l.length
        · have hd : l.drop i = l[i] :: l.drop (i + 1) := List.drop_eq_getElem_cons hil
          have her : er ≠ 0 := by intro h0; simp [hil, h0] at h
          rw [hd, blockR, if_neg her]
        · have hnil : l.drop i = [] := by simp; omega
          rw [hnil, blockR]
      rw [hend] at w1 w2
      simp at w1 w2
      have hR' : (p.funcs.getD fi ⟨⟨#[]⟩, [], 0, []⟩).result = res := hR
      simp [← w1, ← w2]
def declR (p : Pro) : List Par → List Par → Int → Int
  | [], _, e => e
  | v :: vs, kl, e => declR p vs (kl ++ [v]) (if twiceX kl p.arrays v.name && decide (e = 0) then 18 else e)
def funcR (p : Pro) (f : Fun) : List Par × Int :=
  (f.params ++ (blockR p f.result f.body f.params false (declR p f.params [] 0)).1, (blockR p f.result f.body f.params false (declR p f.params [] 0)).2)
theorem f16 (p : Pro) (fi : Nat) (hfi : fi < p.funcs.length) (hA : p.arrays.length < 1000000) (hF : p.funcs.length < 1000000) (hP : ∀ f ∈ p.funcs, f.params.length < 1000000) (hp : p.funcs[fi].params.length < 100000) (hb : nodesSL p.funcs[fi].body < 500000) (hw : wellSs p.funcs[fi].body = true) :
    Meets Tryd.prog (tabOf Tryd.prog GG) 16 [vPro p, vI fi] [] (.ret (.tup [.one (.c (parR (funcR p p.funcs[fi]).1)), .one (cI (funcR p p.funcs[fi]).2)])) [] := by
  have hst := stNs_le p.funcs[fi].body
  have hget : (encFs p.funcs)[fi]? = some (encF p.funcs[fi]) := by simp [hfi]
  have hres : (p.funcs.getD fi ⟨⟨#[]⟩, [], 0, []⟩).result = p.funcs[fi].result := by simp [hfi]
  have hM := f33 p fi hfi hA hF hP (nodesSL p.funcs[fi].body) p.funcs[fi].body (Nat.le_refl _) (by omega) hw
  rw [hres] at hM
  generalize p.funcs[fi] = f at *
  refine meets_of (tabOf_ok _ _) [] Tryd.f16 50 [.tmp 4, .tmp 5] (by kernel_rfl) (by kernel_rfl) rfl rfl rfl rfl true ?_
  simp
  refine Cd_for (fun q : Nat × List Par × Int => ⟨[.bot, vI fi, .a (.ptr 2 0 []), .bot, .bot, .bot, .a (.ptr 11 0 []), vI q.1, .bot, .bot, .bot, .bot, .bot, .bot, .bot, .bot, .bot, .bot, .bot, .bot, .bot, .bot, .bot, .bot, .bot, .bot, .bot, .bot, .bot, .bot, .bot, .bot, .bot, .bot, .bot, .bot, .bot, .bot, .bot, .bot, .bot, .bot, .bot, .bot, .bot, .bot, .bot, .bot, .bot, .bot], [(2, .obj [.c (.sl 3 (encAs p.arrays)), .c (.sl 4 (encFs p.funcs))]), (11, .obj [.c (.sl 3 (encAs p.arrays)), .c (.sl 4 (encFs p.funcs)), cI fi, .c (knE nilP [] q.2.1), cI q.2.2])]⟩)
    (fun q => q.1 ≤ f.params.length ∧ q.2.1 = f.params.take q.1 ∧ declR p (f.params.drop q.1) q.2.1 q.2.2 = declR p f.params [] 0) (fun q => f.params.length - q.1) (0, [], 0) ⟨by simp, by simp, by simp⟩ (Imp.le (by simp [knE])) ?_
  rintro ⟨i, kl, e⟩ ⟨hi, w0, w1⟩
  simp at hi w0 w1
  have hg : Grows (knE nilP [] kl) kl := by simpa using knE_grows Grows.nil kl
  have hkl : kl.length ≤ f.params.length := by rw [w0]; simp; omega
  simp [hget]
  refine Br_intro (fun h => ?_) (fun h => ?_)
  · simp at h
    have hd : f.params.drop i = f.params[i] :: f.params.drop (i + 1) := List.drop_eq_getElem_cons h
    rw [hd, declR] at w1
    have h2 : IntKind.i64.wrap ((i : Int) + 1) = ((i + 1 : Nat) : Int) := wrap64 (by omega) ⟨by omega, by omega⟩
    simp [h, hget]
    refine Call_own (f32 p _ _ kl e f.params[i] (by omega) hA hg) (by simp) ?_
    simp [h2]
    exact Nx_for (i + 1, kl ++ [f.params[i]], if twiceX kl p.arrays f.params[i].name && decide (e = 0) then 18 else e) ⟨by omega, by simp only [w0]; rw [List.take_add_one]; simp [h], w1⟩ (by simp; omega) (Imp.le (by simp [knE_own]))
  · simp at h
    have hnil : f.params.drop i = [] := by simp; omega
    rw [hnil, declR] at w1
    have htk : kl = f.params := by rw [w0]; exact List.take_of_length_le (by omega)
    subst htk
    simp [hget]
    have hB := hM (knE nilP [] f.params) f.params false e hg (by omega)
    refine Call_own hB (by simp) ?_
    have hf : funcR p f = (f.params ++ (blockR p f.result f.body f.params false e).1, (blockR p f.result f.body f.params false e).2) := by rw [funcR, ← w1]
    rw [hf]
    have ek : ∀ X, knE (knE nilP [] f.params) f.params X = knE nilP [] (f.params ++ X) := fun X => by simpa using knE_app nilP [] f.params X
    simp only [ek]
    generalize f.params ++ (blockR p f.result f.body f.params false e).1 = all
    cases all with
    | nil =>
      simp [knE]
      refine Cd_draw (.first 0 (.first 1 (.first 2 (.first 4 (.first 5 (.first 6 (.alt 3 (.first 8 (.alt 7 (.first 9 .done) .stop)) (.alt 7 (.alt 3 (.first 8 (.first 9 .done)) .stop) .stop)))))))) (by kernel_rfl) (by kernel_rfl) (by kernel_rfl) ?_
      simp
      refine finish_to [] keysOK_nil ?_
      simp [parR]
    | cons x xs =>
      simp [knE]
      refine Cd_draw (.first 0 (.first 1 (.first 2 (.first 4 (.first 5 (.first 6 (.alt 3 (.first 8 (.alt 7 (.first 9 .done) .stop)) (.alt 7 (.alt 3 (.first 8 (.first 9 .done)) .stop) .stop)))))))) (by kernel_rfl) (by kernel_rfl) (by kernel_rfl) ?_
      simp
      refine finish_imp (Imp.frz 11) (finish_to [] keysOK_nil ?_)
      simp [parR, frz_encPs]
end Go.Ew
end
section
/- Functions of the seat: checks. -/
open Go Go.Proofs Go.Ew
namespace Go.Ew
def seenK : List ByteArray → List Value → List Value
  | [], ks => ks
  | a :: r, ks => seenK r (insK (.string a) ks (findK (.string a) ks))
def firstE (g : Fun → Int) : List Fun → Int
  | [] => 0
  | f :: fs => if g f = 0 then firstE g fs else g f
def namesX (p : Pro) : List ByteArray := p.arrays.map Arr.name ++ p.funcs.map Fun.name
def dupX (p : Pro) : Bool := decide ((seenK (namesX p) []).length < p.arrays.length + p.funcs.length)
def badX (p : Pro) : Bool := decide (p.funcs.length = 0) || !p.arrays.all wellA || !p.funcs.all wellF
def checkX (p : Pro) : Int := if manyX p = true then 4 else if badX p = true then 8 else if dupX p = true then 18 else firstE (fun f => (funcX p f).2) p.funcs
theorem keysOf_ins (a : ByteArray) (ks : List Value) (h : keysOf none ks = true) : keysOf none (insK (.string a) ks (findK (.string a) ks)) = true := by
  cases findK (.string a) ks with
  | none => simp [insK, keysOf_append, h, keysOf, keyOK]
  | some i => exact h
theorem insC_rep (c : CV) (a : Value) (ks : List Value) : insC c (List.replicate ks.length c) (findK a ks) = List.replicate (insK a ks (findK a ks)).length c := by
  cases findK a ks with
  | none => simp [insC, insK, List.replicate_succ']
  | some i =>
    simp only [insC, insK]
    apply List.ext_getElem?
    intro j
    rw [List.getElem?_set]
    split
    · split
      · rename_i e _; subst e; simp_all
      · simp_all
    · rfl
theorem seenK_le : ∀ (l : List ByteArray) (ks : List Value), (seenK l ks).length ≤ ks.length + l.length
  | [], ks => by simp [seenK]
  | a :: r, ks => by
    have := seenK_le r (insK (.string a) ks (findK (.string a) ks))
    have h2 : (insK (.string a) ks (findK (.string a) ks)).length ≤ ks.length + 1 := by cases findK (.string a) ks <;> simp [insK]
    simp only [seenK, List.length_cons]; omega
theorem seenK_append : ∀ (l m : List ByteArray) (ks : List Value), seenK (l ++ m) ks = seenK m (seenK l ks)
  | [], m, ks => rfl
  | a :: r, m, ks => by simp only [List.cons_append, seenK]; exact seenK_append r m _
attribute [local simp] Cd_skip Cd_label Cd_seq Ct_false Br_notc Br_true Br_false Cd_cond Cd_block Cd_exit Cd_ret Cd_region Nx_code Nx_block Nx_ops Nx_plan  Nx_fin Nx_fin' Ex_code_exit Ex_code_ret Ex_block_exit Ex_block_ret Ex_round_exit Ex_round_ret Ex_fin_ret Ex_fin_ret' Pn_code Pn_block Pn_ops Pn_plan Pn_round Pn_fin Os_nil Os_cons gK_some Gt_some Gt_nil Gt_cons run_code run_op run_skip O1_eq Pl_done Pl_stop Pl_first Pl_alt cK_some qK_some qK_none qK_busy flatOp_none flatArgs Op.operands eqAgg_l eqAgg_b eqAgg_1 asCall asPan actK_some panOf_some condK_some map_re_c map_kill_c map_keep_c map_frz_c re_cc kill_cc keep_cc frz_cc leCs_refl finA finR idl headOf allB
attribute [local simp] wantedA act quiet opd opg TV.acc imp ofConst St.get St.put St.putG orElse one1 one2 binA unA convA idxA strLen maxA minA TV.flat TV.int TV.bool TV.cells UV.cells CV.els TV.els viewOf PV.nv CV.nv peekC_eq peekB peekG peekH peekP_eq peekPB allP allNv allPs allNv_c allNv_append allP_append allPs_append rowsNv_eq at_ cellAt PV.down PV.elem readAt loadOp bump fieldAddrOp fieldOp indexAddrOp extractOp nilCheckOp lenOp boundOf sliceOp fillCells buildOp pickOp Tab.fld Tab.place tabOf_ti tabOf_mapT tabOf_stc tabOf_arr tabOf_elem tabOf_glob mk busy TV.isPtr TV.isMap keyOK keysOf lookupOp mapOf lookC_some lookC_none findK_nil findK_yes findK_no eqKey_lit eqKey_int mapLen_eq look lay del
attribute [local simp] makeMapOp updateOp insK_some insK_none insC_some insC_none frzMp allocOp boxOp storeOp killOf writeAt moves grabOf takeAt putAt PV.put setCell CV.isView CV.strip CV.stripP strip_cc map_strip_c any_view_c any_view_cc mapM_strip_eq stripL stripL_c mapM_strip_cc frzR_frz frzE_frz stripL_append Ew.newObj newReg rowsOf stripRows movesR buildSliceOp makeSliceOp srcOf baseOf appendOp room killM St.kill Kl.b Kl.h Cap.hit TV.kill UV.kill CV.kill MC.kill capOf capsOf plainCaps mkClo capTV calleeOf panArg resV resT resUs
attribute [local simp] toNew toOld view TV.re UV.re CV.re MC.re Cap.re caps_re leT leU leC leCs leMs leM leTs St.le St.re keysOK  roots_p map_re_p map_re_p' roots_c roots_cc shownOf shownBy pairsOf number deeper addAll MC.live TV.roots CV.roots MC.roots Cap.roots callIs numsOK liveAll start List.range_succ callSt afterMem newPart_nil newPart_cons oldPart_eq oldGo back isKey stays inRange aliveO aliveM MC.isMap aliveR aliveP MC.isObj MC.isReg Cap.alive CV.keep UV.keep TV.keep MC.keep span St.frz frzM TV.frz UV.frz CV.frz MC.frz frzO frzC Cap.frz PV.frz frzE frzR
attribute [local simp] encAs_len encAs_at encA encFs_len encFs_at encPs_len encPs_at encF encP
set_option maxRecDepth 8000
set_option maxHeartbeats 4000000
/-- Bounds that a program has. -/
structure Small (p : Pro) : Prop where
  arrays : p.arrays.length < 100000
  funcs : p.funcs.length < 100000
  params : ∀ f ∈ p.funcs, f.params.length < 100000
  bodies : ∀ f ∈ p.funcs, nodesSL f.body < 500000
theorem f13 (p : Pro) (hs : Small p) : Meets Tryd.prog (tabOf Tryd.prog GG) 13 [vPro p] [] (.ret (vI (checkX p))) [] := by
  have hA := hs.arrays
  have hF := hs.funcs
  have hP : ∀ f ∈ p.funcs, f.params.length < 1000000 := fun f h => by have := hs.params f h; omega
  have hB : ∀ f ∈ p.funcs, nodesSL f.body < 1000000 := fun f h => by have := hs.bodies f h; omega
  have h24 : Meets Tryd.prog (tabOf Tryd.prog GG) 24 [.p (.sl 3 (encAs p.arrays)), .p (.clo 25 [])] [] (.ret (vB (p.arrays.all wellA))) [] := f24 _ 25 [] wellA (by omega) (fun a ha => f25 f35 a)
  have h26 : Meets Tryd.prog (tabOf Tryd.prog GG) 26 [.p (.sl 4 (encFs p.funcs)), .p (.clo 27 [])] [] (.ret (vB (p.funcs.all wellF))) [] := f26 _ 27 [] wellF (by omega) (fun a ha => f27 a (hP a ha) (hB a ha))
  refine meets_of (tabOf_ok _ _) [] Tryd.f13 80 [.tmp 2] (by kernel_rfl) (by kernel_rfl) rfl rfl rfl rfl false ?_
  simp
  refine Call_pure (f23 p (by omega) hP hB) ?_
  simp
  refine Br_intro (fun h => ?_) (fun h => ?_)
  · simp [checkX, h]
  simp
  refine Br_call (.one (.c (.v (.bool (p.arrays.all wellA))))) (by rfl) (by rfl) (fun _ => h24) (fun h => by simp [h]) ?_
  simp
  refine Br_call (.one (.c (.v (.bool (p.funcs.all wellF))))) (by rfl) (by rfl) (fun _ => h26) (fun h => by simp [h]) ?_
  simp
  refine Br_intro (fun h2 => ?_) (fun h2 => ?_)
  · have h2' : badX p = true := by simp [badX] at h2 ⊢; exact h2
    simp [checkX, h, h2']
  have h2' : badX p = false := by simp [badX] at h2 ⊢; exact h2
  simp
  refine Cd_for (fun q : Nat × List Value => ⟨[.bot, .a (.ptr 1 0 []), .bot, .a (.mp 30), .bot, .bot, .bot, .bot, .bot, .bot, .bot, .bot, .bot, .bot, .bot, .bot, .bot, .bot, .bot, .bot, .bot, .bot, .bot, .bot, .bot, .bot, .bot, .bot, .bot, .bot, .bot, .bot, .p (.sl 3 (encAs p.arrays)), vI p.arrays.length, vI q.1, .bot, .bot, .bot, .bot, .bot, .bot, .bot, .bot, .bot, .bot, .bot, .bot, .bot, .bot, .bot, .bot, .bot, .bot, .bot, .bot, .bot, .bot, .bot, .bot, .bot, .bot, .bot, .bot, .bot, .bot, .bot, .bot, .bot, .bot, .bot, .bot, .bot, .bot, .bot, .bot, .bot, .bot, .bot, .bot, .bot], [(1, .obj [.c (.sl 3 (encAs p.arrays)), .c (.sl 4 (encFs p.funcs))]), (30, .map q.2 (List.replicate q.2.length (cB true)))]⟩)
    (fun q => q.1 ≤ p.arrays.length ∧ keysOf none q.2 = true ∧ q.2 = seenK ((p.arrays.map Arr.name).take q.1) []) (fun q => p.arrays.length - q.1) (0, []) ⟨by simp, by simp [keysOf], by simp [seenK]⟩ (Imp.le (by simp)) ?_
  rintro ⟨i, ks⟩ ⟨hi, hks, hw⟩
  simp at hi hks hw
  simp
  refine Br_intro (fun g => ?_) (fun g => ?_)
  · simp at g
    have e5 : IntKind.i64.wrap ((i : Int) + 1) = ((i + 1 : Nat) : Int) := wrap64 (by omega) ⟨by omega, by omega⟩
    simp [g, hks, e5]
    exact Nx_for (i + 1, insK (.string p.arrays[i].name) ks (findK (.string p.arrays[i].name) ks)) ⟨by omega, keysOf_ins _ _ hks, by
      show _ = _
      rw [List.take_add_one, hw]
      simp [g, seenK_append, seenK]⟩ (by simp; omega) (Imp.le (by simp [insC_rep]))
  simp at g
  have hw1 : ks = seenK (p.arrays.map Arr.name) [] := by rw [hw]; congr 1; exact List.take_of_length_le (by simp; omega)
  clear hw
  simp
  refine Cd_for (fun q : Nat × List Value => ⟨[.bot, .a (.ptr 1 0 []), .bot, .a (.mp 30), .bot, .bot, .bot, .bot, .bot, .bot, .bot, .bot, .bot, .bot, .bot, .bot, .bot, .bot, .bot, .bot, .bot, .bot, .bot, .bot, .bot, .bot, .bot, .bot, .bot, .bot, .bot, .bot, .bot, .bot, .bot, .bot, .bot, .bot, .bot, .bot, .bot, .bot, .bot, .p (.sl 4 (encFs p.funcs)), vI p.funcs.length, vI q.1, .bot, .bot, .bot, .bot, .bot, .bot, .bot, .bot, .bot, .bot, .bot, .bot, .bot, .bot, .bot, .bot, .bot, .bot, .bot, .bot, .bot, .bot, .bot, .bot, .bot, .bot, .bot, .bot, .bot, .bot, .bot, .bot, .bot, .bot], [(1, .obj [.c (.sl 3 (encAs p.arrays)), .c (.sl 4 (encFs p.funcs))]), (30, .map q.2 (List.replicate q.2.length (cB true)))]⟩)
    (fun q => q.1 ≤ p.funcs.length ∧ keysOf none q.2 = true ∧ q.2 = seenK ((p.funcs.map Fun.name).take q.1) ks) (fun q => p.funcs.length - q.1) (0, ks) ⟨by simp, hks, by simp [seenK]⟩ (Imp.le (by simp)) ?_
  rintro ⟨j, ks2⟩ ⟨hj, hks2, hv⟩
  simp at hj hks2 hv
  simp
  refine Br_intro (fun c => ?_) (fun c => ?_)
  · simp at c
    have e5 : IntKind.i64.wrap ((j : Int) + 1) = ((j + 1 : Nat) : Int) := wrap64 (by omega) ⟨by omega, by omega⟩
    simp [c, hks2, e5]
    exact Nx_for (j + 1, insK (.string p.funcs[j].name) ks2 (findK (.string p.funcs[j].name) ks2)) ⟨by omega, keysOf_ins _ _ hks2, by
      show _ = _
      rw [List.take_add_one, hv]
      simp [c, seenK_append, seenK]⟩ (by simp; omega) (Imp.le (by simp [insC_rep]))
  simp at c
  have hv1 : ks2 = seenK (namesX p) [] := by
    rw [hv, namesX, seenK_append, ← hw1]; congr 1; exact List.take_of_length_le (by simp; omega)
  clear hv
  have hlen : ks2.length ≤ p.arrays.length + p.funcs.length := by
    rw [hv1]; have := seenK_le (namesX p) []; simp [namesX] at this ⊢; exact this
  have e6 : IntKind.i64.wrap ((p.arrays.length : Int) + (p.funcs.length : Int)) = ((p.arrays.length + p.funcs.length : Nat) : Int) := wrap64 (by omega) ⟨by omega, by omega⟩
  simp [e6]
  refine Br_intro (fun d => ?_) (fun d => ?_)
  · have hd : dupX p = true := by simp [dupX, ← hv1] at d ⊢; omega
    simp [checkX, h, h2', hd]
  have hd : dupX p = false := by simp [dupX, ← hv1] at d ⊢; omega
  have hwf : ∀ f ∈ p.funcs, wellSs f.body = true := fun f hf => by
    have h3 : p.funcs.all wellF = true := by
      cases hc : p.funcs.all wellF with
      | true => rfl
      | false => simp [badX, hc] at h2'
    have := List.all_eq_true.1 h3 f hf
    simp only [wellF, Bool.and_eq_true] at this
    exact this.2
  have hck : checkX p = firstE (fun f => (funcX p f).2) p.funcs := by simp [checkX, h, h2', hd]
  rw [hck]
  simp
  refine Cd_for (fun i : Nat => ⟨[.bot, .a (.ptr 1 0 []), .bot, .bot, .bot, .bot, .bot, .bot, .bot, .bot, .bot, .bot, .bot, .bot, .bot, .bot, .bot, .bot, .bot, .bot, .bot, .bot, .bot, .bot, .bot, .bot, .bot, .bot, .bot, .bot, .bot, .bot, .bot, .bot, .bot, .bot, .bot, .bot, .bot, .bot, .bot, .bot, .bot, .bot, .bot, .bot, .bot, .bot, .bot, .bot, .bot, .bot, .bot, .bot, .bot, .bot, .bot, .bot, .bot, .bot, .bot, .bot, .bot, .bot, .p (.sl 4 (encFs p.funcs)), vI p.funcs.length, vI i, .bot, .bot, .bot, .bot, .bot, .bot, .bot, .bot, .bot, .bot, .bot, .bot, .bot], [(1, .obj [.c (.sl 3 (encAs p.arrays)), .c (.sl 4 (encFs p.funcs))])]⟩)
    (fun i => i ≤ p.funcs.length ∧ firstE (fun f => (funcX p f).2) (p.funcs.drop i) = firstE (fun f => (funcX p f).2) p.funcs) (fun i => p.funcs.length - i) 0 ⟨by simp, by simp⟩ (Imp.le (by simp)) ?_
  rintro k ⟨hk, hu⟩
  simp
  refine Br_intro (fun e => ?_) (fun e => ?_)
  · simp at e
    have e5 : IntKind.i64.wrap ((k : Int) + 1) = ((k + 1 : Nat) : Int) := wrap64 (by omega) ⟨by omega, by omega⟩
    have hdk : p.funcs.drop k = p.funcs[k] :: p.funcs.drop (k + 1) := List.drop_eq_getElem_cons e
    rw [hdk, firstE] at hu
    have hmem := List.getElem_mem e
    simp [e]
    refine Call_pure (f14 p p.funcs[k] (by omega) (by omega) hP (hs.params _ hmem) (hs.bodies _ hmem) (hwf _ hmem)) ?_
    simp
    refine Br_intro (fun z => ?_) (fun z => ?_) <;> simp at z
    · rw [if_pos z] at hu
      simp [e5]
      exact Nx_for (k + 1) ⟨by omega, hu⟩ (by omega) (Imp.le (by simp))
    · rw [if_neg z] at hu
      simp [hu]
  · simp at e
    have hnil : p.funcs.drop k = [] := by simp; omega
    rw [hnil, firstE] at hu
    simp [← hu]
end Go.Ew
end
section
/- Functions of the seat: checks, the reference's. -/
open Go Go.Proofs Go.Ew
namespace Go.Ew
def dupR : List ByteArray → List ByteArray → Bool
  | [], _ => false
  | a :: r, pre => pre.any (fun x => decide (x.toList = a.toList)) || dupR r (pre ++ [a])
def checkR (p : Pro) : Int := if manyX p = true then 4 else if formedX p = false then 8 else if dupR (namesX p) [] = true then 18 else firstE (fun f => (funcR p f).2) p.funcs
theorem encTs_nv (l : List ByteArray) : allPs (encTs l) = true := allPs_map _ (fun x => by simp [allP, PV.nv]) l
theorem encTs_app (l : List ByteArray) (n : ByteArray) : encTs l ++ [[.v (.string n)]] = encTs (l ++ [n]) := by simp [encTs]
attribute [local simp] Cd_skip Cd_label Cd_seq Ct_false Br_notc Br_true Br_false Cd_cond Cd_block Cd_exit Cd_ret Cd_region Nx_code Nx_block Nx_ops Nx_plan  Nx_fin Nx_fin' Ex_code_exit Ex_code_ret Ex_block_exit Ex_block_ret Ex_round_exit Ex_round_ret Ex_fin_ret Ex_fin_ret' Pn_code Pn_block Pn_ops Pn_plan Pn_round Pn_fin Os_nil Os_cons gK_some Gt_some Gt_nil Gt_cons run_code run_op run_skip O1_eq Pl_done Pl_stop Pl_first Pl_alt cK_some qK_some qK_none qK_busy flatOp_none flatArgs Op.operands eqAgg_l eqAgg_b eqAgg_1 asCall asPan actK_some panOf_some condK_some map_re_c map_kill_c map_keep_c map_frz_c re_cc kill_cc keep_cc frz_cc leCs_refl finA finR idl headOf allB
attribute [local simp] wantedA act quiet opd opg TV.acc imp ofConst St.get St.put St.putG orElse one1 one2 binA unA convA idxA strLen maxA minA TV.flat TV.int TV.bool TV.cells UV.cells CV.els TV.els viewOf PV.nv CV.nv peekC_eq peekB peekG peekH peekP_eq peekPB allP allNv allPs allNv_c allNv_append allP_append allPs_append rowsNv_eq at_ cellAt PV.down PV.elem readAt loadOp bump fieldAddrOp fieldOp indexAddrOp extractOp nilCheckOp lenOp boundOf sliceOp fillCells buildOp pickOp Tab.fld Tab.place tabOf_ti tabOf_mapT tabOf_stc tabOf_arr tabOf_elem tabOf_glob mk busy TV.isPtr TV.isMap keyOK keysOf lookupOp mapOf lookC_some lookC_none findK_nil findK_yes findK_no eqKey_lit eqKey_int mapLen_eq look lay del
attribute [local simp] makeMapOp updateOp insK_some insK_none insC_some insC_none frzMp allocOp boxOp storeOp killOf writeAt moves grabOf takeAt putAt PV.put setCell CV.isView CV.strip CV.stripP strip_cc map_strip_c any_view_c any_view_cc mapM_strip_eq stripL stripL_c mapM_strip_cc frzR_frz frzE_frz stripL_append Ew.newObj newReg rowsOf stripRows movesR buildSliceOp makeSliceOp srcOf baseOf appendOp room killM St.kill Kl.b Kl.h Cap.hit TV.kill UV.kill CV.kill MC.kill capOf capsOf plainCaps mkClo capTV calleeOf panArg resV resT resUs
attribute [local simp] toNew toOld view TV.re UV.re CV.re MC.re Cap.re caps_re leT leU leC leCs leMs leM leTs St.le St.re keysOK  roots_p map_re_p map_re_p' roots_c roots_cc shownOf shownBy pairsOf number deeper addAll MC.live TV.roots CV.roots MC.roots Cap.roots callIs numsOK liveAll start List.range_succ callSt afterMem newPart_nil newPart_cons oldPart_eq oldGo back isKey stays inRange aliveO aliveM MC.isMap aliveR aliveP MC.isObj MC.isReg Cap.alive CV.keep UV.keep TV.keep MC.keep span St.frz frzM TV.frz UV.frz CV.frz MC.frz frzO frzC Cap.frz PV.frz frzE frzR
attribute [local simp] encAs_len encAs_at encA encFs_len encFs_at encPs_len encPs_at encF encP encTs_len encTs_at encTs_nv encTs_app
set_option maxRecDepth 8000
set_option maxHeartbeats 4000000
theorem f15 (p : Pro) (hs : Small p) : Meets Tryd.prog (tabOf Tryd.prog GG) 15 [vPro p] [] (.ret (vI (checkR p))) [] := by
  have hA := hs.arrays
  have hF := hs.funcs
  have hP : ∀ f ∈ p.funcs, f.params.length < 1000000 := fun f h => by have := hs.params f h; omega
  have hB : ∀ f ∈ p.funcs, nodesSL f.body < 1000000 := fun f h => by have := hs.bodies f h; omega
  have hall : ∀ l : List ByteArray, l.length ≤ 1000000 → l.length ≤ 140737488355327 := fun l h => by omega
  refine meets_of (tabOf_ok _ _) [] Tryd.f15 84 [.tmp 2] (by kernel_rfl) (by kernel_rfl) rfl rfl rfl rfl false ?_
  simp
  refine Call_pure (f30 p (by omega) hP hB) ?_
  simp
  refine Br_intro (fun h => ?_) (fun h => ?_)
  · simp [checkR, h]
  simp
  refine Call_pure (f31 p (by omega) (by omega) hP hB) ?_
  simp
  refine Br_intro (fun h2 => ?_) (fun h2 => ?_)
  rotate_left
  · simp [checkR, h, h2]
  simp
  refine Cd_for (fun q : Nat × List ByteArray => ⟨[.bot, .a (.ptr 1 0 []), .bot, .a (.view 3 0 []), vI q.1, .bot, .bot, .bot, .bot, .bot, .bot, .bot, .bot, .bot, .bot, .bot, .bot, .bot, .bot, .bot, .bot, .bot, .bot, .bot, .bot, .bot, .bot, .bot, .bot, .bot, .bot, .bot, .bot, .bot, .bot, .bot, .bot, .bot, .bot, .bot, .bot, .bot, .bot, .bot, .bot, .bot, .bot, .bot, .bot, .bot, .bot, .bot, .bot, .bot, .bot, .bot, .bot, .bot, .bot, .bot, .bot, .bot, .bot, .bot, .bot, .bot, .bot, .bot, .bot, .bot, .bot, .bot, .bot, .bot, .bot, .bot, .bot, .bot, .bot, .bot, .bot, .bot, .bot, .bot], [(1, .obj [.c (.sl 3 (encAs p.arrays)), .c (.sl 4 (encFs p.funcs))]), (3, .reg (.vec 1 (encTs q.2)))]⟩)
    (fun q => q.1 ≤ p.arrays.length ∧ q.2 = (p.arrays.map Arr.name).take q.1) (fun q => p.arrays.length - q.1) (0, []) ⟨by simp, by simp⟩ ((Imp.ownNil 3 1 rfl (by simp)).trans (Imp.le (by simp [encTs]))) ?_
  rintro ⟨i, L⟩ ⟨hi, hw⟩
  simp at hi hw
  have hLl : L.length ≤ p.arrays.length := by rw [hw]; simp; omega
  simp
  refine Br_intro (fun g => ?_) (fun g => ?_)
  · simp at g
    have e5 : IntKind.i64.wrap ((i : Int) + 1) = ((i + 1 : Nat) : Int) := wrap64 (by omega) ⟨by omega, by omega⟩
    have r1 : (L.length + 1) * 16 ≤ 140737488355328 := by omega
    have r2 : L.length ≤ 140737488355327 := by omega
    simp [g, e5, r1, r2]
    exact Nx_for (i + 1, L ++ [p.arrays[i].name]) ⟨by omega, by simp only [hw]; rw [List.take_add_one]; simp [g]⟩ (by simp; omega) (Imp.to [(1, 1), (3, 31)] (by simp) (by simp))
  simp at g
  have hw1 : L = p.arrays.map Arr.name := by rw [hw]; exact List.take_of_length_le (by simp; omega)
  clear hw
  simp
  refine Cd_for (fun q : Nat × List ByteArray => ⟨[.bot, .a (.ptr 1 0 []), .bot, .a (.view 3 0 []), .bot, vI q.1, .bot, .bot, .bot, .bot, .bot, .bot, .bot, .bot, .bot, .bot, .bot, .bot, .bot, .bot, .bot, .bot, .bot, .bot, .bot, .bot, .bot, .bot, .bot, .bot, .bot, .bot, .bot, .bot, .bot, .bot, .bot, .bot, .bot, .bot, .bot, .bot, .bot, .bot, .bot, .bot, .bot, .bot, .bot, .bot, .bot, .bot, .bot, .bot, .bot, .bot, .bot, .bot, .bot, .bot, .bot, .bot, .bot, .bot, .bot, .bot, .bot, .bot, .bot, .bot, .bot, .bot, .bot, .bot, .bot, .bot, .bot, .bot, .bot, .bot, .bot, .bot, .bot, .bot], [(1, .obj [.c (.sl 3 (encAs p.arrays)), .c (.sl 4 (encFs p.funcs))]), (3, .reg (.vec 1 (encTs q.2)))]⟩)
    (fun q => q.1 ≤ p.funcs.length ∧ q.2 = L ++ (p.funcs.map Fun.name).take q.1) (fun q => p.funcs.length - q.1) (0, L) ⟨by simp, by simp⟩ (Imp.le (by simp)) ?_
  rintro ⟨j, N⟩ ⟨hj, hv⟩
  simp at hj hv
  have hNl : N.length ≤ p.arrays.length + p.funcs.length := by rw [hv]; simp; omega
  simp
  refine Br_intro (fun c => ?_) (fun c => ?_)
  · simp at c
    have e5 : IntKind.i64.wrap ((j : Int) + 1) = ((j + 1 : Nat) : Int) := wrap64 (by omega) ⟨by omega, by omega⟩
    have r1 : (N.length + 1) * 16 ≤ 140737488355328 := by omega
    have r2 : N.length ≤ 140737488355327 := by omega
    simp [c, e5, r1, r2]
    exact Nx_for (j + 1, N ++ [p.funcs[j].name]) ⟨by omega, by simp only [hv]; rw [List.take_add_one]; simp [c]⟩ (by simp; omega) (Imp.to [(1, 1), (3, 47)] (by simp) (by simp))
  simp at c
  have hv1 : N = namesX p := by
    rw [hv, namesX, hw1]; congr 1; exact List.take_of_length_le (by simp; omega)
  clear hv
  simp
  refine Cd_for (fun i : Nat => ⟨[.bot, .a (.ptr 1 0 []), .bot, .a (.view 3 0 []), .bot, .bot, vI i, .bot, .bot, .bot, .bot, .bot, .bot, .bot, .bot, .bot, .bot, .bot, .bot, .bot, .bot, .bot, .bot, .bot, .bot, .bot, .bot, .bot, .bot, .bot, .bot, .bot, .bot, .bot, .bot, .bot, .bot, .bot, .bot, .bot, .bot, .bot, .bot, .bot, .bot, .bot, .bot, .bot, .bot, .bot, .bot, .bot, .bot, .bot, .bot, .bot, .bot, .bot, .bot, .bot, .bot, .bot, .bot, .bot, .bot, .bot, .bot, .bot, .bot, .bot, .bot, .bot, .bot, .bot, .bot, .bot, .bot, .bot, .bot, .bot, .bot, .bot, .bot, .bot], [(1, .obj [.c (.sl 3 (encAs p.arrays)), .c (.sl 4 (encFs p.funcs))]), (3, .reg (.vec 1 (encTs N)))]⟩)
    (fun i => i ≤ N.length ∧ dupR (N.drop i) (N.take i) = dupR N []) (fun i => N.length - i) 0 ⟨by simp, by simp⟩ (Imp.le (by simp)) ?_
  rintro a ⟨ha, hu⟩
  simp
  refine Br_intro (fun d => ?_) (fun d => ?_)
  · simp at d
    have hda : N.drop a = N[a] :: N.drop (a + 1) := List.drop_eq_getElem_cons d
    rw [hda, dupR] at hu
    have e5 : IntKind.i64.wrap ((a : Int) + 1) = ((a + 1 : Nat) : Int) := wrap64 (by omega) ⟨by omega, by omega⟩
    simp
    refine Cd_for (fun b : Nat => ⟨[.bot, .a (.ptr 1 0 []), .bot, .a (.view 3 0 []), .bot, .bot, vI a, vI b, .bot, .bot, .bot, .bot, .bot, .bot, .bot, .bot, .bot, .bot, .bot, .bot, .bot, .bot, .bot, .bot, .bot, .bot, .bot, .bot, .bot, .bot, .bot, .bot, .bot, .bot, .bot, .bot, .bot, .bot, .bot, .bot, .bot, .bot, .bot, .bot, .bot, .bot, .bot, .bot, .bot, .bot, .bot, .bot, .bot, .bot, .bot, .bot, .bot, .bot, .bot, .bot, .bot, .bot, .bot, .bot, .bot, .bot, .bot, .bot, .bot, .bot, .bot, .bot, .bot, .bot, .bot, .bot, .bot, .bot, .bot, .bot, .bot, .bot, .bot, .bot], [(1, .obj [.c (.sl 3 (encAs p.arrays)), .c (.sl 4 (encFs p.funcs))]), (3, .reg (.vec 1 (encTs N)))]⟩)
      (fun b => b ≤ a ∧ (N.take b).any (fun x => decide (x.toList = N[a].toList)) = false) (fun b => a - b) 0 ⟨by simp, by simp⟩ (Imp.le (by simp)) ?_
    rintro b ⟨hb, ht⟩
    simp
    refine Br_intro (fun e => ?_) (fun e => ?_)
    · simp at e
      have hbN : b < N.length := by omega
      have e6 : IntKind.i64.wrap ((b : Int) + 1) = ((b + 1 : Nat) : Int) := wrap64 (by omega) ⟨by omega, by omega⟩
      simp
      refine Cd_draw (.first 0 (.first 1 (.first 2 (.first 4 (.first 5 (.first 6 (.alt 3 (.alt 7 (.first 8 .done) .stop) (.alt 7 (.alt 3 (.first 8 .done) .stop) .stop)))))))) (by kernel_rfl) (by kernel_rfl) (by kernel_rfl) ?_
      simp [d, hbN]
      refine Br_intro (fun z => ?_) (fun z => ?_) <;> simp at z
      · have hany : (N.take a).any (fun x => decide (x.toList = N[a].toList)) = true := by
          rw [List.any_eq_true]
          exact ⟨N[b], List.mem_take_iff_getElem.2 ⟨b, by omega, rfl⟩, by simpa using z⟩
        rw [hany, Bool.true_or] at hu
        have hdup : dupR (namesX p) [] = true := by rw [← hv1]; exact hu.symm
        simp [checkR, h, h2, hdup]
      · simp [e6]
        have ht2 : (N.take (b + 1)).any (fun x => decide (x.toList = N[a].toList)) = false := by rw [List.take_add_one, List.any_append, ht]; simp [hbN, z]
        exact Nx_for (b + 1) ⟨by omega, by simpa using ht2⟩ (by omega) (Imp.le (by simp))
    · simp at e
      have hba : b = a := by omega
      subst hba
      rw [ht, Bool.false_or] at hu
      simp [e5]
      exact Nx_for (b + 1) ⟨by omega, by rw [← hu, List.take_add_one]; simp [d]⟩ (by omega) (Imp.le (by simp))
  simp at d
  have hnil : N.drop a = [] := by simp; omega
  rw [hnil, dupR] at hu
  have hdup : dupR (namesX p) [] = false := by rw [← hv1]; exact hu.symm
  have hwf : ∀ f ∈ p.funcs, wellSs f.body = true := fun f hf => by
    have h3 : p.funcs.any badF = false := by
      cases hc : p.funcs.any badF with
      | false => rfl
      | true => simp [formedX, hc] at h2
    have := List.any_eq_false.1 h3 f hf
    cases hw : wellSs f.body with
    | true => rfl
    | false => simp [badF, hw] at this
  have hck : checkR p = firstE (fun f => (funcR p f).2) p.funcs := by simp [checkR, h, h2, hdup]
  rw [hck]
  simp
  refine Cd_for (fun i : Nat => ⟨[.bot, .a (.ptr 1 0 []), .bot, .bot, .bot, .bot, .bot, .bot, vI i, .bot, .bot, .bot, .bot, .bot, .bot, .bot, .bot, .bot, .bot, .bot, .bot, .bot, .bot, .bot, .bot, .bot, .bot, .bot, .bot, .bot, .bot, .bot, .bot, .bot, .bot, .bot, .bot, .bot, .bot, .bot, .bot, .bot, .bot, .bot, .bot, .bot, .bot, .bot, .bot, .bot, .bot, .bot, .bot, .bot, .bot, .bot, .bot, .bot, .bot, .bot, .bot, .bot, .bot, .bot, .bot, .bot, .bot, .bot, .bot, .bot, .bot, .bot, .bot, .bot, .bot, .bot, .bot, .bot, .bot, .bot, .bot, .bot, .bot, .bot], [(1, .obj [.c (.sl 3 (encAs p.arrays)), .c (.sl 4 (encFs p.funcs))])]⟩)
    (fun i => i ≤ p.funcs.length ∧ firstE (fun f => (funcR p f).2) (p.funcs.drop i) = firstE (fun f => (funcR p f).2) p.funcs) (fun i => p.funcs.length - i) 0 ⟨by simp, by simp⟩ (Imp.le (by simp)) ?_
  rintro k ⟨hk, hu⟩
  simp
  refine Br_intro (fun e => ?_) (fun e => ?_)
  · simp at e
    have e5 : IntKind.i64.wrap ((k : Int) + 1) = ((k + 1 : Nat) : Int) := wrap64 (by omega) ⟨by omega, by omega⟩
    have hdk : p.funcs.drop k = p.funcs[k] :: p.funcs.drop (k + 1) := List.drop_eq_getElem_cons e
    rw [hdk, firstE] at hu
    have hmem := List.getElem_mem e
    simp
    refine Call_pure (f16 p k e (by omega) (by omega) hP (hs.params _ hmem) (hs.bodies _ hmem) (hwf _ hmem)) ?_
    simp
    refine Br_intro (fun z => ?_) (fun z => ?_) <;> simp at z
    · rw [if_pos z] at hu
      simp [e5]
      exact Nx_for (k + 1) ⟨by omega, hu⟩ (by omega) (Imp.le (by simp))
    · rw [if_neg z] at hu
      simp [hu]
  · simp at e
    have hnil : p.funcs.drop k = [] := by simp; omega
    rw [hnil, firstE] at hu
    simp [← hu]
end Go.Ew
end
