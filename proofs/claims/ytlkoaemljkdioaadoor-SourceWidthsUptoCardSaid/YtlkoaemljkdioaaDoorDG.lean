/- What functions of the seat do: counts. -/
import Derived.Test.YtlkoaemljkdioaaDoorDF
section
/- Functions of the seat: well formed functions; counts. -/
open Go Go.Proofs Go.Ew
namespace Go.Ew
def wellF (f : Fun) : Bool := nameX f.name && f.params.all wellP && (decide (f.result = 0) || sizedX f.result) && wellSs f.body
mutual
def stN : Stm → Nat
  | .mk _ _ _ _ _ b e => 1 + (stNs b + stNs e)
def stNs : List Stm → Nat
  | [] => 0
  | x :: xs => stN x + stNs xs
end
mutual
def vaN : Stm → Nat
  | .mk k _ _ _ _ b e => (if k = 1 then 1 else 0) + (vaNs b + vaNs e)
def vaNs : List Stm → Nat
  | [] => 0
  | x :: xs => vaN x + vaNs xs
end
mutual
def hiN : Stm → Nat
  | .mk _ _ _ _ _ b e => max (1 + hiNs b) (1 + hiNs e)
def hiNs : List Stm → Nat
  | [] => 0
  | x :: xs => max (hiN x) (hiNs xs)
end
mutual
def lgN : Stm → Bool
  | .mk _ _ _ _ es b e => es.any largeX || (lgNs b || lgNs e)
def lgNs : List Stm → Bool
  | [] => false
  | x :: xs => lgN x || lgNs xs
end
mutual
theorem stN_le : ∀ x : Stm, stN x ≤ nodesS x
  | .mk _ _ _ _ es b e => by have := stNs_le b; have := stNs_le e; simp only [stN, nodesS]; omega
theorem stNs_le : ∀ l : List Stm, stNs l ≤ nodesSL l
  | [] => by simp [stNs]
  | x :: xs => by have := stN_le x; have := stNs_le xs; simp only [stNs, nodesSL]; omega
end
mutual
theorem vaN_le : ∀ x : Stm, vaN x ≤ stN x
  | .mk k _ _ _ es b e => by have := vaNs_le b; have := vaNs_le e; simp only [stN, vaN]; split <;> omega
theorem vaNs_le : ∀ l : List Stm, vaNs l ≤ stNs l
  | [] => by simp [vaNs]
  | x :: xs => by have := vaN_le x; have := vaNs_le xs; simp only [vaNs, stNs]; omega
end
mutual
theorem hiN_le : ∀ x : Stm, hiN x ≤ stN x
  | .mk k _ _ _ es b e => by have := hiNs_le b; have := hiNs_le e; simp only [stN, hiN]; omega
theorem hiNs_le : ∀ l : List Stm, hiNs l ≤ stNs l
  | [] => by simp [hiNs]
  | x :: xs => by have := hiN_le x; have := hiNs_le xs; simp only [hiNs, stNs]; omega
end
theorem hiN_pos (x : Stm) : 1 ≤ hiN x := by cases x; simp only [hiN]; omega
attribute [local simp] Cd_skip Cd_label Cd_seq Ct_false Br_notc Br_true Br_false Cd_cond Cd_block Cd_exit Cd_ret Cd_region Nx_code Nx_block Nx_ops Nx_plan  Nx_fin Nx_fin' Ex_code_exit Ex_code_ret Ex_block_exit Ex_block_ret Ex_round_exit Ex_round_ret Ex_fin_ret Ex_fin_ret' Pn_code Pn_block Pn_ops Pn_plan Pn_round Pn_fin Os_nil Os_cons gK_some Gt_some Gt_nil Gt_cons run_code run_op run_skip O1_eq Pl_done Pl_stop Pl_first Pl_alt cK_some qK_some asCall asPan actK_some panOf_some condK_some map_re_c map_kill_c map_keep_c map_frz_c re_cc kill_cc keep_cc frz_cc leCs_refl finA finR idl headOf allB
attribute [local simp] wantedA act quiet opd opg TV.acc imp ofConst St.get St.put St.putG orElse one1 one2 binA unA convA idxA strLen maxA minA TV.flat TV.int TV.bool TV.cells UV.cells CV.els TV.els viewOf PV.nv CV.nv peekC_eq peekB peekG peekH peekP_eq peekPB allP allNv allPs allNv_c allNv_append allP_append allPs_append rowsNv_eq at_ cellAt PV.down PV.elem readAt loadOp bump fieldAddrOp fieldOp indexAddrOp extractOp nilCheckOp lenOp boundOf sliceOp fillCells buildOp pickOp Tab.fld Tab.place tabOf_ti tabOf_mapT tabOf_stc tabOf_arr tabOf_elem tabOf_glob mk busy TV.isPtr TV.isMap keyOK keysOf lookupOp mapOf lookC_some lookC_none findK_nil findK_yes findK_no eqKey_lit eqKey_int mapLen_eq look lay del
attribute [local simp] makeMapOp updateOp insK_some insK_none insC_some insC_none frzMp allocOp boxOp storeOp killOf writeAt moves grabOf takeAt putAt PV.put setCell CV.isView CV.strip CV.stripP strip_cc map_strip_c any_view_c any_view_cc mapM_strip_eq stripL stripL_c mapM_strip_cc frzR_frz frzE_frz stripL_append Ew.newObj newReg rowsOf stripRows movesR buildSliceOp makeSliceOp srcOf baseOf appendOp room killM St.kill Kl.b Kl.h Cap.hit TV.kill UV.kill CV.kill MC.kill capOf capsOf plainCaps mkClo capTV calleeOf panArg resV resT resUs
attribute [local simp] toNew toOld view TV.re UV.re CV.re MC.re Cap.re caps_re leT leU leC leCs leMs leM leTs St.le St.re keysOK  roots_p map_re_p map_re_p' roots_c roots_cc shownOf shownBy pairsOf number deeper addAll MC.live TV.roots CV.roots MC.roots Cap.roots callIs numsOK liveAll start List.range_succ callSt afterMem newPart_nil newPart_cons oldPart_eq oldGo back isKey stays inRange aliveO aliveM MC.isMap aliveR aliveP MC.isObj MC.isReg Cap.alive CV.keep UV.keep TV.keep MC.keep span St.frz frzM TV.frz UV.frz CV.frz MC.frz frzO frzC Cap.frz PV.frz frzE frzR
attribute [local simp] encEs_len encE_len encE_nv encE_take encEs_at encSs_len encS_len encS_nv encS_take encSs_at encFs_len encFs_at encPs_len encPs_at encAs_len
set_option maxRecDepth 8000
set_option maxHeartbeats 2000000
theorem f27 (f : Fun) (hp : f.params.length < 1000000) (hb : nodesSL f.body < 1000000) : Meets Tryd.prog (tabOf Tryd.prog GG) 27 [vFun f] [] (.ret (vB (wellF f))) [] := by
  have hbl := nodesSL_len f.body
  have hP : Meets Tryd.prog (tabOf Tryd.prog GG) 55 [.p (.sl 2 (encPs f.params)), .p (.clo 56 [])] [] (.ret (vB (f.params.all wellP))) [] := f55 _ 56 [] wellP hp (fun a ha => f56 f35 a)
  have hB : Meets Tryd.prog (tabOf Tryd.prog GG) 57 [.p (.sl 7 (encSs f.body)), .p (.clo 58 [])] [] (.ret (vB (f.body.all wellS))) [] :=
    f57 _ 58 [] wellS (by omega) (fun a ha => by have := nodesS_le ha; exact f58 _ a (Nat.le_refl _) (by omega))
  refine meets_of (tabOf_ok _ _) [] Tryd.f27 28 [.tmp 2] (by kernel_rfl) (by kernel_rfl) rfl rfl rfl rfl false ?_
  simp [encF]
  refine Call_pure hP ?_
  simp
  refine Call_pure (f37 f.name) ?_
  simp
  refine Br_callg [nameX f.name && f.params.all wellP, !decide (f.result = 0)] (by simp [allB]) (.one (.c (.v (.bool (sizedX f.result))))) (by rfl) (by rfl) (fun _ => f35 f.result) (fun h => by simp [h]) ?_
  simp
  refine Br_call (.one (.c (.v (.bool (f.body.all wellS))))) (by rfl) (by rfl) (fun _ => hB) (fun h => by simp [h]) ?_
  simp [wellF, wellSs_all]
abbrev cB (b : Bool) : CV := .c (.v (.bool b))
theorem f50 (n : Nat) : ∀ (l : List Stm), nodesSL l ≤ n → nodesSL l < 1000000 → ∀ (s v d dp : Nat) (g : Bool), s + stNs l < 3000000 → v + vaNs l < 3000000 → d < 3000000 → dp + nodesSL l < 3000000 → 1 ≤ dp → dp ≤ d + 1 →
    Meets Tryd.prog (tabOf Tryd.prog GG) 50 [.a (.ptr 1000000 0 []), vSs l, vI dp] [(1000000, .obj [cI s, cI v, cI d, cB g])] (.ret (.tup [])) [(1000000, .obj [cI (s + stNs l : Nat), cI (v + vaNs l : Nat), cI (max d (dp - 1 + hiNs l) : Nat), cB (g || lgNs l)])] := by
  induction n with
  | zero =>
    intro l hn
    cases l with
    | nil =>
      intro _ s v d dp g h1 h2 h3 h4 h5 h6
      refine meets_of (tabOf_ok _ _) [] Tryd.f50 65 [] (by kernel_rfl) (by kernel_rfl) rfl rfl rfl rfl false ?_
      simp
      refine Cd_for (fun i : Nat => ⟨[.bot, .bot, .bot, .bot, .bot, .bot, .bot, .bot, vSs [], vI 0, vI i, .bot, .bot, .bot, .bot, .bot, .bot, .bot, .bot, .bot, .bot, .bot, .bot, .bot, .bot, .bot, .bot, .bot, .bot, .bot, .bot, .bot, .bot, .bot, .bot, .bot, .bot, .bot, .bot, .bot, .bot, .bot, .bot, .bot, .bot, .bot, .bot, .bot, .bot, .bot, .bot, .bot, .bot, .bot, .bot, .bot, .bot, .bot, .bot, .bot, .bot, .bot, .bot, .bot, .bot], [(1000000, .obj [cI s, cI v, cI d, cB g])]⟩) (fun i => i = 0) (fun i => 0) 0 rfl (Imp.le (by simp)) ?_
      rintro i rfl
      simp [stNs, vaNs, hiNs, lgNs]
      omega
    | cons x xs => cases x; simp [nodesSL, nodesS] at hn
  | succ n ih =>
    intro l hn hl s v d dp g h1 h2 h3 h4 h5 h6
    have hll := nodesSL_len l
    refine meets_of (tabOf_ok _ _) [] Tryd.f50 65 [] (by kernel_rfl) (by kernel_rfl) rfl rfl rfl rfl false ?_
    simp
    refine Cd_for (fun q : Nat × Nat × Nat × Nat × Bool => ⟨[.a (.ptr 1000000 0 []), .bot, vI dp, .bot, .bot, .bot, .bot, .bot, vSs l, vI l.length, vI q.1, .bot, .bot, .bot, .bot, .bot, .bot, .bot, .bot, .bot, .bot, .bot, .bot, .bot, .bot, .bot, .bot, .bot, .bot, .bot, .bot, .bot, .bot, .bot, .bot, .bot, .bot, .bot, .bot, .bot, .bot, .bot, .bot, .bot, .bot, .bot, .bot, .bot, .bot, .bot, .bot, .bot, .bot, .bot, .bot, .bot, .bot, .bot, .bot, .bot, .bot, .bot, .bot, .bot, .bot], [(1000000, .obj [cI q.2.1, cI q.2.2.1, cI q.2.2.2.1, cB q.2.2.2.2])]⟩)
      (fun q => q.1 ≤ l.length ∧ q.2.1 + stNs (l.drop q.1) = s + stNs l ∧ q.2.2.1 + vaNs (l.drop q.1) = v + vaNs l ∧ max q.2.2.2.1 (dp - 1 + hiNs (l.drop q.1)) = max d (dp - 1 + hiNs l) ∧ (q.2.2.2.2 || lgNs (l.drop q.1)) = (g || lgNs l) ∧ dp ≤ q.2.2.2.1 + 1)
      (fun q => l.length - q.1) (0, s, v, d, g) ⟨by simp, by simp, by simp, by simp, by simp, h6⟩ (Imp.le (by simp)) ?_
    rintro ⟨i, s1, v1, d1, g1⟩ ⟨hi, w1, w2, w3, w4, w5⟩
    simp at hi w1 w2 w3 w4 w5
    simp
    refine Br_intro (fun h => ?_) (fun h => ?_)
    · simp at h
      simp [h]
      have hd : l.drop i = l[i] :: l.drop (i + 1) := List.drop_eq_getElem_cons h
      rw [hd] at w1 w2 w3 w4
      have hb := nodesS_le (List.getElem_mem h)
      have hsl := stNs_le l
      have hvl := vaNs_le l
      have hhl := hiNs_le l
      generalize l[i] = x at *
      obtain ⟨k, nm, f, w, es, b, e⟩ := x
      simp only [stNs, vaNs, hiNs, lgNs, stN, vaN, hiN, lgN] at w1 w2 w3 w4
      simp only [nodesS] at hb
      have hel := nodesL_len es
      obtain ⟨s2, hs2⟩ : ∃ s2, s2 = s1 + 1 := ⟨_, rfl⟩
      obtain ⟨d2, hd2⟩ : ∃ d2, d2 = max d1 dp := ⟨_, rfl⟩
      obtain ⟨v2, hv2⟩ : ∃ v2, v2 = v1 + 1 := ⟨_, rfl⟩
      obtain ⟨i2, hi2⟩ : ∃ i2, i2 = i + 1 := ⟨_, rfl⟩
      obtain ⟨dp2, hdp2⟩ : ∃ dp2, dp2 = dp + 1 := ⟨_, rfl⟩
      have e1 : IntKind.i64.wrap ((s1 : Int) + 1) = (s2 : Int) := wrap64 (by omega) ⟨by omega, by omega⟩
      have e2 : (if d1 < dp then (dp : Int) else (d1 : Int)) = (d2 : Int) := by split <;> omega
      have e3 : IntKind.i64.wrap ((v1 : Int) + 1) = (v2 : Int) := wrap64 (by omega) ⟨by omega, by omega⟩
      have e4 : IntKind.i64.wrap ((dp : Int) + 1) = (dp2 : Int) := wrap64 (by omega) ⟨by omega, by omega⟩
      have e5 : IntKind.i64.wrap ((i : Int) + 1) = (i2 : Int) := wrap64 (by omega) ⟨by omega, by omega⟩
      have hX : Meets Tryd.prog (tabOf Tryd.prog GG) 69 [.p (.sl 6 (encEs es)), .p (.clo 17 [])] [] (.ret (vB (es.any largeX))) [] :=
        f69 es 17 [] largeX (by omega) (fun a ha => by have := nodes_le ha; exact f17 a (by omega))
      have hB := fun s v d g a1 a2 a3 a4 => ih b (by omega) (by omega) s v d dp2 g a1 a2 a3 (by omega) (by omega) a4
      have hE := fun s v d g a1 a2 a3 a4 => ih e (by omega) (by omega) s v d dp2 g a1 a2 a3 (by omega) (by omega) a4
      have b1 := stNs_le b
      have b2 := vaNs_le b
      have b3 := hiNs_le b
      have b4 := stNs_le e
      have b5 := vaNs_le e
      have b6 := hiNs_le e
      simp [encS, e1, e2]
      refine Br_intro (fun hk => ?_) (fun hk => ?_)
      · simp at hk
        simp [hk] at w2
        simp [hk, e3]
        refine Br_call (.one (.c (.v (.bool (es.any largeX))))) (by rfl) (by rfl) (fun _ => hX) (fun h => by simp [h]) ?_
        simp [e4]
        refine Call_own (hB s2 v2 d2 _ (by omega) (by omega) (by omega) (by omega)) (by simp) ?_
        simp [e4]
        refine Call_own (hE _ _ _ _ (by omega) (by omega) (by omega) (by omega)) (by simp) ?_
        simp [e5]
        subst hi2
        exact Nx_for (i + 1, s2 + stNs b + stNs e, v2 + vaNs b + vaNs e, max (max d2 (dp2 - 1 + hiNs b)) (dp2 - 1 + hiNs e), ((g1 || es.any largeX) || lgNs b) || lgNs e) ⟨by simp; omega, by simp; omega, by simp; omega, by simp; omega, by rw [← w4]; simp [Bool.or_assoc], by simp; omega⟩ (by simp; omega) (Imp.le (by simp))
      · simp at hk
        simp [hk] at w2
        simp [hk]
        refine Br_call (.one (.c (.v (.bool (es.any largeX))))) (by rfl) (by rfl) (fun _ => hX) (fun h => by simp [h]) ?_
        simp [e4]
        refine Call_own (hB s2 v1 d2 _ (by omega) (by omega) (by omega) (by omega)) (by simp) ?_
        simp [e4]
        refine Call_own (hE _ _ _ _ (by omega) (by omega) (by omega) (by omega)) (by simp) ?_
        simp [e5]
        subst hi2
        exact Nx_for (i + 1, s2 + stNs b + stNs e, v1 + vaNs b + vaNs e, max (max d2 (dp2 - 1 + hiNs b)) (dp2 - 1 + hiNs e), ((g1 || es.any largeX) || lgNs b) || lgNs e) ⟨by simp; omega, by simp; omega, by simp; omega, by simp; omega, by rw [← w4]; simp [Bool.or_assoc], by simp; omega⟩ (by simp; omega) (Imp.le (by simp))
    · simp at h
      have hnil : l.drop i = [] := by simp; omega
      rw [hnil] at w1 w2 w3 w4
      simp [stNs, vaNs, hiNs, lgNs] at w1 w2 w3 w4
      simp [h, w1, w2, w4]
      omega
end Go.Ew
end
section
/- Functions of the seat: counts. -/
open Go Go.Proofs Go.Ew
namespace Go.Ew
attribute [local simp] Cd_skip Cd_label Cd_seq Ct_false Br_notc Br_true Br_false Cd_cond Cd_block Cd_exit Cd_ret Cd_region Nx_code Nx_block Nx_ops Nx_plan  Nx_fin Nx_fin' Ex_code_exit Ex_code_ret Ex_block_exit Ex_block_ret Ex_round_exit Ex_round_ret Ex_fin_ret Ex_fin_ret' Pn_code Pn_block Pn_ops Pn_plan Pn_round Pn_fin Os_nil Os_cons gK_some Gt_some Gt_nil Gt_cons run_code run_op run_skip O1_eq Pl_done Pl_stop Pl_first Pl_alt cK_some qK_some asCall asPan actK_some panOf_some condK_some map_re_c map_kill_c map_keep_c map_frz_c re_cc kill_cc keep_cc frz_cc leCs_refl finA finR idl headOf allB
attribute [local simp] wantedA act quiet opd opg TV.acc imp ofConst St.get St.put St.putG orElse one1 one2 binA unA convA idxA strLen maxA minA TV.flat TV.int TV.bool TV.cells UV.cells CV.els TV.els viewOf PV.nv CV.nv peekC_eq peekB peekG peekH peekP_eq peekPB allP allNv allPs allNv_c allNv_append allP_append allPs_append rowsNv_eq at_ cellAt PV.down PV.elem readAt loadOp bump fieldAddrOp fieldOp indexAddrOp extractOp nilCheckOp lenOp boundOf sliceOp fillCells buildOp pickOp Tab.fld Tab.place tabOf_ti tabOf_mapT tabOf_stc tabOf_arr tabOf_elem tabOf_glob mk busy TV.isPtr TV.isMap keyOK keysOf lookupOp mapOf lookC_some lookC_none findK_nil findK_yes findK_no eqKey_lit eqKey_int mapLen_eq look lay del
attribute [local simp] makeMapOp updateOp insK_some insK_none insC_some insC_none frzMp allocOp boxOp storeOp killOf writeAt moves grabOf takeAt putAt PV.put setCell CV.isView CV.strip CV.stripP strip_cc map_strip_c any_view_c any_view_cc mapM_strip_eq stripL stripL_c mapM_strip_cc frzR_frz frzE_frz stripL_append Ew.newObj newReg rowsOf stripRows movesR buildSliceOp makeSliceOp srcOf baseOf appendOp room killM St.kill Kl.b Kl.h Cap.hit TV.kill UV.kill CV.kill MC.kill capOf capsOf plainCaps mkClo capTV calleeOf panArg resV resT resUs
attribute [local simp] toNew toOld view TV.re UV.re CV.re MC.re Cap.re caps_re leT leU leC leCs leMs leM leTs St.le St.re keysOK  roots_p map_re_p map_re_p' roots_c roots_cc shownOf shownBy pairsOf number deeper addAll MC.live TV.roots CV.roots MC.roots Cap.roots callIs numsOK liveAll start List.range_succ callSt afterMem newPart_nil newPart_cons oldPart_eq oldGo back isKey stays inRange aliveO aliveM MC.isMap aliveR aliveP MC.isObj MC.isReg Cap.alive CV.keep UV.keep TV.keep MC.keep span St.frz frzM TV.frz UV.frz CV.frz MC.frz frzO frzC Cap.frz PV.frz frzE frzR
attribute [local simp] encEs_len encE_len encE_nv encE_take encEs_at encSs_len encS_len encS_nv encS_take encSs_at encFs_len encFs_at encPs_len encPs_at encAs_len encF
set_option maxRecDepth 8000
set_option maxHeartbeats 2000000
abbrev cntR (a v h : Nat) (g : Bool) : TV := .tup [.one (cI a), .one (cI v), .one (cI h), .one (cB g)]
theorem f60 (n : Nat) : ∀ (l : List Stm), nodesSL l ≤ n → nodesSL l < 1000000 → Meets Tryd.prog (tabOf Tryd.prog GG) 60 [vSs l] [] (.ret (cntR (stNs l) (vaNs l) (hiNs l) (lgNs l))) [] := by
  induction n with
  | zero =>
    intro l hn
    cases l with
    | nil =>
      intro _
      refine meets_of (tabOf_ok _ _) [] Tryd.f60 103 [.tmp 2, .tmp 3, .tmp 4, .tmp 5] (by kernel_rfl) (by kernel_rfl) rfl rfl rfl rfl false ?_
      simp
      refine Cd_for (fun i : Nat => ⟨[vSs [], .bot, vI 0, vI 0, vI 0, vB false, vI i, .bot, .bot, .bot, .bot, .bot, .bot, .bot, .bot, .bot, .bot, .bot, .bot, .bot, .bot, .bot, .bot, .bot, .bot, .bot, .bot, .bot, .bot, .bot, .bot, .bot, .bot, .bot, .bot, .bot, .bot, .bot, .bot, .bot, .bot, .bot, .bot, .bot, .bot, .bot, .bot, .bot, .bot, .bot, .bot, .bot, .bot, .bot, .bot, .bot, .bot, .bot, .bot, .bot, .bot, .bot, .bot, .bot, .bot, .bot, .bot, .bot, .bot, .bot, .bot, .bot, .bot, .bot, .bot, .bot, .bot, .bot, .bot, .bot, .bot, .bot, .bot, .bot, .bot, .bot, .bot, .bot, .bot, .bot, .bot, .bot, .bot, .bot, .bot, .bot, .bot, .bot, .bot, .bot, .bot, .bot, .bot], []⟩) (fun i => i = 0) (fun i => 0) 0 rfl (Imp.le (by simp)) ?_
      rintro i rfl
      simp [stNs, vaNs, hiNs, lgNs]
    | cons x xs => cases x; simp [nodesSL, nodesS] at hn
  | succ n ih =>
    intro l hn hl
    have hll := nodesSL_len l
    refine meets_of (tabOf_ok _ _) [] Tryd.f60 103 [.tmp 2, .tmp 3, .tmp 4, .tmp 5] (by kernel_rfl) (by kernel_rfl) rfl rfl rfl rfl false ?_
    simp
    refine Cd_for (fun q : Nat × Nat × Nat × Nat × Bool => ⟨[vSs l, .bot, vI q.2.1, vI q.2.2.1, vI q.2.2.2.1, vB q.2.2.2.2, vI q.1, .bot, .bot, .bot, .bot, .bot, .bot, .bot, .bot, .bot, .bot, .bot, .bot, .bot, .bot, .bot, .bot, .bot, .bot, .bot, .bot, .bot, .bot, .bot, .bot, .bot, .bot, .bot, .bot, .bot, .bot, .bot, .bot, .bot, .bot, .bot, .bot, .bot, .bot, .bot, .bot, .bot, .bot, .bot, .bot, .bot, .bot, .bot, .bot, .bot, .bot, .bot, .bot, .bot, .bot, .bot, .bot, .bot, .bot, .bot, .bot, .bot, .bot, .bot, .bot, .bot, .bot, .bot, .bot, .bot, .bot, .bot, .bot, .bot, .bot, .bot, .bot, .bot, .bot, .bot, .bot, .bot, .bot, .bot, .bot, .bot, .bot, .bot, .bot, .bot, .bot, .bot, .bot, .bot, .bot, .bot, .bot], []⟩)
      (fun q => q.1 ≤ l.length ∧ q.2.1 + stNs (l.drop q.1) = stNs l ∧ q.2.2.1 + vaNs (l.drop q.1) = vaNs l ∧ max q.2.2.2.1 (hiNs (l.drop q.1)) = hiNs l ∧ (q.2.2.2.2 || lgNs (l.drop q.1)) = lgNs l)
      (fun q => l.length - q.1) (0, 0, 0, 0, false) ⟨by simp, by simp, by simp, by simp, by simp⟩ (Imp.le (by simp)) ?_
    rintro ⟨i, s1, v1, d1, g1⟩ ⟨hi, w1, w2, w3, w4⟩
    simp at hi w1 w2 w3 w4
    simp
    refine Br_intro (fun h => ?_) (fun h => ?_)
    · simp at h
      have hd : l.drop i = l[i] :: l.drop (i + 1) := List.drop_eq_getElem_cons h
      rw [hd] at w1 w2 w3 w4
      have hb := nodesS_le (List.getElem_mem h)
      have hsl := stNs_le l
      have hvl := vaNs_le l
      have hhl := hiNs_le l
      have hget : l[i]? = some l[i] := List.getElem?_eq_getElem h
      have hge2 : (encSs l)[i]? = some (encS l[i]) := by simp [encSs_map, h]
      generalize hx : l[i] = x at *
      obtain ⟨k, nm, f, w, es, b, e⟩ := x
      simp only [stNs, vaNs, hiNs, lgNs, stN, vaN, hiN, lgN] at w1 w2 w3 w4
      simp only [nodesS] at hb
      have hel := nodesL_len es
      obtain ⟨s2, hs2⟩ : ∃ s2, s2 = s1 + 1 := ⟨_, rfl⟩
      obtain ⟨v2, hv2⟩ : ∃ v2, v2 = v1 + 1 := ⟨_, rfl⟩
      have b1 := stNs_le b
      have b2 := vaNs_le b
      have b3 := hiNs_le b
      have b4 := stNs_le e
      have b5 := vaNs_le e
      have b6 := hiNs_le e
      obtain ⟨s3, hs3⟩ : ∃ s3, s3 = stNs b + stNs e := ⟨_, rfl⟩
      obtain ⟨v3, hv3⟩ : ∃ v3, v3 = vaNs b + vaNs e := ⟨_, rfl⟩
      obtain ⟨d3, hd3⟩ : ∃ d3, d3 = max (max d1 (1 + hiNs b)) (1 + hiNs e) := ⟨_, rfl⟩
      obtain ⟨p1, hp1⟩ : ∃ p1, p1 = 1 + hiNs b := ⟨_, rfl⟩
      obtain ⟨p2, hp2⟩ : ∃ p2, p2 = 1 + hiNs e := ⟨_, rfl⟩
      have e12 : IntKind.i64.wrap (1 + (hiNs b : Int)) = (p1 : Int) := wrap64 (by omega) ⟨by omega, by omega⟩
      have e13 : IntKind.i64.wrap (1 + (hiNs e : Int)) = (p2 : Int) := wrap64 (by omega) ⟨by omega, by omega⟩
      have e1 : IntKind.i64.wrap ((s1 : Int) + 1) = (s2 : Int) := wrap64 (by omega) ⟨by omega, by omega⟩
      have e3 : IntKind.i64.wrap ((v1 : Int) + 1) = (v2 : Int) := wrap64 (by omega) ⟨by omega, by omega⟩
      have e5 : IntKind.i64.wrap ((i : Int) + 1) = ((i + 1 : Nat) : Int) := wrap64 (by omega) ⟨by omega, by omega⟩
      have e6 : IntKind.i64.wrap ((stNs b : Int) + (stNs e : Int)) = (s3 : Int) := wrap64 (by omega) ⟨by omega, by omega⟩
      have e7 : IntKind.i64.wrap ((s2 : Int) + (s3 : Int)) = ((s2 + s3 : Nat) : Int) := wrap64 (by omega) ⟨by omega, by omega⟩
      have e8 : IntKind.i64.wrap ((vaNs b : Int) + (vaNs e : Int)) = (v3 : Int) := wrap64 (by omega) ⟨by omega, by omega⟩
      have e9 : IntKind.i64.wrap ((v1 : Int) + (v3 : Int)) = ((v1 + v3 : Nat) : Int) := wrap64 (by omega) ⟨by omega, by omega⟩
      have e10 : IntKind.i64.wrap ((v2 : Int) + (v3 : Int)) = ((v2 + v3 : Nat) : Int) := wrap64 (by omega) ⟨by omega, by omega⟩
      simp [hge2, encS, e1]
      refine Br_intro (fun hk => ?_) (fun hk => ?_)
      · simp at hk
        simp [hk] at w2
        simp [hk, e3]
        refine Cd_for (fun q : Nat × Bool => ⟨[vSs l, .bot, vI s2, vI v2, vI d1, vB q.2, vI i, vI q.1, .bot, .bot, .bot, .bot, .bot, .bot, .bot, .bot, .bot, .bot, .bot, .bot, .bot, .bot, .bot, .bot, .bot, .bot, .bot, .bot, .bot, .bot, .bot, .bot, .bot, .bot, .bot, .bot, .bot, .bot, .bot, .bot, .bot, .bot, .bot, .bot, .bot, .bot, .bot, .bot, .bot, .bot, .bot, .bot, .bot, .bot, .bot, .bot, .bot, .bot, .bot, .bot, .bot, .bot, .bot, .bot, .bot, .bot, .bot, .bot, .bot, .bot, .bot, .bot, .bot, .bot, .bot, .bot, .bot, .bot, .bot, .bot, .bot, .bot, .bot, .bot, .bot, .bot, .bot, .bot, .bot, .bot, .bot, .bot, .bot, .bot, .bot, .bot, .bot, .bot, .bot, .bot, .bot, .bot, .bot], []⟩)
          (fun q => q.1 ≤ es.length ∧ (q.2 || (es.drop q.1).any largeX) = (g1 || es.any largeX)) (fun q => es.length - q.1) (0, g1) ⟨by simp, by simp⟩ (Imp.le (by simp)) ?_
        rintro ⟨j, g2⟩ ⟨hj, u1⟩
        simp at hj u1
        simp [hge2, encS]
        refine Br_intro (fun c => ?_) (fun c => ?_)
        · simp at c
          have hdj : es.drop j = es[j] :: es.drop (j + 1) := List.drop_eq_getElem_cons c
          rw [hdj, List.any_cons] at u1
          have hbj := nodes_le (List.getElem_mem c)
          have e11 : IntKind.i64.wrap ((j : Int) + 1) = ((j + 1 : Nat) : Int) := wrap64 (by omega) ⟨by omega, by omega⟩
          simp [c, hge2, encS]
          have hm := f20 es[j] (by omega)
          refine Br_call (.one (.c (.v (.bool (largeX es[j]))))) (by rfl) (by rfl) (fun _ => hm) (fun h => by simp [h]) ?_
          simp [e11]
          exact Nx_for (j + 1, g2 || largeX es[j]) ⟨by omega, by rw [← u1]; simp [Bool.or_assoc]⟩ (by simp; omega) (Imp.le (by simp))
        · simp at c
          have hnj : es.drop j = [] := by simp; omega
          rw [hnj, List.any_nil, Bool.or_false] at u1
          simp [hge2, encS]
          refine Call_pure (ih b (by omega) (by omega)) ?_
          simp [hge2, encS]
          refine Call_pure (ih e (by omega) (by omega)) ?_
          simp [e6, e7, e8, e10, e5, e12, e13]
          exact Nx_for (i + 1, s2 + s3, v2 + v3, d3, (g2 || lgNs b) || lgNs e) ⟨by omega, by simp; omega, by simp; omega, by simp; omega, by rw [← w4, u1]; simp [Bool.or_assoc]⟩ (by simp; omega) (Imp.le (by simp; split <;> split <;> omega))
      · simp at hk
        simp [hk] at w2
        simp [hk]
        refine Cd_for (fun q : Nat × Bool => ⟨[vSs l, .bot, vI s2, vI v1, vI d1, vB q.2, vI i, vI q.1, .bot, .bot, .bot, .bot, .bot, .bot, .bot, .bot, .bot, .bot, .bot, .bot, .bot, .bot, .bot, .bot, .bot, .bot, .bot, .bot, .bot, .bot, .bot, .bot, .bot, .bot, .bot, .bot, .bot, .bot, .bot, .bot, .bot, .bot, .bot, .bot, .bot, .bot, .bot, .bot, .bot, .bot, .bot, .bot, .bot, .bot, .bot, .bot, .bot, .bot, .bot, .bot, .bot, .bot, .bot, .bot, .bot, .bot, .bot, .bot, .bot, .bot, .bot, .bot, .bot, .bot, .bot, .bot, .bot, .bot, .bot, .bot, .bot, .bot, .bot, .bot, .bot, .bot, .bot, .bot, .bot, .bot, .bot, .bot, .bot, .bot, .bot, .bot, .bot, .bot, .bot, .bot, .bot, .bot, .bot], []⟩)
          (fun q => q.1 ≤ es.length ∧ (q.2 || (es.drop q.1).any largeX) = (g1 || es.any largeX)) (fun q => es.length - q.1) (0, g1) ⟨by simp, by simp⟩ (Imp.le (by simp)) ?_
        rintro ⟨j, g2⟩ ⟨hj, u1⟩
        simp at hj u1
        simp [hge2, encS]
        refine Br_intro (fun c => ?_) (fun c => ?_)
        · simp at c
          have hdj : es.drop j = es[j] :: es.drop (j + 1) := List.drop_eq_getElem_cons c
          rw [hdj, List.any_cons] at u1
          have hbj := nodes_le (List.getElem_mem c)
          have e11 : IntKind.i64.wrap ((j : Int) + 1) = ((j + 1 : Nat) : Int) := wrap64 (by omega) ⟨by omega, by omega⟩
          simp [c, hge2, encS]
          have hm := f20 es[j] (by omega)
          refine Br_call (.one (.c (.v (.bool (largeX es[j]))))) (by rfl) (by rfl) (fun _ => hm) (fun h => by simp [h]) ?_
          simp [e11]
          exact Nx_for (j + 1, g2 || largeX es[j]) ⟨by omega, by rw [← u1]; simp [Bool.or_assoc]⟩ (by simp; omega) (Imp.le (by simp))
        · simp at c
          have hnj : es.drop j = [] := by simp; omega
          rw [hnj, List.any_nil, Bool.or_false] at u1
          simp [hge2, encS]
          refine Call_pure (ih b (by omega) (by omega)) ?_
          simp [hge2, encS]
          refine Call_pure (ih e (by omega) (by omega)) ?_
          simp [e6, e7, e8, e9, e5, e12, e13]
          exact Nx_for (i + 1, s2 + s3, v1 + v3, d3, (g2 || lgNs b) || lgNs e) ⟨by omega, by simp; omega, by simp; omega, by simp; omega, by rw [← w4, u1]; simp [Bool.or_assoc]⟩ (by simp; omega) (Imp.le (by simp; split <;> split <;> omega))
    · simp at h
      have hnil : l.drop i = [] := by simp; omega
      rw [hnil] at w1 w2 w3 w4
      simp [stNs, vaNs, hiNs, lgNs] at w1 w2 w3 w4
      simp [w1, w2, w3, w4]
end Go.Ew
end
