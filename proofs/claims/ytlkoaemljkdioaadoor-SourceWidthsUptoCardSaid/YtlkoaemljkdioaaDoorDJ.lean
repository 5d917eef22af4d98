/- What functions of the seat do: a block's check, a function's check. -/
import Derived.Test.YtlkoaemljkdioaaDoorDI
section
/- Functions of the seat: blocks, the program's. -/
open Go Go.Proofs Go.Ew
namespace Go.Ew
mutual
def stmX (p : Pro) (res : Int) : Stm → List Par → Bool → List Par × Int
  | .mk k nm f w es b e, kl, loop =>
    if (subsX p.arrays kl es).2 = 0 then
      if ruleX p res kl k nm f w (subsX p.arrays kl es).1 loop = 0 then
        if (blockX p res b (kl ++ declX p kl k nm w) (loop || decide (k = 5))).2 = 0 then
          (declX p kl k nm w ++ (blockX p res b (kl ++ declX p kl k nm w) (loop || decide (k = 5))).1 ++ (blockX p res e (kl ++ (declX p kl k nm w ++ (blockX p res b (kl ++ declX p kl k nm w) (loop || decide (k = 5))).1)) loop).1,
            (blockX p res e (kl ++ (declX p kl k nm w ++ (blockX p res b (kl ++ declX p kl k nm w) (loop || decide (k = 5))).1)) loop).2)
        else (declX p kl k nm w ++ (blockX p res b (kl ++ declX p kl k nm w) (loop || decide (k = 5))).1, (blockX p res b (kl ++ declX p kl k nm w) (loop || decide (k = 5))).2)
      else (declX p kl k nm w, ruleX p res kl k nm f w (subsX p.arrays kl es).1 loop)
    else ([], (subsX p.arrays kl es).2)
def blockX (p : Pro) (res : Int) : List Stm → List Par → Bool → List Par × Int
  | [], _, _ => ([], 0)
  | s :: ss, kl, loop =>
    if (stmX p res s kl loop).2 = 0 then ((stmX p res s kl loop).1 ++ (blockX p res ss (kl ++ (stmX p res s kl loop).1) loop).1, (blockX p res ss (kl ++ (stmX p res s kl loop).1) loop).2)
    else stmX p res s kl loop
end
theorem declX_le (p : Pro) (kl : List Par) (k : Int) (nm : ByteArray) (w : Int) : (declX p kl k nm w).length ≤ 1 := by
  unfold declX; split <;> simp
mutual
theorem stmX_le (p : Pro) (res : Int) : ∀ (s : Stm) (kl : List Par) (loop : Bool), (stmX p res s kl loop).1.length ≤ stN s
  | .mk k nm f w es b e, kl, loop => by
    have h0 := declX_le p kl k nm w
    have h1 := blockX_le p res b (kl ++ declX p kl k nm w) (loop || decide (k = 5))
    have h2 := blockX_le p res e (kl ++ (declX p kl k nm w ++ (blockX p res b (kl ++ declX p kl k nm w) (loop || decide (k = 5))).1)) loop
    rw [stmX, stN]
    split
    · split
      · split
        · simp only [List.length_append]; omega
        · simp only [List.length_append]; omega
      · simp only; omega
    · simp
theorem blockX_le (p : Pro) (res : Int) : ∀ (l : List Stm) (kl : List Par) (loop : Bool), (blockX p res l kl loop).1.length ≤ stNs l
  | [], kl, loop => by simp [blockX, stNs]
  | s :: ss, kl, loop => by
    have h0 := stmX_le p res s kl loop
    have h1 := blockX_le p res ss (kl ++ (stmX p res s kl loop).1) loop
    rw [blockX, stNs]
    split
    · simp only [List.length_append]; omega
    · omega
end
theorem subsX_len (ar : List Arr) (kl : List Par) : ∀ (l : List Expr), (subsX ar kl l).2 = 0 → (subsX ar kl l).1.length = l.length
  | [], _ => by simp [subsX]
  | x :: xs, h => by
    rw [subsX] at h ⊢
    split
    · rename_i h0
      rw [if_pos h0] at h
      simp [subsX_len ar kl xs h]
    · rename_i h0
      rw [if_neg h0] at h
      exact absurd h h0
theorem wellS_lens {k : Int} {nm f : ByteArray} {w : Int} {es : List Expr} {b e : List Stm} (h : wellS (.mk k nm f w es b e) = true) : lensOK k es.length ∧ wellEs es = true ∧ wellSs b = true ∧ wellSs e = true := by
  rw [wellS] at h
  simp only [Bool.and_eq_true] at h
  obtain ⟨⟨⟨h1, h2, h3⟩, _⟩, h4⟩ := h
  refine ⟨⟨fun hk => ?_, fun hk => ?_, fun hk => ?_, fun hk => ?_, fun hk => ?_, fun hk => ?_⟩, h1, h2, h3⟩ <;> subst hk <;> simp [tailS] at h4 <;> omega
attribute [local simp] Cd_skip Cd_label Cd_seq Ct_false Br_notc Br_true Br_false Cd_cond Cd_block Cd_exit Cd_ret Cd_region Nx_code Nx_block Nx_ops Nx_plan  Nx_fin Nx_fin' Ex_code_exit Ex_code_ret Ex_block_exit Ex_block_ret Ex_round_exit Ex_round_ret Ex_fin_ret Ex_fin_ret' Pn_code Pn_block Pn_ops Pn_plan Pn_round Pn_fin Os_nil Os_cons gK_some Gt_some Gt_nil Gt_cons run_code run_op run_skip O1_eq Pl_done Pl_stop Pl_first Pl_alt cK_some qK_some qK_none qK_busy flatOp_none flatArgs Op.operands eqAgg_l eqAgg_b eqAgg_1 asCall asPan actK_some panOf_some condK_some map_re_c map_kill_c map_keep_c map_frz_c re_cc kill_cc keep_cc frz_cc leCs_refl finA finR idl headOf allB
attribute [local simp] wantedA act quiet opd opg TV.acc imp ofConst St.get St.put St.putG orElse one1 one2 binA unA convA idxA strLen maxA minA TV.flat TV.int TV.bool TV.cells UV.cells CV.els TV.els viewOf PV.nv CV.nv peekC_eq peekB peekG peekH peekP_eq peekPB allP allNv allPs allNv_c allNv_append allP_append allPs_append rowsNv_eq at_ cellAt PV.down PV.elem readAt loadOp bump fieldAddrOp fieldOp indexAddrOp extractOp nilCheckOp lenOp boundOf sliceOp fillCells buildOp pickOp Tab.fld Tab.place tabOf_ti tabOf_mapT tabOf_stc tabOf_arr tabOf_elem tabOf_glob mk busy TV.isPtr TV.isMap keyOK keysOf lookupOp mapOf lookC_some lookC_none findK_nil findK_yes findK_no eqKey_lit eqKey_int mapLen_eq look lay del
attribute [local simp] makeMapOp updateOp insK_some insK_none insC_some insC_none frzMp allocOp boxOp storeOp killOf writeAt moves grabOf takeAt putAt PV.put setCell CV.isView CV.strip CV.stripP strip_cc map_strip_c any_view_c any_view_cc mapM_strip_eq stripL stripL_c mapM_strip_cc frzR_frz frzE_frz stripL_append Ew.newObj newReg rowsOf stripRows movesR buildSliceOp makeSliceOp srcOf baseOf appendOp room killM St.kill Kl.b Kl.h Cap.hit TV.kill UV.kill CV.kill MC.kill capOf capsOf plainCaps mkClo capTV calleeOf panArg resV resT resUs
attribute [local simp] toNew toOld view TV.re UV.re CV.re MC.re Cap.re caps_re leT leU leC leCs leMs leM leTs St.le St.re keysOK  roots_p map_re_p map_re_p' roots_c roots_cc shownOf shownBy pairsOf number deeper addAll MC.live TV.roots CV.roots MC.roots Cap.roots callIs numsOK liveAll start List.range_succ callSt afterMem newPart_nil newPart_cons oldPart_eq oldGo back isKey stays inRange aliveO aliveM MC.isMap aliveR aliveP MC.isObj MC.isReg Cap.alive CV.keep UV.keep TV.keep MC.keep span St.frz frzM TV.frz UV.frz CV.frz MC.frz frzO frzC Cap.frz PV.frz frzE frzR
attribute [local simp] encIs_len encIs_nv encIs_app encAs_len encAs_at encA encFs_len encFs_at encPs_len encPs_at encF encP encEs_len encE_len encE_nv encE_take encEs_at encSs_len encS_len encS_nv encS_take encSs_at
set_option maxRecDepth 8000
set_option maxHeartbeats 4000000
theorem f29 (p : Pro) (a2 a3 a5 : PV) (res : Int) (hA : p.arrays.length < 1000000) (hF : p.funcs.length < 1000000) (hP : ∀ f ∈ p.funcs, f.params.length < 1000000) (n : Nat) : ∀ (l : List Stm), nodesSL l ≤ n → nodesSL l < 1000000 → wellSs l = true → ∀ (kn : PV) (kl : List Par) (loop : Bool), Grows kn kl → kl.length + stNs l < 1000000 →
    Meets Tryd.prog (tabOf Tryd.prog GG) 29 [.a (.ptr 1000000 0 []), vSs l, vB loop] [(1000000, .obj [.c (.sl 3 (encAs p.arrays)), .c (.sl 4 (encFs p.funcs)), .c a2, .c a3, cI res, .c a5, .c kn])] (.ret (vI (blockX p res l kl loop).2)) [(1000000, .obj [.c (.sl 3 (encAs p.arrays)), .c (.sl 4 (encFs p.funcs)), .c a2, .c a3, cI res, .c a5, .c (knE kn kl (blockX p res l kl loop).1)])] := by
  induction n with
  | zero =>
    intro l hn
    cases l with
    | nil =>
      intro _ _ kn kl loop hk _
      refine meets_of (tabOf_ok _ _) [] Tryd.f29 70 [.tmp 6] (by kernel_rfl) (by kernel_rfl) rfl rfl rfl rfl false ?_
      simp
      refine Cd_for (fun i : Nat => ⟨[.bot, .bot, .bot, .bot, .bot, .bot, .bot, .bot, .bot, .bot, .bot, .bot, .bot, .bot, .bot, vSs [], vI 0, vI i, .bot, .bot, .bot, .bot, .bot, .bot, .bot, .bot, .bot, .bot, .bot, .bot, .bot, .bot, .bot, .bot, .bot, .bot, .bot, .bot, .bot, .bot, .bot, .bot, .bot, .bot, .bot, .bot, .bot, .bot, .bot, .bot, .bot, .bot, .bot, .bot, .bot, .bot, .bot, .bot, .bot, .bot, .bot, .bot, .bot, .bot, .bot, .bot, .bot, .bot, .bot, .bot], [(1000000, .obj [.c (.sl 3 (encAs p.arrays)), .c (.sl 4 (encFs p.funcs)), .c a2, .c a3, cI res, .c a5, .c kn])]⟩) (fun i => i = 0) (fun i => 0) 0 rfl (Imp.le (by simp)) ?_
      rintro i rfl
      simp [blockX, knE]
    | cons x xs => cases x; simp [nodesSL, nodesS] at hn
  | succ n ih =>
    intro l hn hl hwell kn kl loop hk hkl
    have hll := nodesSL_len l
    have hwall := hwell
    rw [wellSs_all] at hwall
    refine meets_of (tabOf_ok _ _) [] Tryd.f29 70 [.tmp 6] (by kernel_rfl) (by kernel_rfl) rfl rfl rfl rfl false ?_
    simp
    refine Cd_for (fun q : Nat × List Par => ⟨[.a (.ptr 1000000 0 []), .bot, vB loop, .bot, .bot, .bot, .bot, .bot, .bot, .bot, .bot, .bot, .bot, .bot, .bot, vSs l, vI l.length, vI q.1, .bot, .bot, .bot, .bot, .bot, .bot, .bot, .bot, .bot, .bot, .bot, .bot, .bot, .bot, .bot, .bot, .bot, .bot, .bot, .bot, .bot, .bot, .bot, .bot, .bot, .bot, .bot, .bot, .bot, .bot, .bot, .bot, .bot, .bot, .bot, .bot, .bot, .bot, .bot, .bot, .bot, .bot, .bot, .bot, .bot, .bot, .bot, .bot, .bot, .bot, .bot, .bot], [(1000000, .obj [.c (.sl 3 (encAs p.arrays)), .c (.sl 4 (encFs p.funcs)), .c a2, .c a3, cI res, .c a5, .c (knE kn kl q.2)])]⟩)
      (fun q => q.1 ≤ l.length ∧ q.2.length + stNs (l.drop q.1) ≤ stNs l ∧ q.2 ++ (blockX p res (l.drop q.1) (kl ++ q.2) loop).1 = (blockX p res l kl loop).1 ∧ (blockX p res (l.drop q.1) (kl ++ q.2) loop).2 = (blockX p res l kl loop).2)
      (fun q => l.length - q.1) (0, []) ⟨by simp, by simp, by simp, by simp⟩ (Imp.le (by simp [knE])) ?_
    rintro ⟨i, m⟩ ⟨hi, w0, w1, w2⟩
    simp at hi w0 w1 w2
    simp
    refine Br_intro (fun h => ?_) (fun h => ?_)
    · simp at h
      simp [h]
      have hd : l.drop i = l[i] :: l.drop (i + 1) := List.drop_eq_getElem_cons h
      rw [hd, blockX] at w1 w2
      rw [hd, stNs] at w0
      have hb := nodesS_le (List.getElem_mem h)
      have hws := List.all_eq_true.1 hwall _ (List.getElem_mem h)
      have hg := knE_grows hk m
      generalize hxx : l[i] = x at *
      obtain ⟨k, nm, f, w, es, b, e⟩ := x
      obtain ⟨g1, g2, g3, g4⟩ := wellS_lens hws
      simp only [stN] at w0
      simp only [nodesS] at hb
      have hel := nodesL_len es
      have h2 : IntKind.i64.wrap ((i : Int) + 1) = ((i + 1 : Nat) : Int) := wrap64 (by omega) ⟨by omega, by omega⟩
      simp [encS]
      refine Cd_for (fun q : Nat × List Int => ⟨[.a (.ptr 1000000 0 []), .bot, vB loop, .bot, .bot, .bot, .bot, .bot, .a (.ptr 8 0 []), .a (.view 9 0 []), .bot, .bot, .bot, .bot, .bot, vSs l, vI l.length, vI i, .bot, .bot, .bot, .bot, vEs es, vI es.length, vI q.1, .bot, .bot, .bot, .bot, .bot, .bot, .bot, .bot, .bot, .bot, .bot, .bot, .bot, .bot, .bot, .bot, .bot, .bot, .bot, .bot, .bot, .bot, .bot, .bot, .bot, .bot, .bot, .bot, .bot, .bot, .bot, .bot, .bot, .bot, .bot, .bot, .bot, .bot, .bot, .bot, .bot, .bot, .bot, .bot, .bot], [(1000000, .obj [.c (.sl 3 (encAs p.arrays)), .c (.sl 4 (encFs p.funcs)), .c a2, .c a3, cI res, .c a5, .c (knE kn kl m)]), (8, .obj ((encS (.mk k nm f w es b e)).map CV.c)), (9, .reg (.vec 1 (encIs q.2)))]⟩)
        (fun q => q.1 ≤ es.length ∧ q.2.length = q.1 ∧ q.2 ++ (subsX p.arrays (kl ++ m) (es.drop q.1)).1 = (subsX p.arrays (kl ++ m) es).1 ∧ (subsX p.arrays (kl ++ m) (es.drop q.1)).2 = (subsX p.arrays (kl ++ m) es).2)
        (fun q => es.length - q.1) (0, []) ⟨by simp, by simp, by simp, by simp⟩ ((Imp.ownNil 9 1 rfl (by simp)).trans (Imp.le (by simp [encS, encIs]))) ?_
      rintro ⟨j, L⟩ ⟨hj, u1, u2, u3⟩
      simp at hj u1 u2 u3
      simp [encS]
      refine Br_intro (fun c => ?_) (fun c => ?_)
      · simp at c
        simp [c]
        have hdj : es.drop j = es[j] :: es.drop (j + 1) := List.drop_eq_getElem_cons c
        rw [hdj, subsX] at u2 u3
        have hbj := nodes_le (List.getElem_mem c)
        have hwj : wellE es[j] = true := by
          rw [wellEs_all] at g2
          exact List.all_eq_true.1 g2 _ (List.getElem_mem c)
        have h3 : IntKind.i64.wrap ((j : Int) + 1) = ((j + 1 : Nat) : Int) := wrap64 (by omega) ⟨by omega, by omega⟩
        refine Call_own (f19 p _ _ _ _ _ (kl ++ m) hA (by simp; omega) hg.holds _ es[j] (Nat.le_refl _) (by omega) hwj) (by simp) ?_
        simp
        refine Br_intro (fun g => ?_) (fun g => ?_) <;> simp at g
        · simp [g] at u2 u3
          have r1 : (L.length + 1) * 8 ≤ 140737488355328 := by omega
          have r2 : L.length ≤ 140737488355327 := by omega
          simp [r1, r2, h3]
          exact Nx_for (j + 1, L ++ [(exprX p.arrays (kl ++ m) es[j]).1]) ⟨by omega, by simp; omega, by rw [← u2]; simp, by rw [← u3]⟩ (by simp; omega) (Imp.to [(1000000, 1000000), (8, 8), (9, 40)] (by simp) (by simp [encS]))
        · simp [g] at u2 u3
          have hs : stmX p res (.mk k nm f w es b e) (kl ++ m) loop = ([], (exprX p.arrays (kl ++ m) es[j]).2) := by rw [stmX, ← u3, if_neg g]
          rw [hs] at w1 w2
          simp [g] at w1 w2
          simp [← w1, ← w2]
      · simp at c
        have hnj : es.drop j = [] := by simp; omega
        rw [hnj, subsX] at u2 u3
        simp at u2 u3
        have hLl : L.length = es.length := by omega
        have hs : (subsX p.arrays (kl ++ m) es).2 = 0 := u3.symm
        rw [stmX, if_pos hs, ← u2] at w1 w2
        simp
        refine Call_imp (Imp.frz 9) ?_
        simp [encS]
        refine Call_own (f59 p _ _ _ _ res (kl ++ m) k nm f w es b e L loop hA hF hP (by simp; omega) hg (by omega) (by rw [hLl]; exact g1)) (by simp) ?_
        simp
        have hDl := declX_le p (kl ++ m) k nm w
        generalize declX p (kl ++ m) k nm w = D at *
        simp only [List.append_assoc] at w1 w2
        have hbx := blockX_le p res b (kl ++ (m ++ D)) (loop || decide (k = 5))
        have hB := ih b (by omega) (by omega) g3 (knE kn kl (m ++ D)) (kl ++ (m ++ D)) (loop || decide (k = 5)) (knE_grows hk _) (by simp; omega)
        generalize blockX p res b (kl ++ (m ++ D)) (loop || decide (k = 5)) = X at *
        obtain ⟨X, x2⟩ := X
        have hey := blockX_le p res e (kl ++ (m ++ (D ++ X))) loop
        have hE := ih e (by omega) (by omega) g4 (knE kn kl (m ++ (D ++ X))) (kl ++ (m ++ (D ++ X))) loop (knE_grows hk _) (by simp at hbx; simp; omega)
        generalize blockX p res e (kl ++ (m ++ (D ++ X))) loop = Y at *
        obtain ⟨Y, y2⟩ := Y
        simp only at hbx hey hB hE w1 w2
        simp only [knE_app]
        refine Br_intro (fun d => ?_) (fun d => ?_) <;> simp at d
        · simp [d] at w1 w2
          simp
          refine Call_own hB (by simp) ?_
          simp
          refine Br_intro (fun d2 => ?_) (fun d2 => ?_) <;> simp at d2
          · simp [d2] at w1 w2
            simp [knE_app]
            refine Call_own hE (by simp) ?_
            simp
            refine Br_intro (fun d3 => ?_) (fun d3 => ?_) <;> simp at d3
            · simp [d3] at w1 w2
              simp [h2, knE_app]
              exact Nx_for (i + 1, m ++ (D ++ (X ++ Y))) ⟨by omega, by simp; omega, by rw [← w1]; simp, by rw [← w2]⟩ (by simp; omega) (Imp.le (by simp))
            · simp [d3] at w1 w2
              simp [← w1, ← w2, knE_app]
          · simp [d2] at w1 w2
            simp [d2, ← w1, ← w2, knE_app]
        · simp [d] at w1 w2
          simp [d, ← w1, ← w2, knE_app]
    · simp at h
      have hnil : l.drop i = [] := by simp; omega
      rw [hnil, blockX] at w1 w2
      simp at w1 w2
      simp [h, ← w2, w1]
end Go.Ew
end
section
/- Functions of the seat: a function's variables, the program's. -/
open Go Go.Proofs Go.Ew
namespace Go.Ew
def declPs (p : Pro) : List Par → List Par → List Par × Int
  | [], kl => (kl, 0)
  | v :: vs, kl => if twiceX kl p.arrays v.name = true then ([], 18) else declPs p vs (kl ++ [v])
def funcX (p : Pro) (f : Fun) : List Par × Int :=
  if (declPs p f.params []).2 = 0 then ((declPs p f.params []).1 ++ (blockX p f.result f.body (declPs p f.params []).1 false).1, (blockX p f.result f.body (declPs p f.params []).1 false).2) else ([], (declPs p f.params []).2)
abbrev nilP : PV := .v (.slice none 0 0)
/-- Variables that are handed back. -/
def parR : List Par → PV
  | [] => nilP
  | x :: xs => .sl 2 (encPs (x :: xs))
theorem els_parR (l : List Par) : CV.els 2 (.c (parR l)) = some (encPs l) := by cases l <;> simp [parR, CV.els, encPs]
theorem nv_parR (l : List Par) : (parR l).nv = true := by cases l <;> rfl
theorem knE_own (kl : List Par) (v : Par) : PV.vec 2 (encPs (kl ++ [v])) = knE nilP [] (kl ++ [v]) := by cases kl <;> simp [knE]
theorem encPs_nv (l : List Par) : allPs (encPs l) = true := allPs_map _ (fun x => by simp [encP, allP, PV.nv]) l
theorem frz_encPs (l : List Par) : frzE (encPs l) = encPs l := frzE_frz _ (encPs_nv l)
theorem declPs_le (p : Pro) : ∀ (l kl : List Par), (declPs p l kl).1.length ≤ kl.length + l.length
  | [], kl => by simp [declPs]
  | v :: vs, kl => by
    rw [declPs]
    split
    · simp
    · have := declPs_le p vs (kl ++ [v]); simp at this; simp; omega
attribute [local simp] Cd_skip Cd_label Cd_seq Ct_false Br_notc Br_true Br_false Cd_cond Cd_block Cd_exit Cd_ret Cd_region Nx_code Nx_block Nx_ops Nx_plan  Nx_fin Nx_fin' Ex_code_exit Ex_code_ret Ex_block_exit Ex_block_ret Ex_round_exit Ex_round_ret Ex_fin_ret Ex_fin_ret' Pn_code Pn_block Pn_ops Pn_plan Pn_round Pn_fin Os_nil Os_cons gK_some Gt_some Gt_nil Gt_cons run_code run_op run_skip O1_eq Pl_done Pl_stop Pl_first Pl_alt cK_some qK_some qK_none qK_busy flatOp_none flatArgs Op.operands eqAgg_l eqAgg_b eqAgg_1 asCall asPan actK_some panOf_some condK_some map_re_c map_kill_c map_keep_c map_frz_c re_cc kill_cc keep_cc frz_cc leCs_refl finA finR idl headOf allB
attribute [local simp] wantedA act quiet opd opg TV.acc imp ofConst St.get St.put St.putG orElse one1 one2 binA unA convA idxA strLen maxA minA TV.flat TV.int TV.bool TV.cells UV.cells CV.els TV.els viewOf PV.nv CV.nv peekC_eq peekB peekG peekH peekP_eq peekPB allP allNv allPs allNv_c allNv_append allP_append allPs_append rowsNv_eq at_ cellAt PV.down PV.elem readAt loadOp bump fieldAddrOp fieldOp indexAddrOp extractOp nilCheckOp lenOp boundOf sliceOp fillCells buildOp pickOp Tab.fld Tab.place tabOf_ti tabOf_mapT tabOf_stc tabOf_arr tabOf_elem tabOf_glob mk busy TV.isPtr TV.isMap keyOK keysOf lookupOp mapOf lookC_some lookC_none findK_nil findK_yes findK_no eqKey_lit eqKey_int mapLen_eq look lay del
attribute [local simp] makeMapOp updateOp insK_some insK_none insC_some insC_none frzMp allocOp boxOp storeOp killOf writeAt moves grabOf takeAt putAt PV.put setCell CV.isView CV.strip CV.stripP strip_cc map_strip_c any_view_c any_view_cc mapM_strip_eq stripL stripL_c mapM_strip_cc frzR_frz frzE_frz stripL_append Ew.newObj newReg rowsOf stripRows movesR buildSliceOp makeSliceOp srcOf baseOf appendOp room killM St.kill Kl.b Kl.h Cap.hit TV.kill UV.kill CV.kill MC.kill capOf capsOf plainCaps mkClo capTV calleeOf panArg resV resT resUs
attribute [local simp] toNew toOld view TV.re UV.re CV.re MC.re Cap.re caps_re leT leU leC leCs leMs leM leTs St.le St.re keysOK  roots_p map_re_p map_re_p' roots_c roots_cc shownOf shownBy pairsOf number deeper addAll MC.live TV.roots CV.roots MC.roots Cap.roots callIs numsOK liveAll start List.range_succ callSt afterMem newPart_nil newPart_cons oldPart_eq oldGo back isKey stays inRange aliveO aliveM MC.isMap aliveR aliveP MC.isObj MC.isReg Cap.alive CV.keep UV.keep TV.keep MC.keep span St.frz frzM TV.frz UV.frz CV.frz MC.frz frzO frzC Cap.frz PV.frz frzE frzR
attribute [local simp] encIs_len encIs_nv encIs_app encAs_len encAs_at encA encFs_len encFs_at encPs_len encPs_at encF encP
set_option maxRecDepth 8000
set_option maxHeartbeats 4000000
theorem f14 (p : Pro) (f : Fun) (hA : p.arrays.length < 1000000) (hF : p.funcs.length < 1000000) (hP : ∀ f ∈ p.funcs, f.params.length < 1000000) (hp : f.params.length < 100000) (hb : nodesSL f.body < 500000) (hw : wellSs f.body = true) :
    Meets Tryd.prog (tabOf Tryd.prog GG) 14 [vPro p, vFun f] [] (.ret (.tup [.one (.c (parR (funcX p f).1)), .one (cI (funcX p f).2)])) [] := by
  have hst := stNs_le f.body
  refine meets_of (tabOf_ok _ _) [] Tryd.f14 41 [.tmp 4, .tmp 5] (by kernel_rfl) (by kernel_rfl) rfl rfl rfl rfl true ?_
  simp
  refine Cd_for (fun q : Nat × List Par => ⟨[.bot, .bot, .bot, .a (.ptr 3 0 []), .bot, .bot, .a (.ptr 14 0 []), .bot, .bot, .bot, .bot, .bot, .bot, .bot, .bot, .bot, vPars f.params, vI f.params.length, vI q.1, .bot, .bot, .bot, .bot, .bot, .bot, .bot, .bot, .bot, .bot, .bot, .bot, .bot, .bot, .bot, .bot, .bot, .bot, .bot, .bot, .bot, .bot], [(3, .obj ((encF f).map CV.c)), (14, .obj [.c (.sl 3 (encAs p.arrays)), .c (.sl 4 (encFs p.funcs)), .c (.v (.string f.name)), .c (.sl 2 (encPs f.params)), cI f.result, .c (.sl 7 (encSs f.body)), .c (knE nilP [] q.2)])]⟩)
    (fun q => q.1 ≤ f.params.length ∧ q.2.length = q.1 ∧ declPs p (f.params.drop q.1) q.2 = declPs p f.params []) (fun q => f.params.length - q.1) (0, []) ⟨by simp, by simp, by simp⟩ (Imp.le (by simp [knE])) ?_
  rintro ⟨i, kl⟩ ⟨hi, w0, w1⟩
  simp at hi w0 w1
  have hg : Grows (knE nilP [] kl) kl := by simpa using knE_grows Grows.nil kl
  simp
  refine Br_intro (fun h => ?_) (fun h => ?_)
  · simp at h
    simp [h]
    have hd : f.params.drop i = f.params[i] :: f.params.drop (i + 1) := List.drop_eq_getElem_cons h
    rw [hd, declPs] at w1
    have h2 : IntKind.i64.wrap ((i : Int) + 1) = ((i + 1 : Nat) : Int) := wrap64 (by omega) ⟨by omega, by omega⟩
    refine Call_own (f28 p _ _ _ _ _ kl f.params[i].name f.params[i].width (by omega) hA hg) (by simp) ?_
    simp
    by_cases ht : twiceX kl p.arrays f.params[i].name = true
    · rw [if_pos ht] at w1
      simp [ht]
      refine finish_to [] keysOK_nil ?_
      have hf : funcX p f = ([], 18) := by rw [funcX, ← w1]; rfl
      simp [hf, parR]
    · rw [if_neg ht] at w1
      simp at ht
      simp [ht, h2]
      have e1 : (⟨f.params[i].name, f.params[i].width⟩ : Par) = f.params[i] := rfl
      exact Nx_for (i + 1, kl ++ [f.params[i]]) ⟨by omega, by simp; omega, w1⟩ (by simp; omega) (Imp.le (by simp [e1, knE_own]))
  · simp at h
    have hnil : f.params.drop i = [] := by simp; omega
    rw [hnil, declPs] at w1
    simp
    have hf : funcX p f = (kl ++ (blockX p f.result f.body kl false).1, (blockX p f.result f.body kl false).2) := by rw [funcX, ← w1]; rfl
    rw [hf]
    have ek : ∀ X, knE (knE nilP [] kl) kl X = knE nilP [] (kl ++ X) := fun X => by simpa using knE_app nilP [] kl X
    refine Call_own (f29 p _ _ _ f.result hA hF hP _ f.body (Nat.le_refl _) (by omega) hw (knE nilP [] kl) kl false hg (by omega)) (by simp) ?_
    simp only [ek]
    generalize kl ++ (blockX p f.result f.body kl false).1 = all
    cases all with
    | nil =>
      simp [knE]
      refine finish_to [] keysOK_nil ?_
      simp [parR]
    | cons x xs =>
      simp [knE]
      refine finish_imp (Imp.frz 14) (finish_to [] keysOK_nil ?_)
      simp [parR, frz_encPs]
end Go.Ew
end
section
/- Functions of the seat: calls, the reference's. -/
open Go Go.Proofs Go.Ew
namespace Go.Ew
attribute [local simp] Cd_skip Cd_label Cd_seq Ct_false Br_notc Br_true Br_false Cd_cond Cd_block Cd_exit Cd_ret Cd_region Nx_code Nx_block Nx_ops Nx_plan  Nx_fin Nx_fin' Ex_code_exit Ex_code_ret Ex_block_exit Ex_block_ret Ex_round_exit Ex_round_ret Ex_fin_ret Ex_fin_ret' Pn_code Pn_block Pn_ops Pn_plan Pn_round Pn_fin Os_nil Os_cons gK_some Gt_some Gt_nil Gt_cons run_code run_op run_skip O1_eq Pl_done Pl_stop Pl_first Pl_alt cK_some qK_some qK_none qK_busy flatOp_none flatArgs Op.operands eqAgg_l eqAgg_b eqAgg_1 asCall asPan actK_some panOf_some condK_some map_re_c map_kill_c map_keep_c map_frz_c re_cc kill_cc keep_cc frz_cc leCs_refl finA finR idl headOf allB
attribute [local simp] wantedA act quiet opd opg TV.acc imp ofConst St.get St.put St.putG orElse one1 one2 binA unA convA idxA strLen maxA minA TV.flat TV.int TV.bool TV.cells UV.cells CV.els TV.els viewOf PV.nv CV.nv peekC_eq peekB peekG peekH peekP_eq peekPB allP allNv allPs allNv_c allNv_append allP_append allPs_append rowsNv_eq at_ cellAt PV.down PV.elem readAt loadOp bump fieldAddrOp fieldOp indexAddrOp extractOp nilCheckOp lenOp boundOf sliceOp fillCells buildOp pickOp Tab.fld Tab.place tabOf_ti tabOf_mapT tabOf_stc tabOf_arr tabOf_elem tabOf_glob mk busy TV.isPtr TV.isMap keyOK keysOf lookupOp mapOf lookC_some lookC_none findK_nil findK_yes findK_no eqKey_lit eqKey_int mapLen_eq look lay del
attribute [local simp] makeMapOp updateOp insK_some insK_none insC_some insC_none frzMp allocOp boxOp storeOp killOf writeAt moves grabOf takeAt putAt PV.put setCell CV.isView CV.strip CV.stripP strip_cc map_strip_c any_view_c any_view_cc mapM_strip_eq stripL stripL_c mapM_strip_cc frzR_frz frzE_frz stripL_append Ew.newObj newReg rowsOf stripRows movesR buildSliceOp makeSliceOp srcOf baseOf appendOp room killM St.kill Kl.b Kl.h Cap.hit TV.kill UV.kill CV.kill MC.kill capOf capsOf plainCaps mkClo capTV calleeOf panArg resV resT resUs
attribute [local simp] toNew toOld view TV.re UV.re CV.re MC.re Cap.re caps_re leT leU leC leCs leMs leM leTs St.le St.re keysOK  roots_p map_re_p map_re_p' roots_c roots_cc shownOf shownBy pairsOf number deeper addAll MC.live TV.roots CV.roots MC.roots Cap.roots callIs numsOK liveAll start List.range_succ callSt afterMem newPart_nil newPart_cons oldPart_eq oldGo back isKey stays inRange aliveO aliveM MC.isMap aliveR aliveP MC.isObj MC.isReg Cap.alive CV.keep UV.keep TV.keep MC.keep span St.frz frzM TV.frz UV.frz CV.frz MC.frz frzO frzC Cap.frz PV.frz frzE frzR
attribute [local simp] encIs_len encIs_nv encIs_app encIs_at encAs_len encAs_at encA encFs_len encFs_at encPs_len encPs_at encF encP
set_option maxRecDepth 8000
set_option maxHeartbeats 4000000
theorem f83 (p : Pro) (c' kn : PV) (kl : List Par) (k : Int) (nm f : ByteArray) (w : Int) (es : List Expr) (b e : List Stm) (L : List Int) (hF : p.funcs.length < 1000000) (hP : ∀ f ∈ p.funcs, f.params.length < 1000000) (hL : kl.length < 1000000) (hk : Holds kn kl) (hLl : L.length < 1000000) :
    Meets Tryd.prog (tabOf Tryd.prog GG) 83 [.a (.ptr 1000000 0 []), vS (.mk k nm f w es b e), .p (.sl 1 (encIs L))] [(1000000, .obj [.c (.sl 3 (encAs p.arrays)), .c (.sl 4 (encFs p.funcs)), .c c', .c kn, cI 0])] (.ret (.tup [])) [(1000000, .obj [.c (.sl 3 (encAs p.arrays)), .c (.sl 4 (encFs p.funcs)), .c c', .c kn, cI (callX p kl nm f L)])] := by
  have hn : Meets Tryd.prog (tabOf Tryd.prog GG) 90 [vPro p, vT f] [] (.ret (vI (ixT (p.funcs.map Fun.name) f 0))) [] := f90 p f hF
  refine meets_of (tabOf_ok _ _) [] Tryd.f83 81 [] (by kernel_rfl) (by kernel_rfl) rfl rfl rfl rfl false ?_
  simp [encS]
  refine Cd_draw (.first 0 (.first 1 (.first 2 (.first 4 (.alt 3 (.alt 5 (.alt 6 (.first 7 .done) .stop) .stop) (.alt 5 (.alt 3 (.alt 6 (.first 7 .done) .stop) .stop) .stop)))))) (by kernel_rfl) (by kernel_rfl) (by kernel_rfl) ?_
  simp
  refine Call_pure hn ?_
  simp
  rcases ixT_range f (p.funcs.map Fun.name) 0 with hix | ⟨j, hix, hj⟩
  · simp [hix]
    refine Call_own (f47 _ _ _ _ _ _ _ _ hk) (by simp) ?_
    simp [callX, hix]
  simp at hix hj
  have hjn : ¬ ((j : Int) < 0) := by omega
  have hpl := hP _ (List.getElem_mem hj)
  have hfun : funA p (j : Int) = p.funcs[j] := by simp [funA, hj]
  simp [hix, hj, hjn]
  refine Call_own (f47 _ _ _ _ _ _ _ _ hk) (by simp) ?_
  simp
  obtain ⟨W, hW⟩ : ∃ W, W = List.map Par.width p.funcs[j].params := ⟨_, rfl⟩
  have hWl : W.length = p.funcs[j].params.length := by rw [hW]; simp
  have hW1 : W.length < 1000000 := by omega
  refine Cd_for (fun q : Nat × Int => ⟨[.a (.ptr 1000000 0 []), .bot, .p (.sl 1 (encIs L)), .bot, .a (.ptr 4 0 []), .bot, .bot, .a (.ptr 7 0 []), vI q.1, .bot, .bot, .bot, .bot, .bot, .bot, .bot, .bot, .bot, .bot, .bot, .bot, .bot, .bot, .bot, .bot, .bot, .bot, .bot, .bot, .bot, .bot, .bot, .bot, .bot, .bot, .bot, .bot, .bot, .bot, .bot, .bot, .bot, .bot, .bot, .bot, .bot, .bot, .bot, .bot, .bot, .bot, .bot, .bot, .bot, .bot, .bot, .bot, .bot, .bot, .bot, .bot, .bot, .bot, .bot, .bot, .bot, .bot, .bot, .bot, .bot, .bot, .bot, .bot, .bot, .bot, .bot, .bot, .bot, .bot, .bot, .bot], [(1000000, .obj [.c (.sl 3 (encAs p.arrays)), .c (.sl 4 (encFs p.funcs)), .c c', .c kn, cI q.2]), (4, .obj ((encS (.mk k nm f w es b e)).map CV.c)), (7, .obj ((encF p.funcs[j]).map CV.c))]⟩)
    (fun q => q.1 ≤ L.length ∧ q.1 ≤ W.length ∧ q.2 = if L.length = W.length ∧ L.take q.1 = W.take q.1 then 0 else 14) (fun q => L.length - q.1) (0, if (L.length : Int) = (p.funcs[j].params.length : Int) then 0 else 14) ⟨by simp, by simp, by simp [hWl]; congr 1; simp; omega⟩ (Imp.le (by simp [encS])) ?_
  rintro ⟨i, er⟩ ⟨hi, hi2, he⟩
  simp at hi hi2 he
  simp
  refine Br_intro (fun g => ?_) (fun g => ?_)
  · simp at g
    obtain ⟨g1, g2⟩ := g
    have g3 : i < W.length := by omega
    have h2 : IntKind.i64.wrap ((i : Int) + 1) = ((i + 1 : Nat) : Int) := wrap64 (by omega) ⟨by omega, by omega⟩
    have hw : p.funcs[j].params[i].width = W[i] := by simp [hW]
    simp
    refine Cd_draw (.first 0 (.first 1 (.first 2 (.first 3 (.first 4 (.first 5 (.first 7 (.alt 6 (.first 8 (.first 9 (.first 10 (.first 11 (.alt 12 .done .stop))))) .stop)))))))) (by kernel_rfl) (by kernel_rfl) (by kernel_rfl) ?_
    simp [g1, g2]
    refine Call_own (f47 _ _ _ _ _ _ _ _ hk) (by simp) ?_
    simp [h2]
    refine Nx_for (i + 1, if (!decide (L[i] = p.funcs[j].params[i].width) && decide (er = 0)) = true then 14 else er) ⟨by omega, by omega, ?_⟩ (by simp; omega) (Imp.le (by simp [encS]))
    simp only [hw, he]
    rw [List.take_add_one, List.take_add_one]
    simp only [List.getElem?_eq_getElem g1, List.getElem?_eq_getElem g3, Option.toList_some]
    have happ : (L.take i ++ [L[i]] = W.take i ++ [W[i]]) ↔ (L.take i = W.take i ∧ L[i] = W[i]) := by
      constructor
      · intro h
        have := List.append_inj h (by simp; omega)
        simpa using this
      · rintro ⟨h, h'⟩; rw [h, h']
    simp only [happ]
    by_cases h1 : L.length = W.length <;> by_cases h2 : L.take i = W.take i <;> by_cases h3 : L[i] = W[i] <;> simp [h1, h2, h3]
  · have g' : L.length ≤ i ∨ W.length ≤ i := by simp at g; omega
    have he2 : er = if L = W then 0 else 14 := by
      rw [he]
      by_cases hlw : L.length = W.length
      · have e1 : L.take i = L := List.take_of_length_le (by omega)
        have e2 : W.take i = W := List.take_of_length_le (by omega)
        simp [hlw, e1, e2]
      · have : L ≠ W := fun h => hlw (by rw [h])
        simp [hlw, this]
    have hfin : ∀ r, r = (if L = W then (if nm.toList = [] then 0 else if lookW kl nm = 0 then 16 else if lookW kl nm = p.funcs[j].result then 0 else 14) else 14 : Int) → callX p kl nm f L = r := fun r hr => by
      rw [hr]; simp [callX, hix, hjn, hfun, hW]
    simp [encS]
    refine Br_intro (fun d => ?_) (fun d => ?_) <;> simp at d
    · simp [hfin er (by simp [d, he2])]
    · simp [encS]
      refine Call_own (f48 _ _ _ _ _ _ nm hL hk ⟨_, rfl⟩) (by simp) ?_
      simp
      refine Call_own (f47 _ _ _ _ _ _ _ _ hk) (by simp) ?_
      simp
      refine Cd_draw (.first 0 (.first 1 (.first 2 (.first 5 (.alt 3 (.alt 4 (.alt 6 (.first 7 (.alt 8 .done .stop)) .stop) (.alt 6 (.alt 4 (.first 7 (.alt 8 .done .stop)) .stop) .stop)) (.alt 6 (.alt 3 (.alt 4 (.first 7 (.alt 8 .done .stop)) .stop) .stop) .stop)))))) (by kernel_rfl) (by kernel_rfl) (by kernel_rfl) ?_
      simp [encS]
      have hr : ∀ x, x = (if (!decide (lookW kl nm = p.funcs[j].result) && decide ((if lookW kl nm = 0 ∧ er = 0 then 16 else er) = 0)) = true then 14 else if lookW kl nm = 0 ∧ er = 0 then 16 else er : Int) → callX p kl nm f L = x := fun x hx => hfin x (by
        rw [hx, he2]
        by_cases h1 : L = W <;> by_cases h2 : lookW kl nm = 0 <;> by_cases h3 : lookW kl nm = p.funcs[j].result <;> simp [h1, h2, h3, d])
      refine ⟨?_, ?_⟩
      all_goals
        refine Call_own (f48 _ _ _ _ _ _ nm hL hk ⟨_, rfl⟩) (by simp) ?_
        simp
        refine Call_own (f47 _ _ _ _ _ _ _ _ hk) (by simp) ?_
        simp [hr _ rfl]
end Go.Ew
end
