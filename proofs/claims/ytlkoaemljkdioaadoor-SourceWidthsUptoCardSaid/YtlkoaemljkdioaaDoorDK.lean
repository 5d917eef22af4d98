/- What functions of the seat do: a statement's check, the reference's. -/
import Derived.Test.YtlkoaemljkdioaaDoorDJ
section
/- Functions of the seat: statements, the reference's. -/
open Go Go.Proofs Go.Ew
namespace Go.Ew
def extR (k : Int) (nm : ByteArray) (w : Int) : List Par := if k = 1 then [⟨nm, w⟩] else []
mutual
def stmR (p : Pro) (res : Int) : Stm → List Par → Bool → List Par × Int
  | .mk k nm f w es b e, kl, loop =>
    if (refXs p.arrays kl es 0).2 = 0 then
      (extR k nm w ++ ((blockR p res b (kl ++ extR k nm w) (loop || decide (k = 5)) (ruleX p res kl k nm f w (refXs p.arrays kl es 0).1 loop)).1 ++
          (blockR p res e (kl ++ (extR k nm w ++ (blockR p res b (kl ++ extR k nm w) (loop || decide (k = 5)) (ruleX p res kl k nm f w (refXs p.arrays kl es 0).1 loop)).1)) loop
            (blockR p res b (kl ++ extR k nm w) (loop || decide (k = 5)) (ruleX p res kl k nm f w (refXs p.arrays kl es 0).1 loop)).2).1),
        (blockR p res e (kl ++ (extR k nm w ++ (blockR p res b (kl ++ extR k nm w) (loop || decide (k = 5)) (ruleX p res kl k nm f w (refXs p.arrays kl es 0).1 loop)).1)) loop
            (blockR p res b (kl ++ extR k nm w) (loop || decide (k = 5)) (ruleX p res kl k nm f w (refXs p.arrays kl es 0).1 loop)).2).2)
    else ([], (refXs p.arrays kl es 0).2)
def blockR (p : Pro) (res : Int) : List Stm → List Par → Bool → Int → List Par × Int
  | [], _, _, e => ([], e)
  | s :: ss, kl, loop, e =>
    if e = 0 then ((stmR p res s kl loop).1 ++ (blockR p res ss (kl ++ (stmR p res s kl loop).1) loop (stmR p res s kl loop).2).1, (blockR p res ss (kl ++ (stmR p res s kl loop).1) loop (stmR p res s kl loop).2).2)
    else ([], e)
end
theorem extR_le (k : Int) (nm : ByteArray) (w : Int) : (extR k nm w).length ≤ 1 := by unfold extR; split <;> simp
mutual
theorem stmR_le (p : Pro) (res : Int) : ∀ (s : Stm) (kl : List Par) (loop : Bool), (stmR p res s kl loop).1.length ≤ stN s
  | .mk k nm f w es b e, kl, loop => by
    have h0 := extR_le k nm w
    have h1 := blockR_le p res b (kl ++ extR k nm w) (loop || decide (k = 5)) (ruleX p res kl k nm f w (refXs p.arrays kl es 0).1 loop)
    have h2 := blockR_le p res e (kl ++ (extR k nm w ++ (blockR p res b (kl ++ extR k nm w) (loop || decide (k = 5)) (ruleX p res kl k nm f w (refXs p.arrays kl es 0).1 loop)).1)) loop (blockR p res b (kl ++ extR k nm w) (loop || decide (k = 5)) (ruleX p res kl k nm f w (refXs p.arrays kl es 0).1 loop)).2
    rw [stmR, stN]
    split
    · simp only [List.length_append]; omega
    · simp
theorem blockR_le (p : Pro) (res : Int) : ∀ (l : List Stm) (kl : List Par) (loop : Bool) (e : Int), (blockR p res l kl loop e).1.length ≤ stNs l
  | [], kl, loop, e => by simp [blockR, stNs]
  | s :: ss, kl, loop, e => by
    have h0 := stmR_le p res s kl loop
    have h1 := blockR_le p res ss (kl ++ (stmR p res s kl loop).1) loop (stmR p res s kl loop).2
    rw [blockR, stNs]
    split
    · simp only [List.length_append]; omega
    · simp
end
theorem refXs_len (ar : List Arr) (kl : List Par) : ∀ (l : List Expr) (e : Int), (refXs ar kl l e).1.length = l.length
  | [], _ => by simp [refXs]
  | x :: xs, e => by rw [refXs]; simp [refXs_len ar kl xs]
attribute [local simp] Cd_skip Cd_label Cd_seq Ct_false Br_notc Br_true Br_false Cd_cond Cd_block Cd_exit Cd_ret Cd_region Nx_code Nx_block Nx_ops Nx_plan  Nx_fin Nx_fin' Ex_code_exit Ex_code_ret Ex_block_exit Ex_block_ret Ex_round_exit Ex_round_ret Ex_fin_ret Ex_fin_ret' Pn_code Pn_block Pn_ops Pn_plan Pn_round Pn_fin Os_nil Os_cons gK_some Gt_some Gt_nil Gt_cons run_code run_op run_skip O1_eq Pl_done Pl_stop Pl_first Pl_alt cK_some qK_some qK_none qK_busy flatOp_none flatArgs Op.operands eqAgg_l eqAgg_b eqAgg_1 asCall asPan actK_some panOf_some condK_some map_re_c map_kill_c map_keep_c map_frz_c re_cc kill_cc keep_cc frz_cc leCs_refl finA finR idl headOf allB
attribute [local simp] wantedA act quiet opd opg TV.acc imp ofConst St.get St.put St.putG orElse one1 one2 binA unA convA idxA strLen maxA minA TV.flat TV.int TV.bool TV.cells UV.cells CV.els TV.els viewOf PV.nv CV.nv peekC_eq peekB peekG peekH peekP_eq peekPB allP allNv allPs allNv_c allNv_append allP_append allPs_append rowsNv_eq at_ cellAt PV.down PV.elem readAt loadOp bump fieldAddrOp fieldOp indexAddrOp extractOp nilCheckOp lenOp boundOf sliceOp fillCells buildOp pickOp Tab.fld Tab.place tabOf_ti tabOf_mapT tabOf_stc tabOf_arr tabOf_elem tabOf_glob mk busy TV.isPtr TV.isMap keyOK keysOf lookupOp mapOf lookC_some lookC_none findK_nil findK_yes findK_no eqKey_lit eqKey_int mapLen_eq look lay del
attribute [local simp] makeMapOp updateOp insK_some insK_none insC_some insC_none frzMp allocOp boxOp storeOp killOf writeAt moves grabOf takeAt putAt PV.put setCell CV.isView CV.strip CV.stripP strip_cc map_strip_c any_view_c any_view_cc mapM_strip_eq stripL stripL_c mapM_strip_cc frzR_frz frzE_frz stripL_append Ew.newObj newReg rowsOf stripRows movesR buildSliceOp makeSliceOp srcOf baseOf appendOp room killM St.kill Kl.b Kl.h Cap.hit TV.kill UV.kill CV.kill MC.kill capOf capsOf plainCaps mkClo capTV calleeOf panArg resV resT resUs
attribute [local simp] toNew toOld view TV.re UV.re CV.re MC.re Cap.re caps_re leT leU leC leCs leMs leM leTs St.le St.re keysOK  roots_p map_re_p map_re_p' roots_c roots_cc shownOf shownBy pairsOf number deeper addAll MC.live TV.roots CV.roots MC.roots Cap.roots callIs numsOK liveAll start List.range_succ callSt afterMem newPart_nil newPart_cons oldPart_eq oldGo back isKey stays inRange aliveO aliveM MC.isMap aliveR aliveP MC.isObj MC.isReg Cap.alive CV.keep UV.keep TV.keep MC.keep span St.frz frzM TV.frz UV.frz CV.frz MC.frz frzO frzC Cap.frz PV.frz frzE frzR
attribute [local simp] encIs_len encIs_nv encIs_app encIs_at encAs_len encAs_at encA encFs_len encFs_at encPs_len encPs_at encF encP encEs_len encE_len encE_nv encE_take encEs_at encSs_len encS_len encS_nv encS_take encSs_at
set_option maxRecDepth 8000
set_option maxHeartbeats 4000000
def BlkR (p : Pro) (fi : Nat) (n : Nat) : Prop := ∀ (l : List Stm), nodesSL l ≤ n → nodesSL l < 1000000 → wellSs l = true → ∀ (kn : PV) (kl : List Par) (loop : Bool) (e : Int), Grows kn kl → kl.length + stNs l < 1000000 →
    Meets Tryd.prog (tabOf Tryd.prog GG) 33 [.a (.ptr 1000000 0 []), vSs l, vB loop] [(1000000, .obj [.c (.sl 3 (encAs p.arrays)), .c (.sl 4 (encFs p.funcs)), cI fi, .c kn, cI e])] (.ret (.tup [])) [(1000000, .obj [.c (.sl 3 (encAs p.arrays)), .c (.sl 4 (encFs p.funcs)), cI fi, .c (knE kn kl (blockR p (p.funcs.getD fi ⟨⟨#[]⟩, [], 0, []⟩).result l kl loop e).1), cI (blockR p (p.funcs.getD fi ⟨⟨#[]⟩, [], 0, []⟩).result l kl loop e).2])]
theorem f62 (p : Pro) (fi : Nat) (hfi : fi < p.funcs.length) (hA : p.arrays.length < 1000000) (hF : p.funcs.length < 1000000) (hP : ∀ f ∈ p.funcs, f.params.length < 1000000) (n : Nat) (h33 : BlkR p fi n) : ∀ (x : Stm), nodesS x ≤ n + 1 → nodesS x < 1000000 → wellS x = true → ∀ (kn : PV) (kl : List Par) (loop : Bool), Grows kn kl → kl.length + stN x < 1000000 →
    Meets Tryd.prog (tabOf Tryd.prog GG) 62 [.a (.ptr 1000000 0 []), vS x, vB loop] [(1000000, .obj [.c (.sl 3 (encAs p.arrays)), .c (.sl 4 (encFs p.funcs)), cI fi, .c kn, cI 0])] (.ret (.tup [])) [(1000000, .obj [.c (.sl 3 (encAs p.arrays)), .c (.sl 4 (encFs p.funcs)), cI fi, .c (knE kn kl (stmR p (p.funcs.getD fi ⟨⟨#[]⟩, [], 0, []⟩).result x kl loop).1), cI (stmR p (p.funcs.getD fi ⟨⟨#[]⟩, [], 0, []⟩).result x kl loop).2])] := by
  intro x hn hx hwell kn kl loop hk hkl
  have hres : (p.funcs.getD fi ⟨⟨#[]⟩, [], 0, []⟩).result = p.funcs[fi].result := by simp [hfi]
  generalize hR : (p.funcs.getD fi ⟨⟨#[]⟩, [], 0, []⟩).result = res at *
  obtain ⟨k, nm, f, w, es, b, e⟩ := x
  obtain ⟨g1, g2, g3, g4⟩ := wellS_lens hwell
  simp only [stN] at hkl
  simp only [nodesS] at hn hx
  have hel := nodesL_len es
  have key : ∀ (D : List Par) (r : Int), D.length ≤ 1 → (stmR p res (.mk k nm f w es b e) kl loop = (D ++ ((blockR p res b (kl ++ D) (loop || decide (k = 5)) r).1 ++ (blockR p res e (kl ++ (D ++ (blockR p res b (kl ++ D) (loop || decide (k = 5)) r).1)) loop (blockR p res b (kl ++ D) (loop || decide (k = 5)) r).2).1),
        (blockR p res e (kl ++ (D ++ (blockR p res b (kl ++ D) (loop || decide (k = 5)) r).1)) loop (blockR p res b (kl ++ D) (loop || decide (k = 5)) r).2).2)) →
      Cd Tryd.prog (tabOf Tryd.prog GG) [6, 28] (restOf 28 (Tryd.f62.body.getD .skip)) (.fin false [] (.ret (.tup [])) [(1000000, .obj [.c (.sl 3 (encAs p.arrays)), .c (.sl 4 (encFs p.funcs)), cI fi, .c (knE kn kl (stmR p res (.mk k nm f w es b e) kl loop).1), cI (stmR p res (.mk k nm f w es b e) kl loop).2])])
        ⟨[.a (.ptr 1000000 0 []), .bot, vB loop, .bot, .a (.ptr 4 0 []), .bot, .bot, .bot, .bot, .bot, .bot, .bot, .bot, .bot, .bot, .bot, .bot, .bot, .bot, .bot, .bot, .bot, .bot, .bot, .bot, .bot, .bot, .bot, .bot, .bot, .bot, .bot, .bot, .bot, .bot, .bot, .bot, .bot, .bot, .bot, .bot, .bot, .bot, .bot, .bot, .bot, .bot, .bot, .bot, .bot, .bot, .bot, .bot, .bot, .bot, .bot, .bot, .bot, .bot, .bot, .bot, .bot, .bot, .bot, .bot, .bot, .bot, .bot, .bot, .bot, .bot, .bot, .bot, .bot, .bot, .bot, .bot, .bot, .bot, .bot, .bot, .bot, .bot, .bot, .bot, .bot, .bot, .bot, .bot, .bot, .bot, .bot, .bot, .bot, .bot, .bot, .bot, .bot, .bot, .bot, .bot, .bot, .bot, .bot, .bot, .bot, .bot, .bot, .bot, .bot, .bot, .bot, .bot, .bot, .bot, .bot, .bot, .bot, .bot, .bot, .bot, .bot, .bot, .bot, .bot, .bot, .bot, .bot, .bot, .bot, .bot, .bot, .bot, .bot, .bot, .bot, .bot, .bot, .bot, .bot, .bot, .bot, .bot, .bot, .bot, .bot, .bot, .bot, .bot, .bot, .bot, .bot, .bot, .bot, .bot, .bot, .bot, .bot, .bot, .bot, .bot, .bot, .bot, .bot, .bot, .bot, .bot, .bot, .bot, .bot, .bot, .bot, .bot, .bot, .bot, .bot, .bot, .bot, .bot, .bot], [(1000000, .obj [.c (.sl 3 (encAs p.arrays)), .c (.sl 4 (encFs p.funcs)), cI fi, .c (knE kn kl D), cI r]), (4, .obj ((encS (.mk k nm f w es b e)).map CV.c))]⟩ := by
    intro D r hD hst
    rw [hst]
    have hB := h33 b (by omega) (by omega) g3 (knE kn kl D) (kl ++ D) (loop || decide (k = 5)) r (knE_grows hk _) (by simp; omega)
    rw [hR] at hB
    have hbx := blockR_le p res b (kl ++ D) (loop || decide (k = 5)) r
    generalize blockR p res b (kl ++ D) (loop || decide (k = 5)) r = X at *
    obtain ⟨X, x2⟩ := X
    simp only at hbx hB ⊢
    have hE := h33 e (by omega) (by omega) g4 (knE kn kl (D ++ X)) (kl ++ (D ++ X)) loop x2 (knE_grows hk _) (by simp; omega)
    rw [hR] at hE
    generalize blockR p res e (kl ++ (D ++ X)) loop x2 = Y at *
    obtain ⟨Y, y2⟩ := Y
    simp only at hE ⊢
    simp [restOf, Tryd.f62, encS]
    refine Call_own hB (by simp) ?_
    simp only [knE_app]
    simp [encS]
    refine Call_own hE (by simp) ?_
    simp only [knE_app]
    simp
  refine meets_of (tabOf_ok _ _) [6, 28] Tryd.f62 180 [] (by kernel_rfl) (by kernel_rfl) rfl rfl rfl rfl false ?_
  simp [encS]
  refine Cd_for (fun q : Nat × List Int × Int => ⟨[.a (.ptr 1000000 0 []), .bot, vB loop, .bot, .a (.ptr 4 0 []), .bot, .a (.view 6 0 []), vI q.1, .bot, .bot, .bot, .bot, .bot, .bot, .bot, .bot, .bot, .bot, .bot, .bot, .bot, .bot, .bot, .bot, .bot, .bot, .bot, .bot, .bot, .bot, .bot, .bot, .bot, .bot, .bot, .bot, .bot, .bot, .bot, .bot, .bot, .bot, .bot, .bot, .bot, .bot, .bot, .bot, .bot, .bot, .bot, .bot, .bot, .bot, .bot, .bot, .bot, .bot, .bot, .bot, .bot, .bot, .bot, .bot, .bot, .bot, .bot, .bot, .bot, .bot, .bot, .bot, .bot, .bot, .bot, .bot, .bot, .bot, .bot, .bot, .bot, .bot, .bot, .bot, .bot, .bot, .bot, .bot, .bot, .bot, .bot, .bot, .bot, .bot, .bot, .bot, .bot, .bot, .bot, .bot, .bot, .bot, .bot, .bot, .bot, .bot, .bot, .bot, .bot, .bot, .bot, .bot, .bot, .bot, .bot, .bot, .bot, .bot, .bot, .bot, .bot, .bot, .bot, .bot, .bot, .bot, .bot, .bot, .bot, .bot, .bot, .bot, .bot, .bot, .bot, .bot, .bot, .bot, .bot, .bot, .bot, .bot, .bot, .bot, .bot, .bot, .bot, .bot, .bot, .bot, .bot, .bot, .bot, .bot, .bot, .bot, .bot, .bot, .bot, .bot, .bot, .bot, .bot, .bot, .bot, .bot, .bot, .bot, .bot, .bot, .bot, .bot, .bot, .bot, .bot, .bot, .bot, .bot, .bot, .bot], [(1000000, .obj [.c (.sl 3 (encAs p.arrays)), .c (.sl 4 (encFs p.funcs)), cI fi, .c kn, cI q.2.2]), (4, .obj ((encS (.mk k nm f w es b e)).map CV.c)), (6, .reg (.vec 1 (encIs q.2.1)))]⟩)
    (fun q => q.1 ≤ es.length ∧ q.2.1.length = q.1 ∧ q.2.1 ++ (refXs p.arrays kl (es.drop q.1) q.2.2).1 = (refXs p.arrays kl es 0).1 ∧ (refXs p.arrays kl (es.drop q.1) q.2.2).2 = (refXs p.arrays kl es 0).2)
    (fun q => es.length - q.1) (0, [], 0) ⟨by simp, by simp, by simp, by simp⟩ ((Imp.ownNil 6 1 rfl (by simp)).trans (Imp.le (by simp [encS, encIs]))) ?_
  rintro ⟨j, L, e1⟩ ⟨hj, u1, u2, u3⟩
  simp at hj u1 u2 u3
  simp [encS]
  refine Br_intro (fun c => ?_) (fun c => ?_)
  · simp at c
    have hdj : es.drop j = es[j] :: es.drop (j + 1) := List.drop_eq_getElem_cons c
    rw [hdj, refXs] at u2 u3
    have hbj := nodes_le (List.getElem_mem c)
    have hwj : wellE es[j] = true := by
      rw [wellEs_all] at g2
      exact List.all_eq_true.1 g2 _ (List.getElem_mem c)
    have h3 : IntKind.i64.wrap ((j : Int) + 1) = ((j + 1 : Nat) : Int) := wrap64 (by omega) ⟨by omega, by omega⟩
    have r1 : (L.length + 1) * 8 ≤ 140737488355328 := by omega
    have r2 : L.length ≤ 140737488355327 := by omega
    simp [c, encS]
    refine Call_own (f22 p _ _ kl hA (by omega) hk.holds _ es[j] e1 (Nat.le_refl _) (by omega) hwj) (by simp) ?_
    simp [r1, r2, h3]
    exact Nx_for (j + 1, L ++ [(refX p.arrays kl es[j] e1).1], (refX p.arrays kl es[j] e1).2) ⟨by omega, by simp; omega, by rw [← u2]; simp, by rw [← u3]⟩ (by simp; omega) (Imp.to [(1000000, 1000000), (4, 4), (6, 26)] (by simp) (by simp [encS]))
  · simp at c
    have hnj : es.drop j = [] := by simp; omega
    rw [hnj, refXs] at u2 u3
    simp at u2 u3
    have hLl : L.length = es.length := by omega
    simp
    refine Ct_go (Imp.frz 6) ?_
    simp [encS]
    refine Br_intro (fun d => ?_) (fun d => ?_) <;> simp at d
    rotate_left
    · have hs : stmR p res (.mk k nm f w es b e) kl loop = ([], e1) := by rw [stmR, ← u3, if_neg d]
      simp [hs, knE]
    subst d
    have hst : ∀ D r, D = extR k nm w → r = ruleX p res kl k nm f w L loop → stmR p res (.mk k nm f w es b e) kl loop = (D ++ ((blockR p res b (kl ++ D) (loop || decide (k = 5)) r).1 ++ (blockR p res e (kl ++ (D ++ (blockR p res b (kl ++ D) (loop || decide (k = 5)) r).1)) loop (blockR p res b (kl ++ D) (loop || decide (k = 5)) r).2).1),
        (blockR p res e (kl ++ (D ++ (blockR p res b (kl ++ D) (loop || decide (k = 5)) r).1)) loop (blockR p res b (kl ++ D) (loop || decide (k = 5)) r).2).2) := by
      rintro D r rfl rfl
      rw [stmR, ← u3, if_pos rfl, ← u2]
    clear h33
    have hfi' : (fi : Int) < (p.funcs.length : Int) := by omega
    have hRes : p.funcs[fi].result = res := hres.symm
    obtain ⟨n1, n2, n3, n4, n5, n8⟩ := g1
    rw [← hLl] at n1 n2 n3 n4 n5 n8
    have hgoto : ∀ (τ : St) (D : List Par) (r : Int), D = extR k nm w → r = ruleX p res kl k nm f w L loop → Imp (tabOf Tryd.prog GG) τ ⟨[.a (.ptr 1000000 0 []), .bot, vB loop, .bot, .a (.ptr 4 0 []), .bot, .bot, .bot, .bot, .bot, .bot, .bot, .bot, .bot, .bot, .bot, .bot, .bot, .bot, .bot, .bot, .bot, .bot, .bot, .bot, .bot, .bot, .bot, .bot, .bot, .bot, .bot, .bot, .bot, .bot, .bot, .bot, .bot, .bot, .bot, .bot, .bot, .bot, .bot, .bot, .bot, .bot, .bot, .bot, .bot, .bot, .bot, .bot, .bot, .bot, .bot, .bot, .bot, .bot, .bot, .bot, .bot, .bot, .bot, .bot, .bot, .bot, .bot, .bot, .bot, .bot, .bot, .bot, .bot, .bot, .bot, .bot, .bot, .bot, .bot, .bot, .bot, .bot, .bot, .bot, .bot, .bot, .bot, .bot, .bot, .bot, .bot, .bot, .bot, .bot, .bot, .bot, .bot, .bot, .bot, .bot, .bot, .bot, .bot, .bot, .bot, .bot, .bot, .bot, .bot, .bot, .bot, .bot, .bot, .bot, .bot, .bot, .bot, .bot, .bot, .bot, .bot, .bot, .bot, .bot, .bot, .bot, .bot, .bot, .bot, .bot, .bot, .bot, .bot, .bot, .bot, .bot, .bot, .bot, .bot, .bot, .bot, .bot, .bot, .bot, .bot, .bot, .bot, .bot, .bot, .bot, .bot, .bot, .bot, .bot, .bot, .bot, .bot, .bot, .bot, .bot, .bot, .bot, .bot, .bot, .bot, .bot, .bot, .bot, .bot, .bot, .bot, .bot, .bot, .bot, .bot, .bot, .bot, .bot, .bot], [(1000000, .obj [.c (.sl 3 (encAs p.arrays)), .c (.sl 4 (encFs p.funcs)), cI fi, .c (knE kn kl D), cI r]), (4, .obj ((encS (.mk k nm f w es b e)).map CV.c))]⟩ →
        Ct Tryd.prog (tabOf Tryd.prog GG) [6, 28] true (restOf 28 (Tryd.f62.body.getD .skip)) (.fin false [] (.ret (.tup [])) [(1000000, .obj [.c (.sl 3 (encAs p.arrays)), .c (.sl 4 (encFs p.funcs)), cI fi, .c (knE kn kl (stmR p res (.mk k nm f w es b e) kl loop).1), cI (stmR p res (.mk k nm f w es b e) kl loop).2])]) τ :=
      fun τ D r h1 h2 hI => Ct_go hI (key D r (by rw [h1]; exact extR_le _ _ _) (hst D r h1 h2))
    simp
    refine Cd_draw (.first 0 (.first 1 (.first 2 (.first 3 (.first 5 (.first 6 (.first 7 (.alt 4 (.alt 8 (.first 9 (.first 10 (.alt 11 (.first 12 .done) .stop))) .stop) (.alt 8 (.alt 4 (.first 9 (.first 10 (.alt 11 (.first 12 .done) .stop))) .stop) .stop))))))))) (by kernel_rfl) (by kernel_rfl) (by kernel_rfl) ?_
    simp [encS, hfi, hRes]
    by_cases h1 : k = 1
    · subst h1
      obtain ⟨a, rfl⟩ := one_of (n1 rfl)
      simp
      refine Call_own (f32 p _ _ kl 0 ⟨nm, w⟩ (by omega) hA hk) (by simp) ?_
      simp [encS]
      refine Cd_draw (.first 0 (.first 1 (.first 2 (.first 3 (.first 4 (.alt 5 (.first 6 (.alt 7 .done .stop)) .stop)))))) (by kernel_rfl) (by kernel_rfl) (by kernel_rfl) ?_
      simp [encS, encIs]
      refine Call_own (f47 _ _ _ _ _ _ _ _ (Holds.own _)) (by simp) ?_
      simp
      cases ht : twiceX kl p.arrays nm <;> by_cases hw : a = w <;> exact hgoto _ [⟨nm, w⟩] (ruleX p res kl 1 nm f w [a] loop) (by simp [extR]) rfl (Imp.le (by simp [encS, knE, ruleX, ht, hw]))
    simp [h1]
    have hx : extR k nm w = [] := by simp [extR, h1]
    by_cases h2 : k = 2
    · subst h2
      obtain ⟨a, rfl⟩ := one_of (n2 rfl)
      simp
      refine Call_own (f48 _ _ _ _ _ _ nm (by omega) hk.holds ⟨_, rfl⟩) (by simp) ?_
      simp
      refine Call_own (f47 _ _ _ _ _ _ _ _ hk.holds) (by simp) ?_
      simp [encS]
      refine Cd_draw (.first 0 (.first 1 (.first 2 (.first 3 (.first 4 (.first 5 (.alt 6 (.alt 7 (.first 8 (.alt 9 .done .stop)) .stop) .stop))))))) (by kernel_rfl) (by kernel_rfl) (by kernel_rfl) ?_
      simp [encS, encIs]
      refine Call_own (f48 _ _ _ _ _ _ nm (by omega) hk.holds ⟨_, rfl⟩) (by simp) ?_
      simp
      refine Call_own (f47 _ _ _ _ _ _ _ _ hk.holds) (by simp) ?_
      simp
      by_cases hw : lookW kl nm = 0 <;> by_cases hw2 : a = lookW kl nm <;> exact hgoto _ [] (ruleX p res kl 2 nm f w [a] loop) (by simp [extR]) rfl (Imp.le (by simp [encS, knE, ruleX, hw, hw2]))
    simp [h2]
    by_cases h3 : k = 3
    · subst h3
      obtain ⟨a, c, rfl⟩ := two_of (n3 rfl)
      have hnA : Meets Tryd.prog (tabOf Tryd.prog GG) 49 [vPro p, vT nm] [] (.ret (vI (ixT (p.arrays.map Arr.name) nm 0))) [] := f49 p nm hA
      simp
      refine Cd_draw (.first 0 (.first 1 (.first 2 (.first 4 (.alt 3 (.alt 5 (.alt 6 (.first 7 .done) .stop) .stop) (.alt 5 (.alt 3 (.alt 6 (.first 7 .done) .stop) .stop) .stop)))))) (by kernel_rfl) (by kernel_rfl) (by kernel_rfl) ?_
      simp [encS]
      refine Call_pure hnA ?_
      simp
      refine Call_own (f47 _ _ _ _ _ _ _ _ hk.holds) (by simp) ?_
      simp
      rcases ixT_range nm (p.arrays.map Arr.name) 0 with hix | ⟨j, hix, hj⟩
      · refine Cd_draw (.first 0 (.first 1 (.first 2 (.first 3 (.first 4 (.first 5 (.first 6 (.first 7 (.first 8 (.first 9 (.first 10 (.first 11 (.first 12 (.first 13 (.first 14 (.first 15 (.first 17 (.first 18 (.alt 16 (.first 19 (.first 20 (.alt 21 (.first 22 (.first 23 (.first 24 (.alt 25 .done .stop)))) .stop))) .stop))))))))))))))))))) (by kernel_rfl) (by kernel_rfl) (by kernel_rfl) ?_
        have hz : (encAs p.arrays)[0]? = none ∨ ∃ v, (encAs p.arrays)[0]? = some (encA v) := by
          cases hpa : p.arrays with
          | nil => left; simp [encAs]
          | cons x xs => right; exact ⟨x, by simp [encAs]⟩
        rcases hz with hz | ⟨v, hz⟩ <;> by_cases ha : a = 32
        all_goals
          simp [hix, encIs, hz, ha]
          repeat (refine Sk_go ?_; simp [hz, ha])
          refine Call_own (f47 _ _ _ _ _ _ _ _ hk.holds) (by simp) ?_
          simp
          exact hgoto _ [] (ruleX p res kl 3 nm f w [a, c] loop) (by simp [extR]) rfl (Imp.le (by simp [encS, knE, ruleX, hix]))
      · simp at hix hj
        have hjn : ¬ ((j : Int) < 0) := by omega
        have hjm : max (j : Int) 0 = j := by omega
        refine Cd_draw (.first 0 (.first 1 (.first 2 (.first 3 (.first 4 (.first 5 (.first 6 (.first 7 (.first 8 (.first 9 (.first 10 (.first 11 (.first 12 (.first 13 (.first 14 (.first 15 (.first 17 (.first 18 (.alt 16 (.first 19 (.first 20 (.alt 21 (.first 22 (.first 23 (.first 24 (.alt 25 .done .stop)))) .stop))) .stop))))))))))))))))))) (by kernel_rfl) (by kernel_rfl) (by kernel_rfl) ?_
        simp [hix, hj, hjn, encIs]
        refine Call_own (f47 _ _ _ _ _ _ _ _ hk.holds) (by simp) ?_
        simp
        by_cases hw : a = 32 <;> by_cases hw2 : c = p.arrays[j].width <;> exact hgoto _ [] (ruleX p res kl 3 nm f w [a, c] loop) (by simp [extR]) rfl (Imp.le (by simp [encS, knE, ruleX, hix, hj, hjn, widA, hw, hw2]))
    simp [h3]
    by_cases h4 : k = 4
    · subst h4
      obtain ⟨a, rfl⟩ := one_of (n4 rfl)
      simp [encIs]
      refine Call_own (f47 _ _ _ _ _ _ _ _ hk.holds) (by simp) ?_
      simp
      by_cases hw : a = 1 <;> exact hgoto _ [] (ruleX p res kl 4 nm f w [a] loop) (by simp [extR]) rfl (Imp.le (by simp [encS, knE, ruleX, hw]))
    simp [h4]
    by_cases h5 : k = 5
    · subst h5
      obtain ⟨a, rfl⟩ := one_of (n5 rfl)
      simp [encIs]
      refine Call_own (f47 _ _ _ _ _ _ _ _ hk.holds) (by simp) ?_
      simp
      by_cases hw : a = 1 <;> exact hgoto _ [] (ruleX p res kl 5 nm f w [a] loop) (by simp [extR]) rfl (Imp.le (by simp [encS, knE, ruleX, hw]))
    simp [h5]
    by_cases h6 : k = 6
    · subst h6
      simp
      refine Call_own (f47 _ _ _ _ _ _ _ _ hk.holds) (by simp) ?_
      simp
      cases loop <;> exact hgoto _ [] (ruleX p res kl 6 nm f w L _) (by simp [extR]) rfl (Imp.le (by simp [encS, knE, ruleX]))
    simp [h6]
    by_cases h8 : k = 8
    · subst h8
      have hL8 : L = [] ∨ ∃ a, L = [a] := by
        match L, n8 rfl with
        | [], _ => exact .inl rfl
        | [a], _ => exact .inr ⟨a, rfl⟩
      rcases hL8 with rfl | ⟨a, rfl⟩
      · simp [encIs]
        repeat (refine Sk_go ?_; simp)
        refine Call_own (f47 _ _ _ _ _ _ _ _ hk.holds) (by simp) ?_
        simp
        by_cases hw : res = 0 <;> exact hgoto _ [] (ruleX p res kl 8 nm f w [] loop) (by simp [extR]) rfl (Imp.le (by simp [encS, knE, ruleX, hw]))
      · simp [encIs]
        refine Call_own (f47 _ _ _ _ _ _ _ _ hk.holds) (by simp) ?_
        simp
        by_cases hw : a = res <;> exact hgoto _ [] (ruleX p res kl 8 nm f w [a] loop) (by simp [extR]) rfl (Imp.le (by simp [encS, knE, ruleX, hw]))
    simp [h8]
    by_cases h9 : k = 9
    · subst h9
      simp [encS]
      refine Call_own (f83 p _ _ kl 9 nm f w es b e L hF hP (by omega) hk.holds (by omega)) (by simp [encS]) ?_
      simp
      exact hgoto _ [] (ruleX p res kl 9 nm f w L loop) (by simp [extR]) rfl (Imp.le (by simp [encS, knE, ruleX]))
    simp [h9]
    exact hgoto _ [] (ruleX p res kl k nm f w L loop) (by simp [extR, h1]) rfl (Imp.le (by simp [encS, knE, ruleX, h1, h2, h3, h4, h5, h6, h8, h9]))
end Go.Ew
end
