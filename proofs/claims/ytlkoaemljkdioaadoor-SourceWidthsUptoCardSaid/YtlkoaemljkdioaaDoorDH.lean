/- What functions of the seat do: the width of an expression. -/
import Derived.Test.YtlkoaemljkdioaaDoorDG
section
/- Functions of the seat: limits. -/
open Go Go.Proofs Go.Ew
namespace Go.Ew
def overF (f : Fun) : Bool := decide (8 < f.params.length) || decide (40 < f.params.length + vaNs f.body) || decide (100 < stNs f.body) || decide (8 < hiNs f.body) || lgNs f.body
def manyX (p : Pro) : Bool := decide (8 < p.arrays.length) || decide (16 < p.funcs.length) || p.funcs.any overF
attribute [local simp] Cd_skip Cd_label Cd_seq Ct_false Br_notc Br_true Br_false Cd_cond Cd_block Cd_exit Cd_ret Cd_region Nx_code Nx_block Nx_ops Nx_plan  Nx_fin Nx_fin' Ex_code_exit Ex_code_ret Ex_block_exit Ex_block_ret Ex_round_exit Ex_round_ret Ex_fin_ret Ex_fin_ret' Pn_code Pn_block Pn_ops Pn_plan Pn_round Pn_fin Os_nil Os_cons gK_some Gt_some Gt_nil Gt_cons run_code run_op run_skip O1_eq Pl_done Pl_stop Pl_first Pl_alt cK_some qK_some asCall asPan actK_some panOf_some condK_some map_re_c map_kill_c map_keep_c map_frz_c re_cc kill_cc keep_cc frz_cc leCs_refl finA finR idl headOf allB
attribute [local simp] wantedA act quiet opd opg TV.acc imp ofConst St.get St.put St.putG orElse one1 one2 binA unA convA idxA strLen maxA minA TV.flat TV.int TV.bool TV.cells UV.cells CV.els TV.els viewOf PV.nv CV.nv peekC_eq peekB peekG peekH peekP_eq peekPB allP allNv allPs allNv_c allNv_append allP_append allPs_append rowsNv_eq at_ cellAt PV.down PV.elem readAt loadOp bump fieldAddrOp fieldOp indexAddrOp extractOp nilCheckOp lenOp boundOf sliceOp fillCells buildOp pickOp Tab.fld Tab.place tabOf_ti tabOf_mapT tabOf_stc tabOf_arr tabOf_elem tabOf_glob mk busy TV.isPtr TV.isMap keyOK keysOf lookupOp mapOf lookC_some lookC_none findK_nil findK_yes findK_no eqKey_lit eqKey_int mapLen_eq look lay del
attribute [local simp] makeMapOp updateOp insK_some insK_none insC_some insC_none frzMp allocOp boxOp storeOp killOf writeAt moves grabOf takeAt putAt PV.put setCell CV.isView CV.strip CV.stripP strip_cc map_strip_c any_view_c any_view_cc mapM_strip_eq stripL stripL_c mapM_strip_cc frzR_frz frzE_frz stripL_append Ew.newObj newReg rowsOf stripRows movesR buildSliceOp makeSliceOp srcOf baseOf appendOp room killM St.kill Kl.b Kl.h Cap.hit TV.kill UV.kill CV.kill MC.kill capOf capsOf plainCaps mkClo capTV calleeOf panArg resV resT resUs
attribute [local simp] toNew toOld view TV.re UV.re CV.re MC.re Cap.re caps_re leT leU leC leCs leMs leM leTs St.le St.re keysOK  roots_p map_re_p map_re_p' roots_c roots_cc shownOf shownBy pairsOf number deeper addAll MC.live TV.roots CV.roots MC.roots Cap.roots callIs numsOK liveAll start List.range_succ callSt afterMem newPart_nil newPart_cons oldPart_eq oldGo back isKey stays inRange aliveO aliveM MC.isMap aliveR aliveP MC.isObj MC.isReg Cap.alive CV.keep UV.keep TV.keep MC.keep span St.frz frzM TV.frz UV.frz CV.frz MC.frz frzO frzC Cap.frz PV.frz frzE frzR
attribute [local simp] encEs_len encE_len encE_nv encE_take encEs_at encSs_len encS_len encS_nv encS_take encSs_at encFs_len encFs_at encPs_len encPs_at encAs_len encF
set_option maxRecDepth 8000
set_option maxHeartbeats 2000000
theorem over_cast (f : Fun) (hp : f.params.length < 1000000) (hb : nodesSL f.body < 1000000) : (decide ((8 : Int) < (f.params.length : Int)) || decide ((40 : Int) < IntKind.i64.wrap ((f.params.length : Int) + (vaNs f.body : Int))) || decide ((100 : Int) < (stNs f.body : Int)) || decide ((8 : Int) < (hiNs f.body : Int)) || lgNs f.body) = overF f := by
  have h1 := stNs_le f.body
  have h2 := vaNs_le f.body
  have e1 : IntKind.i64.wrap ((f.params.length : Int) + (vaNs f.body : Int)) = ((f.params.length + vaNs f.body : Nat) : Int) := wrap64 (by omega) ⟨by omega, by omega⟩
  rw [e1]
  have e2 : decide ((40 : Int) < ((f.params.length + vaNs f.body : Nat) : Int)) = decide (40 < f.params.length + vaNs f.body) := by congr 1; simp; omega
  have e3 : decide ((8 : Int) < (f.params.length : Int)) = decide (8 < f.params.length) := by congr 1; simp; omega
  have e4 : decide ((100 : Int) < (stNs f.body : Int)) = decide (100 < stNs f.body) := by congr 1; simp; omega
  have e5 : decide ((8 : Int) < (hiNs f.body : Int)) = decide (8 < hiNs f.body) := by congr 1; simp; omega
  rw [e2, e3, e4, e5]
  rfl
theorem f23 (p : Pro) (hF : p.funcs.length < 1000000) (hP : ∀ f ∈ p.funcs, f.params.length < 1000000) (hB : ∀ f ∈ p.funcs, nodesSL f.body < 1000000) : Meets Tryd.prog (tabOf Tryd.prog GG) 23 [vPro p] [] (.ret (vB (manyX p))) [] := by
  refine meets_of (tabOf_ok _ _) [] Tryd.f23 54 [.tmp 2] (by kernel_rfl) (by kernel_rfl) rfl rfl rfl rfl false ?_
  simp
  refine Br_intro (fun h => ?_) (fun h => ?_)
  · have h' : (decide (8 < p.arrays.length) || decide (16 < p.funcs.length)) = true := by simp at h ⊢; omega
    simp [manyX, h']
  · have h' : (decide (8 < p.arrays.length) || decide (16 < p.funcs.length)) = false := by simp at h ⊢; omega
    simp
    refine Cd_for (fun i : Nat => ⟨[.bot, .bot, .bot, .bot, .bot, .bot, .bot, .bot, .bot, .bot, .bot, .bot, .bot, .bot, .bot, .bot, .bot, .p (.sl 4 (encFs p.funcs)), vI p.funcs.length, vI i, .bot, .bot, .bot, .bot, .bot, .bot, .bot, .bot, .bot, .bot, .bot, .bot, .bot, .bot, .bot, .bot, .bot, .bot, .bot, .bot, .bot, .bot, .bot, .bot, .bot, .bot, .bot, .bot, .bot, .bot, .bot, .bot, .bot, .bot], []⟩)
      (fun i => i ≤ p.funcs.length ∧ (p.funcs.drop i).any overF = p.funcs.any overF) (fun i => p.funcs.length - i) 0 ⟨by simp, by simp⟩ (Imp.le (by simp)) ?_
    rintro i ⟨hi, hw⟩
    simp
    refine Br_intro (fun g => ?_) (fun g => ?_)
    · simp at g
      simp [g]
      rw [any_step overF _ i g] at hw
      have h2 : IntKind.i64.wrap ((i : Int) + 1) = ((i + 1 : Nat) : Int) := wrap64 (by omega) ⟨by omega, by omega⟩
      have hpl := hP _ (List.getElem_mem g)
      have hbl := hB _ (List.getElem_mem g)
      have hst := stNs_le p.funcs[i].body
      have hva := vaNs_le p.funcs[i].body
      have hc := f50 _ p.funcs[i].body (Nat.le_refl _) hbl 0 0 0 1 false (by omega) (by omega) (by omega) (by omega) (by omega) (by omega)
      simp at hc
      refine Call_own hc (by simp) ?_
      simp
      have ho := over_cast p.funcs[i] hpl hbl
      refine Br_intro (fun c => ?_) (fun c => ?_)
      · have c1 : overF p.funcs[i] = true := ho.symm.trans c
        rw [c1, Bool.true_or] at hw
        simp [manyX, ← hw]
      · have c1 : overF p.funcs[i] = false := ho.symm.trans c
        rw [c1, Bool.false_or] at hw
        simp [h2]
        exact Nx_for (i + 1) ⟨by omega, hw⟩ (by omega) (Imp.le (by simp))
    · simp at g
      have hnil : p.funcs.drop i = [] := by simp; omega
      rw [hnil, List.any_nil] at hw
      simp [manyX, h', ← hw]
theorem f30 (p : Pro) (hF : p.funcs.length < 1000000) (hP : ∀ f ∈ p.funcs, f.params.length < 1000000) (hB : ∀ f ∈ p.funcs, nodesSL f.body < 1000000) : Meets Tryd.prog (tabOf Tryd.prog GG) 30 [vPro p] [] (.ret (vB (manyX p))) [] := by
  refine meets_of (tabOf_ok _ _) [] Tryd.f30 62 [.tmp 2] (by kernel_rfl) (by kernel_rfl) rfl rfl rfl rfl false ?_
  simp
  refine Br_intro (fun h => ?_) (fun h => ?_)
  · have h' : (decide (8 < p.arrays.length) || decide (16 < p.funcs.length)) = true := by simp at h ⊢; omega
    simp [manyX, h']
  · have h' : (decide (8 < p.arrays.length) || decide (16 < p.funcs.length)) = false := by simp at h ⊢; omega
    simp
    refine Cd_for (fun i : Nat => ⟨[.bot, .a (.ptr 1 0 []), .bot, vI i, .bot, .bot, .bot, .bot, .bot, .bot, .bot, .bot, .bot, .bot, .bot, .bot, .bot, .bot, .bot, .bot, .bot, .bot, .bot, .bot, .bot, .bot, .bot, .bot, .bot, .bot, .bot, .bot, .bot, .bot, .bot, .bot, .bot, .bot, .bot, .bot, .bot, .bot, .bot, .bot, .bot, .bot, .bot, .bot, .bot, .bot, .bot, .bot, .bot, .bot, .bot, .bot, .bot, .bot, .bot, .bot, .bot, .bot], [(1, .obj [.c (.sl 3 (encAs p.arrays)), .c (.sl 4 (encFs p.funcs))])]⟩)
      (fun i => i ≤ p.funcs.length ∧ (p.funcs.drop i).any overF = p.funcs.any overF) (fun i => p.funcs.length - i) 0 ⟨by simp, by simp⟩ (Imp.le (by simp)) ?_
    rintro i ⟨hi, hw⟩
    simp
    refine Br_intro (fun g => ?_) (fun g => ?_)
    · simp at g
      simp [g]
      rw [any_step overF _ i g] at hw
      have h2 : IntKind.i64.wrap ((i : Int) + 1) = ((i + 1 : Nat) : Int) := wrap64 (by omega) ⟨by omega, by omega⟩
      have hpl := hP _ (List.getElem_mem g)
      have hbl := hB _ (List.getElem_mem g)
      have ho := over_cast p.funcs[i] hpl hbl
      refine Call_pure (f60 _ p.funcs[i].body (Nat.le_refl _) hbl) ?_
      simp
      refine Br_intro (fun c => ?_) (fun c => ?_)
      · have c1 : overF p.funcs[i] = true := ho.symm.trans c
        rw [c1, Bool.true_or] at hw
        simp [manyX, ← hw]
      · have c1 : overF p.funcs[i] = false := ho.symm.trans c
        rw [c1, Bool.false_or] at hw
        simp [h2]
        exact Nx_for (i + 1) ⟨by omega, hw⟩ (by omega) (Imp.le (by simp))
    · simp at g
      have hnil : p.funcs.drop i = [] := by simp; omega
      rw [hnil, List.any_nil] at hw
      simp [manyX, h', ← hw]
end Go.Ew
end
section
/- Functions of the seat: the width of an expression, the program's. -/
open Go Go.Proofs Go.Ew
namespace Go.Ew
def encIs (l : List Int) : List (List PV) := l.map fun n => [.v (.int .i64 n)]
theorem encIs_len (l : List Int) : (encIs l).length = l.length := by simp [encIs]
theorem encIs_nv (l : List Int) : allPs (encIs l) = true := allPs_map _ (fun x => by simp [allP, PV.nv]) l
theorem encIs_app (l : List Int) (n : Int) : encIs l ++ [[.v (.int .i64 n)]] = encIs (l ++ [n]) := by simp [encIs]
def widA (ar : List Arr) (i : Int) : Int := ((ar[i.toNat]?).map Arr.width).getD 0
def ruleE (ar : List Arr) (kl : List Par) (k w : Int) (nm : ByteArray) (op : Int) (l : List Int) : Int × Int :=
  if k = 2 then (if lookW kl nm = 0 then (0, 16) else (lookW kl nm, 0))
  else if k = 3 then (if ixT (ar.map Arr.name) nm 0 < 0 then (0, 16) else if l.headD 0 = 32 then (widA ar (ixT (ar.map Arr.name) nm 0), 0) else (0, 14))
  else if k = 4 then (l.headD 0, 0)
  else if k = 5 then (l.headD 0, 0)
  else if k = 6 then (if l.headD 0 = l.getD 1 0 then (if 16 ≤ op then (1, 0) else (l.headD 0, 0)) else (0, 14))
  else (w, 0)
mutual
def exprX (ar : List Arr) (kl : List Par) : Expr → Int × Int
  | .mk k w _ nm op sub => if (subsX ar kl sub).2 = 0 then ruleE ar kl k w nm op (subsX ar kl sub).1 else (0, (subsX ar kl sub).2)
def subsX (ar : List Arr) (kl : List Par) : List Expr → List Int × Int
  | [] => ([], 0)
  | x :: xs => if (exprX ar kl x).2 = 0 then ((exprX ar kl x).1 :: (subsX ar kl xs).1, (subsX ar kl xs).2) else ([], (exprX ar kl x).2)
end
theorem Imp.ownNil {T : Tab} {σ : St} (t k : Nat) (h : σ.get t = .val (.slice none 0 0)) (hk : 0 < k ∧ t < 1000000) : Imp T σ (newReg σ t k []) := Imp.own t k (old := []) (mem1 := σ.mem) (by rw [h]; rfl) hk
theorem ixT_range (v : ByteArray) : ∀ (l : List ByteArray) (i : Nat), ixT l v i = -1 ∨ ∃ j : Nat, ixT l v i = ((i + j : Nat) : Int) ∧ j < l.length
  | [], i => .inl rfl
  | x :: xs, i => by
    simp only [ixT]
    split
    · exact .inr ⟨0, by simp, by simp⟩
    · rcases ixT_range v xs (i + 1) with h | ⟨j, h, hj⟩
      · exact .inl h
      · exact .inr ⟨j + 1, by rw [h]; congr 1; omega, by simp; omega⟩
attribute [local simp] Cd_skip Cd_label Cd_seq Ct_false Br_notc Br_true Br_false Cd_cond Cd_block Cd_exit Cd_ret Cd_region Nx_code Nx_block Nx_ops Nx_plan  Nx_fin Nx_fin' Ex_code_exit Ex_code_ret Ex_block_exit Ex_block_ret Ex_round_exit Ex_round_ret Ex_fin_ret Ex_fin_ret' Pn_code Pn_block Pn_ops Pn_plan Pn_round Pn_fin Os_nil Os_cons gK_some Gt_some Gt_nil Gt_cons run_code run_op run_skip O1_eq Pl_done Pl_stop Pl_first Pl_alt cK_some qK_some asCall asPan actK_some panOf_some condK_some map_re_c map_kill_c map_keep_c map_frz_c re_cc kill_cc keep_cc frz_cc leCs_refl finA finR idl headOf allB
attribute [local simp] wantedA act quiet opd opg TV.acc imp ofConst St.get St.put St.putG orElse one1 one2 binA unA convA idxA strLen maxA minA TV.flat TV.int TV.bool TV.cells UV.cells CV.els TV.els viewOf PV.nv CV.nv peekC_eq peekB peekG peekH peekP_eq peekPB allP allNv allPs allNv_c allNv_append allP_append allPs_append rowsNv_eq at_ cellAt PV.down PV.elem readAt loadOp bump fieldAddrOp fieldOp indexAddrOp extractOp nilCheckOp lenOp boundOf sliceOp fillCells buildOp pickOp Tab.fld Tab.place tabOf_ti tabOf_mapT tabOf_stc tabOf_arr tabOf_elem tabOf_glob mk busy TV.isPtr TV.isMap keyOK keysOf lookupOp mapOf lookC_some lookC_none findK_nil findK_yes findK_no eqKey_lit eqKey_int mapLen_eq look lay del
attribute [local simp] makeMapOp updateOp insK_some insK_none insC_some insC_none frzMp allocOp boxOp storeOp killOf writeAt moves grabOf takeAt putAt PV.put setCell CV.isView CV.strip CV.stripP strip_cc map_strip_c any_view_c any_view_cc mapM_strip_eq stripL stripL_c mapM_strip_cc frzR_frz frzE_frz stripL_append Ew.newObj newReg rowsOf stripRows movesR buildSliceOp makeSliceOp srcOf baseOf appendOp room killM St.kill Kl.b Kl.h Cap.hit TV.kill UV.kill CV.kill MC.kill capOf capsOf plainCaps mkClo capTV calleeOf panArg resV resT resUs
attribute [local simp] toNew toOld view TV.re UV.re CV.re MC.re Cap.re caps_re leT leU leC leCs leMs leM leTs St.le St.re keysOK  roots_p map_re_p map_re_p' roots_c roots_cc shownOf shownBy pairsOf number deeper addAll MC.live TV.roots CV.roots MC.roots Cap.roots callIs numsOK liveAll start List.range_succ callSt afterMem newPart_nil newPart_cons oldPart_eq oldGo back isKey stays inRange aliveO aliveM MC.isMap aliveR aliveP MC.isObj MC.isReg Cap.alive CV.keep UV.keep TV.keep MC.keep span St.frz frzM TV.frz UV.frz CV.frz MC.frz frzO frzC Cap.frz PV.frz frzE frzR
attribute [local simp] encEs_len encE_len encE_nv encE_take encEs_at encIs_len encIs_nv encIs_app encAs_len encAs_at encA
set_option maxRecDepth 8000
set_option maxHeartbeats 2000000
theorem f19 (p : Pro) (a2 a3 a4 a5 kn : PV) (kl : List Par) (hA : p.arrays.length < 1000000) (hL : kl.length < 1000000) (hk : Holds kn kl) (n : Nat) : ∀ (x : Expr), nodes x ≤ n → nodes x < 1000000 → wellE x = true →
    Meets Tryd.prog (tabOf Tryd.prog GG) 19 [.a (.ptr 1000000 0 []), vE x] [(1000000, .obj [.c (.sl 3 (encAs p.arrays)), .c (.sl 4 (encFs p.funcs)), .c a2, .c a3, .c a4, .c a5, .c kn])] (.ret (.tup [.one (cI (exprX p.arrays kl x).1), .one (cI (exprX p.arrays kl x).2)])) [(1000000, .obj [.c (.sl 3 (encAs p.arrays)), .c (.sl 4 (encFs p.funcs)), .c a2, .c a3, .c a4, .c a5, .c kn])] := by
  induction n with
  | zero => intro x h _; cases x; simp [nodes] at h
  | succ n ih =>
    intro x hn hx hwell
    obtain ⟨k, w, b, nm, op, sub⟩ := x
    simp only [nodes] at hn hx
    have hsl := nodesL_len sub
    rw [wellE, Bool.and_eq_true, Bool.and_eq_true] at hwell
    obtain ⟨⟨hw1, hw2⟩, hw3⟩ := hwell
    refine meets_of (tabOf_ok _ _) [] Tryd.f19 94 [.tmp 4, .tmp 5] (by kernel_rfl) (by kernel_rfl) rfl rfl rfl rfl false ?_
    simp [encE]
    refine Cd_for (fun q : Nat × List Int => ⟨[.a (.ptr 1000000 0 []), .bot, .bot, .a (.ptr 3 0 []), .bot, .bot, .a (.view 6 0 []), .bot, .bot, .bot, .bot, .bot, .bot, .bot, vEs sub, vI sub.length, vI q.1, .bot, .bot, .bot, .bot, .bot, .bot, .bot, .bot, .bot, .bot, .bot, .bot, .bot, .bot, .bot, .bot, .bot, .bot, .bot, .bot, .bot, .bot, .bot, .bot, .bot, .bot, .bot, .bot, .bot, .bot, .bot, .bot, .bot, .bot, .bot, .bot, .bot, .bot, .bot, .bot, .bot, .bot, .bot, .bot, .bot, .bot, .bot, .bot, .bot, .bot, .bot, .bot, .bot, .bot, .bot, .bot, .bot, .bot, .bot, .bot, .bot, .bot, .bot, .bot, .bot, .bot, .bot, .bot, .bot, .bot, .bot, .bot, .bot, .bot, .bot, .bot, .bot], [(1000000, .obj [.c (.sl 3 (encAs p.arrays)), .c (.sl 4 (encFs p.funcs)), .c a2, .c a3, .c a4, .c a5, .c kn]), (3, .obj ((encE (.mk k w b nm op sub)).map CV.c)), (6, .reg (.vec 1 (encIs q.2)))]⟩)
      (fun q => q.1 ≤ sub.length ∧ q.2.length = q.1 ∧ q.2 ++ (subsX p.arrays kl (sub.drop q.1)).1 = (subsX p.arrays kl sub).1 ∧ (subsX p.arrays kl (sub.drop q.1)).2 = (subsX p.arrays kl sub).2)
      (fun q => sub.length - q.1) (0, []) ⟨by simp, by simp, by simp, by simp⟩ ((Imp.ownNil 6 1 rfl (by simp)).trans (Imp.le (by simp [encE, encIs]))) ?_
    rintro ⟨i, L⟩ ⟨hi, u1, u2, u3⟩
    simp at hi u1 u2 u3
    simp
    refine Br_intro (fun h => ?_) (fun h => ?_)
    · simp at h
      simp [h]
      have hd : sub.drop i = sub[i] :: sub.drop (i + 1) := List.drop_eq_getElem_cons h
      rw [hd, subsX] at u2 u3
      have hb := nodes_le (List.getElem_mem h)
      have hwi : wellE sub[i] = true := by
        rw [wellEs_all] at hw3
        exact List.all_eq_true.1 hw3 _ (List.getElem_mem h)
      have h2 : IntKind.i64.wrap ((i : Int) + 1) = ((i + 1 : Nat) : Int) := wrap64 (by omega) ⟨by omega, by omega⟩
      refine Call_own (ih sub[i] (by omega) (by omega) hwi) (by simp) ?_
      simp
      refine Br_intro (fun g => ?_) (fun g => ?_)
      · simp at g
        simp [g] at u2 u3
        have r1 : (L.length + 1) * 8 ≤ 140737488355328 := by omega
        have r2 : L.length ≤ 140737488355327 := by omega
        simp [r1, r2, h2]
        exact Nx_for (i + 1, L ++ [(exprX p.arrays kl sub[i]).1]) ⟨by omega, by simp; omega, by rw [← u2]; simp, by rw [← u3]⟩ (by simp; omega) (Imp.to [(1000000, 1000000), (3, 3), (6, 32)] (by simp) (by simp [encE]))
      · simp at g
        simp [g] at u2 u3
        simp [exprX, ← u3, g]
    · simp at h
      have hnil : sub.drop i = [] := by simp; omega
      rw [hnil, subsX] at u2 u3
      simp at u2 u3
      have hLl : L.length = sub.length := by omega
      have hX : exprX p.arrays kl (.mk k w b nm op sub) = ruleE p.arrays kl k w nm op L := by rw [exprX, ← u3, u2]; simp
      rw [hX]
      simp [encE]
      by_cases h2 : k = 2
      · subst h2
        simp
        refine Call_own (f39 _ _ _ _ _ _ _ _ nm hL hk) (by simp) ?_
        simp
        refine Br_intro (fun g => ?_) (fun g => ?_) <;> simp at g <;> simp [ruleE, g]
      simp [h2]
      by_cases h3 : k = 3
      · subst h3
        simp
        obtain ⟨a, rfl⟩ : ∃ a, L = [a] := by
          match L, hLl, (by simpa [partsE] using hw2 : (sub.length : Int) = 1) with
          | [a], _, _ => exact ⟨a, rfl⟩
          | [], h1, h2 => simp at h1; omega
          | a :: b :: r, h1, h2 => simp at h1; omega
        have hn : Meets Tryd.prog (tabOf Tryd.prog GG) 40 [vPro p, vT nm] [] (.ret (vI (ixT (p.arrays.map Arr.name) nm 0))) [] := f40 p nm hA
        refine Cd_draw (.first 0 (.first 1 (.first 2 (.first 4 (.alt 3 (.alt 5 (.alt 6 (.first 7 .done) .stop) .stop) (.alt 5 (.alt 3 (.alt 6 (.first 7 .done) .stop) .stop) .stop)))))) (by kernel_rfl) (by kernel_rfl) (by kernel_rfl) ?_
        simp
        refine Call_pure hn ?_
        simp
        rcases ixT_range nm (p.arrays.map Arr.name) 0 with hix | ⟨j, hix, hj⟩
        · simp [hix, ruleE]
        · simp at hix hj
          have hjn : ¬ ((j : Int) < 0) := by omega
          simp [hix, hj, hjn, encIs]
          refine Cd_draw (.first 0 (.first 1 (.alt 2 (.alt 3 (.alt 4 (.first 5 .done) .stop) .stop) (.alt 3 (.alt 2 (.alt 4 (.first 5 .done) .stop) (.alt 4 (.alt 2 (.first 5 .done) .stop) .stop)) .stop)))) (by kernel_rfl) (by kernel_rfl) (by kernel_rfl) ?_
          simp
          refine ⟨?_, ?_⟩
          · refine Call_pure f41 ?_
            simp [tBit, tByte, tHalf, tWord, encIs]
            refine Br_intro (fun g => ?_) (fun g => ?_) <;> simp at g
            · simp [ruleE, hix, g, hj, hjn, widA]
            · simp [ruleE, hix, g, hjn]
          · refine Call_pure f41 ?_
            simp [tBit, tByte, tHalf, tWord, encIs]
            refine Br_intro (fun g => ?_) (fun g => ?_) <;> simp at g
            · simp [ruleE, hix, g, hj, hjn, widA]
            · simp [ruleE, hix, g, hjn]
      simp [h3]
      by_cases h4 : k = 4
      · subst h4
        obtain ⟨a, rfl⟩ : ∃ a, L = [a] := by
          match L, hLl, (by simpa [partsE] using hw2 : (sub.length : Int) = 1) with
          | [a], _, _ => exact ⟨a, rfl⟩
          | [], h1, h2 => simp at h1; omega
          | a :: b :: r, h1, h2 => simp at h1; omega
        simp [encIs, ruleE]
      simp [h4]
      by_cases h5 : k = 5
      · subst h5
        obtain ⟨a, rfl⟩ : ∃ a, L = [a] := by
          match L, hLl, (by simpa [partsE] using hw2 : (sub.length : Int) = 1) with
          | [a], _, _ => exact ⟨a, rfl⟩
          | [], h1, h2 => simp at h1; omega
          | a :: b :: r, h1, h2 => simp at h1; omega
        simp [encIs, ruleE]
      simp [h5]
      by_cases h6 : k = 6
      · subst h6
        obtain ⟨a, c, rfl⟩ : ∃ a c, L = [a, c] := by
          match L, hLl, (by simpa [partsE] using hw2 : (sub.length : Int) = 2) with
          | [a, c], _, _ => exact ⟨a, c, rfl⟩
          | [], h1, h2 => simp at h1; omega
          | [a], h1, h2 => simp at h1; omega
          | a :: b :: c :: r, h1, h2 => simp at h1; omega
        simp
        refine Cd_draw (.first 0 (.first 1 (.first 3 (.first 4 (.alt 2 (.alt 5 (.first 6 .done) .stop) (.alt 5 (.alt 2 (.first 6 .done) .stop) .stop)))))) (by kernel_rfl) (by kernel_rfl) (by kernel_rfl) ?_
        simp [encIs]
        refine Br_intro (fun g => ?_) (fun g => ?_) <;> simp at g
        · simp
          refine Br_intro (fun g2 => ?_) (fun g2 => ?_) <;> simp at g2
          · simp [ruleE, g, g2]
          · have g3 : ¬ (16 ≤ op) := by omega
            simp [ruleE, g, g3]
        · simp [ruleE, g]
      simp [h6, ruleE, h2, h3, h4, h5]
end Go.Ew
end
section
/- Functions of the seat: the width of an expression, the reference's. -/
open Go Go.Proofs Go.Ew
namespace Go.Ew
def ruleR (ar : List Arr) (kl : List Par) (k w : Int) (nm : ByteArray) (op : Int) (l : List Int) : Int × Int :=
  if k = 2 then (lookW kl nm, if lookW kl nm = 0 then 16 else 0)
  else if k = 3 then (if ixT (ar.map Arr.name) nm 0 < 0 then (0, 16) else (widA ar (ixT (ar.map Arr.name) nm 0), if l.headD 0 = 32 then 0 else 14))
  else if k = 4 then (l.headD 0, 0)
  else if k = 5 then (l.headD 0, 0)
  else if k = 6 then (if 16 ≤ op then 1 else l.headD 0, if l.headD 0 = l.getD 1 0 then 0 else 14)
  else (w, 0)
mutual
def refX (ar : List Arr) (kl : List Par) : Expr → Int → Int × Int
  | .mk k w _ nm op sub, e => if (refXs ar kl sub e).2 = 0 then ruleR ar kl k w nm op (refXs ar kl sub e).1 else (0, (refXs ar kl sub e).2)
def refXs (ar : List Arr) (kl : List Par) : List Expr → Int → List Int × Int
  | [], e => ([], e)
  | x :: xs, e => ((refX ar kl x e).1 :: (refXs ar kl xs (refX ar kl x e).2).1, (refXs ar kl xs (refX ar kl x e).2).2)
end
attribute [local simp] Cd_skip Cd_label Cd_seq Ct_false Br_notc Br_true Br_false Cd_cond Cd_block Cd_exit Cd_ret Cd_region Nx_code Nx_block Nx_ops Nx_plan  Nx_fin Nx_fin' Ex_code_exit Ex_code_ret Ex_block_exit Ex_block_ret Ex_round_exit Ex_round_ret Ex_fin_ret Ex_fin_ret' Pn_code Pn_block Pn_ops Pn_plan Pn_round Pn_fin Os_nil Os_cons gK_some Gt_some Gt_nil Gt_cons run_code run_op run_skip O1_eq Pl_done Pl_stop Pl_first Pl_alt cK_some qK_some asCall asPan actK_some panOf_some condK_some map_re_c map_kill_c map_keep_c map_frz_c re_cc kill_cc keep_cc frz_cc leCs_refl finA finR idl headOf allB
attribute [local simp] wantedA act quiet opd opg TV.acc imp ofConst St.get St.put St.putG orElse one1 one2 binA unA convA idxA strLen maxA minA TV.flat TV.int TV.bool TV.cells UV.cells CV.els TV.els viewOf PV.nv CV.nv peekC_eq peekB peekG peekH peekP_eq peekPB allP allNv allPs allNv_c allNv_append allP_append allPs_append rowsNv_eq at_ cellAt PV.down PV.elem readAt loadOp bump fieldAddrOp fieldOp indexAddrOp extractOp nilCheckOp lenOp boundOf sliceOp fillCells buildOp pickOp Tab.fld Tab.place tabOf_ti tabOf_mapT tabOf_stc tabOf_arr tabOf_elem tabOf_glob mk busy TV.isPtr TV.isMap keyOK keysOf lookupOp mapOf lookC_some lookC_none findK_nil findK_yes findK_no eqKey_lit eqKey_int mapLen_eq look lay del
attribute [local simp] makeMapOp updateOp insK_some insK_none insC_some insC_none frzMp allocOp boxOp storeOp killOf writeAt moves grabOf takeAt putAt PV.put setCell CV.isView CV.strip CV.stripP strip_cc map_strip_c any_view_c any_view_cc mapM_strip_eq stripL stripL_c mapM_strip_cc frzR_frz frzE_frz stripL_append Ew.newObj newReg rowsOf stripRows movesR buildSliceOp makeSliceOp srcOf baseOf appendOp room killM St.kill Kl.b Kl.h Cap.hit TV.kill UV.kill CV.kill MC.kill capOf capsOf plainCaps mkClo capTV calleeOf panArg resV resT resUs
attribute [local simp] toNew toOld view TV.re UV.re CV.re MC.re Cap.re caps_re leT leU leC leCs leMs leM leTs St.le St.re keysOK  roots_p map_re_p map_re_p' roots_c roots_cc shownOf shownBy pairsOf number deeper addAll MC.live TV.roots CV.roots MC.roots Cap.roots callIs numsOK liveAll start List.range_succ callSt afterMem newPart_nil newPart_cons oldPart_eq oldGo back isKey stays inRange aliveO aliveM MC.isMap aliveR aliveP MC.isObj MC.isReg Cap.alive CV.keep UV.keep TV.keep MC.keep span St.frz frzM TV.frz UV.frz CV.frz MC.frz frzO frzC Cap.frz PV.frz frzE frzR
attribute [local simp] encEs_len encE_len encE_nv encE_take encEs_at encIs_len encIs_nv encIs_app encAs_len encAs_at encA
set_option maxRecDepth 8000
set_option maxHeartbeats 2000000
theorem f22 (p : Pro) (c' kn : PV) (kl : List Par) (hA : p.arrays.length < 1000000) (hL : kl.length < 1000000) (hk : Holds kn kl) (n : Nat) : ∀ (x : Expr) (e : Int), nodes x ≤ n → nodes x < 1000000 → wellE x = true →
    Meets Tryd.prog (tabOf Tryd.prog GG) 22 [.a (.ptr 1000000 0 []), vE x] [(1000000, .obj [.c (.sl 3 (encAs p.arrays)), .c (.sl 4 (encFs p.funcs)), .c c', .c kn, cI e])] (.ret (vI (refX p.arrays kl x e).1)) [(1000000, .obj [.c (.sl 3 (encAs p.arrays)), .c (.sl 4 (encFs p.funcs)), .c c', .c kn, cI (refX p.arrays kl x e).2])] := by
  induction n with
  | zero => intro x e h _; cases x; simp [nodes] at h
  | succ n ih =>
    intro x e hn hx hwell
    obtain ⟨k, w, b, nm, op, sub⟩ := x
    simp only [nodes] at hn hx
    have hsl := nodesL_len sub
    rw [wellE, Bool.and_eq_true, Bool.and_eq_true] at hwell
    obtain ⟨⟨hw1, hw2⟩, hw3⟩ := hwell
    refine meets_of (tabOf_ok _ _) [] Tryd.f22 98 [.tmp 4] (by kernel_rfl) (by kernel_rfl) rfl rfl rfl rfl false ?_
    simp [encE]
    refine Cd_for (fun q : Nat × List Int × Int => ⟨[.a (.ptr 1000000 0 []), .bot, .bot, .a (.ptr 3 0 []), .bot, .a (.view 5 0 []), vI q.1, .bot, .bot, .bot, .bot, .bot, .bot, .bot, .bot, .bot, .bot, .bot, .bot, .bot, .bot, .bot, .bot, .bot, .bot, .bot, .bot, .bot, .bot, .bot, .bot, .bot, .bot, .bot, .bot, .bot, .bot, .bot, .bot, .bot, .bot, .bot, .bot, .bot, .bot, .bot, .bot, .bot, .bot, .bot, .bot, .bot, .bot, .bot, .bot, .bot, .bot, .bot, .bot, .bot, .bot, .bot, .bot, .bot, .bot, .bot, .bot, .bot, .bot, .bot, .bot, .bot, .bot, .bot, .bot, .bot, .bot, .bot, .bot, .bot, .bot, .bot, .bot, .bot, .bot, .bot, .bot, .bot, .bot, .bot, .bot, .bot, .bot, .bot, .bot, .bot, .bot, .bot], [(1000000, .obj [.c (.sl 3 (encAs p.arrays)), .c (.sl 4 (encFs p.funcs)), .c c', .c kn, cI q.2.2]), (3, .obj ((encE (.mk k w b nm op sub)).map CV.c)), (5, .reg (.vec 1 (encIs q.2.1)))]⟩)
      (fun q => q.1 ≤ sub.length ∧ q.2.1.length = q.1 ∧ q.2.1 ++ (refXs p.arrays kl (sub.drop q.1) q.2.2).1 = (refXs p.arrays kl sub e).1 ∧ (refXs p.arrays kl (sub.drop q.1) q.2.2).2 = (refXs p.arrays kl sub e).2)
      (fun q => sub.length - q.1) (0, [], e) ⟨by simp, by simp, by simp, by simp⟩ ((Imp.ownNil 5 1 rfl (by simp)).trans (Imp.le (by simp [encE, encIs]))) ?_
    rintro ⟨i, L, e1⟩ ⟨hi, u1, u2, u3⟩
    simp at hi u1 u2 u3
    simp [encE]
    refine Br_intro (fun h => ?_) (fun h => ?_)
    · simp at h
      simp [h, encE]
      have hd : sub.drop i = sub[i] :: sub.drop (i + 1) := List.drop_eq_getElem_cons h
      rw [hd, refXs] at u2 u3
      have hb := nodes_le (List.getElem_mem h)
      have hwi : wellE sub[i] = true := by
        rw [wellEs_all] at hw3
        exact List.all_eq_true.1 hw3 _ (List.getElem_mem h)
      have h2 : IntKind.i64.wrap ((i : Int) + 1) = ((i + 1 : Nat) : Int) := wrap64 (by omega) ⟨by omega, by omega⟩
      refine Call_own (ih sub[i] e1 (by omega) (by omega) hwi) (by simp) ?_
      have r1 : (L.length + 1) * 8 ≤ 140737488355328 := by omega
      have r2 : L.length ≤ 140737488355327 := by omega
      simp [r1, r2, h2]
      exact Nx_for (i + 1, L ++ [(refX p.arrays kl sub[i] e1).1], (refX p.arrays kl sub[i] e1).2) ⟨by omega, by simp; omega, by rw [← u2]; simp, by rw [← u3]⟩ (by simp; omega) (Imp.to [(1000000, 1000000), (3, 3), (5, 24)] (by simp) (by simp [encE]))
    · simp at h
      have hnil : sub.drop i = [] := by simp; omega
      rw [hnil, refXs] at u2 u3
      simp at u2 u3
      have hLl : L.length = sub.length := by omega
      simp
      refine Br_intro (fun g => ?_) (fun g => ?_) <;> simp at g
      rotate_left
      · have hX : refX p.arrays kl (.mk k w b nm op sub) e = (0, e1) := by rw [refX, ← u3, if_neg g]
        simp [hX]
      subst g
      have hX : refX p.arrays kl (.mk k w b nm op sub) e = ruleR p.arrays kl k w nm op L := by rw [refX, ← u3, if_pos rfl, u2]
      rw [hX]
      simp [encE]
      by_cases h2 : k = 2
      · subst h2
        simp
        refine Call_own (f48 _ _ _ _ _ _ nm hL hk ⟨_, rfl⟩) (by simp) ?_
        simp
        refine Call_own (f47 _ _ _ _ _ _ _ _ hk) (by simp) ?_
        simp
        refine Call_own (f48 _ _ _ _ _ _ nm hL hk ⟨_, rfl⟩) (by simp) ?_
        simp [ruleR]
      simp [h2]
      by_cases h3 : k = 3
      · subst h3
        simp
        obtain ⟨a, rfl⟩ : ∃ a, L = [a] := by
          match L, hLl, (by simpa [partsE] using hw2 : (sub.length : Int) = 1) with
          | [a], _, _ => exact ⟨a, rfl⟩
          | [], h1, h2 => simp at h1; omega
          | a :: b :: r, h1, h2 => simp at h1; omega
        have hn : Meets Tryd.prog (tabOf Tryd.prog GG) 49 [vPro p, vT nm] [] (.ret (vI (ixT (p.arrays.map Arr.name) nm 0))) [] := f49 p nm hA
        refine Cd_draw (.first 0 (.first 1 (.first 2 (.first 4 (.alt 3 (.alt 5 (.alt 6 (.first 7 .done) .stop) .stop) (.alt 5 (.alt 3 (.alt 6 (.first 7 .done) .stop) .stop) .stop)))))) (by kernel_rfl) (by kernel_rfl) (by kernel_rfl) ?_
        simp
        refine Call_pure hn ?_
        simp
        rcases ixT_range nm (p.arrays.map Arr.name) 0 with hix | ⟨j, hix, hj⟩
        · simp [hix]
          refine Call_own (f47 _ _ _ _ _ _ _ _ hk) (by simp) ?_
          simp [ruleR, hix]
        · simp at hix hj
          have hjn : ¬ ((j : Int) < 0) := by omega
          simp [hix, hj, hjn, encIs]
          refine Call_own (f47 _ _ _ _ _ _ _ _ hk) (by simp) ?_
          simp [ruleR, hix, hj, hjn, widA]
      simp [h3]
      by_cases h4 : k = 4
      · subst h4
        obtain ⟨a, rfl⟩ : ∃ a, L = [a] := by
          match L, hLl, (by simpa [partsE] using hw2 : (sub.length : Int) = 1) with
          | [a], _, _ => exact ⟨a, rfl⟩
          | [], h1, h2 => simp at h1; omega
          | a :: b :: r, h1, h2 => simp at h1; omega
        simp [encIs, ruleR]
      simp [h4]
      by_cases h5 : k = 5
      · subst h5
        obtain ⟨a, rfl⟩ : ∃ a, L = [a] := by
          match L, hLl, (by simpa [partsE] using hw2 : (sub.length : Int) = 1) with
          | [a], _, _ => exact ⟨a, rfl⟩
          | [], h1, h2 => simp at h1; omega
          | a :: b :: r, h1, h2 => simp at h1; omega
        simp [encIs, ruleR]
      simp [h5]
      by_cases h6 : k = 6
      · subst h6
        obtain ⟨a, c, rfl⟩ : ∃ a c, L = [a, c] := by
          match L, hLl, (by simpa [partsE] using hw2 : (sub.length : Int) = 2) with
          | [a, c], _, _ => exact ⟨a, c, rfl⟩
          | [], h1, h2 => simp at h1; omega
          | [a], h1, h2 => simp at h1; omega
          | a :: b :: c :: r, h1, h2 => simp at h1; omega
        simp
        refine Cd_draw (.first 0 (.first 1 (.first 2 (.first 4 (.first 5 (.alt 3 (.alt 6 (.first 7 (.alt 8 .done .stop)) .stop) (.alt 6 (.alt 3 (.first 7 (.alt 8 .done .stop)) .stop) .stop))))))) (by kernel_rfl) (by kernel_rfl) (by kernel_rfl) ?_
        simp [encIs]
        refine Call_own (f47 _ _ _ _ _ _ _ _ hk) (by simp) ?_
        simp
        refine Br_intro (fun g2 => ?_) (fun g2 => ?_) <;> simp at g2
        · simp [ruleR, g2]
        · have g3 : ¬ (16 ≤ op) := by omega
          simp [ruleR, g3]
      simp [h6, ruleR, h2, h3, h4, h5]
end Go.Ew
end
