/- What functions of the seat do: parameters, closures. -/
import Derived.Test.YtlkoaemljkdioaaDoorDA
section
/- Functions of the seat: the checkers' objects. -/
open Go Go.Proofs Go.Ew
namespace Go.Ew
/-- A cell that holds parameters. -/
inductive Holds : PV → List Par → Prop
  | nil : Holds (.v (.slice none 0 0)) []
  | sl (l : List Par) : Holds (.sl 2 (encPs l)) l
  | own (l : List Par) : Holds (.vec 2 (encPs l)) l
def lookW : List Par → ByteArray → Int
  | [], _ => 0
  | p :: ps, s => if p.name.toList = s.toList then p.width else lookW ps s
abbrev cI (n : Int) : CV := .c (.v (.int .i64 n))
attribute [local simp] Cd_skip Cd_label Cd_seq Ct_false Br_notc Br_true Br_false Cd_cond Cd_block Cd_exit Cd_ret Cd_region Nx_code Nx_block Nx_ops Nx_plan  Nx_fin Nx_fin' Ex_code_exit Ex_code_ret Ex_block_exit Ex_block_ret Ex_round_exit Ex_round_ret Ex_fin_ret Ex_fin_ret' Pn_code Pn_block Pn_ops Pn_plan Pn_round Pn_fin Os_nil Os_cons gK_some Gt_some Gt_nil Gt_cons run_code run_op run_skip O1_eq Pl_done Pl_stop Pl_first Pl_alt cK_some qK_some asCall asPan actK_some panOf_some condK_some map_re_c map_kill_c map_keep_c map_frz_c re_cc kill_cc keep_cc frz_cc leCs_refl finA finR idl headOf allB
attribute [local simp] wantedA act quiet opd opg TV.acc imp ofConst St.get St.put St.putG orElse one1 one2 binA unA convA idxA strLen maxA minA TV.flat TV.int TV.bool TV.cells UV.cells CV.els TV.els viewOf PV.nv CV.nv peekC_eq peekB peekG peekH peekP_eq peekPB allP allNv allPs allNv_c allNv_append allP_append allPs_append rowsNv_eq at_ cellAt PV.down PV.elem readAt loadOp bump fieldAddrOp fieldOp indexAddrOp extractOp nilCheckOp lenOp boundOf sliceOp fillCells buildOp pickOp Tab.fld Tab.place tabOf_ti tabOf_mapT tabOf_stc tabOf_arr tabOf_elem tabOf_glob mk busy TV.isPtr TV.isMap keyOK keysOf lookupOp mapOf lookC_some lookC_none findK_nil findK_yes findK_no eqKey_lit eqKey_int mapLen_eq look lay del
attribute [local simp] makeMapOp updateOp insK_some insK_none insC_some insC_none frzMp allocOp boxOp storeOp killOf writeAt moves grabOf takeAt putAt PV.put setCell CV.isView CV.strip CV.stripP strip_cc map_strip_c any_view_c any_view_cc mapM_strip_eq stripL stripL_c mapM_strip_cc frzR_frz frzE_frz stripL_append Ew.newObj newReg rowsOf stripRows movesR buildSliceOp makeSliceOp srcOf baseOf appendOp room killM St.kill Kl.b Kl.h Cap.hit TV.kill UV.kill CV.kill MC.kill capOf capsOf plainCaps mkClo capTV calleeOf panArg resV resT resUs
attribute [local simp] toNew toOld view TV.re UV.re CV.re MC.re Cap.re caps_re leT leU leC leCs leMs leM leTs St.le St.re keysOK  roots_p map_re_p map_re_p' roots_c roots_cc shownOf shownBy pairsOf number deeper addAll MC.live TV.roots CV.roots MC.roots Cap.roots callIs numsOK liveAll start List.range_succ callSt afterMem newPart_nil newPart_cons oldPart_eq oldGo back isKey stays inRange aliveO aliveM MC.isMap aliveR aliveP MC.isObj MC.isReg Cap.alive CV.keep UV.keep TV.keep MC.keep span St.frz frzM TV.frz UV.frz CV.frz MC.frz frzO frzC Cap.frz PV.frz frzE frzR
attribute [local simp] encPs_len encPs_at encP
theorem f47 (a' b' c' : PV) (kn : PV) (l : List Par) (e e' : Int) (bad : Bool) (hk : Holds kn l) :
    Meets Tryd.prog (tabOf Tryd.prog GG) 47 [.a (.ptr 1000000 0 []), vB bad, vI e'] [(1000000, .obj [.c a', .c b', .c c', .c kn, cI e])] (.ret (.tup [])) [(1000000, .obj [.c a', .c b', .c c', .c kn, cI (if bad && decide (e = 0) then e' else e)])] := by
  cases hk
  all_goals
    refine meets_of (tabOf_ok _ _) [] Tryd.f47 18 [] (by kernel_rfl) (by kernel_rfl) rfl rfl rfl rfl false ?_
    simp
    refine Br_intro (fun h => ?_) (fun h => ?_) <;> simp [h]
    all_goals
      simp at h
      first | (intro hb; exact absurd h.2 (hb h.1)) | (intro h1 h2; exact absurd h2 (h h1))
theorem f48 (a' b' c' : PV) (kn : PV) (l : List Par) (e : CV) (s : ByteArray) (hl : l.length < 1000000) (hk : Holds kn l) (he : ∃ p, e = .c p) :
    Meets Tryd.prog (tabOf Tryd.prog GG) 48 [.a (.ptr 1000000 0 []), vT s] [(1000000, .obj [.c a', .c b', .c c', .c kn, e])] (.ret (vI (lookW l s))) [(1000000, .obj [.c a', .c b', .c c', .c kn, e])] := by
  obtain ⟨ep, rfl⟩ := he
  cases hk
  · refine meets_of (tabOf_ok _ _) [] Tryd.f48 33 [.tmp 4] (by kernel_rfl) (by kernel_rfl) rfl rfl rfl rfl false ?_
    simp
    refine Cd_for (fun i : Nat => ⟨[.a (.ptr 1000000 0 []), vT s, .bot, .bot, .bot, vI i, .bot, .bot, .bot, .bot, .bot, .bot, .bot, .bot, .bot, .bot, .bot, .bot, .bot, .bot, .bot, .bot, .bot, .bot, .bot, .bot, .bot, .bot, .bot, .bot, .bot, .bot, .bot], [(1000000, .obj [.c a', .c b', .c c', .c (.v (.slice none 0 0)), .c ep])]⟩) (fun i => i = 0) (fun i => 0) 0 rfl (Imp.le (by simp)) ?_
    rintro i rfl
    simp [lookW]
  · refine meets_of (tabOf_ok _ _) [] Tryd.f48 33 [.tmp 4] (by kernel_rfl) (by kernel_rfl) rfl rfl rfl rfl false ?_
    simp
    refine Cd_for (fun i : Nat => ⟨[.a (.ptr 1000000 0 []), vT s, .bot, .bot, .bot, vI i, .bot, .bot, .bot, .bot, .bot, .bot, .bot, .bot, .bot, .bot, .bot, .bot, .bot, .bot, .bot, .bot, .bot, .bot, .bot, .bot, .bot, .bot, .bot, .bot, .bot, .bot, .bot], [(1000000, .obj [.c a', .c b', .c c', .c (.sl 2 (encPs l)), .c ep])]⟩)
      (fun i => i ≤ l.length ∧ lookW (l.drop i) s = lookW l s) (fun i => l.length - i) 0 ⟨by simp, by simp⟩ (Imp.le (by simp)) ?_
    rintro i ⟨hi, hw⟩
    simp
    refine Br_intro (fun h => ?_) (fun h => ?_)
    · simp at h
      simp [h]
      have hd : l.drop i = l[i] :: l.drop (i + 1) := List.drop_eq_getElem_cons h
      rw [hd, lookW] at hw
      have h2 : IntKind.i64.wrap ((i : Int) + 1) = ((i + 1 : Nat) : Int) := wrap64 (by omega) ⟨by omega, by omega⟩
      refine Br_intro (fun h' => ?_) (fun h' => ?_)
      · simp at h'
        rw [if_pos h'] at hw
        simp [h', h, hw]
      · simp at h'
        rw [if_neg h'] at hw
        simp [h', h2]
        exact Nx_for (i + 1) ⟨by omega, hw⟩ (by omega) (Imp.le (by simp))
    · simp at h
      have : l.drop i = [] := by simp; omega
      rw [this, lookW] at hw
      simp [h, ← hw]
  · refine meets_of (tabOf_ok _ _) [] Tryd.f48 33 [.tmp 4] (by kernel_rfl) (by kernel_rfl) rfl rfl rfl rfl false ?_
    simp
    refine Cd_for (fun i : Nat => ⟨[.a (.ptr 1000000 0 []), vT s, .bot, .bot, .bot, vI i, .bot, .bot, .bot, .bot, .bot, .bot, .bot, .bot, .bot, .bot, .bot, .bot, .bot, .bot, .bot, .bot, .bot, .bot, .bot, .bot, .bot, .bot, .bot, .bot, .bot, .bot, .bot], [(1000000, .obj [.c a', .c b', .c c', .c (.vec 2 (encPs l)), .c ep])]⟩)
      (fun i => i ≤ l.length ∧ lookW (l.drop i) s = lookW l s) (fun i => l.length - i) 0 ⟨by simp, by simp⟩ (Imp.le (by simp)) ?_
    rintro i ⟨hi, hw⟩
    simp
    refine Br_intro (fun h => ?_) (fun h => ?_)
    · simp at h
      simp [h]
      have hd : l.drop i = l[i] :: l.drop (i + 1) := List.drop_eq_getElem_cons h
      rw [hd, lookW] at hw
      have h2 : IntKind.i64.wrap ((i : Int) + 1) = ((i + 1 : Nat) : Int) := wrap64 (by omega) ⟨by omega, by omega⟩
      refine Br_intro (fun h' => ?_) (fun h' => ?_)
      · simp at h'
        rw [if_pos h'] at hw
        simp [h', h, hw]
      · simp at h'
        rw [if_neg h'] at hw
        simp [h', h2]
        exact Nx_for (i + 1) ⟨by omega, hw⟩ (by omega) (Imp.le (by simp))
    · simp at h
      have : l.drop i = [] := by simp; omega
      rw [this, lookW] at hw
      simp [h, ← hw]
theorem f39 (a0 a1 a2 a3 a4 a5 : PV) (kn : PV) (l : List Par) (s : ByteArray) (hl : l.length < 1000000) (hk : Holds kn l) :
    Meets Tryd.prog (tabOf Tryd.prog GG) 39 [.a (.ptr 1000000 0 []), vT s] [(1000000, .obj [.c a0, .c a1, .c a2, .c a3, .c a4, .c a5, .c kn])] (.ret (vI (lookW l s))) [(1000000, .obj [.c a0, .c a1, .c a2, .c a3, .c a4, .c a5, .c kn])] := by
  cases hk
  · refine meets_of (tabOf_ok _ _) [] Tryd.f39 23 [.tmp 4] (by kernel_rfl) (by kernel_rfl) rfl rfl rfl rfl false ?_
    simp
    refine Cd_for (fun i : Nat => ⟨[.bot, vT s, .bot, .bot, .bot, .bot, .bot, .bot, .bot, .bot, .val (.slice none 0 0), vI 0, vI i, .bot, .bot, .bot, .bot, .bot, .bot, .bot, .bot, .bot, .bot], [(1000000, .obj [.c a0, .c a1, .c a2, .c a3, .c a4, .c a5, .c (.v (.slice none 0 0))])]⟩) (fun i => i = 0) (fun i => 0) 0 rfl (Imp.le (by simp)) ?_
    rintro i rfl
    simp [lookW]
  · refine meets_of (tabOf_ok _ _) [] Tryd.f39 23 [.tmp 4] (by kernel_rfl) (by kernel_rfl) rfl rfl rfl rfl false ?_
    simp
    refine Cd_for (fun i : Nat => ⟨[.bot, vT s, .bot, .bot, .bot, .bot, .bot, .bot, .bot, .bot, vPars l, vI l.length, vI i, .bot, .bot, .bot, .bot, .bot, .bot, .bot, .bot, .bot, .bot], [(1000000, .obj [.c a0, .c a1, .c a2, .c a3, .c a4, .c a5, .c (.sl 2 (encPs l))])]⟩)
      (fun i => i ≤ l.length ∧ lookW (l.drop i) s = lookW l s) (fun i => l.length - i) 0 ⟨by simp, by simp⟩ (Imp.le (by simp)) ?_
    rintro i ⟨hi, hw⟩
    simp
    refine Br_intro (fun h => ?_) (fun h => ?_)
    · simp at h
      simp [h]
      have hd : l.drop i = l[i] :: l.drop (i + 1) := List.drop_eq_getElem_cons h
      rw [hd, lookW] at hw
      have h2 : IntKind.i64.wrap ((i : Int) + 1) = ((i + 1 : Nat) : Int) := wrap64 (by omega) ⟨by omega, by omega⟩
      refine Br_intro (fun h' => ?_) (fun h' => ?_)
      · simp at h'
        rw [if_pos h'] at hw
        simp [h', h, hw]
      · simp at h'
        rw [if_neg h'] at hw
        simp [h', h2]
        exact Nx_for (i + 1) ⟨by omega, hw⟩ (by omega) (Imp.le (by simp))
    · simp at h
      have : l.drop i = [] := by simp; omega
      rw [this, lookW] at hw
      simp [h, ← hw]
  · refine meets_of (tabOf_ok _ _) [] Tryd.f39 23 [.tmp 4] (by kernel_rfl) (by kernel_rfl) rfl rfl rfl rfl false ?_
    simp
    refine Cd_for (fun i : Nat => ⟨[.bot, vT s, .bot, .bot, .bot, .bot, .bot, .bot, .bot, .bot, .a (.view 1000000 6 []), vI l.length, vI i, .bot, .bot, .bot, .bot, .bot, .bot, .bot, .bot, .bot, .bot], [(1000000, .obj [.c a0, .c a1, .c a2, .c a3, .c a4, .c a5, .c (.vec 2 (encPs l))])]⟩)
      (fun i => i ≤ l.length ∧ lookW (l.drop i) s = lookW l s) (fun i => l.length - i) 0 ⟨by simp, by simp⟩ (Imp.le (by simp)) ?_
    rintro i ⟨hi, hw⟩
    simp
    refine Br_intro (fun h => ?_) (fun h => ?_)
    · simp at h
      simp [h]
      have hd : l.drop i = l[i] :: l.drop (i + 1) := List.drop_eq_getElem_cons h
      rw [hd, lookW] at hw
      have h2 : IntKind.i64.wrap ((i : Int) + 1) = ((i + 1 : Nat) : Int) := wrap64 (by omega) ⟨by omega, by omega⟩
      refine Br_intro (fun h' => ?_) (fun h' => ?_)
      · simp at h'
        rw [if_pos h'] at hw
        simp [h', h, hw]
      · simp at h'
        rw [if_neg h'] at hw
        simp [h', h2]
        exact Nx_for (i + 1) ⟨by omega, hw⟩ (by omega) (Imp.le (by simp))
    · simp at h
      have : l.drop i = [] := by simp; omega
      rw [this, lookW] at hw
      simp [h, ← hw]
end Go.Ew
end
section
/- Functions of the seat: what makes a variable known. -/
open Go Go.Proofs Go.Ew
namespace Go.Ew
inductive Grows : PV → List Par → Prop
  | nil : Grows (.v (.slice none 0 0)) []
  | own (l : List Par) : Grows (.vec 2 (encPs l)) l
theorem Grows.holds {kn : PV} {l : List Par} (h : Grows kn l) : Holds kn l := by
  cases h
  · exact .nil
  · exact .own l
def twiceX (l : List Par) (ar : List Arr) (s : ByteArray) : Bool := decide (0 < lookW l s) || decide (0 ≤ ixT (ar.map Arr.name) s 0)
attribute [local simp] Cd_skip Cd_label Cd_seq Ct_false Br_notc Br_true Br_false Cd_cond Cd_block Cd_exit Cd_ret Cd_region Nx_code Nx_block Nx_ops Nx_plan  Nx_fin Nx_fin' Ex_code_exit Ex_code_ret Ex_block_exit Ex_block_ret Ex_round_exit Ex_round_ret Ex_fin_ret Ex_fin_ret' Pn_code Pn_block Pn_ops Pn_plan Pn_round Pn_fin Os_nil Os_cons gK_some Gt_some Gt_nil Gt_cons run_code run_op run_skip O1_eq Pl_done Pl_stop Pl_first Pl_alt cK_some qK_some asCall asPan actK_some panOf_some condK_some map_re_c map_kill_c map_keep_c map_frz_c re_cc kill_cc keep_cc frz_cc leCs_refl finA finR idl headOf allB
attribute [local simp] wantedA act quiet opd opg TV.acc imp ofConst St.get St.put St.putG orElse one1 one2 binA unA convA idxA strLen maxA minA TV.flat TV.int TV.bool TV.cells UV.cells CV.els TV.els viewOf PV.nv CV.nv peekC_eq peekB peekG peekH peekP_eq peekPB allP allNv allPs allNv_c allNv_append allP_append allPs_append rowsNv_eq at_ cellAt PV.down PV.elem readAt loadOp bump fieldAddrOp fieldOp indexAddrOp extractOp nilCheckOp lenOp boundOf sliceOp fillCells buildOp pickOp Tab.fld Tab.place tabOf_ti tabOf_mapT tabOf_stc tabOf_arr tabOf_elem tabOf_glob mk busy TV.isPtr TV.isMap keyOK keysOf lookupOp mapOf lookC_some lookC_none findK_nil findK_yes findK_no eqKey_lit eqKey_int mapLen_eq look lay del
attribute [local simp] makeMapOp updateOp insK_some insK_none insC_some insC_none frzMp allocOp boxOp storeOp killOf writeAt moves grabOf takeAt putAt PV.put setCell CV.isView CV.strip CV.stripP strip_cc map_strip_c any_view_c any_view_cc mapM_strip_eq stripL stripL_c mapM_strip_cc frzR_frz frzE_frz stripL_append Ew.newObj newReg rowsOf stripRows movesR buildSliceOp makeSliceOp srcOf baseOf appendOp room killM St.kill Kl.b Kl.h Cap.hit TV.kill UV.kill CV.kill MC.kill capOf capsOf plainCaps mkClo capTV calleeOf panArg resV resT resUs
attribute [local simp] toNew toOld view TV.re UV.re CV.re MC.re Cap.re caps_re leT leU leC leCs leMs leM leTs St.le St.re keysOK  roots_p map_re_p map_re_p' roots_c roots_cc shownOf shownBy pairsOf number deeper addAll MC.live TV.roots CV.roots MC.roots Cap.roots callIs numsOK liveAll start List.range_succ callSt afterMem newPart_nil newPart_cons oldPart_eq oldGo back isKey stays inRange aliveO aliveM MC.isMap aliveR aliveP MC.isObj MC.isReg Cap.alive CV.keep UV.keep TV.keep MC.keep span St.frz frzM TV.frz UV.frz CV.frz MC.frz frzO frzC Cap.frz PV.frz frzE frzR
attribute [local simp] encPs_len encPs_at encP
set_option maxRecDepth 20000
theorem encPs_app (l m : List Par) : encPs l ++ encPs m = encPs (l ++ m) := by simp [encPs]
theorem f32 (p : Pro) (c' : PV) (kn : PV) (l : List Par) (e : Int) (v : Par) (hl : l.length < 1000000) (hA : p.arrays.length < 1000000) (hk : Grows kn l) :
    Meets Tryd.prog (tabOf Tryd.prog GG) 32 [.a (.ptr 1000000 0 []), vPar v] [(1000000, .obj [.c (.sl 3 (encAs p.arrays)), .c (.sl 4 (encFs p.funcs)), .c c', .c kn, cI e])] (.ret (.tup [])) [(1000000, .obj [.c (.sl 3 (encAs p.arrays)), .c (.sl 4 (encFs p.funcs)), .c c', .c (.vec 2 (encPs (l ++ [v]))), cI (if twiceX l p.arrays v.name && decide (e = 0) then 18 else e)])] := by
  have r1 : (l.length + 1) * 24 ≤ 140737488355328 := by omega
  have r2 : l.length ≤ 140737488355327 := by omega
  have hh := hk.holds
  cases hk
  all_goals
    refine meets_of (tabOf_ok _ _) [] Tryd.f32 31 [] (by kernel_rfl) (by kernel_rfl) rfl rfl rfl rfl false ?_
    simp
    refine Cd_draw (.first 0 (.first 1 (.first 2 (.alt 3 (.alt 4 (.first 5 (.first 6 (.first 7 (.first 8 (.first 9 (.first 11 (.alt 10 (.alt 12 (.alt 13 (.first 14 (.first 15 (.alt 16 .done .stop))) .stop) .stop) (.alt 12 (.alt 10 (.alt 13 (.first 14 (.first 15 (.alt 16 .done .stop))) .stop) .stop) .stop)))))))) .stop) .stop)))) (by kernel_rfl) (by kernel_rfl) (by kernel_rfl) ?_
    simp
    refine Call_own (f48 _ _ _ _ _ _ _ hl hh ⟨_, rfl⟩) (by simp) ?_
    simp
    refine Br_call (.one (.c (.v (.int .i64 (ixT (p.arrays.map Arr.name) v.name 0))))) (by rfl) (by rfl) (fun _ => f49 p v.name hA) (fun h => by simp [h]) ?_
    simp
    refine Call_own (f47 _ _ _ _ _ _ _ _ hh) (by simp) ?_
    simp
    refine Cd_draw (.first 0 (.first 1 (.first 2 (.first 3 (.alt 4 (.alt 5 (.alt 6 (.alt 7 (.first 8 (.first 9 (.alt 10 .done .stop))) .stop) .stop) .stop) (.alt 5 (.alt 4 (.alt 6 (.alt 7 (.first 8 (.first 9 (.alt 10 .done .stop))) .stop) .stop) (.alt 6 (.alt 4 (.alt 7 (.first 8 (.first 9 (.alt 10 .done .stop))) .stop) .stop) .stop)) .stop)))))) (by kernel_rfl) (by kernel_rfl) (by kernel_rfl) ?_
    simp [encPs, twiceX, r1, r2]
end Go.Ew
end
section
/- Functions of the seat: closures; finding by name. -/
open Go Go.Proofs Go.Ew
namespace Go.Ew
def ixP {α : Type} (f : α → Bool) : List α → Nat → Int
  | [], _ => -1
  | x :: xs, i => if f x then (i : Int) else ixP f xs (i + 1)
theorem ixP_name (l : List Arr) (v : ByteArray) : ∀ i, ixP (fun a : Arr => decide (a.name.toList = v.toList)) l i = ixT (l.map Arr.name) v i := by
  induction l with
  | nil => intro i; rfl
  | cons x xs ih => intro i; simp [ixP, ixT, ih]
attribute [local simp] Cd_skip Cd_label Cd_seq Ct_false Br_notc Br_true Br_false Cd_cond Cd_block Cd_exit Cd_ret Cd_region Nx_code Nx_block Nx_ops Nx_plan  Nx_fin Nx_fin' Ex_code_exit Ex_code_ret Ex_block_exit Ex_block_ret Ex_round_exit Ex_round_ret Ex_fin_ret Ex_fin_ret' Pn_code Pn_block Pn_ops Pn_plan Pn_round Pn_fin Os_nil Os_cons gK_some Gt_some Gt_nil Gt_cons run_code run_op run_skip O1_eq Pl_done Pl_stop Pl_first Pl_alt cK_some qK_some asCall asPan actK_some panOf_some condK_some map_re_c map_kill_c map_keep_c map_frz_c re_cc kill_cc keep_cc frz_cc leCs_refl finA finR idl headOf allB
attribute [local simp] wantedA act quiet opd opg TV.acc imp ofConst St.get St.put St.putG orElse one1 one2 binA unA convA idxA strLen maxA minA TV.flat TV.int TV.bool TV.cells UV.cells CV.els TV.els viewOf PV.nv CV.nv peekC_eq peekB peekG peekH peekP_eq peekPB allP allNv allPs allNv_c allNv_append allP_append allPs_append rowsNv_eq at_ cellAt PV.down PV.elem readAt loadOp bump fieldAddrOp fieldOp indexAddrOp extractOp nilCheckOp lenOp boundOf sliceOp fillCells buildOp pickOp Tab.fld Tab.place tabOf_ti tabOf_mapT tabOf_stc tabOf_arr tabOf_elem tabOf_glob mk busy TV.isPtr TV.isMap keyOK keysOf lookupOp mapOf lookC_some lookC_none findK_nil findK_yes findK_no eqKey_lit eqKey_int mapLen_eq look lay del
attribute [local simp] makeMapOp updateOp insK_some insK_none insC_some insC_none frzMp allocOp boxOp storeOp killOf writeAt moves grabOf takeAt putAt PV.put setCell CV.isView CV.strip CV.stripP strip_cc map_strip_c any_view_c any_view_cc mapM_strip_eq stripL stripL_c mapM_strip_cc frzR_frz frzE_frz stripL_append Ew.newObj newReg rowsOf stripRows movesR buildSliceOp makeSliceOp srcOf baseOf appendOp room killM St.kill Kl.b Kl.h Cap.hit TV.kill UV.kill CV.kill MC.kill capOf capsOf plainCaps mkClo capTV calleeOf panArg resV resT resUs
attribute [local simp] toNew toOld view TV.re UV.re CV.re MC.re Cap.re caps_re leT leU leC leCs leMs leM leTs St.le St.re keysOK  roots_p map_re_p map_re_p' roots_c roots_cc shownOf shownBy pairsOf number deeper addAll MC.live TV.roots CV.roots MC.roots Cap.roots callIs numsOK liveAll start List.range_succ callSt afterMem newPart_nil newPart_cons oldPart_eq oldGo back isKey stays inRange aliveO aliveM MC.isMap aliveR aliveP MC.isObj MC.isReg Cap.alive CV.keep UV.keep TV.keep MC.keep span St.frz frzM TV.frz UV.frz CV.frz MC.frz frzO frzC Cap.frz PV.frz frzE frzR
attribute [local simp] encAs_len encAs_at encFs_len encFs_at encPs_len encPs_at encA encF encP
theorem f72 (a : Arr) (v : ByteArray) : Meets Tryd.prog (tabOf Tryd.prog GG) 72 [vArr a, .p (.ref [.v (.string v)])] [] (.ret (vB (decide (a.name.toList = v.toList)))) [] := by
  refine meets_of (tabOf_ok _ _) [] Tryd.f72 8 [.tmp 3] (by kernel_rfl) (by kernel_rfl) rfl rfl rfl rfl false ?_
  simp
theorem f71 (l : List Arr) (g : FuncId) (cap : List PV) (f : Arr → Bool) (hl : l.length < 1000000) (hg : ∀ a ∈ l, Meets Tryd.prog (tabOf Tryd.prog GG) g (vArr a :: cap.map .p) [] (.ret (vB (f a))) []) :
    Meets Tryd.prog (tabOf Tryd.prog GG) 71 [.p (.sl 3 (encAs l)), .p (.clo g cap)] [] (.ret (vI (ixP f l 0))) [] := by
  refine meets_of (tabOf_ok _ _) [] Tryd.f71 19 [.tmp 4] (by kernel_rfl) (by kernel_rfl) rfl rfl rfl rfl false ?_
  simp
  refine Cd_for (fun i : Nat => ⟨[.p (.sl 3 (encAs l)), .p (.clo g cap), .bot, .bot, .bot, .bot, .bot, vI l.length, vI i, .bot, .bot, .bot, .bot, .bot, .bot, .bot, .bot, .bot, .bot], []⟩)
    (fun i => i ≤ l.length ∧ ixP f (l.drop i) i = ixP f l 0) (fun i => l.length - i) 0 ⟨by simp, by simp⟩ (Imp.le (by simp)) ?_
  rintro i ⟨hi, hw⟩
  simp
  refine Br_intro (fun h => ?_) (fun h => ?_)
  · simp at h
    simp [h]
    have hd : l.drop i = l[i] :: l.drop (i + 1) := List.drop_eq_getElem_cons h
    rw [hd, ixP] at hw
    have h2 : IntKind.i64.wrap ((i : Int) + 1) = ((i + 1 : Nat) : Int) := wrap64 (by omega) ⟨by omega, by omega⟩
    have hm := hg l[i] (List.getElem_mem h)
    refine Call_pure (r := vB (f l[i])) hm ?_
    simp
    refine Br_intro (fun h' => ?_) (fun h' => ?_)
    · rw [if_pos h'] at hw
      simp [h', hw]
    · rw [if_neg (by simp [h'])] at hw
      simp [h', h2]
      exact Nx_for (i + 1) ⟨by omega, hw⟩ (by omega) (Imp.le (by simp))
  · simp at h
    have : l.drop i = [] := by simp; omega
    rw [this, ixP] at hw
    simp [h, ← hw]
theorem f40 (p : Pro) (v : ByteArray) (hl : p.arrays.length < 1000000) : Meets Tryd.prog (tabOf Tryd.prog GG) 40 [vPro p, vT v] [] (.ret (vI (ixT (p.arrays.map Arr.name) v 0))) [] := by
  refine meets_of (tabOf_ok _ _) [] Tryd.f40 9 [.tmp 4] (by kernel_rfl) (by kernel_rfl) rfl rfl rfl rfl false ?_
  simp
  refine Call_imp (Imp.frz 3) ?_
  simp
  refine Call_pure (f71 p.arrays 72 [.ref [.v (.string v)]] (fun a => decide (a.name.toList = v.toList)) hl (fun a _ => f72 a v)) ?_
  simp [ixP_name]
end Go.Ew
end
section
/- Functions of the seat: finding functions; what makes a variable known. -/
open Go Go.Proofs Go.Ew
namespace Go.Ew
theorem ixP_nameF (l : List Fun) (v : ByteArray) : ∀ i, ixP (fun a : Fun => decide (a.name.toList = v.toList)) l i = ixT (l.map Fun.name) v i := by
  induction l with
  | nil => intro i; rfl
  | cons x xs ih => intro i; simp [ixP, ixT, ih]
attribute [local simp] Cd_skip Cd_label Cd_seq Ct_false Br_notc Br_true Br_false Cd_cond Cd_block Cd_exit Cd_ret Cd_region Nx_code Nx_block Nx_ops Nx_plan  Nx_fin Nx_fin' Ex_code_exit Ex_code_ret Ex_block_exit Ex_block_ret Ex_round_exit Ex_round_ret Ex_fin_ret Ex_fin_ret' Pn_code Pn_block Pn_ops Pn_plan Pn_round Pn_fin Os_nil Os_cons gK_some Gt_some Gt_nil Gt_cons run_code run_op run_skip O1_eq Pl_done Pl_stop Pl_first Pl_alt cK_some qK_some asCall asPan actK_some panOf_some condK_some map_re_c map_kill_c map_keep_c map_frz_c re_cc kill_cc keep_cc frz_cc leCs_refl finA finR idl headOf allB
attribute [local simp] wantedA act quiet opd opg TV.acc imp ofConst St.get St.put St.putG orElse one1 one2 binA unA convA idxA strLen maxA minA TV.flat TV.int TV.bool TV.cells UV.cells CV.els TV.els viewOf PV.nv CV.nv peekC_eq peekB peekG peekH peekP_eq peekPB allP allNv allPs allNv_c allNv_append allP_append allPs_append rowsNv_eq at_ cellAt PV.down PV.elem readAt loadOp bump fieldAddrOp fieldOp indexAddrOp extractOp nilCheckOp lenOp boundOf sliceOp fillCells buildOp pickOp Tab.fld Tab.place tabOf_ti tabOf_mapT tabOf_stc tabOf_arr tabOf_elem tabOf_glob mk busy TV.isPtr TV.isMap keyOK keysOf lookupOp mapOf lookC_some lookC_none findK_nil findK_yes findK_no eqKey_lit eqKey_int mapLen_eq look lay del
attribute [local simp] makeMapOp updateOp insK_some insK_none insC_some insC_none frzMp allocOp boxOp storeOp killOf writeAt moves grabOf takeAt putAt PV.put setCell CV.isView CV.strip CV.stripP strip_cc map_strip_c any_view_c any_view_cc mapM_strip_eq stripL stripL_c mapM_strip_cc frzR_frz frzE_frz stripL_append Ew.newObj newReg rowsOf stripRows movesR buildSliceOp makeSliceOp srcOf baseOf appendOp room killM St.kill Kl.b Kl.h Cap.hit TV.kill UV.kill CV.kill MC.kill capOf capsOf plainCaps mkClo capTV calleeOf panArg resV resT resUs
attribute [local simp] toNew toOld view TV.re UV.re CV.re MC.re Cap.re caps_re leT leU leC leCs leMs leM leTs St.le St.re keysOK  roots_p map_re_p map_re_p' roots_c roots_cc shownOf shownBy pairsOf number deeper addAll MC.live TV.roots CV.roots MC.roots Cap.roots callIs numsOK liveAll start List.range_succ callSt afterMem newPart_nil newPart_cons oldPart_eq oldGo back isKey stays inRange aliveO aliveM MC.isMap aliveR aliveP MC.isObj MC.isReg Cap.alive CV.keep UV.keep TV.keep MC.keep span St.frz frzM TV.frz UV.frz CV.frz MC.frz frzO frzC Cap.frz PV.frz frzE frzR
attribute [local simp] encAs_len encAs_at encFs_len encFs_at encPs_len encPs_at encA encF encP
theorem f91 (a : Fun) (v : ByteArray) : Meets Tryd.prog (tabOf Tryd.prog GG) 91 [vFun a, .p (.ref [.v (.string v)])] [] (.ret (vB (decide (a.name.toList = v.toList)))) [] := by
  refine meets_of (tabOf_ok _ _) [] Tryd.f91 8 [.tmp 3] (by kernel_rfl) (by kernel_rfl) rfl rfl rfl rfl false ?_
  simp
theorem f75 (l : List Fun) (g : FuncId) (cap : List PV) (f : Fun → Bool) (hl : l.length < 1000000) (hg : ∀ a ∈ l, Meets Tryd.prog (tabOf Tryd.prog GG) g (vFun a :: cap.map .p) [] (.ret (vB (f a))) []) :
    Meets Tryd.prog (tabOf Tryd.prog GG) 75 [.p (.sl 4 (encFs l)), .p (.clo g cap)] [] (.ret (vI (ixP f l 0))) [] := by
  refine meets_of (tabOf_ok _ _) [] Tryd.f75 19 [.tmp 4] (by kernel_rfl) (by kernel_rfl) rfl rfl rfl rfl false ?_
  simp
  refine Cd_for (fun i : Nat => ⟨[.p (.sl 4 (encFs l)), .p (.clo g cap), .bot, .bot, .bot, .bot, .bot, vI l.length, vI i, .bot, .bot, .bot, .bot, .bot, .bot, .bot, .bot, .bot, .bot], []⟩)
    (fun i => i ≤ l.length ∧ ixP f (l.drop i) i = ixP f l 0) (fun i => l.length - i) 0 ⟨by simp, by simp⟩ (Imp.le (by simp)) ?_
  rintro i ⟨hi, hw⟩
  simp
  refine Br_intro (fun h => ?_) (fun h => ?_)
  · simp at h
    simp [h]
    have hd : l.drop i = l[i] :: l.drop (i + 1) := List.drop_eq_getElem_cons h
    rw [hd, ixP] at hw
    have h2 : IntKind.i64.wrap ((i : Int) + 1) = ((i + 1 : Nat) : Int) := wrap64 (by omega) ⟨by omega, by omega⟩
    have hm := hg l[i] (List.getElem_mem h)
    refine Call_pure (r := vB (f l[i])) hm ?_
    simp
    refine Br_intro (fun h' => ?_) (fun h' => ?_)
    · rw [if_pos h'] at hw
      simp [h', hw]
    · rw [if_neg (by simp [h'])] at hw
      simp [h', h2]
      exact Nx_for (i + 1) ⟨by omega, hw⟩ (by omega) (Imp.le (by simp))
  · simp at h
    have : l.drop i = [] := by simp; omega
    rw [this, ixP] at hw
    simp [h, ← hw]
theorem f88 (p : Pro) (v : ByteArray) (hl : p.funcs.length < 1000000) : Meets Tryd.prog (tabOf Tryd.prog GG) 88 [vPro p, vT v] [] (.ret (vI (ixT (p.funcs.map Fun.name) v 0))) [] := by
  refine meets_of (tabOf_ok _ _) [] Tryd.f88 9 [.tmp 4] (by kernel_rfl) (by kernel_rfl) rfl rfl rfl rfl false ?_
  simp
  refine Call_imp (Imp.frz 3) ?_
  simp
  refine Call_pure (f75 p.funcs 91 [.ref [.v (.string v)]] (fun a => decide (a.name.toList = v.toList)) hl (fun a _ => f91 a v)) ?_
  simp [ixP_nameF]
theorem f28 (p : Pro) (a2 a3 a4 a5 kn : PV) (l : List Par) (nm : ByteArray) (w : Int) (hl : l.length < 1000000) (hA : p.arrays.length < 1000000) (hk : Grows kn l) :
    Meets Tryd.prog (tabOf Tryd.prog GG) 28 [.a (.ptr 1000000 0 []), vT nm, vI w] [(1000000, .obj [.c (.sl 3 (encAs p.arrays)), .c (.sl 4 (encFs p.funcs)), .c a2, .c a3, .c a4, .c a5, .c kn])] (.ret (vI (if twiceX l p.arrays nm then 18 else 0))) [(1000000, .obj [.c (.sl 3 (encAs p.arrays)), .c (.sl 4 (encFs p.funcs)), .c a2, .c a3, .c a4, .c a5, .c (if twiceX l p.arrays nm then kn else .vec 2 (encPs (l ++ [⟨nm, w⟩])))])] := by
  have r1 : (l.length + 1) * 24 ≤ 140737488355328 := by omega
  have r2 : l.length ≤ 140737488355327 := by omega
  have hh := hk.holds
  cases hk
  all_goals
    refine meets_of (tabOf_ok _ _) [] Tryd.f28 32 [.tmp 6] (by kernel_rfl) (by kernel_rfl) rfl rfl rfl rfl false ?_
    simp
    refine Call_own (f39 _ _ _ _ _ _ _ _ _ hl hh) (by simp) ?_
    simp
    refine Br_call (.one (.c (.v (.int .i64 (ixT (p.arrays.map Arr.name) nm 0))))) (by rfl) (by rfl) (fun _ => f40 p nm hA) (fun h => by simp [h]) ?_
    simp
    refine Br_intro (fun h => ?_) (fun h => ?_)
    · have ht : twiceX _ p.arrays nm = true := h
      simp [h, ht]
    · have ht : twiceX _ p.arrays nm = false := h
      simp [h, ht, encPs, r1, r2]
end Go.Ew
end
