/- What functions of the seat do: the table of words, names. -/
import Derived.Test.YtlkoaemljkdioaaDoorDE
import Derived.Maps.RangeRun
import Derived.Below
import Derived.Laws.Cover1
section
open Go Go.Proofs Go.Ew Go.RowKit
namespace Go.Ew
attribute [local simp] Cd_skip Cd_label Cd_seq Ct_false Br_notc Br_true Br_false Cd_cond Cd_block Cd_exit Cd_ret Cd_region Nx_code Nx_block Nx_ops Nx_plan  Nx_fin Nx_fin' Ex_code_exit Ex_code_ret Ex_block_exit Ex_block_ret Ex_round_exit Ex_round_ret Ex_fin_ret Ex_fin_ret' Pn_code Pn_block Pn_ops Pn_plan Pn_round Pn_fin Os_nil Os_cons gK_some Gt_some Gt_nil Gt_cons run_code run_op run_skip O1_eq Pl_done Pl_stop Pl_first Pl_alt cK_some qK_some asCall asPan actK_some panOf_some condK_some map_re_c map_kill_c map_keep_c map_frz_c re_cc kill_cc keep_cc frz_cc leCs_refl finA finR idl headOf allB
attribute [local simp] wantedA act quiet opd opg TV.acc imp ofConst St.get St.put St.putG orElse one1 one2 binA unA convA idxA strLen maxA minA TV.flat TV.int TV.bool TV.cells UV.cells CV.els TV.els viewOf PV.nv CV.nv peekC_eq peekB peekG peekH peekP_eq peekPB allP allNv allPs allNv_c allNv_append allP_append allPs_append rowsNv_eq at_ cellAt PV.down PV.elem readAt loadOp bump fieldAddrOp fieldOp indexAddrOp extractOp nilCheckOp lenOp boundOf sliceOp fillCells buildOp pickOp Tab.fld Tab.place tabOf_ti tabOf_mapT tabOf_stc tabOf_arr tabOf_elem tabOf_glob mk busy TV.isPtr TV.isMap keyOK keysOf lookupOp mapOf lookC_some lookC_none findK_nil findK_yes findK_no eqKey_lit eqKey_int mapLen_eq look lay del
attribute [local simp] makeMapOp updateOp insK_some insK_none insC_some insC_none frzMp allocOp boxOp storeOp killOf writeAt moves grabOf takeAt putAt PV.put setCell CV.isView CV.strip CV.stripP strip_cc map_strip_c any_view_c any_view_cc mapM_strip_eq stripL stripL_c mapM_strip_cc frzR_frz frzE_frz stripL_append Ew.newObj newReg rowsOf stripRows movesR buildSliceOp makeSliceOp srcOf baseOf appendOp room killM St.kill Kl.b Kl.h Cap.hit TV.kill UV.kill CV.kill MC.kill capOf capsOf plainCaps mkClo capTV calleeOf panArg resV resT resUs
attribute [local simp] toNew toOld view TV.re UV.re CV.re MC.re Cap.re caps_re leT leU leC leCs leMs leM leTs St.le St.re keysOK  roots_p map_re_p map_re_p' roots_c roots_cc shownOf shownBy pairsOf number deeper addAll MC.live TV.roots CV.roots MC.roots Cap.roots callIs numsOK liveAll start List.range_succ callSt afterMem newPart_nil newPart_cons oldPart_eq oldGo back isKey stays inRange aliveO aliveM MC.isMap aliveR aliveP MC.isObj MC.isReg Cap.alive CV.keep UV.keep TV.keep MC.keep span St.frz frzM TV.frz UV.frz CV.frz MC.frz frzO frzC Cap.frz PV.frz frzE frzR
def tBit : ByteArray := ⟨#[98, 105, 116]⟩
def tByte : ByteArray := ⟨#[98, 121, 116, 101]⟩
def tHalf : ByteArray := ⟨#[104, 97, 108, 102]⟩
def tWord : ByteArray := ⟨#[119, 111, 114, 100]⟩
abbrev sizeKs : List Value := [.string tBit, .string tByte, .string tHalf, .string tWord]
abbrev sizeVs : List PV := [.v (.int .i64 1), .v (.int .i64 8), .v (.int .i64 16), .v (.int .i64 32)]
theorem f41 : Meets Tryd.prog (tabOf Tryd.prog GG) 41 [] [] (.ret (.p (.mp sizeKs sizeVs))) [] := by
  refine meets_of (tabOf_ok _ _) [] Tryd.f41 3 [.tmp 0] (by kernel_rfl) (by kernel_rfl) rfl rfl rfl rfl true ?_
  simp
  refine finish_imp (Imp.frz 1) (finish_to [] keysOK_nil ?_)
  simp
  simp [tBit, tByte, tHalf, tWord]
def wordX (w : Int) : ByteArray := if w = 1 then tBit else if w = 8 then tByte else if w = 16 then tHalf else if w = 32 then tWord else ⟨#[]⟩
theorem ops_val {P : Program} {ops : Array Oper} {Q : Exit → Act → World → Prop} {i : Nat} {rest : List Nat} {a : Act} {W W' : World} {d : Option Tmp} {op : Op} {ty : TypeId} {pos : String} {after : Array Edge} {v : Value} (ho : ops[i]? = some ⟨d, op, ty, pos, after, none⟩)
    (hx : (execOp a.eval ⟨d, op, ty, pos, after, none⟩).run P W = .ok (.value v) W') (h : wpOps P ops Q rest (a.put d v) W') : wpOps P ops Q (i :: rest) a W := by
  unfold wpOps
  rw [ho]
  simp only [Region.wanted]
  left
  unfold Oper.wp
  rw [hx, Oper.upon_value]
  exact h
theorem ops_call {P : Program} {ops : Array Oper} {Q : Exit → Act → World → Prop} {i : Nat} {rest : List Nat} {a : Act} {W : World} {o : Oper} {f : FuncId} {vals : Array Value} (ho : ops[i]? = some o) (hg : o.guard = none)
    (hx : (execOp a.eval o).run P W = .ok (.enter f vals) W) (h : Calls P f vals W fun en W' => ∃ v, en = .returned v ∧ wpOps P ops Q rest (a.put o.dst v) W') : wpOps P ops Q (i :: rest) a W := by
  unfold wpOps
  rw [ho]
  simp only [Region.wanted, hg]
  left
  unfold Oper.wp
  rw [hx, Oper.upon_enter]
  refine Calls.mono h (fun en W' he => ?_)
  obtain ⟨v, rfl, h1⟩ := he
  exact h1
/-- The same, with blocks beyond. -/
structure Near (W W' : World) : Prop where
  os : W'.os = W.os
  tape : W'.tape = W.tape
  output : W'.output = W.output
  size : W.heap.size ≤ W'.heap.size
  heap : ∀ k, k < W.heap.size → W'.heap[k]? = W.heap[k]?
theorem Core.near {T : Tab} {W0 W W' : World} {M : Nat → Prop} {S0 S : Addr → Prop} {γ : Gh} {mem : List (Nat × MC)} (h : Core T W0 M S0 S γ mem W) (hn : Near W W') : Core T W0 M S0 S γ mem W' :=
  h.upd (h.mem.world (fun a ha => hn.heap _ (h.lt ha)) (fun _ h => h) (fun _ h => .inl h) hn.heap) hn.os hn.tape hn.output hn.size (fun k hk => .inl (hn.heap k hk)) (fun a ha => hn.heap _ (h.lt ha))
structure IterAt (W1 : World) (bm : Nat) (seen : Array Nat) (w : World) : Prop where
  near : Near W1 w
  it : w.heap[W1.heap.size]? = some (.mapIter (some bm) 4 seen 4)
theorem IterAt.next {W1 w w1 : World} {bm : Nat} {seen seen' : Array Nat} (h : IterAt W1 bm seen w) (hw : w1 = w ∨ w1 = w.drew) : IterAt W1 bm seen' (ChangeMaps.setBlock w1 W1.heap.size (.mapIter (some bm) 4 seen' 4)) := by
  have hlt := (Array.getElem?_eq_some_iff.1 h.it).1
  have hh : w1.heap = w.heap := by rcases hw with rfl | rfl <;> rfl
  refine ⟨⟨?_, ?_, ?_, ?_, fun k hk => ?_⟩, ?_⟩
  · rcases hw with rfl | rfl <;> exact h.near.os
  · rcases hw with rfl | rfl <;> exact h.near.tape
  · rcases hw with rfl | rfl <;> exact h.near.output
  · have := h.near.size; simp [ChangeMaps.setBlock, hh]; omega
  · simp only [ChangeMaps.setBlock, hh]
    rw [Array.getElem?_setIfInBounds_ne (by omega)]
    exact h.near.heap k hk
  · simp [ChangeMaps.setBlock, hh, hlt]
set_option maxHeartbeats 2000000
theorem f63 (w : Int) : Meets Tryd.prog (tabOf Tryd.prog GG) 63 [vI w] [] (.ret (vT (wordX w))) [] := by
  refine ⟨⟨Tryd.f63, _, by kernel_rfl, by kernel_rfl, rfl⟩, fun W S γ vals hC hA => calls_of_wp (fn := Tryd.f63) (by kernel_rfl) rfl ?_⟩
  have hv : vals = #[.int .i64 w] := by
    have h1 := hA.1
    have h2 := hA.2 0 _ (vals[0]'(by simp at h1; omega)) rfl (Array.getElem?_eq_getElem _)
    have h3 := (show TRel W S γ (vI w) _ from h2).flat rfl
    apply Array.ext
    · simp at h1 ⊢; omega
    · intro i hi _
      simp at h1
      have : i = 0 := by omega
      subst this
      simpa using h3
  subst hv
  have r0 : ∀ (a : Act) (W : World) (x : Operand), (pure (Next.value (a.eval x)) : Sem Next).run Tryd.prog W = .ok (.value (a.eval x)) W := fun a W x => rfl
  refine wp_seq (wp_region (ops_val rfl (r0 _ W (.const (.string ⟨#[]⟩))) ?_))
  show Code.wp _ _ _ _ _
  refine wp_seq ?_
  refine wp_seq ?_
  refine wp_region ?_
  have h41 := f41
  have hcall := h41.2 W S γ #[] hC ⟨rfl, fun j x v hx => by simp at hx⟩
  refine ops_call (f := 41) (vals := #[]) rfl rfl ?_ ?_
  · simp only [execOp, resolve, Deferred.ofValue, Act.eval, invoke]
    simp [run_enter h41.1]
  refine Calls.mono hcall (fun en W1 he => ?_)
  obtain ⟨S1, γ1, ⟨v, rfl, hv1⟩, hC1, _⟩ := he
  refine ⟨v, rfl, ?_⟩
  have hv2 : PRel W1 S1 (.mp sizeKs sizeVs) v := hv1
  cases hv2 with
  | mp _ _ bm es hS hh hk hl hb hr =>
  have hes : es.size = 4 := by simpa using hl.symm
  have hund : Tryd.prog.underlying 84 = some (.map 9 3) := by kernel_rfl
  refine ops_val rfl (W' := W1.alloc (.mapIter (some bm) 4 #[] 4)) (v := .pointer (some ⟨W1.heap.size, 0, none⟩)) ?_ ?_
  · simp [execOp, Instr.range, run_und hund, Act.put, Act.eval, run_getMap hh, hes]
  have hbm : bm < W1.heap.size := (Array.getElem?_eq_some_iff.1 hh).1
  have hval : ∀ e ∈ es.toList, ∃ n : Int, e.val = .int .i64 n ∧ e.key = .string (wordX n) ∧ wordX n ≠ ⟨#[]⟩ := fun e he => by
    obtain ⟨i, hi⟩ := List.mem_iff_getElem?.1 he
    have hi' : es[i]? = some e := by simpa using hi
    have hlt : i < 4 := by rw [← hes]; exact (Array.getElem?_eq_some_iff.1 hi').1
    have hkey : sizeKs[i]? = some e.key := by rw [← hk, List.getElem?_map, hi]; rfl
    have key : ∀ n : Int, sizeVs[i]? = some (.v (.int .i64 n)) → e.val = .int .i64 n := fun n hn => by
      have := hr i _ e hn hi'
      generalize e.val = z at this
      cases this
      rfl
    match i, hlt with
    | 0, _ => exact ⟨1, key 1 rfl, by simp at hkey; simp [← hkey, wordX], by simp [wordX, tBit]⟩
    | 1, _ => exact ⟨8, key 8 rfl, by simp at hkey; simp [← hkey, wordX], by simp [wordX, tByte]⟩
    | 2, _ => exact ⟨16, key 16 rfl, by simp at hkey; simp [← hkey, wordX], by simp [wordX, tHalf]⟩
    | 3, _ => exact ⟨32, key 32 rfl, by simp at hkey; simp [← hkey, wordX], by simp [wordX, tWord]⟩
  have hbornd : (es.toList.map (·.born)).Nodup := by
    have : es.toList.map (·.born) = List.range es.size := by
      apply List.ext_getElem?
      intro i
      rw [List.getElem?_map]
      cases h : es.toList[i]? with
      | none =>
        have : es.size ≤ i := by simpa using h
        simp [this]
      | some e =>
        have h' : es[i]? = some e := by simpa using h
        have hlt := (Array.getElem?_eq_some_iff.1 h').1
        simp [(hb i e h').1, hlt]
    rw [this]; exact List.nodup_range
  have hborn4 : ∀ e ∈ es.toList, e.born < 4 := fun e he => by
    obtain ⟨i, hi⟩ := List.mem_iff_getElem?.1 he
    have hi' : es[i]? = some e := by simpa using hi
    rw [(hb i e hi').1, ← hes]; exact (Array.getElem?_eq_some_iff.1 hi').1
  have hall : (∀ e ∈ es.toList, e.val ≠ .int .i64 w) → wordX w = ⟨#[]⟩ := fun h => by
    have hne : ∀ (i : Nat) (n : Int), sizeVs[i]? = some (.v (.int .i64 n)) → i < 4 → w ≠ n := fun i n hn hi4 e0 => by
      have hi : es[i]? = some (es[i]'(by omega)) := Array.getElem?_eq_getElem _
      have := hr i _ _ hn hi
      refine h (es[i]'(by omega)) (by simp) ?_
      generalize (es[i]'(by omega)).val = z at this
      cases this
      rw [e0]
    simp [wordX, hne 0 1 rfl (by omega), hne 1 8 rfl (by omega), hne 2 16 rfl (by omega), hne 3 32 rfl (by omega)]
  -- the end
  have hend : ∀ (a' : Act) (w' : World) (S2 : Addr → Prop), Near W1 w' → a'.defers = [] → a'.tmps[2]? = some (.string (wordX w)) → bodyPost Tryd.prog Tryd.f63 (fun en W' => ∃ S' γ', endOK W' S' γ' (.ret (vT (wordX w))) en ∧ Core (tabOf Tryd.prog GG) W (blk γ []) S S' γ' [] W' ∧ Same γ γ' [] []) .ret a' w' := fun a' w' _ hn hd h2 => by
    refine ⟨hd, .string (wordX w), ?_, S1, γ1, ⟨_, rfl, PRel.v _ rfl⟩, hC1.near hn, by assumption⟩
    have : results Tryd.f63 a'.tmps = pure (.string (wordX w)) := by
      rw [results_eq]
      simp [Tryd.f63, resSem, Array.getD_eq_getD_getElem?, h2]
    rw [this]
    rfl
  have hnear1 : Near W1 (W1.alloc (.mapIter (some bm) 4 #[] 4)) := ⟨rfl, rfl, rfl, by simp, fun k hk => Below.heap_alloc W1 _ k hk⟩
  show Code.wp _ _ _ _ _
  refine wp_block ?_
  refine wp_loop_ghost (fun n a w' => ∃ seen, IterAt W1 bm seen w' ∧ n = (leftOf es seen).size ∧ (∀ e ∈ es.toList, seen.contains e.born = true → e.val ≠ .int .i64 w) ∧ a.defers = [] ∧ a.tmps.size = 16 ∧ a.tmps[0]? = some (.int .i64 w) ∧ a.tmps[6]? = some (.pointer (some ⟨W1.heap.size, 0, none⟩)))
    _ ⟨#[], ⟨hnear1, heap_alloc_new W1 _⟩, rfl, fun e _ h => by simp at h, rfl, by simp [Act.put], by simp [Act.put], by simp [Act.put]⟩ ?_
  rintro n a w' ⟨seen, hit, rfl, hseen, hd, hsz, h0, h6⟩
  have hmap : w'.heap[bm]? = some (.map es 4) := by rw [hit.near.heap bm hbm, hh, hes]
  have e6 : ∀ {a' : Act}, a'.tmps[6]? = some (.pointer (some ⟨W1.heap.size, 0, none⟩)) → a'.eval (.tmp 6) = .pointer (some ⟨W1.heap.size, 0, none⟩) := fun {a'} h => by
    simp [Act.eval, Array.getD_eq_getD_getElem?, h]
  have e6a := e6 h6
  have e7 : ∀ (a' : Act) (v : Value) (k : Nat) (x : Value), a'.tmps.size = 16 → k < 16 → (a'.put (some k) v).eval (.tmp k) = v := fun a' v k x h1 h2 => by
    simp [Act.put, Act.eval, Array.getD_eq_getD_getElem?, h1, h2]
  have hs : ∀ (a' : Act) (k : Nat) (v : Value), (a'.put (some k) v).tmps.size = a'.tmps.size := fun a' k v => by simp [Act.put]
  have ho : ∀ (a' : Act) (k j : Nat) (v : Value), j ≠ k → (a'.put (some k) v).tmps[j]? = a'.tmps[j]? := fun a' k j v h => by simp [Act.put, Array.getElem?_setIfInBounds_ne (Ne.symm h)]
  have hx : ∀ (a' : Act) (k : Nat) (v : Value), a'.tmps.size = 16 → k < 16 → (a'.put (some k) v).tmps[k]? = some v := fun a' k v h1 h2 => by simp [Act.put, h1, h2]
  have hev : ∀ (a' : Act) (k : Nat) (v : Value), a'.tmps[k]? = some v → a'.eval (.tmp k) = v := fun a' k v h => by simp [Act.eval, Array.getD_eq_getD_getElem?, h]
  refine wp_seq (wp_region ?_)
  rcases run_next_at (P := Tryd.prog) w' 0 W1.heap.size bm 4 4 seen es 4 hit.it hmap (fun x hx => hborn4 x hx) (Nat.le_refl _) with ⟨hl0, hrun⟩ | ⟨e, he, w1, hw1, hrun⟩
  · refine ops_val rfl (v := .tuple #[.bool false]) (W' := w') (by simp only [execOp]; rw [e6a, Sem.run_bind, hrun]; rfl) ?_
    refine ops_val rfl (v := .bool false) (W' := w') (by simp only [execOp]; rw [hev _ 7 _ (hx a 7 _ hsz (by omega))]; rfl) ?_
    show Code.wp _ _ _ _ _
    refine wp_seq (wp_cond_split (t := false) (hev _ 8 _ (hx _ 8 _ (by rw [hs]; exact hsz) (by omega))) (fun h => by cases h) (fun _ => wp_exit ?_))
    show Code.wp _ _ _ _ _
    refine wp_seq (wp_region (ops_val rfl (r0 _ w' (.const (.string ⟨#[]⟩))) ?_))
    show Code.wp _ _ _ _ _
    refine wp_ret (hend _ w' S hit.near hd ?_)
    rw [hall (fun e he => hseen e he (all_seen es seen hl0 e he))]
    exact hx _ 2 _ (by rw [hs, hs]; exact hsz) (by omega)
  · obtain ⟨hem, hnot⟩ := mem_left he
    have hit' : IterAt W1 bm (seen.push e.born) (ChangeMaps.setBlock w1 W1.heap.size (.mapIter (some bm) 4 (seen.push e.born) 4)) := hit.next hw1
    generalize hw2 : ChangeMaps.setBlock w1 W1.heap.size (.mapIter (some bm) 4 (seen.push e.born) 4) = w2 at hrun hit'
    have hmap2 : w2.heap[bm]? = some (.map es 4) := by rw [hit'.near.heap bm hbm, hh, hes]
    have hentry := run_entry_at (P := Tryd.prog) w2 W1.heap.size bm 4 seen es 4 e hit'.it hmap2 hem hbornd
    obtain ⟨n, hn1, hn2, hn3⟩ := hval e hem
    refine ops_val rfl (v := .tuple #[.bool true, e.key, e.val]) (W' := w2) (by simp only [execOp]; rw [e6a, Sem.run_bind, hrun]; rfl) ?_
    refine ops_val rfl (v := .bool true) (W' := w2) (by simp only [execOp]; rw [hev _ 7 _ (hx a 7 _ hsz (by omega))]; rfl) ?_
    show Code.wp _ _ _ _ _
    have g6 : ∀ a1 : Act, a1.tmps = ((a.put (some 7) (.tuple #[.bool true, e.key, e.val])).put (some 8) (.bool true)).tmps → a1.tmps.size = 16 ∧ a1.tmps[0]? = some (.int .i64 w) ∧ a1.tmps[6]? = some (.pointer (some ⟨W1.heap.size, 0, none⟩)) := fun a1 h => by
      rw [h, hs, hs, ho _ _ _ _ (by omega), ho _ _ _ _ (by omega), ho _ _ _ _ (by omega), ho _ _ _ _ (by omega)]
      exact ⟨hsz, h0, h6⟩
    refine wp_seq (wp_cond_split (t := true) (hev _ 8 _ (hx _ 8 _ (by rw [hs]; exact hsz) (by omega))) (fun _ => wp_skip ?_) (fun h => by cases h))
    show Code.wp _ _ _ _ _
    obtain ⟨k1, k2, k3⟩ := g6 _ rfl
    have kd : ((a.put (some 7) (.tuple #[.bool true, e.key, e.val])).put (some 8) (.bool true)).defers = [] := hd
    generalize (a.put (some 7) (.tuple #[.bool true, e.key, e.val])).put (some 8) (.bool true) = a1 at k1 k2 k3 kd ⊢
    refine wp_block ?_
    refine wp_seq (wp_region ?_)
    refine ops_val rfl (v := .tuple #[e.key, e.val]) (W' := w2) (by simp only [execOp]; rw [hev _ 6 _ k3, Sem.run_bind, hentry]; rfl) ?_
    refine ops_val rfl (v := e.key) (W' := w2) (by simp only [execOp]; rw [hev _ 9 _ (hx _ 9 _ k1 (by omega))]; rfl) ?_
    refine ops_val rfl (v := e.val) (W' := w2) (by simp only [execOp]; rw [hev _ 9 _ (by rw [ho _ _ _ _ (by omega)]; exact hx _ 9 _ k1 (by omega))]; rfl) ?_
    refine ops_val rfl (r0 _ w2 (.tmp 10)) ?_
    refine ops_val rfl (r0 _ w2 (.tmp 11)) ?_
    rw [hev _ 10 e.key (by rw [ho _ _ _ _ (by omega)]; exact hx _ 10 _ (by rw [hs]; exact k1) (by omega)), hev _ 11 e.val (by rw [ho _ _ _ _ (by omega)]; exact hx _ 11 _ (by rw [hs, hs]; exact k1) (by omega))]
    show Code.wp _ _ _ _ _
    have q : ∃ a2 : Act, a2 = (((((a1.put (some 9) (.tuple #[e.key, e.val])).put (some 10) e.key).put (some 11) e.val).put (some 3) e.key).put (some 4) e.val) ∧ a2.tmps.size = 16 ∧ a2.tmps[0]? = some (.int .i64 w) ∧ a2.tmps[6]? = some (.pointer (some ⟨W1.heap.size, 0, none⟩)) ∧ a2.tmps[3]? = some e.key ∧ a2.tmps[4]? = some e.val ∧ a2.defers = [] := by
      refine ⟨_, rfl, by simp only [hs]; exact k1, ?_, ?_, ?_, ?_, kd⟩
      · rw [ho _ _ _ _ (by omega), ho _ _ _ _ (by omega), ho _ _ _ _ (by omega), ho _ _ _ _ (by omega), ho _ _ _ _ (by omega)]; exact k2
      · rw [ho _ _ _ _ (by omega), ho _ _ _ _ (by omega), ho _ _ _ _ (by omega), ho _ _ _ _ (by omega), ho _ _ _ _ (by omega)]; exact k3
      · rw [ho _ _ _ _ (by omega)]; exact hx _ 3 _ (by simp only [hs]; exact k1) (by omega)
      · exact hx _ 4 _ (by simp only [hs]; exact k1) (by omega)
    obtain ⟨a2, ha2, m1, m2, m3, m4, m5, m6⟩ := q
    rw [← ha2]
    clear ha2
    refine wp_seq (wp_region ?_)
    refine ops_val rfl (r0 _ w2 (.tmp 4)) ?_
    refine ops_val rfl (r0 _ w2 (.tmp 0)) ?_
    rw [hev _ 4 _ m5, hev _ 0 _ (by rw [ho _ _ _ _ (by omega)]; exact m2)]
    refine ops_val rfl (v := .bool (decide (n = w))) (W' := w2) ?_ ?_
    · simp only [execOp]
      rw [hev _ 12 e.val (by rw [ho _ _ _ _ (by omega)]; exact hx _ 12 _ m1 (by omega)), hev _ 13 _ (hx _ 13 _ (by rw [hs]; exact m1) (by omega)), hn1]
      exact lift_value (bin_ok (r := .bool (decide (n = w))) (op := .eql) (by simp [binA]) 3 (.tmp 12) (.tmp 13) w2).1
    show Code.wp _ _ _ _ _
    have p14 : (((a2.put (some 12) e.val).put (some 13) (.int .i64 w)).put (some 14) (.bool (decide (n = w)))).eval (.tmp 14) = .bool (decide (n = w)) := hev _ 14 _ (hx _ 14 _ (by simp only [hs]; exact m1) (by omega))
    refine wp_cond_split (t := decide (n = w)) p14 (fun ht => ?_) (fun hf => wp_skip ?_)
    · refine wp_seq (wp_region ?_)
      refine ops_val rfl (r0 _ w2 (.tmp 3)) ?_
      rw [hev _ 3 e.key (by rw [ho _ _ _ _ (by omega), ho _ _ _ _ (by omega), ho _ _ _ _ (by omega)]; exact m4)]
      refine ops_val rfl (r0 _ w2 (.tmp 15)) ?_
      rw [hev _ 15 e.key (hx _ 15 _ (by simp only [hs]; exact m1) (by omega))]
      show Code.wp _ _ _ _ _
      refine wp_ret (hend _ w2 S hit'.near m6 ?_)
      have : n = w := by simpa using ht
      rw [hx _ 2 _ (by simp only [hs]; exact m1) (by omega), hn2, this]
    · show ∃ n', n' < _ ∧ _
      have hne : n ≠ w := by simpa using hf
      refine ⟨_, left_shrinks es seen e he, seen.push e.born, hit', rfl, fun e' he' hc => ?_, m6, by simp only [hs]; exact m1, ?_, ?_⟩
      · by_cases hb' : e'.born = e.born
        · have : e' = e := by
            obtain ⟨i, hi⟩ := List.mem_iff_getElem?.1 he'
            obtain ⟨j, hj⟩ := List.mem_iff_getElem?.1 hem
            have h1 := (hb i e' (by simpa using hi)).1
            have h2 := (hb j e (by simpa using hj)).1
            have : i = j := by omega
            subst this
            rw [hi] at hj; injection hj
          subst this
          rw [hn1]
          intro h; injection h with _ h; exact hne h
        · refine hseen e' he' ?_
          simp at hc ⊢
          rcases hc with hc | hc
          · exact hc
          · exact absurd hc hb'
      · rw [ho _ _ _ _ (by omega), ho _ _ _ _ (by omega), ho _ _ _ _ (by omega)]; exact m2
      · rw [ho _ _ _ _ (by omega), ho _ _ _ _ (by omega), ho _ _ _ _ (by omega)]; exact m3
end Go.Ew
end
section
/- Functions of the seat: well formed statements, the program's. -/
open Go Go.Proofs Go.Ew
namespace Go.Ew
attribute [local simp] Cd_skip Cd_label Cd_seq Ct_false Br_notc Br_true Br_false Cd_cond Cd_block Cd_exit Cd_ret Cd_region Nx_code Nx_block Nx_ops Nx_plan  Nx_fin Nx_fin' Ex_code_exit Ex_code_ret Ex_block_exit Ex_block_ret Ex_round_exit Ex_round_ret Ex_fin_ret Ex_fin_ret' Pn_code Pn_block Pn_ops Pn_plan Pn_round Pn_fin Os_nil Os_cons gK_some Gt_some Gt_nil Gt_cons run_code run_op run_skip O1_eq Pl_done Pl_stop Pl_first Pl_alt cK_some qK_some asCall asPan actK_some panOf_some condK_some map_re_c map_kill_c map_keep_c map_frz_c re_cc kill_cc keep_cc frz_cc leCs_refl finA finR idl headOf allB
attribute [local simp] wantedA act quiet opd opg TV.acc imp ofConst St.get St.put St.putG orElse one1 one2 binA unA convA idxA strLen maxA minA TV.flat TV.int TV.bool TV.cells UV.cells CV.els TV.els viewOf PV.nv CV.nv peekC_eq peekB peekG peekH peekP_eq peekPB allP allNv allPs allNv_c allNv_append allP_append allPs_append rowsNv_eq at_ cellAt PV.down PV.elem readAt loadOp bump fieldAddrOp fieldOp indexAddrOp extractOp nilCheckOp lenOp boundOf sliceOp fillCells buildOp pickOp Tab.fld Tab.place tabOf_ti tabOf_mapT tabOf_stc tabOf_arr tabOf_elem tabOf_glob mk busy TV.isPtr TV.isMap keyOK keysOf lookupOp mapOf lookC_some lookC_none findK_nil findK_yes findK_no eqKey_lit eqKey_int mapLen_eq look lay del
attribute [local simp] makeMapOp updateOp insK_some insK_none insC_some insC_none frzMp allocOp boxOp storeOp killOf writeAt moves grabOf takeAt putAt PV.put setCell CV.isView CV.strip CV.stripP strip_cc map_strip_c any_view_c any_view_cc mapM_strip_eq stripL stripL_c mapM_strip_cc frzR_frz frzE_frz stripL_append Ew.newObj newReg rowsOf stripRows movesR buildSliceOp makeSliceOp srcOf baseOf appendOp room killM St.kill Kl.b Kl.h Cap.hit TV.kill UV.kill CV.kill MC.kill capOf capsOf plainCaps mkClo capTV calleeOf panArg resV resT resUs
attribute [local simp] toNew toOld view TV.re UV.re CV.re MC.re Cap.re caps_re leT leU leC leCs leMs leM leTs St.le St.re keysOK  roots_p map_re_p map_re_p' roots_c roots_cc shownOf shownBy pairsOf number deeper addAll MC.live TV.roots CV.roots MC.roots Cap.roots callIs numsOK liveAll start List.range_succ callSt afterMem newPart_nil newPart_cons oldPart_eq oldGo back isKey stays inRange aliveO aliveM MC.isMap aliveR aliveP MC.isObj MC.isReg Cap.alive CV.keep UV.keep TV.keep MC.keep span St.frz frzM TV.frz UV.frz CV.frz MC.frz frzO frzC Cap.frz PV.frz frzE frzR
theorem word_sized (w : Int) : (!decide ((wordX w).toList = [])) = sizedX w := by
  have e : ∀ a : Array UInt8, (ByteArray.mk a).toList = a.toList := fun a => ByteArray.toList_eq _
  unfold wordX sizedX
  by_cases h1 : w = 1
  · simp [h1, tBit, e]
  by_cases h2 : w = 8
  · simp [h2, tByte, e]
  by_cases h3 : w = 16
  · simp [h3, tHalf, e]
  by_cases h4 : w = 32
  · simp [h4, tWord, e]
  simp [h1, h2, h3, h4, e]
theorem f35 (w : Int) : Meets Tryd.prog (tabOf Tryd.prog GG) 35 [vI w] [] (.ret (vB (sizedX w))) [] := by
  refine meets_of (tabOf_ok _ _) [] Tryd.f35 6 [.tmp 2] (by kernel_rfl) (by kernel_rfl) rfl rfl rfl rfl false ?_
  simp
  refine Call_pure (f63 w) ?_
  simp
  rw [← word_sized w]
attribute [local simp] encEs_len encE_len encE_nv encE_take encEs_at encSs_len encS_len encS_nv encS_take encSs_at
set_option maxRecDepth 8000
set_option maxHeartbeats 2000000
/-- What follows, from the part on that begins with region n. -/
def restOf (n : Nat) : Code → Code
  | .seq x y => if headOf x = n then .seq x y else restOf n y
  | c => c
def namedX (k : Int) (nm : ByteArray) : Bool := decide (k = 1) || (decide (k = 2) || (decide (k = 3) || (decide (k = 9) && !emptyT nm)))
def lensX (k : Int) (n : Int) : Int := if k = 3 then 2 else if k = 6 then 0 else if k = 8 then (if 1 < n then 1 else n) else if k = 9 then n else 1
theorem wellS_eq (k : Int) (nm f : ByteArray) (w : Int) (es : List Expr) (b e : List Stm) (h : 1 ≤ k ∧ k ≤ 9) : wellS (.mk k nm f w es b e) =
    (!(((((namedX k nm && !nameX nm) || (!namedX k nm && !decide (nm.toList = []))) || !decide ((es.length : Int) = lensX k es.length)) || (!decide (k = 4) && !decide (k = 5) && decide (0 < b.length))) || (!decide (k = 4) && decide (0 < e.length))) &&
      (!((decide (k = 9) && !nameX f) || (!decide (k = 9) && !decide (f.toList = []))) && (!((decide (k = 1) && !sizedX w) || (!decide (k = 1) && !decide (w = 0))) && (es.all wellE && (b.all wellS && e.all wellS))))) := by
  have hb : emptyL b = !decide (0 < b.length) := by cases b <;> simp [emptyL]
  have he : emptyL e = !decide (0 < e.length) := by cases e <;> simp [emptyL]
  have hn : (0 : Int) ≤ es.length := by omega
  rw [show decide (nm.toList = []) = emptyT nm from rfl, show decide (f.toList = []) = emptyT f from rfl]
  obtain ⟨h1, h2⟩ := h
  rw [wellS, ← wellEs_all, ← wellSs_all, ← wellSs_all, hb, he]
  generalize (es.length : Int) = n at hn
  generalize wellEs es = E
  generalize wellSs b = B
  generalize wellSs e = F
  generalize decide (0 < b.length) = b0
  generalize decide (0 < e.length) = e0
  have hk : k = 1 ∨ k = 2 ∨ k = 3 ∨ k = 4 ∨ k = 5 ∨ k = 6 ∨ k = 7 ∨ k = 8 ∨ k = 9 := by omega
  rcases hk with rfl | rfl | rfl | rfl | rfl | rfl | rfl | rfl | rfl <;> simp [tailS, namedX, lensX] <;> grind
theorem f58 (n : Nat) : ∀ (x : Stm), nodesS x ≤ n → nodesS x < 1000000 → Meets Tryd.prog (tabOf Tryd.prog GG) 58 [vS x] [] (.ret (vB (wellS x))) [] := by
  induction n with
  | zero => intro x h _; cases x; simp [nodesS] at h
  | succ n ih =>
    intro x hn hx
    obtain ⟨k, nm, f, w, es, b, e⟩ := x
    simp only [nodesS] at hn hx
    have hel := nodesL_len es
    have hbl := nodesSL_len b
    have hll := nodesSL_len e
    have hX : Meets Tryd.prog (tabOf Tryd.prog GG) 38 [.p (.sl 6 (encEs es)), .p (.clo 18 [])] [] (.ret (vB (es.all wellE))) [] :=
      f38 es 18 [] wellE (by omega) (fun a ha => by have := nodes_le ha; exact f18 f35 _ a (Nat.le_refl _) (by omega))
    have hB : Meets Tryd.prog (tabOf Tryd.prog GG) 57 [.p (.sl 7 (encSs b)), .p (.clo 58 [])] [] (.ret (vB (b.all wellS))) [] :=
      f57 b 58 [] wellS (by omega) (fun a ha => by have := nodesS_le ha; exact ih a (by omega) (by omega))
    have hE : Meets Tryd.prog (tabOf Tryd.prog GG) 57 [.p (.sl 7 (encSs e)), .p (.clo 58 [])] [] (.ret (vB (e.all wellS))) [] :=
      f57 e 58 [] wellS (by omega) (fun a ha => by have := nodesS_le ha; exact ih a (by omega) (by omega))
    have key : 1 ≤ k ∧ k ≤ 9 → ∀ r, r = wellS (.mk k nm f w es b e) → Cd Tryd.prog (tabOf Tryd.prog GG) [18] (restOf 18 (Tryd.f58.body.getD .skip)) (.fin false [.tmp 2] (.ret (vB r)) [])
        ⟨[.bot, .a (.ptr 1 0 []), .bot, vB (namedX k nm), vI (lensX k es.length), .bot, .bot, .bot, .bot, .bot, .bot, .bot, .bot, .bot, .bot, .bot, .bot, .bot, .bot, .bot, .bot, .bot, .bot, .bot, .bot, .bot, .bot, .bot, .bot, .bot, .bot, .bot, .bot, .bot, .bot, .bot, .bot, .bot, .bot, .bot, .bot, .bot, .bot, .bot, .bot, .bot, .bot, .bot, .bot, .bot, .bot, .bot, .bot, .bot, .bot, .bot, .bot, .bot, .bot, .bot, .bot, .bot, .bot, .bot, .bot, .bot, .bot, .bot, .bot, .bot, .bot, .bot, .bot, .bot, .bot, .bot, .bot, .bot, .bot, .bot, .bot, .bot, .bot, .bot, .bot, .bot, .bot, .bot, .bot, .bot, .bot, .bot, .bot, .bot, .bot, .bot, .bot, .bot, .bot, .bot, .bot, .bot, .bot, .bot, .bot, .bot, .bot, .bot, .bot, .bot, .bot, .bot, .bot, .bot, .bot, .bot, .bot, .bot, .bot, .bot, .bot, .bot, .bot, .bot, .bot, .bot, .bot, .bot, .bot, .bot, .bot, .bot, .bot, .bot, .bot, .bot, .bot, .bot, .bot], [(1, .obj ((encS (.mk k nm f w es b e)).map CV.c))]⟩ := by
      intro hk r hr
      rw [wellS_eq k nm f w es b e hk] at hr
      simp [restOf, Tryd.f58, encS]
      refine Cd_draw (.first 0 (.first 8 (.alt 1 (.first 2 (.first 3 (.first 4 (.alt 5 (.first 6 (.first 7 (.first 11 (.alt 9 (.first 10 (.first 12 .done)) .stop)))) (.alt 9 (.first 10 (.alt 5 (.first 6 (.first 7 (.first 11 (.first 12 .done)))) .stop)) .stop))))) (.alt 9 (.first 10 (.alt 1 (.first 2 (.first 3 (.first 4 (.alt 5 (.first 6 (.first 7 (.first 11 (.first 12 .done)))) .stop)))) .stop)) .stop)))) (by kernel_rfl) (by kernel_rfl) (by kernel_rfl) ?_
      simp
      refine Br_call (.one (.c (.v (.bool (nameX nm))))) (by rfl) (by rfl) (fun _ => f37 nm) (fun h => by simp [h]) ?_
      simp
      refine Br_intro (fun g => ?_) (fun g => ?_) <;> rw [g] at hr
      · simpa using hr
      simp
      refine Br_call (.one (.c (.v (.bool (nameX f))))) (by rfl) (by rfl) (fun _ => f37 f) (fun h => by simp [h]) ?_
      simp
      refine Br_intro (fun g => ?_) (fun g => ?_) <;> rw [g] at hr
      · simpa using hr
      simp
      refine Br_call (.one (.c (.v (.bool (sizedX w))))) (by rfl) (by rfl) (fun _ => f35 w) (fun h => by simp [h]) ?_
      simp
      refine Br_intro (fun g => ?_) (fun g => ?_) <;> rw [g] at hr
      · simpa using hr
      simp
      refine Call_pure hX ?_
      simp
      refine Br_call (.one (.c (.v (.bool (b.all wellS))))) (by rfl) (by rfl) (fun _ => hB) (fun h => by simp [h]) ?_
      simp
      refine Br_call (.one (.c (.v (.bool (e.all wellS))))) (by rfl) (by rfl) (fun _ => hE) (fun h => by simp [h]) ?_
      simp [hr, Bool.and_assoc]
    refine meets_of (tabOf_ok _ _) [18] Tryd.f58 139 [.tmp 2] (by kernel_rfl) (by kernel_rfl) rfl rfl rfl rfl false ?_
    simp [encS]
    by_cases h1 : k = 1
    · subst h1
      simp
      exact Ct_go (Imp.le (by simp [namedX, lensX, emptyT, encS])) (key (by omega) _ rfl)
    simp [h1]
    by_cases h2 : k = 2
    · subst h2
      simp
      exact Ct_go (Imp.le (by simp [namedX, lensX, emptyT, encS])) (key (by omega) _ rfl)
    simp [h2]
    by_cases h3 : k = 3
    · subst h3
      simp
      exact Ct_go (Imp.le (by simp [namedX, lensX, emptyT, encS])) (key (by omega) _ rfl)
    simp [h3]
    by_cases h4 : k = 4
    · subst h4
      simp
      exact Ct_go (Imp.le (by simp [namedX, lensX, emptyT, encS])) (key (by omega) _ rfl)
    simp [h4]
    by_cases h5 : k = 5
    · subst h5
      simp
      exact Ct_go (Imp.le (by simp [namedX, lensX, emptyT, encS])) (key (by omega) _ rfl)
    simp [h5]
    by_cases h7 : k = 7
    · subst h7
      simp
      exact Ct_go (Imp.le (by simp [namedX, lensX, emptyT, encS])) (key (by omega) _ rfl)
    simp [h7]
    by_cases h6 : k = 6
    · subst h6
      simp
      exact Ct_go (Imp.le (by simp [namedX, lensX, emptyT, encS])) (key (by omega) _ rfl)
    simp [h6]
    by_cases h8 : k = 8
    · subst h8
      simp
      exact Ct_go (Imp.le (by simp [namedX, lensX, emptyT, encS])) (key (by omega) _ rfl)
    simp [h8]
    by_cases h9 : k = 9
    · subst h9
      simp
      refine Cd_draw (.first 0 (.first 3 (.alt 1 (.first 2 (.first 6 (.alt 4 (.first 5 (.first 7 .done)) .stop))) (.alt 4 (.first 5 (.alt 1 (.first 2 (.first 6 (.first 7 .done))) .stop)) .stop)))) (by kernel_rfl) (by kernel_rfl) (by kernel_rfl) ?_
      simp
      exact Ct_go (Imp.le (by simp [namedX, lensX, emptyT, encS])) (key (by omega) _ rfl)
    simp [h9]
    simp [wellS, tailS, h1, h2, h3, h4, h5, h6, h7, h8, h9]
end Go.Ew
end
