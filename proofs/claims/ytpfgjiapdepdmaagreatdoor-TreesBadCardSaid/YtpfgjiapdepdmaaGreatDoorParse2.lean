/- The walk of parse, the walk itself. -/
import Derived.Test.YtpfgjiapdepdmaaGreatDoorParse
namespace Go.Proofs.YtpfgjiapdepdmaaGreatDoor
open Go Go.RowKit Go.Shelf
attribute [local go_sem] Oper.semAt_some

theorem splitSeq_any (s sep : ByteArray) (w : World) :
    Calls Tryz.prog 35 #[.string s, .string sep] w fun e w' => e = .returned (.func (.func 82) #[] #[.pointer (some ⟨w.heap.size + 1, 0, none⟩), .pointer (some ⟨w.heap.size, 0, none⟩), .pointer (some ⟨w.heap.size + 2, 0, none⟩)]) ∧
      w' = ((w.alloc (.cells #[.string s] 9)).alloc (.cells #[.string sep] 9)).alloc (.cells #[.int .i64 0] 3) := by
  have hmf : ∀ (fn : Fn) (first cap : Array Value) (w : World), (Instr.makeFunc fn first cap).run Tryz.prog w = .ok (.func fn first cap) w := fun _ _ _ _ => rfl
  go_enter Tryz.func35, Tryz.ntmps35
  go_wp2
  go_ret
  exact ⟨rfl, rfl⟩
set_option maxRecDepth 20000 in
set_option maxHeartbeats 4000000 in
theorem parse_of (hcut : ∀ (s : List UInt8) (W : World), s.length ≤ 1500 → Env W → Calls Tryz.prog 36 #[.string ⟨s.toArray⟩] W (CutPost W (Pu.cut s))) (s : List UInt8) (hs : s.length ≤ 1500) (w : World) (hw : Env w) :
    Calls Tryz.prog 13 #[.string ⟨s.toArray⟩] w (ParsePost w (Pu.pLines ⟨[], [], []⟩ (Pu.linesOf s))) := by
  obtain ⟨goal, hgoal⟩ : ∃ g, g = Pu.pLines ⟨[], [], []⟩ (Pu.linesOf s) := ⟨_, rfl⟩
  rw [← hgoal]
  have hmf : ∀ (fn : Fn) (first cap : Array Value) (w : World), (Instr.makeFunc fn first cap).run Tryz.prog w = .ok (.func fn first cap) w := fun _ _ _ _ => rfl
  have hcut' := Lib.hid hcut
  have hw' := Lib.hid hw
  have hgoal' := Lib.hid hgoal
  clear hcut hw hgoal
  refine calls_of_wpAt Tryz.func13 rfl ?_
  simp only [Tryz.ntmps13, List.size_toArray, List.length_cons, List.length_nil, Nat.reduceAdd, Nat.reduceSub, Array.replicate_succ, Array.replicate_zero, List.push_toArray, List.append_toArray, List.nil_append, List.cons_append]
  refine wpAt_seq_k fun K hK => ?_
  go_wp2
  refine wpAt_seq_k fun K hK => ?_
  go_wp2
  refine wpAt_seq ?_
  refine wpAt_seq_k fun K hK => ?_
  go_wp2_with (go_at_call 35; refine (splitSeq_any _ _ _).mono ?_; rintro e w1 ⟨rfl, rfl⟩)
  refine wpAt_block ?_

  obtain ⟨M, hM⟩ : ∃ M, M = w.heap.size := ⟨_, rfl⟩
  obtain ⟨w5, hw5⟩ : ∃ w5, w5 = ((((w.alloc (.cells #[.slice none 0 0, .slice none 0 0, .slice none 0 0] 26)).alloc (.cells #[.int .i64 0] 27)).alloc (.cells #[.string ⟨s.toArray⟩] 9)).alloc (.cells #[.string ⟨#[10]⟩] 9)).alloc (.cells #[.int .i64 0] 3) := ⟨_, rfl⟩
  have hs5 : w5.heap.size = M + 5 := by rw [hw5, hM]; simp
  have hb5 : Below M w w5 := by
    rw [hw5]
    exact (((((Below.refl M w).alloc (by omega) _).alloc (by simp; omega) _).alloc (by simp; omega) _).alloc (by simp; omega) _).alloc (by simp; omega) _
  have hm5 : Blk w5 M 26 #[.slice none 0 0, .slice none 0 0, .slice none 0 0] := by rw [hw5, hM]; exact ((((Blk.new w _ _).alloc _).alloc _).alloc _).alloc _
  have hnew : ∀ (W : World) (o : Obj) (n : Nat), W.heap.size = n → (W.alloc o).heap[n]? = some o := fun W o n h => by rw [← h]; exact World.alloc_heap_new W o
  have he5 : Blk w5 (M + 1) 27 #[.int .i64 0] := by rw [hw5]; exact (((show Blk _ (M + 1) _ _ from hnew _ _ _ (by simp [hM])).alloc _).alloc _).alloc _
  have hx5 : Blk w5 (M + 2) 9 #[.string ⟨s.toArray⟩] := by rw [hw5]; exact ((show Blk _ (M + 2) _ _ from hnew _ _ _ (by simp [hM])).alloc _).alloc _
  have hp5 : Blk w5 (M + 3) 9 #[.string ⟨#[10]⟩] := by rw [hw5]; exact (show Blk _ (M + 3) _ _ from hnew _ _ _ (by simp [hM])).alloc _
  have hv5 : Blk w5 (M + 4) 3 #[.int .i64 0] := by rw [hw5]; exact (show Blk _ (M + 4) _ _ from hnew _ _ _ (by simp [hM]))
  rw [← hw5, ← hM]
  rw [show M + 1 + 1 + 1 = M + 3 by omega, show M + 1 + 1 = M + 2 by omega, show M + 2 + 2 = M + 4 by omega]
  have hlines := Pu.linesOf_len s
  have hshort := Pu.linesOf_short s
  clear hnew
  have hgM : gtop ≤ M := by rw [hM]; exact hw'.out.top
  have hMw : M ≤ w.heap.size := Nat.le_of_eq hM
  have hwM : w.heap.size ≤ M := Nat.le_of_eq hM.symm
  replace hM := Lib.hid hM
  replace hw5 := Lib.hid hw5
  refine wpAt_range (f := 13) rfl (gf := 82) (lb := #[.pointer (some ⟨M + 3, 0, none⟩), .pointer (some ⟨M + 2, 0, none⟩), .pointer (some ⟨M + 4, 0, none⟩)]) rfl (enters_of Tryz.func82 (by kernel_rfl) rfl)
    (encs := fun x : List UInt8 => #[.string ⟨x.toArray⟩]) (fun _ => rfl) (Pu.linesOf s) (fun W W' => W'.heap[M + 2]? = W.heap[M + 2]?) (fun A B C h1 h2 => h2.trans h1) ?kb (PSt w M goal)
    (fun ch W => ∃ k, ch = [{ v := fault k, recovered := false }] ∧ goal = .error k ∧ (∃ u0 u1 u2, Blk W M 26 #[u0, u1, u2] ∧ One3 u0 u1 u2) ∧ Blk W (M + 1) 27 #[.int .i64 0] ∧ Below M w W) ?hit ?h0 ?hI
    (fun x => { tmps := #[.string ⟨s.toArray⟩, undef, .pointer (some ⟨M, 0, none⟩), .pointer (some ⟨M + 1, 0, none⟩), .string ⟨x.toArray⟩, undef, undef, .string ⟨s.toArray⟩, .func (.func 82) #[] #[.pointer (some ⟨M + 3, 0, none⟩), .pointer (some ⟨M + 2, 0, none⟩), .pointer (some ⟨M + 4, 0, none⟩)], .string ⟨x.toArray⟩, undef, undef, undef, undef, undef, undef, undef, undef, undef, undef, undef, undef, undef, undef], defers := [] })
    ?assign ?body ?done ?dies
  case kb =>
    intro W o o' h
    exact World.putObj_heap_other (by omega)
  case hit =>
    intro o J Jq hJI hJK hY hJ0
    refine split_any (w5.heap.size + 1) (M + 3) (M + 2) (M + 4) s J Jq (fun W W' => W'.heap[M + 2]? = W.heap[M + 2]?) _ hs ?_ ?_ ?_ hY ?_ hJ0
    · intro ls W h
      have hi := hJI ls W h
      obtain ⟨v, hv⟩ := hi.s
      exact ⟨hi.sep.cell 0, hi.sv.cell 0, hv.frozen 0⟩
    · intro W W' h
      exact World.cell?_of_block (w := W) (a := ⟨M + 2, 0, none⟩) h
    · intro ls W v h
      exact hJK ls W _ h ((hJI ls W h).box v) (KeepsOthers.setCell _ _ _)
    · exact ((hx5.alloc _).alloc _).cell 0
  case h0 =>
    intro o
    refine ⟨⟨M + 7, ⟨[], [], []⟩, ⟨_, _, _, MdV.new_ ((hm5.alloc _).alloc _) (by omega)⟩, hgoal'.out, by simp; omega⟩, (hb5.alloc (by omega) _).alloc (by simp; omega) _, (he5.alloc _).alloc _, ⟨_, (hx5.alloc _).alloc _⟩, (hp5.alloc _).alloc _, (hv5.alloc _).alloc _, ?_, by simp; omega⟩
    intro x hx
    have := hshort x hx
    omega
  case hI =>
    intro ls W o o' h hl
    exact h.turn (grownBy_putObj' W _ _) (by omega) (by omega)
  case assign =>
    intro x W K hK
    gi_wp2
    exact hK
  case body =>
    intro x rest W h
    obtain ⟨⟨R0, m, hMd, hgl, hlen⟩, hbel, he, ⟨v, hsb⟩, hsep, hsv, hlens, htop⟩ := h
    rw [lines_step] at hgl
    have hc := hcut'.out x W (hlens x (by simp)) (hw'.out.below hbel hgM)
    have hxl : ∀ y, y ∈ rest → y.length ≤ 1500 := fun y hy => hlens y (by simp [hy])
    have hlen1 : m.uses.length + m.types.length + m.funcs.length + rest.length + 1 ≤ 2000 := by simp at hlen; omega
    have hs5' := Lib.hid hs5
    replace hMd := Lib.hid hMd
    replace hxl := Lib.hid hxl
    clear hlens hlen hlines hshort hm5 he5 hx5 hp5 hv5 hs5 hs
    cases hcx : Pu.cut x with
    | error k =>
      rw [hcx] at hc
      have hgk : goal = .error k := by rw [hgl, hcx]; rfl
      have hgk' := Lib.hid hgk
      replace hc := Lib.hid (CallsIn.inRound (w5.heap.size + 1) ((callsIn_wide (n := 0)).2 hc))
      replace hgl := Lib.hid hgl
      clear hgk
      gi_wp2_with (refine ⟨trivial, rfl, ?_⟩; gi_at_call 36; refine hc.out.mono ?_; rintro e w6 ⟨rfl, hk0, hb6⟩; have hk1 : ((k : Int) == 0) = false := (by rw [beq_eq_false_iff_ne]; omega); replace hk0 := Lib.hid hk0)
      refine ⟨trivial, rfl, ?_⟩
      refine (CallsIn.inRound (w5.heap.size + 1) ((callsIn_wide (n := 0)).2 (need_no k _))).mono ?_
      rintro e w7 ⟨rfl, rfl⟩
      gi_wp2
      obtain ⟨vu, vt, vf, hV⟩ := hMd.out
      exact ⟨rfl, KeepsOthers.of_grownBy (only_of_below hb6 none) (fun j o e _ => by cases e), k, rfl, hgk'.out, ⟨_, _, _, hV.blk.below hb6 hV.blk.lt, hV.one⟩, he.below hb6 he.lt, hbel.trans (hb6.mono (by omega))⟩
    | ok ts =>
      rw [hcx] at hc hgl
      rw [Pu.andThen_ok] at hgl
      obtain ⟨hfit, hkind⟩ := Pu.cut_fit hcx
      replace hc := Lib.hid (CallsIn.inRound (w5.heap.size + 1) ((callsIn_wide (n := 0)).2 hc))
      replace hgl := Lib.hid hgl
      replace hkind := Lib.hid hkind
      replace hfit := Lib.hid hfit
      gi_wp2_with (refine ⟨trivial, rfl, ?_⟩; gi_at_call 36; refine hc.out.mono ?_; rintro e w6 ⟨A6, c6, rfl, hlc, hrd6, hb6⟩)
      refine ⟨trivial, rfl, ?_⟩
      refine (CallsIn.inRound (w5.heap.size + 1) ((callsIn_wide (n := 0)).2 (need_yes 0 _))).mono ?_
      rintro e w7 ⟨rfl, rfl⟩
      obtain ⟨R, hR⟩ : ∃ R, R = w6.heap.size := ⟨_, rfl⟩
      obtain ⟨w8, hw8⟩ : ∃ w8, w8 = w6.alloc (.cells #[.slice A6 ts.length c6, .int .i64 0] 91) := ⟨_, rfl⟩
      have hb68 : Below W.heap.size W w8 := by rw [hw8]; exact hb6.alloc hb6.size _
      have hrd8 : Rd w8 R ts 0 := by
        refine ⟨A6, c6, ?_, hlc, ?_⟩
        · rw [hw8, hR]; exact Blk.new _ _ _
        · rw [hw8, hR]; exact hrd6.alloc (Nat.le_refl _) _
      have hs6 := hb6.size
      have hM8 : MdM w8 M (M + 7) R m := by
        obtain ⟨vu, vt, vf, hV⟩ := hMd.out
        have h1 := (hV.reader (R' := w6.heap.size) hs6).later (only_of_below hb68 (some w6.heap.size)) (by have := hV.blk.lt; omega)
        rw [← hR] at h1
        exact ⟨vu, vt, vf, h1⟩
      have hln := line_any R M (M + 7) m ts w8 hrd8 hM8 (by omega) hfit.out hkind.out (by omega) (by omega) (by omega)
      replace hln := Lib.hid (CallsIn.inRound (w5.heap.size + 1) ((callsIn_wide (n := 0)).2 hln))
      have he8 := he.below hb68 he.lt
      have hsb8 := hsb.below hb68 hsb.lt
      have hsep8 := hsep.below hb68 hsep.lt
      have hsv8 := hsv.below hb68 hsv.lt
      have hbel8 := hbel.trans (hb68.mono (by omega : M ≤ W.heap.size))
      have hko8 : KeepsOthers W w8 := KeepsOthers.of_grownBy (only_of_below hb68 none) (fun j o e _ => by cases e)
      have hs8 := hb68.size
      replace hw8 := Lib.hid hw8
      replace hM8 := Lib.hid hM8
      replace hrd8 := Lib.hid hrd8
      replace hrd6 := Lib.hid hrd6
      clear hb6 hlc
      gi_wp2
      rw [← hw8.out, ← hR]
      replace hR := Lib.hid hR
      refine ⟨trivial, rfl, ?_⟩
      refine hln.out.mono ?_
      cases hpl : Pu.pLine m ts with
      | error k =>
        rintro e w9 ⟨rfl, hm9, hf9⟩
        gi_wp2
        have hgk : goal = .error k := by rw [hgl.out, hpl]; rfl
        exact ⟨rfl, hko8.trans hf9.others, k, rfl, hgk, hm9, (hf9.low (M + 1) (by omega) (by omega)).trans he8, hbel8.trans hf9.below⟩
      | ok m' =>
        rintro e w9 ⟨rfl, hm9, hf9⟩
        gi_wp2
        have hgk : goal = Pu.pLines m' rest := by rw [hgl.out, hpl]; rfl
        have hsz := line_size hpl
        refine ⟨hko8.trans hf9.others, ?_, ⟨⟨R, m', hm9, hgk, by omega⟩, hbel8.trans hf9.below, (hf9.low (M + 1) (by omega) (by omega)).trans he8, ⟨v, (hf9.low (M + 2) (by omega) (by omega)).trans hsb8⟩, (hf9.low (M + 3) (by omega) (by omega)).trans hsep8, (hf9.low (M + 4) (by omega) (by omega)).trans hsv8, hxl.out, by have := hf9.others.size; omega⟩⟩
        exact ((hf9.low (M + 2) (by omega) (by omega)).trans hsb8).trans (show W.heap[M + 2]? = _ from hsb).symm
  case done =>
    intro W h hD
    obtain ⟨⟨R0, m, ⟨vu, vt, vf, hV⟩, hgl, hlen⟩, hbel, he, ⟨v, hsb⟩, hsep, hsv, hlens, htop⟩ := h
    have c0 := hV.blk.cell 0
    have c1 := hV.blk.cell 1
    have c2 := hV.blk.cell 2
    have f0 := hV.blk.frozen 0
    have f1 := hV.blk.frozen 1
    have f2 := hV.blk.frozen 2
    have e0 := he.cell 0
    have g0 := he.frozen 0
    have hltM := hV.blk.lt
    have hltE := he.lt
    have hs5' := Lib.hid hs5
    obtain ⟨uA, uc, hvu⟩ := hV.us.len (by omega)
    obtain ⟨tA, tc, hvt⟩ := hV.ts.len (by omega)
    obtain ⟨fA, fc, hvf⟩ := hV.fs.len (by omega)
    subst hvu
    subst hvt
    subst hvf
    simp only [List.getElem?_toArray, List.getElem?_cons_zero, List.getElem?_cons_succ] at c0 c1 c2 e0
    replace hV := Lib.hid hV
    replace he := Lib.hid he
    replace hgl := Lib.hid hgl
    replace hD := Lib.hid hD
    clear hlens hlen hlines hshort hm5 he5 hx5 hp5 hv5 hs5 hs
    show wpAt _ _ _ _ _ _
    refine wpAt_seq_k fun K hK => ?_
    go_wp2
    refine wpAt_of_wp (wp_ret ?_)
    obtain ⟨V, hVe⟩ : ∃ V, V = (((W.setCell ⟨M, 0, none⟩ (.slice uA m.uses.length uc)).setCell ⟨M, 1, none⟩ (.slice tA m.types.length tc)).setCell ⟨M, 2, none⟩ (.slice fA m.funcs.length fc)).setCell ⟨M + 1, 0, none⟩ (.int .i64 0) := ⟨_, rfl⟩
    have hD5 := hD.out
    rw [hs5'.out] at hD5
    have hVd : V.heap[M + 5]? = some (.deferred (some [])) := by
      rw [hVe]
      exact (Below.heap_setCell _ _ _ _ (by simp)).trans ((Below.heap_setCell _ _ _ _ (by simp)).trans ((Below.heap_setCell _ _ _ _ (by simp)).trans ((Below.heap_setCell _ _ _ _ (by simp)).trans hD5)))
    have hVm : Blk V M 26 #[.slice uA m.uses.length uc, .slice tA m.types.length tc, .slice fA m.funcs.length fc] := by
      rw [hVe]
      exact (((hV.out.blk.set_ 0 _).set_ 1 _).set_ 2 _).far (p := ⟨M + 1, 0, none⟩) (by simp) _
    have hVee : Blk V (M + 1) 27 #[.int .i64 0] := by
      rw [hVe]
      exact (((he.out.far (p := ⟨M, 0, none⟩) (by simp) _).far (p := ⟨M, 1, none⟩) (by simp) _).far (p := ⟨M, 2, none⟩) (by simp) _).set_ 0 _
    have hVb : Below M w V := by
      rw [hVe]
      exact (((hbel.setCell (p := ⟨M, 0, none⟩) (by simp) _).setCell (p := ⟨M, 1, none⟩) (by simp) _).setCell (p := ⟨M, 2, none⟩) (by simp) _).setCell (p := ⟨M + 1, 0, none⟩) (by simp) _
    have hVs : V.heap.size = W.heap.size := by rw [hVe]; simp [World.setCell]
    have hVh : ∀ b, M + 7 ≤ b → V.heap[b]? = W.heap[b]? := by
      intro b hb
      rw [hVe]
      exact (Below.heap_setCell _ _ _ _ (by simp; omega)).trans ((Below.heap_setCell _ _ _ _ (by simp; omega)).trans ((Below.heap_setCell _ _ _ _ (by simp; omega)).trans (Below.heap_setCell _ _ _ _ (by simp; omega))))
    rw [← hVe]
    rw [hs5'.out]
    refine ⟨M + 5, _, _, rfl, run_takeDeferred hVd, ?_⟩
    refine leaves_cons (f := 34) (args := #[.pointer (some ⟨M + 1, 0, none⟩)]) (by simp) (by simp [go_sem]) ?_
    refine (caught_idle (M + 1) _).mono ?_
    rintro e u' w'' ⟨rfl, rfl, rfl⟩
    have hg5 := grownBy_putObj' V (M + 5) (.deferred none)
    have kM := hVm.grown hg5 (by simp)
    have kE := hVee.grown hg5 (by simp)
    have k0 := kM.cell 0
    have k1 := kM.cell 1
    have k2 := kM.cell 2
    have k3 := kE.cell 0
    simp only [List.getElem?_toArray, List.getElem?_cons_zero, List.getElem?_cons_succ] at k0 k1 k2 k3
    rw [hgl.out]
    refine ⟨.tuple #[.agg #[.slice uA m.uses.length uc, .slice tA m.types.length tc, .slice fA m.funcs.length fc], .int .i64 0], by simp [results, Tryz.results13, go_sem, k0, k1, k2, k3], ?_⟩
    refine ⟨_, _, _, rfl, hV.out.toS.keep (by simp [hVs]) (fun b hb _ => ⟨(World.putObj_heap_other (by unfold New at hb; omega)).trans (hVh b hb), by unfold New at hb ⊢; omega⟩), ?_⟩
    exact (hVb.mono hwM).grown hg5 (by omega) (fun k e => by injection e; omega)
  case dies =>
    rintro ch W ⟨k, rfl, hg, ⟨u0, u1, u2, hm, hone⟩, he, hb⟩ hD
    rw [hs5] at hD
    show bodyPostK Tryz.prog Tryz.f13 (ParsePost w goal) (Exit.panic [{ v := fault k, recovered := false }]) _ W
    rw [hs5]
    refine ⟨M + 5, _, _, rfl, run_takeDeferred hD, ?_⟩
    have hg5 := grownBy_putObj' W (M + 5) (.deferred none)
    have kM := hm.grown hg5 (by simp)
    have kE := he.grown hg5 (by simp)
    have hbs := hb.size
    have hb5 : Below M w (W.putObj (M + 5) (.deferred none)) := hb.grown hg5 (by omega) (fun k e => by injection e; omega)
    refine leaves_cons (f := 34) (args := #[.pointer (some ⟨M + 1, 0, none⟩)]) (by simp) (by simp [go_sem]) ?_
    refine (caught_fault k (M + 1) (.int .i64 0) _ (kE.cell 0) (kE.frozen 0)).mono ?_
    rintro e u' w'' ⟨rfl, rfl, rfl⟩
    have jM := (kM.far (p := ⟨M + 1, 0, none⟩) (by simp) (.int .i64 (k : Int))).alloc (.cells #[.int .i64 (k : Int)] 120)
    have jE := (kE.set_ 0 (.int .i64 (k : Int))).alloc (.cells #[.int .i64 (k : Int)] 120)
    have jb := (hb5.setCell (p := ⟨M + 1, 0, none⟩) (by simp) (.int .i64 (k : Int))).alloc (by simp [World.setCell]; omega) (.cells #[.int .i64 (k : Int)] 120)
    have k0 := jM.cell 0
    have k1 := jM.cell 1
    have k2 := jM.cell 2
    have k3 := jE.cell 0
    simp only [List.getElem?_toArray, List.getElem?_cons_zero, List.getElem?_cons_succ, List.setIfInBounds_toArray, List.set_cons_zero] at k0 k1 k2 k3
    obtain ⟨V, hV⟩ : ∃ V, V = ((W.putObj (M + 5) (.deferred none)).setCell ⟨M + 1, 0, none⟩ (.int .i64 (k : Int))).alloc (.cells #[.int .i64 (k : Int)] 120) := ⟨_, rfl⟩
    rw [← hV] at k0 k1 k2 k3 jb ⊢
    rw [hg]
    show Leaves _ _ _ _ [] FrameMode.returning V
    refine ⟨.tuple #[.agg #[u0, u1, u2], .int .i64 (k : Int)], by simp [results, Tryz.results13, go_sem, k0, k1, k2, k3], ?_⟩
    exact ⟨u0, u1, u2, rfl, hone, jb.mono hwM⟩
end Go.Proofs.YtpfgjiapdepdmaaGreatDoor
