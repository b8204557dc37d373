/- The walk of the reader's expr. -/
import Derived.Test.YtpfgjiapdepdmaaGreatDoorPost
namespace Go.Proofs.YtpfgjiapdepdmaaGreatDoor
open Go.RowKit Go.Shelf
attribute [local go_sem ↓] Go.wp_at_zero Go.wp_at_succ

theorem expr_none (R : Nat) (l : List Pu.Tok) (w : World) (h : Rd w R l 40) :
    Calls Tryz.prog 97 #[.pointer (some ⟨R, 0, none⟩)] w (FaultP R w 1) := by
  have hlt := h.lt
  have hc := deeper_no R 40 l (w.alloc (.cells zeroEx 53)) (h.alloc _) rfl
  replace hc := Lib.hid hc
  clear h
  go_enter_defers Tryz.func97, Tryz.ntmps97
  go_wp2_with fail
  refine hc.out.mono ?_
  rintro e w1 ⟨rfl, hr, hg⟩
  go_wp2_with fail
  exact ⟨rfl, hr, only_trans (only_alloc (only_refl _ _) _) hg⟩

theorem door_fault_ex {R k : Nat} {d : Int} {w W : World} {tmps : Array Value} (hr : ∃ l' d', Rd W R l' d') (hg : w.grownBy W (some R)) (hx : W.cell? ⟨w.heap.size + 1, 0, none⟩ = some (.pointer (some ⟨R, 0, none⟩))) :
    bodyPostD Tryz.prog Tryz.f97 (ExprPost R d w (.error k)) (Exit.panic [{ v := fault k, recovered := false }])
      { tmps := tmps, defers := [{ target := .fn (.func 110) #[.pointer (some ⟨w.heap.size + 1, 0, none⟩)], args := #[] }] } W := by
  obtain ⟨l', d', hr⟩ := hr
  refine leaves_cons (f := 110) (args := #[.pointer (some ⟨w.heap.size + 1, 0, none⟩)]) (by simp) (by simp [go_sem]) ?_
  refine (back_fault (w.heap.size + 1) R d' l' _ W hr hx).mono ?_
  rintro e u' w'' ⟨rfl, rfl, d'', rfl⟩
  exact ⟨rfl, ⟨_, _, hr.setDepth d''⟩, only_setCell hg (.inl rfl) _⟩
theorem door_ok_ex {R : Nat} {d : Int} {w W : World} {tmps : Array Value} {x : Pu.Ex} {l' : List Pu.Tok} {u0 u1 u2 u3 u4 z0 z1 z2 z3 z4 : Value} (htmp : tmps.getD 2 undef = .pointer (some ⟨w.heap.size, 0, none⟩)) (hR : R < w.heap.size) (h0 : 0 ≤ d) (h1 : d < 40)
    (hr : Rd W R l' (d + 1)) (hg : w.grownBy W (some R)) (hx : W.cell? ⟨w.heap.size + 1, 0, none⟩ = some (.pointer (some ⟨R, 0, none⟩)))
    (hb : Blk W w.heap.size 53 #[z0, z1, z2, z3, z4]) (hty : ExC W (New (w.heap.size + 1)) x [u0, u1, u2, u3, u4]) :
    bodyPostD Tryz.prog Tryz.f97 (ExprPost R d w (.ok (x, l'))) Exit.ret
      { tmps := tmps, defers := [{ target := .fn (.func 110) #[.pointer (some ⟨w.heap.size + 1, 0, none⟩)], args := #[] }] } (set5 W w.heap.size u0 u1 u2 u3 u4) := by
  have hp := put5 hR (Nat.le_refl _) hr hg hb hty
  have hxx : (set5 W w.heap.size u0 u1 u2 u3 u4).cell? ⟨w.heap.size + 1, 0, none⟩ = some (.pointer (some ⟨R, 0, none⟩)) := by
    unfold set5
    rw [World.cell?_setCell_other _ _ _ _ (by simp), World.cell?_setCell_other _ _ _ _ (by simp), World.cell?_setCell_other _ _ _ _ (by simp), World.cell?_setCell_other _ _ _ _ (by simp), World.cell?_setCell_other _ _ _ _ (by simp)]
    exact hx
  obtain ⟨hrd, hgg, hbb, htt⟩ := hp
  generalize set5 W w.heap.size u0 u1 u2 u3 u4 = V at hrd hgg hbb htt hxx
  refine leaves_cons (f := 110) (args := #[.pointer (some ⟨w.heap.size + 1, 0, none⟩)]) (by simp) (by simp [go_sem]) ?_
  refine (back_any (w.heap.size + 1) R d l' _ V hrd hxx h0 (by omega)).mono ?_
  rintro e u' w'' ⟨rfl, rfl, rfl⟩
  have hb2 := hbb.far (p := ⟨R, 1, none⟩) (by simp; omega) (.int .i64 d)
  have ht2 := htt.far (p := ⟨R, 1, none⟩) (by simp; omega) (.int .i64 d)
  refine ⟨_, results_cell_row Tryz.results97 _ _ w.heap.size 53 _ (0, 0) _ htmp hb2 Tryz.underlying53 rfl (by kernel_rfl), ?_⟩
  exact ⟨⟨_, rfl, ht2.wide (by omega)⟩, hrd.setDepth d, only_setCell hgg (.inl rfl) _⟩

set_option maxHeartbeats 4000000 in
theorem expr_succ {d : Int} {pe : List Pu.Tok → Pu.PR Pu.Ex} (hE : EC (d + 1) pe) (he : Pu.Eats pe) (hd0 : 0 ≤ d) (hd2 : d < 40) (R : Nat) (l : List Pu.Tok) (w : World) (hl : Pu.Fit l) (h : Rd w R l d) :
    Calls Tryz.prog 97 #[.pointer (some ⟨R, 0, none⟩)] w (ExprPost R d w (Pu.andThen (Pu.pPost pe l) fun r => Pu.pSums (Pu.pPost pe) r.2.length r.1 r.2)) := by
  have hlt := h.lt
  have hep := Pu.pPost_eats he
  have hP := fun R l w hl h => post_any hE he R l w hl h
  have hc := deeper_yes R d l (w.alloc (.cells zeroEx 53)) (h.alloc _) hd0 hd2
  obtain ⟨pp, hpp⟩ : ∃ pp, pp = Pu.pPost pe := ⟨_, rfl⟩
  rw [← hpp] at hep hP ⊢
  have hv0 := Blk.new w 53 zeroEx
  replace hpp := Lib.hid hpp
  replace hP := Lib.hid hP
  replace hep := Lib.hid hep
  replace hc := Lib.hid hc
  clear hE he h
  cases hp : pp l with
  | error k =>
    show Calls _ _ _ _ (ExprPost R d w (.error k))
    go_enter_defers Tryz.func97, Tryz.ntmps97
    go_wp2_with fail
    refine hc.out.mono ?_
    rintro e w1 ⟨rfl, hr1, hg1, hx1⟩
    have hxs : (w.alloc (.cells zeroEx 53)).heap.size = w.heap.size + 1 := by simp
    rw [hxs] at hx1 ⊢
    have hg01 : w.grownBy w1 (some R) := only_trans (only_alloc (only_refl _ _) _) hg1
    have ha := hP.out R l w1 hl hr1
    rw [hp] at ha
    replace ha := Lib.hid ha
    go_wp2_with fail
    refine ha.out.mono ?_
    rintro e w2 ⟨rfl, hr2, hg2⟩
    go_wp2_with fail
    exact door_fault_ex hr2 (only_trans hg01 hg2) (keepX hg2 hx1 (by omega))
  | ok r =>
    obtain ⟨x0, l0⟩ := r
    have hl0 := hep.out l x0 l0 hp
    show Calls _ _ _ _ (ExprPost R d w (Pu.pSums pp l0.length x0 l0))
    obtain ⟨goal, hgoal⟩ : ∃ g, g = Pu.pSums pp l0.length x0 l0 := ⟨_, rfl⟩
    rw [← hgoal]
    replace hgoal := Lib.hid hgoal
    go_enter_defers Tryz.func97, Tryz.ntmps97
    go_wp2_with fail
    refine hc.out.mono ?_
    rintro e w1 ⟨rfl, hr1, hg1, hx1⟩
    have hxs : (w.alloc (.cells zeroEx 53)).heap.size = w.heap.size + 1 := by simp
    rw [hxs] at hx1 ⊢
    have hg01 : w.grownBy w1 (some R) := only_trans (only_alloc (only_refl _ _) _) hg1
    have ha := hP.out R l w1 hl hr1
    rw [hp] at ha
    have hv1 := hv0.grown hg1 (by intro e; injection e; omega)
    have hs1 := World.block_lt_of_cell? w1 _ hx1
    simp only at hs1
    replace ha := Lib.hid ha
    replace hv1 := Lib.hid hv1
    clear hr1
    go_wp2_with fail
    refine ha.out.mono ?_
    rintro e w2 ⟨⟨cs, rfl, hex⟩, hr2, hg2⟩
    obtain ⟨k', n', of', nm', A', m', c', rfl⟩ := hex.form
    have hs2 := hg2.size
    obtain ⟨X, hX⟩ : ∃ X, X = w2.heap.size := ⟨_, rfl⟩
    have hacc : Acc R (d + 1) w X x0 l0 (w2.alloc (.cells #[.int .i64 k', .int .i64 n', .string of', .string nm', .slice A' m' c'] 53)) := by
      refine ⟨hr2.alloc _, only_alloc (only_trans hg01 hg2) _, (hv1.out.grown hg2 (by intro e; injection e; omega)).alloc _, k', n', of', nm', A', m', c', by rw [hX]; exact Blk.new _ _ _, ?_⟩
      exact hex.keep (by simp) fun b hs hb => ⟨Below.heap_alloc _ _ b hb, by unfold New at hs; omega, by omega⟩
    have hx2 : (w2.alloc (.cells #[.int .i64 k', .int .i64 n', .string of', .string nm', .slice A' m' c'] 53)).cell? ⟨w.heap.size + 1, 0, none⟩ = some (.pointer (some ⟨R, 0, none⟩)) :=
      keepX (only_alloc (only_refl w2 (some R)) _) (keepX hg2 hx1 (by omega)) (by omega)
    replace hacc := Lib.hid hacc
    replace hx2 := Lib.hid hx2
    clear hex hr2
    go_wp2_with fail
    rw [← hX]
    have hXw : w.heap.size + 1 < X := by omega
    clear hs2 hx1
    replace hX := Lib.hid hX
    go_loopw [] (fun wi => ∃ (x : Pu.Ex) (l' : List Pu.Tok), Acc R (d + 1) w X x l' wi ∧ wi.cell? ⟨w.heap.size + 1, 0, none⟩ = some (.pointer (some ⟨R, 0, none⟩)) ∧ l' <:+ l ∧ goal = Pu.pSums pp l'.length x l') (fun wi => tokLeft wi R)
    case atStart => exact ⟨x0, l0, hacc.out, hx2.out, hl0, hgoal.out⟩
    case round =>
      obtain ⟨x, l', hA, hxb, hsf, heq⟩ := hrel
      have hA0 := hA
      obtain ⟨hr, hg, hres, k, n, of, s, A, m, c, hvar, hex⟩ := hA
      have htl := hr.left
      have hts := take_any R 43 (d + 1) l' wr hr
      replace hts := Lib.hid hts
      cases ht : Pu.take 43 l' with
      | none =>
        rw [ht] at hts
        rw [Pu.pSums_none x l' ht] at heq
        have z0 := hres.frozen 0
        have z1 := hres.frozen 1
        have z2 := hres.frozen 2
        have z3 := hres.frozen 3
        have z4 := hres.frozen 4
        have v0 := hres.cell 0
        have v1 := hres.cell 1
        have v2 := hres.cell 2
        have v3 := hres.cell 3
        have v4 := hres.cell 4
        have y0 := hvar.cell 0
        have y1 := hvar.cell 1
        have y2 := hvar.cell 2
        have y3 := hvar.cell 3
        have y4 := hvar.cell 4
        have hltv := hres.lt
        have hltx := hvar.lt
        replace heq := Lib.hid heq
        replace hr := Lib.hid hr
        replace hg := Lib.hid hg
        replace hres := Lib.hid hres
        replace hvar := Lib.hid hvar
        replace hex := Lib.hid hex
        replace hA0 := Lib.hid hA0
        go_wp2_with fail
        refine hts.out.mono ?_
        rintro e w3 ⟨rfl, rfl⟩
        go_wp2_with fail
        rw [heq.out]
        exact door_ok_ex (by rfl) hlt hd0 hd2 hr.out hg.out hxb hres.out (hex.out.keep (Nat.le_refl _) fun b hs _ => ⟨rfl, hs.1⟩)
      | some l1 =>
        rw [ht] at hts
        rw [Pu.pSums_some hep.out x l' l1 ht] at heq
        have hl1 := Pu.take_len ht
        have hsf1 := (Pu.take_suf ht).trans hsf
        replace hr := Lib.hid hr
        replace hg := Lib.hid hg
        replace hres := Lib.hid hres
        replace hvar := Lib.hid hvar
        replace hex := Lib.hid hex
        go_wp2_with fail
        refine hts.out.mono ?_
        rintro e w3 ⟨rfl, hr3, hg3⟩
        have hA3 := hA0.later hlt (by omega) hg3 hr3
        clear hA0
        have hg03 := hA3.grown
        have hvar3 := hvar.out.grown hg3 (by intro e; injection e; omega)
        have hex3 := hex.out.laterS hg3 (fun h => by unfold NewBut at h; omega)
        have hres3 := hA3.res
        have hXR : X ≠ R := by omega
        have hxb3 : w3.drew.cell? ⟨w.heap.size + 1, 0, none⟩ = some (.pointer (some ⟨R, 0, none⟩)) := keepX (w' := w3) (X := w.heap.size + 1) hg3 hxb (by omega)
        have y0 : w3.drew.cell? ⟨X, 0, none⟩ = some (.int .i64 k) := hvar3.cell 0
        have y1 : w3.drew.cell? ⟨X, 1, none⟩ = some (.int .i64 n) := hvar3.cell 1
        have y2 : w3.drew.cell? ⟨X, 2, none⟩ = some (.string of) := hvar3.cell 2
        have y3 : w3.drew.cell? ⟨X, 3, none⟩ = some (.string s) := hvar3.cell 3
        have y4 : w3.drew.cell? ⟨X, 4, none⟩ = some (.slice A m c) := hvar3.cell 4
        have x0' : w3.cell? ⟨X, 0, none⟩ = some (.int .i64 k) := hvar3.cell 0
        have x1' : w3.cell? ⟨X, 1, none⟩ = some (.int .i64 n) := hvar3.cell 1
        have x2' : w3.cell? ⟨X, 2, none⟩ = some (.string of) := hvar3.cell 2
        have x3' : w3.cell? ⟨X, 3, none⟩ = some (.string s) := hvar3.cell 3
        have x4' : w3.cell? ⟨X, 4, none⟩ = some (.slice A m c) := hvar3.cell 4
        have hcx := hP.out R l1 w3.drew (hl.suf hsf1) hr3.drew
        have hs3 := hg03.size
        have hg03d := Lib.hid (only_drew hg03)
        have hvar3d := Lib.hid hvar3.drew
        have hex3d : Hid (ExC w3.drew (NewBut (w.heap.size + 1) X) x [.int .i64 k, .int .i64 n, .string of, .string s, .slice A m c]) := Lib.hid (hex3.keep (Nat.le_refl _) fun b hs _ => ⟨rfl, hs⟩)
        have hres3d := Lib.hid hres3.drew
        have hltx3 := hvar3.lt
        replace hcx := Lib.hid hcx
        replace hA3 := Lib.hid hA3
        replace hg03 := Lib.hid hg03
        replace hvar3 := Lib.hid hvar3
        replace hex3 := Lib.hid hex3
        replace hres3 := Lib.hid hres3
        replace hr3 := Lib.hid hr3
        replace hxb3 := Lib.hid hxb3
        go_wp2_with fail
        cases hp1 : pp l1 with
        | error kk =>
          rw [hp1] at hcx heq
          obtain rfl : goal = .error kk := heq
          refine wp_region_anyFrame ?_
          go_region_dies
          all_goals
            go_at_call 111
            refine hcx.out.mono ?_
            rintro e w4 ⟨rfl, hr4, hg4⟩
            exact fun tmps => door_fault_ex hr4 (only_trans hg03d.out hg4) (keepX hg4 hxb3.out (by omega))
        | ok r =>
          obtain ⟨y, l2⟩ := r
          have hl2 := hep.out l1 y l2 hp1
          rw [hp1] at hcx heq
          have heq2 : goal = Pu.pSums pp l2.length (.mk 5 0 [] [] [x, y]) l2 := heq
          clear heq
          replace heq2 := Lib.hid heq2
          refine wp_region_anyFrame ?_
          go_region_with ((go_at_call 111; refine hcx.out.mono ?_; rintro e w4 ⟨⟨cs2, rfl, hy⟩, hr4, hg4⟩; obtain ⟨ky, ny, ofy, sy, Ay, my, cy, rfl⟩ := hy.form; have hb4 := Lib.hid (hvar3d.out.grown hg4 (fun e => hXR (by injection e))); have q0 := hb4.out.cell 0; have q1 := hb4.out.cell 1; have q2 := hb4.out.cell 2; have q3 := hb4.out.cell 3; have q4 := hb4.out.cell 4; have p0 := hb4.out.frozen 0; have p1 := hb4.out.frozen 1; have p2 := hb4.out.frozen 2; have p3 := hb4.out.frozen 3; have p4 := hb4.out.frozen 4; have hlt4 := hb4.out.lt; replace hy := Lib.hid hy; replace hr4 := Lib.hid hr4))
          all_goals
            refine AnyFrame.normal ?_
            have hs34 := hg4.size
            have hs3' : w3.drew.heap.size = w3.heap.size := rfl
            have hy4 : ExC w4 (NewBut (w.heap.size + 1) X) y [.int .i64 ky, .int .i64 ny, .string ofy, .string sy, .slice Ay my cy] := hy.out.keep (Nat.le_refl _) fun b hs _ => ⟨rfl, by unfold New at hs; exact ⟨by omega, by omega⟩⟩
            have hA5 := acc_store hlt (by omega) (by omega) hr4.out (only_trans hg03d.out hg4) (hres3d.out.grown hg4 (by intro e; injection e; omega)) hb4.out (hex3d.out.laterS hg4 (fun h => by unfold NewBut at h; omega)) hy4 5
            have hxb5 : ((set5 w4 X (.int .i64 5) (.int .i64 0) (.string ⟨#[]⟩) (.string ⟨#[]⟩) (.slice (some ⟨w4.heap.size, 0, none⟩) 2 2)).alloc
              (.cells #[.int .i64 k, .int .i64 n, .string of, .string s, .slice A m c, .int .i64 ky, .int .i64 ny, .string ofy, .string sy, .slice Ay my cy] 53)).cell? ⟨w.heap.size + 1, 0, none⟩ = some (.pointer (some ⟨R, 0, none⟩)) := by
              have hne : ∀ o, (⟨X, o, none⟩ : Addr) ≠ ⟨w.heap.size + 1, 0, none⟩ := fun o e => by injection e; omega
              rw [World.cell?_alloc_lt _ _ _ (by simp [set5, World.setCell]; omega)]
              unfold set5
              rw [World.cell?_setCell_other _ _ _ _ (hne _), World.cell?_setCell_other _ _ _ _ (hne _), World.cell?_setCell_other _ _ _ _ (hne _), World.cell?_setCell_other _ _ _ _ (hne _), World.cell?_setCell_other _ _ _ _ (hne _)]
              exact keepX hg4 hxb3.out (by omega)
            have hl2' := hl2.length_le
            have hlf := hA5.rd.left
            have hres := (⟨⟨_, l2, hA5, hxb5, hl2.trans hsf1, heq2.out⟩, by rw [hlf, htl]; omega⟩ : (∃ (x : Pu.Ex) (l' : List Pu.Tok), Acc R (d + 1) w X x l' _ ∧ World.cell? _ ⟨w.heap.size + 1, 0, none⟩ = some (.pointer (some ⟨R, 0, none⟩)) ∧ l' <:+ l ∧ goal = Pu.pSums pp l'.length x l') ∧ tokLeft _ R < tokLeft wr R)
            clear q0 q1 q2 q3 q4 p0 p1 p2 p3 p4 y0 y1 y2 y3 y4 x0' x1' x2' x3' x4' hy4
            replace hres := Lib.hid hres
            replace hA5 := Lib.hid hA5
            replace hxb5 := Lib.hid hxb5
            replace hlf := Lib.hid hlf
            go_wp2_with fail
            exact hres.out

theorem expr_any : ∀ (n : Nat), n ≤ 40 → EC (40 - (n : Int)) (Pu.pExpr n)
  | 0, _ => fun R l w _ h => expr_none R l w h
  | n + 1, hn => fun R l w hl h => by
    have hd : (40 : Int) - (n : Int) = (40 - ((n + 1 : Nat) : Int)) + 1 := by omega
    have ih := expr_any n (by omega)
    rw [hd] at ih
    exact expr_succ ih (Pu.pExpr_eats n) (by omega) (by omega) R l w hl h
end Go.Proofs.YtpfgjiapdepdmaaGreatDoor
