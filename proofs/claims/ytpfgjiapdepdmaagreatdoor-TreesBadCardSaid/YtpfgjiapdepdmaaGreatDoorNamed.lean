/- The walk of the reader's named. -/
import Derived.Test.YtpfgjiapdepdmaaGreatDoorList
import Derived.Laws.Rows
namespace Go.Proofs.YtpfgjiapdepdmaaGreatDoor
open Go.RowKit Go.Shelf

/-- the five cells of an expression, stored -/
def set5 (w : World) (V : Nat) (u0 u1 u2 u3 u4 : Value) : World := ((((w.setCell ⟨V, 0, none⟩ u0).setCell ⟨V, 1, none⟩ u1).setCell ⟨V, 2, none⟩ u2).setCell ⟨V, 3, none⟩ u3).setCell ⟨V, 4, none⟩ u4
/-- what a store of an expression into a block of the call's own leaves -/
structure Put5 (R : Nat) (d : Int) (w : World) (V : Nat) (x : Pu.Ex) (l' : List Pu.Tok) (u0 u1 u2 u3 u4 : Value) (W : World) : Prop where
  rd : Rd W R l' d
  grown : w.grownBy W (some R)
  blk : Blk W V 53 #[u0, u1, u2, u3, u4]
  ex : ExC W (New (V + 1)) x [u0, u1, u2, u3, u4]
theorem put5 {R : Nat} {d : Int} {w W : World} {V : Nat} {x : Pu.Ex} {l' : List Pu.Tok} {u0 u1 u2 u3 u4 z0 z1 z2 z3 z4 : Value} (hR : R < w.heap.size) (hV : w.heap.size ≤ V)
    (hr : Rd W R l' d) (hg : w.grownBy W (some R)) (hb : Blk W V 53 #[z0, z1, z2, z3, z4]) (hx : ExC W (New (V + 1)) x [u0, u1, u2, u3, u4]) : Put5 R d w V x l' u0 u1 u2 u3 u4 (set5 W V u0 u1 u2 u3 u4) := by
  have hVR : R < V := by omega
  refine ⟨?_, ?_, ?_, ?_⟩
  · exact ((((hr.newer (p := ⟨V, 0, none⟩) hVR u0).newer (p := ⟨V, 1, none⟩) hVR u1).newer (p := ⟨V, 2, none⟩) hVR u2).newer (p := ⟨V, 3, none⟩) hVR u3).newer (p := ⟨V, 4, none⟩) hVR u4
  · exact only_setCell (only_setCell (only_setCell (only_setCell (only_setCell hg (.inr hV) _) (.inr hV) _) (.inr hV) _) (.inr hV) _) (.inr hV) _
  · exact ((((hb.set_ 0 u0).set_ 1 u1).set_ 2 u2).set_ 3 u3).set_ 4 u4
  · exact ((((hx.far (p := ⟨V, 0, none⟩) (by simp) u0).far (p := ⟨V, 1, none⟩) (by simp) u1).far (p := ⟨V, 2, none⟩) (by simp) u2).far (p := ⟨V, 3, none⟩) (by simp) u3).far (p := ⟨V, 4, none⟩) (by simp) u4
/-- a return with the expression in the result's block -/
theorem ex_ret {fn : Func} {p : Tmp} (hres : fn.results = #[.cell p 53]) {R : Nat} {d : Int} {w W : World} {x : Pu.Ex} {l' : List Pu.Tok} {tmps : Array Value} {u0 u1 u2 u3 u4 z0 z1 z2 z3 z4 : Value}
    (htmp : tmps.getD p undef = .pointer (some ⟨w.heap.size, 0, none⟩)) (hR : R < w.heap.size) (hr : Rd W R l' d) (hg : w.grownBy W (some R)) (hb : Blk W w.heap.size 53 #[z0, z1, z2, z3, z4])
    (hx : ExC W (New (w.heap.size + 1)) x [u0, u1, u2, u3, u4]) :
    bodyPost Tryz.prog fn (ExprPost R d w (.ok (x, l'))) Exit.ret { tmps := tmps, defers := [] } (set5 W w.heap.size u0 u1 u2 u3 u4) := by
  have h := put5 hR (Nat.le_refl _) hr hg hb hx
  refine bodyPost_ret (v := .agg #[u0, u1, u2, u3, u4]) (results_cell_row hres _ _ w.heap.size 53 _ (0, 0) _ htmp h.blk Tryz.underlying53 rfl (by kernel_rfl)) rfl ?_
  exact ⟨⟨_, rfl, h.ex.wide (by omega)⟩, h.rd, h.grown⟩

abbrev zeroEx : Array Value := #[.int .i64 0, .int .i64 0, .string ⟨#[]⟩, .string ⟨#[]⟩, .slice none 0 0]
abbrev callEx (of s : List UInt8) : Array Value := #[.int .i64 4, .int .i64 0, .string ⟨of.toArray⟩, .string ⟨s.toArray⟩, .slice none 0 0]

set_option maxHeartbeats 2000000 in
theorem named_any {d : Int} {pe : List Pu.Tok → Pu.PR Pu.Ex} (hE : EC d pe) (he : Pu.Eats pe) (R : Nat) (s : List UInt8) (l : List Pu.Tok) (w : World) (hl : Pu.Fit l) (h : Rd w R l d) :
    Calls Tryz.prog 142 #[.pointer (some ⟨R, 0, none⟩), .string ⟨s.toArray⟩] w (ExprPost R d w (Pu.pNamed pe s l)) := by
  have hlt := h.lt
  obtain ⟨w1, hw1⟩ : ∃ w1, w1 = (w.alloc (.cells zeroEx 53)).alloc (.cells (callEx [] s) 53) := ⟨_, rfl⟩
  have hr1 : Rd w1 R l d := by rw [hw1]; exact (h.alloc _).alloc _
  have hg1 : w.grownBy w1 (some R) := by rw [hw1]; exact only_alloc (only_alloc (only_refl _ _) _) _
  have hv1 : Blk w1 w.heap.size 53 zeroEx := by rw [hw1]; exact (Blk.new w _ _).alloc _
  have hx1 : Blk w1 (w.heap.size + 1) 53 (callEx [] s) := by
    rw [hw1]
    have := Blk.new (w.alloc (.cells zeroEx 53)) 53 (callEx [] s)
    simpa using this
  have hE' := Lib.hid hE
  have he' := Lib.hid he
  have ht0 := take_any R 46 d l w1 hr1
  have ht1 := take_any R 40 d l w1 hr1
  replace ht0 := Lib.hid ht0
  replace ht1 := Lib.hid ht1
  replace hr1 := Lib.hid hr1
  replace hg1 := Lib.hid hg1
  replace hv1 := Lib.hid hv1
  replace hx1 := Lib.hid hx1
  replace hw1 := Lib.hid hw1
  clear hE he h
  cases htk : Pu.take 46 l with
  | none =>
    rw [htk] at ht0
    cases htk2 : Pu.take 40 l with
    | none =>
      have hp : Pu.pNamed pe s l = .ok (.mk 3 0 [] s [], l) := by unfold Pu.pNamed; rw [htk, htk2]
      rw [hp]
      rw [htk2] at ht1
      have hnot : ∀ (x : Bool) (w : World), (Op.unary .not (.bool x)).run Tryz.prog w = .ok (.bool (!x)) w := fun _ _ => rfl
      clear hp
      go_enter Tryz.func142, Tryz.ntmps142
      go_wp2_with fail
      rw [← hw1.out]
      refine ht0.out.mono ?_
      rintro e w2 ⟨rfl, rfl⟩
      go_wp2_with fail
      refine ht1.out.mono ?_
      rintro e w2 ⟨rfl, rfl⟩
      have z0 := hv1.out.frozen 0
      have z1 := hv1.out.frozen 1
      have z2 := hv1.out.frozen 2
      have z3 := hv1.out.frozen 3
      have z4 := hv1.out.frozen 4
      have v0 := hv1.out.cell 0
      have v1 := hv1.out.cell 1
      have v2 := hv1.out.cell 2
      have v3 := hv1.out.cell 3
      have v4 := hv1.out.cell 4
      have hltv := hv1.out.lt
      go_wp2_with fail
      exact ex_ret Tryz.results142 (by rfl) hlt hr1.out hg1.out hv1.out (ExC.leaf _ _ 3 0 [] s)
    | some l1 =>
      rw [htk2] at ht1
      have hsuf := Pu.take_suf htk2
      have hpa : Pu.pNamed pe s l = Pu.pArgs pe [] s l1 := by unfold Pu.pNamed; rw [htk, htk2]
      rw [hpa]
      clear hpa
      cases htk3 : Pu.take 41 l1 with
      | some l3 =>
        have hp : Pu.pArgs pe [] s l1 = .ok (.mk 4 0 [] s [], l3) := by unfold Pu.pArgs; rw [htk3]
        rw [hp]
        clear hp
        have hnot : ∀ (x : Bool) (w : World), (Op.unary .not (.bool x)).run Tryz.prog w = .ok (.bool (!x)) w := fun _ _ => rfl
        go_enter Tryz.func142, Tryz.ntmps142
        go_wp2_with fail
        rw [← hw1.out]

        refine ht0.out.mono ?_
        rintro e w2 ⟨rfl, rfl⟩
        go_wp2_with fail
        refine ht1.out.mono ?_
        rintro e wb ⟨rfl, hrb, hgb⟩
        have hvb := hv1.out.grown hgb (by intro e; injection e; omega)
        have hxb := hx1.out.grown hgb (by intro e; injection e; omega)
        have hg0b := only_trans hg1.out hgb
        have hsb := hg0b.size
        replace hrb := Lib.hid hrb
        replace hvb := Lib.hid hvb
        replace hxb := Lib.hid hxb
        replace hg0b := Lib.hid hg0b

        have ht5 := take_any R 41 d l1 wb hrb.out
        rw [htk3] at ht5
        replace ht5 := Lib.hid ht5
        go_wp2_with fail
        refine ht5.out.mono ?_
        rintro e w5 ⟨rfl, hr5, hg5⟩
        have hv5 := Lib.hid (hvb.out.grown hg5 (by intro e; injection e; omega))
        have hx5 := Lib.hid (hxb.out.grown hg5 (by intro e; injection e; omega))
        have hg05 := Lib.hid (only_trans hg0b.out hg5)
        replace hr5 := Lib.hid hr5
        have z0 := hv5.out.frozen 0
        have z1 := hv5.out.frozen 1
        have z2 := hv5.out.frozen 2
        have z3 := hv5.out.frozen 3
        have z4 := hv5.out.frozen 4
        have v0 := hv5.out.cell 0
        have v1 := hv5.out.cell 1
        have v2 := hv5.out.cell 2
        have v3 := hv5.out.cell 3
        have v4 := hv5.out.cell 4
        have y0 := hx5.out.cell 0
        have y1 := hx5.out.cell 1
        have y2 := hx5.out.cell 2
        have y3 := hx5.out.cell 3
        have y4 := hx5.out.cell 4
        have hltv := hv5.out.lt
        have hltx := hx5.out.lt
        go_wp2_with fail
        exact ex_ret Tryz.results142 (by rfl) hlt hr5.out hg05.out hv5.out (ExC.leaf _ _ 4 0 [] s)
      | none =>
        cases hpl : Pu.pList pe 41 l1 with
        | error k =>
          have hp : Pu.pArgs pe [] s l1 = .error k := by unfold Pu.pArgs; rw [htk3, hpl]; rfl
          rw [hp]
          clear hp
          have hnot : ∀ (x : Bool) (w : World), (Op.unary .not (.bool x)).run Tryz.prog w = .ok (.bool (!x)) w := fun _ _ => rfl
          go_enter Tryz.func142, Tryz.ntmps142
          go_wp2_with fail
          rw [← hw1.out]

          refine ht0.out.mono ?_
          rintro e w2 ⟨rfl, rfl⟩
          go_wp2_with fail
          refine ht1.out.mono ?_
          rintro e wb ⟨rfl, hrb, hgb⟩
          have hvb := hv1.out.grown hgb (by intro e; injection e; omega)
          have hxb := hx1.out.grown hgb (by intro e; injection e; omega)
          have hg0b := only_trans hg1.out hgb
          have hsb := hg0b.size
          replace hrb := Lib.hid hrb
          replace hvb := Lib.hid hvb
          replace hxb := Lib.hid hxb
          replace hg0b := Lib.hid hg0b

          have ht5 := take_any R 41 d l1 wb hrb.out
          rw [htk3] at ht5
          have hli := list_any hE'.out he'.out R 41 l1 wb (hl.suf hsuf) hrb.out
          rw [hpl] at hli
          replace ht5 := Lib.hid ht5
          replace hli := Lib.hid hli
          go_wp2_with fail
          refine ht5.out.mono ?_
          rintro e w5 ⟨rfl, rfl⟩
          go_wp2_with fail
          refine hli.out.mono ?_

          rintro e w6 ⟨rfl, hr6, hg6⟩
          go_wp2_with fail
          exact ⟨rfl, rfl, hr6, only_trans hg0b.out hg6⟩
        | ok r =>
          obtain ⟨xs, l6⟩ := r
          have hp : Pu.pArgs pe [] s l1 = .ok (.mk 4 0 [] s xs, l6) := by unfold Pu.pArgs; rw [htk3, hpl]; rfl
          rw [hp]
          clear hp
          have hnot : ∀ (x : Bool) (w : World), (Op.unary .not (.bool x)).run Tryz.prog w = .ok (.bool (!x)) w := fun _ _ => rfl
          go_enter Tryz.func142, Tryz.ntmps142
          go_wp2_with fail
          rw [← hw1.out]

          refine ht0.out.mono ?_
          rintro e w2 ⟨rfl, rfl⟩
          go_wp2_with fail
          refine ht1.out.mono ?_
          rintro e wb ⟨rfl, hrb, hgb⟩
          have hvb := hv1.out.grown hgb (by intro e; injection e; omega)
          have hxb := hx1.out.grown hgb (by intro e; injection e; omega)
          have hg0b := only_trans hg1.out hgb
          have hsb := hg0b.size
          replace hrb := Lib.hid hrb
          replace hvb := Lib.hid hvb
          replace hxb := Lib.hid hxb
          replace hg0b := Lib.hid hg0b

          have ht5 := take_any R 41 d l1 wb hrb.out
          rw [htk3] at ht5
          have hli := list_any hE'.out he'.out R 41 l1 wb (hl.suf hsuf) hrb.out
          rw [hpl] at hli
          replace ht5 := Lib.hid ht5
          replace hli := Lib.hid hli
          go_wp2_with fail
          refine ht5.out.mono ?_
          rintro e w5 ⟨rfl, rfl⟩
          go_wp2_with fail
          refine hli.out.mono ?_

          rintro e w6 ⟨⟨v, rfl, hown⟩, hr6, hg6⟩
          obtain ⟨A, c, rfl, hexx⟩ := hown.toEx
          have hex6 := hexx 4 0 [] s
          have hv6 := hvb.out.grown hg6 (by intro e; injection e; omega)
          have hx6 := hxb.out.grown hg6 (by intro e; injection e; omega)
          have hg06 := only_trans hg0b.out hg6
          have hneX6 : w.heap.size + 1 ≠ R := by omega
          have hvlt6 := hv6.lt
          have hxlt6 := hx6.lt
          have hxb2 := hxb.out.lt
          have fx4 := hx6.frozen 4
          have qx4 := hx6.cell 4
          have qx0 := hx6.cell 0
          have qx1 := hx6.cell 1
          have qx2 := hx6.cell 2
          have qx3 := hx6.cell 3
          obtain ⟨w7, hw7⟩ : ∃ w7, w7 = w6.setCell ⟨w.heap.size + 1, 4, none⟩ (.slice A xs.length c) := ⟨_, rfl⟩
          have hr7 : Rd w7 R l6 d := by rw [hw7]; exact hr6.newer (p := ⟨w.heap.size + 1, 4, none⟩) (by simp; omega) _
          have hv7 : Blk w7 w.heap.size 53 zeroEx := by rw [hw7]; exact hv6.far (p := ⟨w.heap.size + 1, 4, none⟩) (by simp) _
          have hg07 : w.grownBy w7 (some R) := by rw [hw7]; exact only_setCell hg06 (.inr (by simp)) _
          have hex7 : ExC w7 (New (w.heap.size + 1)) (.mk 4 0 [] s xs) [.int .i64 4, .int .i64 0, str [], str s, .slice A xs.length c] := by
            rw [hw7]
            exact (hex6.far (p := ⟨w.heap.size + 1, 4, none⟩) (by simpa using hxb2) _).wide (by omega)
          have hx7 : Blk w7 (w.heap.size + 1) 53 #[.int .i64 4, .int .i64 0, str [], str s, .slice A xs.length c] := by rw [hw7]; exact hx6.set_ 4 _
          have z0 := hv6.frozen 0
          have z1 := hv6.frozen 1
          have z2 := hv6.frozen 2
          have z3 := hv6.frozen 3
          have z4 := hv6.frozen 4
          have v0 := hv6.cell 0
          have v1 := hv6.cell 1
          have v2 := hv6.cell 2
          have v3 := hv6.cell 3
          have v4 := hv6.cell 4
          replace hv7 := Lib.hid hv7
          replace hr7 := Lib.hid hr7
          replace hg07 := Lib.hid hg07
          replace hex7 := Lib.hid hex7
          replace hx7 := Lib.hid hx7
          replace hv6 := Lib.hid hv6
          replace hx6 := Lib.hid hx6
          replace hg06 := Lib.hid hg06
          replace hown := Lib.hid hown
          replace hexx := Lib.hid hexx
          replace hex6 := Lib.hid hex6
          have hltv7 : w.heap.size < w7.heap.size := hv7.out.lt
          have hltx7 : w.heap.size + 1 < w7.heap.size := hx7.out.lt
          replace hw7 := Lib.hid hw7
          clear hr6
          go_wp2_with fail
          rw [← hw7.out]
          exact ex_ret Tryz.results142 (by rfl) hlt hr7.out hg07.out hv7.out hex7.out
  | some l1 =>
    rw [htk] at ht0
    have hl1 := Pu.take_suf htk
    have hpa : Pu.pNamed pe s l = Pu.andThen (Pu.pName l1) fun r => Pu.andThen (Pu.must 40 r.2) fun l3 => Pu.pArgs pe s r.1 l3 := by unfold Pu.pNamed; rw [htk]
    rw [hpa]
    clear hpa
    cases hpn : Pu.pName l1 with
    | error k =>
      show Calls _ _ _ _ (FaultP R w k)
      have hnot : ∀ (x : Bool) (w : World), (Op.unary .not (.bool x)).run Tryz.prog w = .ok (.bool (!x)) w := fun _ _ => rfl
      go_enter Tryz.func142, Tryz.ntmps142
      go_wp2_with fail
      rw [← hw1.out]

      refine ht0.out.mono ?_
      rintro e w2 ⟨rfl, hr2, hg2⟩
      have hv2 := hv1.out.grown hg2 (by intro e; injection e; omega)
      have hx2 := hx1.out.grown hg2 (by intro e; injection e; omega)
      have hg02 := only_trans hg1.out hg2
      have hn2 := name_any R d l1 w2 hr2
      rw [hpn] at hn2
      replace hn2 := Lib.hid hn2
      replace hv2 := Lib.hid hv2
      replace hx2 := Lib.hid hx2
      replace hg02 := Lib.hid hg02
      clear hr2
      go_wp2_with fail
      refine hn2.out.mono ?_

      rintro e w3 ⟨rfl, hr3, hg3⟩
      go_wp2_with fail
      exact ⟨rfl, rfl, hr3, only_trans hg02.out hg3⟩
    | ok r =>
      obtain ⟨nm, l2⟩ := r
      have hl2 := Pu.pName_suf hpn
      cases hmm : Pu.must 40 l2 with
      | error k =>
        show Calls _ _ _ _ (ExprPost R d w (Pu.andThen (Pu.must 40 l2) _))
        rw [hmm]
        have hnot : ∀ (x : Bool) (w : World), (Op.unary .not (.bool x)).run Tryz.prog w = .ok (.bool (!x)) w := fun _ _ => rfl
        go_enter Tryz.func142, Tryz.ntmps142
        go_wp2_with fail
        rw [← hw1.out]

        refine ht0.out.mono ?_
        rintro e w2 ⟨rfl, hr2, hg2⟩
        have hv2 := hv1.out.grown hg2 (by intro e; injection e; omega)
        have hx2 := hx1.out.grown hg2 (by intro e; injection e; omega)
        have hg02 := only_trans hg1.out hg2
        have hn2 := name_any R d l1 w2 hr2
        rw [hpn] at hn2
        replace hn2 := Lib.hid hn2
        replace hv2 := Lib.hid hv2
        replace hx2 := Lib.hid hx2
        replace hg02 := Lib.hid hg02
        clear hr2
        go_wp2_with fail
        refine hn2.out.mono ?_

        rintro e w3 ⟨rfl, hr3, hg3⟩
        unfold str
        have hv3 := hv2.out.grown hg3 (by intro e; injection e; omega)
        have hx3 := hx2.out.grown hg3 (by intro e; injection e; omega)
        have hg03 := only_trans hg02.out hg3
        have f2 := hx3.frozen 2
        have f3 := hx3.frozen 3
        have q2 := hx3.cell 2
        have q3 := hx3.cell 3
        have hlt3 := hx3.lt
        have hneX : w.heap.size + 1 ≠ R := by omega
        obtain ⟨w4, hw4⟩ : ∃ w4, w4 = (w3.setCell ⟨w.heap.size + 1, 2, none⟩ (.string ⟨s.toArray⟩)).setCell ⟨w.heap.size + 1, 3, none⟩ (.string ⟨nm.toArray⟩) := ⟨_, rfl⟩
        have hr4 : Rd w4 R l2 d := by rw [hw4]; exact (hr3.newer (p := ⟨w.heap.size + 1, 2, none⟩) (by simp; omega) _).newer (p := ⟨w.heap.size + 1, 3, none⟩) (by simp; omega) _
        have hv4 : Blk w4 w.heap.size 53 zeroEx := by rw [hw4]; exact (hv3.far (p := ⟨w.heap.size + 1, 2, none⟩) (by simp) _).far (p := ⟨w.heap.size + 1, 3, none⟩) (by simp) _
        have hx4 : Blk w4 (w.heap.size + 1) 53 (callEx s nm) := by rw [hw4]; exact (hx3.set_ 2 _).set_ 3 _
        have hg04 : w.grownBy w4 (some R) := by rw [hw4]; exact only_setCell (only_setCell hg03 (.inr (by simp)) _) (.inr (by simp)) _
        have hm4 := must_any R 40 d l2 w4 hr4
        rw [hmm] at hm4
        replace hm4 := Lib.hid hm4
        replace hr4 := Lib.hid hr4
        replace hv4 := Lib.hid hv4
        replace hx4 := Lib.hid hx4
        replace hg04 := Lib.hid hg04
        replace hv3 := Lib.hid hv3
        replace hx3 := Lib.hid hx3
        go_wp2_with fail
        rw [← hw4]
        replace hw4 := Lib.hid hw4
        clear f2 f3 q2 q3 hr3
        refine hm4.out.mono ?_

        rintro e w5 ⟨rfl, rfl⟩
        go_wp2_with fail
        exact ⟨rfl, rfl, ⟨_, _, hr4.out⟩, hg04.out⟩
      | ok l3 =>
        have hsuf := (Pu.must_suf hmm).trans (hl2.trans hl1)
        show Calls _ _ _ _ (ExprPost R d w (Pu.andThen (Pu.must 40 l2) _))
        rw [hmm]
        show Calls _ _ _ _ (ExprPost R d w (Pu.pArgs pe s nm l3))
        cases htk3 : Pu.take 41 l3 with
        | some l4 =>
          have hp : Pu.pArgs pe s nm l3 = .ok (.mk 4 0 s nm [], l4) := by unfold Pu.pArgs; rw [htk3]
          rw [hp]
          clear hp
          have hnot : ∀ (x : Bool) (w : World), (Op.unary .not (.bool x)).run Tryz.prog w = .ok (.bool (!x)) w := fun _ _ => rfl
          go_enter Tryz.func142, Tryz.ntmps142
          go_wp2_with fail
          rw [← hw1.out]

          refine ht0.out.mono ?_
          rintro e w2 ⟨rfl, hr2, hg2⟩
          have hv2 := hv1.out.grown hg2 (by intro e; injection e; omega)
          have hx2 := hx1.out.grown hg2 (by intro e; injection e; omega)
          have hg02 := only_trans hg1.out hg2
          have hn2 := name_any R d l1 w2 hr2
          rw [hpn] at hn2
          replace hn2 := Lib.hid hn2
          replace hv2 := Lib.hid hv2
          replace hx2 := Lib.hid hx2
          replace hg02 := Lib.hid hg02
          clear hr2
          go_wp2_with fail
          refine hn2.out.mono ?_

          rintro e w3 ⟨rfl, hr3, hg3⟩
          unfold str
          have hv3 := hv2.out.grown hg3 (by intro e; injection e; omega)
          have hx3 := hx2.out.grown hg3 (by intro e; injection e; omega)
          have hg03 := only_trans hg02.out hg3
          have f2 := hx3.frozen 2
          have f3 := hx3.frozen 3
          have q2 := hx3.cell 2
          have q3 := hx3.cell 3
          have hlt3 := hx3.lt
          have hneX : w.heap.size + 1 ≠ R := by omega
          obtain ⟨w4, hw4⟩ : ∃ w4, w4 = (w3.setCell ⟨w.heap.size + 1, 2, none⟩ (.string ⟨s.toArray⟩)).setCell ⟨w.heap.size + 1, 3, none⟩ (.string ⟨nm.toArray⟩) := ⟨_, rfl⟩
          have hr4 : Rd w4 R l2 d := by rw [hw4]; exact (hr3.newer (p := ⟨w.heap.size + 1, 2, none⟩) (by simp; omega) _).newer (p := ⟨w.heap.size + 1, 3, none⟩) (by simp; omega) _
          have hv4 : Blk w4 w.heap.size 53 zeroEx := by rw [hw4]; exact (hv3.far (p := ⟨w.heap.size + 1, 2, none⟩) (by simp) _).far (p := ⟨w.heap.size + 1, 3, none⟩) (by simp) _
          have hx4 : Blk w4 (w.heap.size + 1) 53 (callEx s nm) := by rw [hw4]; exact (hx3.set_ 2 _).set_ 3 _
          have hg04 : w.grownBy w4 (some R) := by rw [hw4]; exact only_setCell (only_setCell hg03 (.inr (by simp)) _) (.inr (by simp)) _
          have hm4 := must_any R 40 d l2 w4 hr4
          rw [hmm] at hm4
          replace hm4 := Lib.hid hm4
          replace hr4 := Lib.hid hr4
          replace hv4 := Lib.hid hv4
          replace hx4 := Lib.hid hx4
          replace hg04 := Lib.hid hg04
          replace hv3 := Lib.hid hv3
          replace hx3 := Lib.hid hx3
          go_wp2_with fail
          rw [← hw4]
          replace hw4 := Lib.hid hw4
          clear f2 f3 q2 q3 hr3
          refine hm4.out.mono ?_

          rintro e wb ⟨rfl, hrb, hgb⟩
          have hvb := hv4.out.grown hgb (by intro e; injection e; omega)
          have hxb := hx4.out.grown hgb (by intro e; injection e; omega)
          have hg0b := only_trans hg04.out hgb
          have hsb := hg0b.size
          replace hrb := Lib.hid hrb
          replace hvb := Lib.hid hvb
          replace hxb := Lib.hid hxb
          replace hg0b := Lib.hid hg0b

          have ht5 := take_any R 41 d l3 wb hrb.out
          rw [htk3] at ht5
          replace ht5 := Lib.hid ht5
          go_wp2_with fail
          refine ht5.out.mono ?_
          rintro e w5 ⟨rfl, hr5, hg5⟩
          have hv5 := Lib.hid (hvb.out.grown hg5 (by intro e; injection e; omega))
          have hx5 := Lib.hid (hxb.out.grown hg5 (by intro e; injection e; omega))
          have hg05 := Lib.hid (only_trans hg0b.out hg5)
          replace hr5 := Lib.hid hr5
          have z0 := hv5.out.frozen 0
          have z1 := hv5.out.frozen 1
          have z2 := hv5.out.frozen 2
          have z3 := hv5.out.frozen 3
          have z4 := hv5.out.frozen 4
          have v0 := hv5.out.cell 0
          have v1 := hv5.out.cell 1
          have v2 := hv5.out.cell 2
          have v3 := hv5.out.cell 3
          have v4 := hv5.out.cell 4
          have y0 := hx5.out.cell 0
          have y1 := hx5.out.cell 1
          have y2 := hx5.out.cell 2
          have y3 := hx5.out.cell 3
          have y4 := hx5.out.cell 4
          have hltv := hv5.out.lt
          have hltx := hx5.out.lt
          go_wp2_with fail
          exact ex_ret Tryz.results142 (by rfl) hlt hr5.out hg05.out hv5.out (ExC.leaf _ _ 4 0 s nm)
        | none =>
          cases hpl : Pu.pList pe 41 l3 with
          | error k =>
            have hp : Pu.pArgs pe s nm l3 = .error k := by unfold Pu.pArgs; rw [htk3, hpl]; rfl
            rw [hp]
            clear hp
            have hnot : ∀ (x : Bool) (w : World), (Op.unary .not (.bool x)).run Tryz.prog w = .ok (.bool (!x)) w := fun _ _ => rfl
            go_enter Tryz.func142, Tryz.ntmps142
            go_wp2_with fail
            rw [← hw1.out]

            refine ht0.out.mono ?_
            rintro e w2 ⟨rfl, hr2, hg2⟩
            have hv2 := hv1.out.grown hg2 (by intro e; injection e; omega)
            have hx2 := hx1.out.grown hg2 (by intro e; injection e; omega)
            have hg02 := only_trans hg1.out hg2
            have hn2 := name_any R d l1 w2 hr2
            rw [hpn] at hn2
            replace hn2 := Lib.hid hn2
            replace hv2 := Lib.hid hv2
            replace hx2 := Lib.hid hx2
            replace hg02 := Lib.hid hg02
            clear hr2
            go_wp2_with fail
            refine hn2.out.mono ?_

            rintro e w3 ⟨rfl, hr3, hg3⟩
            unfold str
            have hv3 := hv2.out.grown hg3 (by intro e; injection e; omega)
            have hx3 := hx2.out.grown hg3 (by intro e; injection e; omega)
            have hg03 := only_trans hg02.out hg3
            have f2 := hx3.frozen 2
            have f3 := hx3.frozen 3
            have q2 := hx3.cell 2
            have q3 := hx3.cell 3
            have hlt3 := hx3.lt
            have hneX : w.heap.size + 1 ≠ R := by omega
            obtain ⟨w4, hw4⟩ : ∃ w4, w4 = (w3.setCell ⟨w.heap.size + 1, 2, none⟩ (.string ⟨s.toArray⟩)).setCell ⟨w.heap.size + 1, 3, none⟩ (.string ⟨nm.toArray⟩) := ⟨_, rfl⟩
            have hr4 : Rd w4 R l2 d := by rw [hw4]; exact (hr3.newer (p := ⟨w.heap.size + 1, 2, none⟩) (by simp; omega) _).newer (p := ⟨w.heap.size + 1, 3, none⟩) (by simp; omega) _
            have hv4 : Blk w4 w.heap.size 53 zeroEx := by rw [hw4]; exact (hv3.far (p := ⟨w.heap.size + 1, 2, none⟩) (by simp) _).far (p := ⟨w.heap.size + 1, 3, none⟩) (by simp) _
            have hx4 : Blk w4 (w.heap.size + 1) 53 (callEx s nm) := by rw [hw4]; exact (hx3.set_ 2 _).set_ 3 _
            have hg04 : w.grownBy w4 (some R) := by rw [hw4]; exact only_setCell (only_setCell hg03 (.inr (by simp)) _) (.inr (by simp)) _
            have hm4 := must_any R 40 d l2 w4 hr4
            rw [hmm] at hm4
            replace hm4 := Lib.hid hm4
            replace hr4 := Lib.hid hr4
            replace hv4 := Lib.hid hv4
            replace hx4 := Lib.hid hx4
            replace hg04 := Lib.hid hg04
            replace hv3 := Lib.hid hv3
            replace hx3 := Lib.hid hx3
            go_wp2_with fail
            rw [← hw4]
            replace hw4 := Lib.hid hw4
            clear f2 f3 q2 q3 hr3
            refine hm4.out.mono ?_

            rintro e wb ⟨rfl, hrb, hgb⟩
            have hvb := hv4.out.grown hgb (by intro e; injection e; omega)
            have hxb := hx4.out.grown hgb (by intro e; injection e; omega)
            have hg0b := only_trans hg04.out hgb
            have hsb := hg0b.size
            replace hrb := Lib.hid hrb
            replace hvb := Lib.hid hvb
            replace hxb := Lib.hid hxb
            replace hg0b := Lib.hid hg0b

            have ht5 := take_any R 41 d l3 wb hrb.out
            rw [htk3] at ht5
            have hli := list_any hE'.out he'.out R 41 l3 wb (hl.suf hsuf) hrb.out
            rw [hpl] at hli
            replace ht5 := Lib.hid ht5
            replace hli := Lib.hid hli
            go_wp2_with fail
            refine ht5.out.mono ?_
            rintro e w5 ⟨rfl, rfl⟩
            go_wp2_with fail
            refine hli.out.mono ?_

            rintro e w6 ⟨rfl, hr6, hg6⟩
            go_wp2_with fail
            exact ⟨rfl, rfl, hr6, only_trans hg0b.out hg6⟩
          | ok r =>
            obtain ⟨xs, l6⟩ := r
            have hp : Pu.pArgs pe s nm l3 = .ok (.mk 4 0 s nm xs, l6) := by unfold Pu.pArgs; rw [htk3, hpl]; rfl
            rw [hp]
            clear hp
            have hnot : ∀ (x : Bool) (w : World), (Op.unary .not (.bool x)).run Tryz.prog w = .ok (.bool (!x)) w := fun _ _ => rfl
            go_enter Tryz.func142, Tryz.ntmps142
            go_wp2_with fail
            rw [← hw1.out]

            refine ht0.out.mono ?_
            rintro e w2 ⟨rfl, hr2, hg2⟩
            have hv2 := hv1.out.grown hg2 (by intro e; injection e; omega)
            have hx2 := hx1.out.grown hg2 (by intro e; injection e; omega)
            have hg02 := only_trans hg1.out hg2
            have hn2 := name_any R d l1 w2 hr2
            rw [hpn] at hn2
            replace hn2 := Lib.hid hn2
            replace hv2 := Lib.hid hv2
            replace hx2 := Lib.hid hx2
            replace hg02 := Lib.hid hg02
            clear hr2
            go_wp2_with fail
            refine hn2.out.mono ?_

            rintro e w3 ⟨rfl, hr3, hg3⟩
            unfold str
            have hv3 := hv2.out.grown hg3 (by intro e; injection e; omega)
            have hx3 := hx2.out.grown hg3 (by intro e; injection e; omega)
            have hg03 := only_trans hg02.out hg3
            have f2 := hx3.frozen 2
            have f3 := hx3.frozen 3
            have q2 := hx3.cell 2
            have q3 := hx3.cell 3
            have hlt3 := hx3.lt
            have hneX : w.heap.size + 1 ≠ R := by omega
            obtain ⟨w4, hw4⟩ : ∃ w4, w4 = (w3.setCell ⟨w.heap.size + 1, 2, none⟩ (.string ⟨s.toArray⟩)).setCell ⟨w.heap.size + 1, 3, none⟩ (.string ⟨nm.toArray⟩) := ⟨_, rfl⟩
            have hr4 : Rd w4 R l2 d := by rw [hw4]; exact (hr3.newer (p := ⟨w.heap.size + 1, 2, none⟩) (by simp; omega) _).newer (p := ⟨w.heap.size + 1, 3, none⟩) (by simp; omega) _
            have hv4 : Blk w4 w.heap.size 53 zeroEx := by rw [hw4]; exact (hv3.far (p := ⟨w.heap.size + 1, 2, none⟩) (by simp) _).far (p := ⟨w.heap.size + 1, 3, none⟩) (by simp) _
            have hx4 : Blk w4 (w.heap.size + 1) 53 (callEx s nm) := by rw [hw4]; exact (hx3.set_ 2 _).set_ 3 _
            have hg04 : w.grownBy w4 (some R) := by rw [hw4]; exact only_setCell (only_setCell hg03 (.inr (by simp)) _) (.inr (by simp)) _
            have hm4 := must_any R 40 d l2 w4 hr4
            rw [hmm] at hm4
            replace hm4 := Lib.hid hm4
            replace hr4 := Lib.hid hr4
            replace hv4 := Lib.hid hv4
            replace hx4 := Lib.hid hx4
            replace hg04 := Lib.hid hg04
            replace hv3 := Lib.hid hv3
            replace hx3 := Lib.hid hx3
            go_wp2_with fail
            rw [← hw4]
            replace hw4 := Lib.hid hw4
            clear f2 f3 q2 q3 hr3
            refine hm4.out.mono ?_

            rintro e wb ⟨rfl, hrb, hgb⟩
            have hvb := hv4.out.grown hgb (by intro e; injection e; omega)
            have hxb := hx4.out.grown hgb (by intro e; injection e; omega)
            have hg0b := only_trans hg04.out hgb
            have hsb := hg0b.size
            replace hrb := Lib.hid hrb
            replace hvb := Lib.hid hvb
            replace hxb := Lib.hid hxb
            replace hg0b := Lib.hid hg0b

            have ht5 := take_any R 41 d l3 wb hrb.out
            rw [htk3] at ht5
            have hli := list_any hE'.out he'.out R 41 l3 wb (hl.suf hsuf) hrb.out
            rw [hpl] at hli
            replace ht5 := Lib.hid ht5
            replace hli := Lib.hid hli
            go_wp2_with fail
            refine ht5.out.mono ?_
            rintro e w5 ⟨rfl, rfl⟩
            go_wp2_with fail
            refine hli.out.mono ?_

            rintro e w6 ⟨⟨v, rfl, hown⟩, hr6, hg6⟩
            obtain ⟨A, c, rfl, hexx⟩ := hown.toEx
            have hex6 := hexx 4 0 s nm
            have hv6 := hvb.out.grown hg6 (by intro e; injection e; omega)
            have hx6 := hxb.out.grown hg6 (by intro e; injection e; omega)
            have hg06 := only_trans hg0b.out hg6
            have hneX6 : w.heap.size + 1 ≠ R := by omega
            have hvlt6 := hv6.lt
            have hxlt6 := hx6.lt
            have hxb2 := hxb.out.lt
            have fx4 := hx6.frozen 4
            have qx4 := hx6.cell 4
            have qx0 := hx6.cell 0
            have qx1 := hx6.cell 1
            have qx2 := hx6.cell 2
            have qx3 := hx6.cell 3
            obtain ⟨w7, hw7⟩ : ∃ w7, w7 = w6.setCell ⟨w.heap.size + 1, 4, none⟩ (.slice A xs.length c) := ⟨_, rfl⟩
            have hr7 : Rd w7 R l6 d := by rw [hw7]; exact hr6.newer (p := ⟨w.heap.size + 1, 4, none⟩) (by simp; omega) _
            have hv7 : Blk w7 w.heap.size 53 zeroEx := by rw [hw7]; exact hv6.far (p := ⟨w.heap.size + 1, 4, none⟩) (by simp) _
            have hg07 : w.grownBy w7 (some R) := by rw [hw7]; exact only_setCell hg06 (.inr (by simp)) _
            have hex7 : ExC w7 (New (w.heap.size + 1)) (.mk 4 0 s nm xs) [.int .i64 4, .int .i64 0, str s, str nm, .slice A xs.length c] := by
              rw [hw7]
              exact (hex6.far (p := ⟨w.heap.size + 1, 4, none⟩) (by simpa using hxb2) _).wide (by omega)
            have hx7 : Blk w7 (w.heap.size + 1) 53 #[.int .i64 4, .int .i64 0, str s, str nm, .slice A xs.length c] := by rw [hw7]; exact hx6.set_ 4 _
            have z0 := hv6.frozen 0
            have z1 := hv6.frozen 1
            have z2 := hv6.frozen 2
            have z3 := hv6.frozen 3
            have z4 := hv6.frozen 4
            have v0 := hv6.cell 0
            have v1 := hv6.cell 1
            have v2 := hv6.cell 2
            have v3 := hv6.cell 3
            have v4 := hv6.cell 4
            replace hv7 := Lib.hid hv7
            replace hr7 := Lib.hid hr7
            replace hg07 := Lib.hid hg07
            replace hex7 := Lib.hid hex7
            replace hx7 := Lib.hid hx7
            replace hv6 := Lib.hid hv6
            replace hx6 := Lib.hid hx6
            replace hg06 := Lib.hid hg06
            replace hown := Lib.hid hown
            replace hexx := Lib.hid hexx
            replace hex6 := Lib.hid hex6
            have hltv7 : w.heap.size < w7.heap.size := hv7.out.lt
            have hltx7 : w.heap.size + 1 < w7.heap.size := hx7.out.lt
            replace hw7 := Lib.hid hw7
            clear hr6
            go_wp2_with fail
            rw [← hw7.out]
            exact ex_ret Tryz.results142 (by rfl) hlt hr7.out hg07.out hv7.out hex7.out
end Go.Proofs.YtpfgjiapdepdmaaGreatDoor
