/- The walk of the reader's atom. -/
import Derived.Test.YtpfgjiapdepdmaaGreatDoorDigits
namespace Go.Proofs.YtpfgjiapdepdmaaGreatDoor
open Go.RowKit Go.Shelf

set_option maxHeartbeats 4000000 in
theorem atom_any {d : Int} {pe : List Pu.Tok → Pu.PR Pu.Ex} (hE : EC d pe) (he : Pu.Eats pe) (R : Nat) (l : List Pu.Tok) (w : World) (hl : Pu.Fit l) (h : Rd w R l d) :
    Calls Tryz.prog 125 #[.pointer (some ⟨R, 0, none⟩)] w (ExprPost R d w (Pu.pAtom pe l)) := by
  have hlt := h.lt
  obtain ⟨w1, hw1⟩ : ∃ w1, w1 = w.alloc (.cells zeroEx 53) := ⟨_, rfl⟩
  have hr1 : Rd w1 R l d := by rw [hw1]; exact h.alloc _
  have hg1 : w.grownBy w1 (some R) := by rw [hw1]; exact only_alloc (only_refl _ _) _
  have hv1 : Blk w1 w.heap.size 53 zeroEx := by rw [hw1]; exact Blk.new w _ _
  have hs1 : w1.heap.size = w.heap.size + 1 := by rw [hw1]; simp
  have hE' := Lib.hid hE
  have he' := Lib.hid he
  have ht0 := take_any R 40 d l w1 hr1
  have ht1 := take_any R 91 d l w1 hr1
  replace ht0 := Lib.hid ht0
  replace ht1 := Lib.hid ht1
  replace hr1 := Lib.hid hr1
  replace hg1 := Lib.hid hg1
  replace hv1 := Lib.hid hv1
  replace hw1 := Lib.hid hw1
  clear hE he h
  cases ht : Pu.take 40 l with
  | some l1 =>
    rw [ht] at ht0
    have hpa : Pu.pAtom pe l = Pu.andThen (pe l1) fun r => Pu.andThen (Pu.must 41 r.2) fun l3 => .ok (r.1, l3) := by unfold Pu.pAtom; rw [ht]
    rw [hpa]
    clear hpa
    cases hp : pe l1 with
    | error k =>
      show Calls _ _ _ _ (FaultP R w k)
      go_enter Tryz.func125, Tryz.ntmps125
      go_wp2_with fail
      rw [← hw1.out]

      refine ht0.out.mono ?_
      rintro e w2 ⟨rfl, hr2, hg2⟩
      have hv2 := Lib.hid (hv1.out.grown hg2 (by intro e; injection e; omega))
      have hg02 := Lib.hid (only_trans hg1.out hg2)
      have hs2 := hg2.size
      have hc2 := hE'.out R l1 w2 (hl.suf (Pu.take_suf ht)) hr2
      rw [hp] at hc2
      replace hc2 := Lib.hid hc2
      clear hr2
      go_wp2_with fail
      refine hc2.out.mono ?_

      rintro e w3 ⟨rfl, hr3, hg3⟩
      go_wp2_with fail
      exact ⟨rfl, rfl, hr3, only_trans hg02.out hg3⟩
    | ok r =>
      obtain ⟨x, l2⟩ := r
      show Calls _ _ _ _ (ExprPost R d w (Pu.andThen (Pu.must 41 l2) fun l3 => .ok (x, l3)))
      cases hmm : Pu.must 41 l2 with
      | error k =>
        show Calls _ _ _ _ (FaultP R w k)
        go_enter Tryz.func125, Tryz.ntmps125
        go_wp2_with fail
        rw [← hw1.out]

        refine ht0.out.mono ?_
        rintro e w2 ⟨rfl, hr2, hg2⟩
        have hv2 := Lib.hid (hv1.out.grown hg2 (by intro e; injection e; omega))
        have hg02 := Lib.hid (only_trans hg1.out hg2)
        have hs2 := hg2.size
        have hc2 := hE'.out R l1 w2 (hl.suf (Pu.take_suf ht)) hr2
        rw [hp] at hc2
        replace hc2 := Lib.hid hc2
        clear hr2
        go_wp2_with fail
        refine hc2.out.mono ?_

        rintro e w3 ⟨⟨cs, rfl, hex⟩, hr3, hg3⟩
        obtain ⟨k', n', of', nm', A', m', c', rfl⟩ := hex.form
        have hs3 := hg3.size
        obtain ⟨w4, hw4⟩ : ∃ w4, w4 = w3.alloc (.cells #[.int .i64 k', .int .i64 n', .string of', .string nm', .slice A' m' c'] 53) := ⟨_, rfl⟩
        have hr4 : Rd w4 R l2 d := by rw [hw4]; exact hr3.alloc _
        have hg4 : w.grownBy w4 (some R) := by rw [hw4]; exact only_alloc (only_trans hg02.out hg3) _
        have hv4 : Blk w4 w.heap.size 53 zeroEx := by rw [hw4]; exact (hv2.out.grown hg3 (by intro e; injection e; omega)).alloc _
        have hx4 : Blk w4 w3.heap.size 53 #[.int .i64 k', .int .i64 n', .string of', .string nm', .slice A' m' c'] := by rw [hw4]; exact Blk.new _ _ _
        have he4 : ExC w4 (New w2.heap.size) x [.int .i64 k', .int .i64 n', .string of', .string nm', .slice A' m' c'] := by
          rw [hw4]
          exact hex.keep (by simp) fun b hs hb => ⟨Below.heap_alloc _ _ b hb, hs⟩
        have hm4 := must_any R 41 d l2 w4 hr4
        rw [hmm] at hm4
        have hs4 := hx4.lt
        replace hm4 := Lib.hid hm4
        replace hr4 := Lib.hid hr4
        replace hg4 := Lib.hid hg4
        replace hv4 := Lib.hid hv4
        replace hx4 := Lib.hid hx4
        replace he4 := Lib.hid he4
        replace hw4 := Lib.hid hw4
        clear hex hr3
        go_wp2_with fail
        rw [← hw4.out]
        refine hm4.out.mono ?_

        rintro e w5 ⟨rfl, rfl⟩
        go_wp2_with fail
        exact ⟨rfl, rfl, ⟨_, _, hr4.out⟩, hg4.out⟩
      | ok l3 =>
        show Calls _ _ _ _ (ExprPost R d w (.ok (x, l3)))
        go_enter Tryz.func125, Tryz.ntmps125
        go_wp2_with fail
        rw [← hw1.out]

        refine ht0.out.mono ?_
        rintro e w2 ⟨rfl, hr2, hg2⟩
        have hv2 := Lib.hid (hv1.out.grown hg2 (by intro e; injection e; omega))
        have hg02 := Lib.hid (only_trans hg1.out hg2)
        have hs2 := hg2.size
        have hc2 := hE'.out R l1 w2 (hl.suf (Pu.take_suf ht)) hr2
        rw [hp] at hc2
        replace hc2 := Lib.hid hc2
        clear hr2
        go_wp2_with fail
        refine hc2.out.mono ?_

        rintro e w3 ⟨⟨cs, rfl, hex⟩, hr3, hg3⟩
        obtain ⟨k', n', of', nm', A', m', c', rfl⟩ := hex.form
        have hs3 := hg3.size
        obtain ⟨w4, hw4⟩ : ∃ w4, w4 = w3.alloc (.cells #[.int .i64 k', .int .i64 n', .string of', .string nm', .slice A' m' c'] 53) := ⟨_, rfl⟩
        have hr4 : Rd w4 R l2 d := by rw [hw4]; exact hr3.alloc _
        have hg4 : w.grownBy w4 (some R) := by rw [hw4]; exact only_alloc (only_trans hg02.out hg3) _
        have hv4 : Blk w4 w.heap.size 53 zeroEx := by rw [hw4]; exact (hv2.out.grown hg3 (by intro e; injection e; omega)).alloc _
        have hx4 : Blk w4 w3.heap.size 53 #[.int .i64 k', .int .i64 n', .string of', .string nm', .slice A' m' c'] := by rw [hw4]; exact Blk.new _ _ _
        have he4 : ExC w4 (New w2.heap.size) x [.int .i64 k', .int .i64 n', .string of', .string nm', .slice A' m' c'] := by
          rw [hw4]
          exact hex.keep (by simp) fun b hs hb => ⟨Below.heap_alloc _ _ b hb, hs⟩
        have hm4 := must_any R 41 d l2 w4 hr4
        rw [hmm] at hm4
        have hs4 := hx4.lt
        replace hm4 := Lib.hid hm4
        replace hr4 := Lib.hid hr4
        replace hg4 := Lib.hid hg4
        replace hv4 := Lib.hid hv4
        replace hx4 := Lib.hid hx4
        replace he4 := Lib.hid he4
        replace hw4 := Lib.hid hw4
        clear hex hr3
        go_wp2_with fail
        rw [← hw4.out]
        refine hm4.out.mono ?_

        rintro e w5 ⟨rfl, hr5, hg5⟩
        have hv5 := Lib.hid (hv4.out.grown hg5 (by intro e; injection e; omega))
        have hx5 := Lib.hid (hx4.out.grown hg5 (by intro e; injection e; omega))
        have he5 := Lib.hid (he4.out.later hg5 (by omega))
        have hg05 := Lib.hid (only_trans hg4.out hg5)
        replace hr5 := Lib.hid hr5
        have z0 := hv5.out.frozen 0
        have z1 := hv5.out.frozen 1
        have z2 := hv5.out.frozen 2
        have z3 := hv5.out.frozen 3
        have z4 := hv5.out.frozen 4
        have v0 := hv5.out.cell 0
        have v1 := hv5.out.cell 1
        have v2 := hv5.out.cell 2
        have v3 := hv5.out.cell 3
        have v4 := hv5.out.cell 4
        have y0 := hx5.out.cell 0
        have y1 := hx5.out.cell 1
        have y2 := hx5.out.cell 2
        have y3 := hx5.out.cell 3
        have y4 := hx5.out.cell 4
        have hltv := hv5.out.lt
        have hltx := hx5.out.lt
        go_wp2_with fail
        exact ex_ret Tryz.results125 (by rfl) hlt hr5.out hg05.out hv5.out (he5.out.wide (by omega))
  | none =>
    rw [ht] at ht0
    cases ht2 : Pu.take 91 l with
    | some l1 =>
      rw [ht2] at ht1
      have hpa : Pu.pAtom pe l = Pu.andThen (Pu.pList pe 93 l1) fun r => .ok (.mk 6 0 [] [] r.1, r.2) := by unfold Pu.pAtom; rw [ht, ht2]
      rw [hpa]
      clear hpa
      cases hp : Pu.pList pe 93 l1 with
      | error k =>
        show Calls _ _ _ _ (FaultP R w k)
        go_enter Tryz.func125, Tryz.ntmps125
        go_wp2_with fail
        rw [← hw1.out]

        refine ht0.out.mono ?_
        rintro e w2 ⟨rfl, rfl⟩
        go_wp2_with fail
        refine ht1.out.mono ?_
        rintro e w2 ⟨rfl, hr2, hg2⟩
        have hv2 := Lib.hid (hv1.out.grown hg2 (by intro e; injection e; omega))
        have hg02 := Lib.hid (only_trans hg1.out hg2)
        have hs2 := hg2.size
        have hc2 := list_any hE'.out he'.out R 93 l1 w2 (hl.suf (Pu.take_suf ht2)) hr2
        rw [hp] at hc2
        replace hc2 := Lib.hid hc2
        clear hr2
        go_wp2_with fail
        refine hc2.out.mono ?_

        rintro e w3 ⟨rfl, hr3, hg3⟩
        go_wp2_with fail
        exact ⟨rfl, rfl, hr3, only_trans hg02.out hg3⟩
      | ok r =>
        obtain ⟨xs, l2⟩ := r
        show Calls _ _ _ _ (ExprPost R d w (.ok (.mk 6 0 [] [] xs, l2)))
        go_enter Tryz.func125, Tryz.ntmps125
        go_wp2_with fail
        rw [← hw1.out]

        refine ht0.out.mono ?_
        rintro e w2 ⟨rfl, rfl⟩
        go_wp2_with fail
        refine ht1.out.mono ?_
        rintro e w2 ⟨rfl, hr2, hg2⟩
        have hv2 := Lib.hid (hv1.out.grown hg2 (by intro e; injection e; omega))
        have hg02 := Lib.hid (only_trans hg1.out hg2)
        have hs2 := hg2.size
        have hc2 := list_any hE'.out he'.out R 93 l1 w2 (hl.suf (Pu.take_suf ht2)) hr2
        rw [hp] at hc2
        replace hc2 := Lib.hid hc2
        clear hr2
        go_wp2_with fail
        refine hc2.out.mono ?_

        rintro e w3 ⟨⟨v, rfl, hown⟩, hr3, hg3⟩
        obtain ⟨A, c, rfl, hexx⟩ := hown.toEx
        have he3 := Lib.hid (hexx 6 0 [] [])
        have hv3 := Lib.hid (hv2.out.grown hg3 (by intro e; injection e; omega))
        have hg03 := Lib.hid (only_trans hg02.out hg3)
        replace hr3 := Lib.hid hr3
        replace hown := Lib.hid hown
        replace hexx := Lib.hid hexx
        have z0 := hv3.out.frozen 0
        have z1 := hv3.out.frozen 1
        have z2 := hv3.out.frozen 2
        have z3 := hv3.out.frozen 3
        have z4 := hv3.out.frozen 4
        have v0 := hv3.out.cell 0
        have v1 := hv3.out.cell 1
        have v2 := hv3.out.cell 2
        have v3 := hv3.out.cell 3
        have v4 := hv3.out.cell 4
        have hltv := hv3.out.lt
        go_wp2_with fail
        exact ex_ret Tryz.results125 (by rfl) hlt hr3.out hg03.out hv3.out (he3.out.wide (by omega))
    | none =>
      rw [ht2] at ht1
      have hpa : Pu.pAtom pe l = Pu.pLeaf pe l := by unfold Pu.pAtom; rw [ht, ht2]
      rw [hpa]
      clear hpa
      cases l with
      | nil =>
        have hnx := next_nil R d w1 hr1.out
        replace hnx := Lib.hid hnx
        show Calls _ _ _ _ (FaultP R w 4)
        go_enter Tryz.func125, Tryz.ntmps125
        go_wp2_with fail
        rw [← hw1.out]

        refine ht0.out.mono ?_
        rintro e w2 ⟨rfl, rfl⟩
        go_wp2_with fail
        refine ht1.out.mono ?_
        rintro e w2 ⟨rfl, rfl⟩
        go_wp2_with fail
        refine hnx.out.mono ?_
        rintro e w3 ⟨rfl, hr3, hg3⟩
        unfold str

        have hr4 := Lib.hid (hr3.alloc (.cells #[.int .i64 0, .string ⟨#[]⟩] 96))
        have hg4 := Lib.hid (only_alloc (only_trans hg1.out hg3) (.cells #[.int .i64 0, .string ⟨#[]⟩] 96))
        clear hr3
        go_wp2_with fail
        refine (need_no 4 _).mono ?_
        rintro e w4 ⟨rfl, rfl⟩
        go_wp2_with fail
        exact ⟨rfl, rfl, ⟨_, _, hr4.out⟩, hg4.out⟩
      | cons t l =>
        obtain ⟨tk, tx⟩ := t
        have hnx := next_cons R d ⟨tk, tx⟩ l w1 hr1.out
        replace hnx := Lib.hid hnx
        have hpl : Pu.pLeaf pe (⟨tk, tx⟩ :: l) = if tk = 3 then .ok (.mk 2 0 [] tx [], l) else if tk = 2 then .ok (.mk 1 (Pu.numOf tx) [] [] [], l) else if tk = 1 ∧ Pu.ident tx = true then Pu.pNamed pe tx l else .error 4 := rfl
        rw [hpl]
        clear hpl
        by_cases h3 : tk = 3
        · rw [if_pos h3]
          have hb3 : ((tk : Int) == 3) = true := by rw [beq_iff_eq]; omega
          go_enter Tryz.func125, Tryz.ntmps125
          go_wp2_with fail
          rw [← hw1.out]

          refine ht0.out.mono ?_
          rintro e w2 ⟨rfl, rfl⟩
          go_wp2_with fail
          refine ht1.out.mono ?_
          rintro e w2 ⟨rfl, rfl⟩
          go_wp2_with fail
          refine hnx.out.mono ?_
          rintro e w3 ⟨rfl, hr3, hg3⟩
          unfold str

          have hs3 := hg3.size
          obtain ⟨w4, hw4⟩ : ∃ w4, w4 = w3.alloc (.cells #[.int .i64 (tk : Int), .string ⟨tx.toArray⟩] 96) := ⟨_, rfl⟩
          have hr4 : Rd w4 R l d := by rw [hw4]; exact hr3.alloc _
          have hg4 : w.grownBy w4 (some R) := by rw [hw4]; exact only_alloc (only_trans hg1.out hg3) _
          have hv4 : Blk w4 w.heap.size 53 zeroEx := by rw [hw4]; exact (hv1.out.grown hg3 (by intro e; injection e; omega)).alloc _
          have hT4 : Blk w4 w3.heap.size 96 #[.int .i64 (tk : Int), .string ⟨tx.toArray⟩] := by rw [hw4]; exact Blk.new _ _ _
          have ya := hT4.cell 0
          have yb := hT4.cell 1
          have hltT := hT4.lt
          replace hr4 := Lib.hid hr4
          replace hg4 := Lib.hid hg4
          replace hv4 := Lib.hid hv4
          replace hT4 := Lib.hid hT4
          have hltv4 := hv4.out.lt
          clear hr3

          replace h3 := Lib.hid h3
          have hr4r := hv4.out
          rw [hw4] at hr4r
          replace hr4r := Lib.hid hr4r
          replace hw4 := Lib.hid hw4
          have z0 := hr4r.out.frozen 0
          have z1 := hr4r.out.frozen 1
          have z2 := hr4r.out.frozen 2
          have z3 := hr4r.out.frozen 3
          have z4 := hr4r.out.frozen 4
          have v0 := hr4r.out.cell 0
          have v1 := hr4r.out.cell 1
          have v2 := hr4r.out.cell 2
          have v3 := hr4r.out.cell 3
          have v4 := hr4r.out.cell 4
          go_wp2_with fail
          rw [← hw4.out]
          exact ex_ret Tryz.results125 (by rfl) hlt hr4.out hg4.out hv4.out (ExC.leaf _ _ 2 0 [] tx)
        · rw [if_neg h3]
          have hb3 : ((tk : Int) == 3) = false := by rw [beq_eq_false_iff_ne]; omega
          by_cases h2 : tk = 2
          · rw [if_pos h2]
            have hb2 : ((tk : Int) == 2) = true := by rw [beq_iff_eq]; omega
            have hnum := hl.2 ⟨tk, tx⟩ (by simp) h2
            have hat := fun W => atoi_any tx hnum W
            replace hat := Lib.hid hat
            go_enter Tryz.func125, Tryz.ntmps125
            go_wp2_with fail
            rw [← hw1.out]

            refine ht0.out.mono ?_
            rintro e w2 ⟨rfl, rfl⟩
            go_wp2_with fail
            refine ht1.out.mono ?_
            rintro e w2 ⟨rfl, rfl⟩
            go_wp2_with fail
            refine hnx.out.mono ?_
            rintro e w3 ⟨rfl, hr3, hg3⟩
            unfold str

            have hs3 := hg3.size
            obtain ⟨w4, hw4⟩ : ∃ w4, w4 = w3.alloc (.cells #[.int .i64 (tk : Int), .string ⟨tx.toArray⟩] 96) := ⟨_, rfl⟩
            have hr4 : Rd w4 R l d := by rw [hw4]; exact hr3.alloc _
            have hg4 : w.grownBy w4 (some R) := by rw [hw4]; exact only_alloc (only_trans hg1.out hg3) _
            have hv4 : Blk w4 w.heap.size 53 zeroEx := by rw [hw4]; exact (hv1.out.grown hg3 (by intro e; injection e; omega)).alloc _
            have hT4 : Blk w4 w3.heap.size 96 #[.int .i64 (tk : Int), .string ⟨tx.toArray⟩] := by rw [hw4]; exact Blk.new _ _ _
            have ya := hT4.cell 0
            have yb := hT4.cell 1
            have hltT := hT4.lt
            replace hr4 := Lib.hid hr4
            replace hg4 := Lib.hid hg4
            replace hv4 := Lib.hid hv4
            replace hT4 := Lib.hid hT4
            replace hw4 := Lib.hid hw4
            have hltv4 := hv4.out.lt
            clear hr3

            replace h2 := Lib.hid h2
            go_wp2_with fail
            rw [← hw4.out]
            refine (hat.out _).mono ?_
            rintro e w5 ⟨rfl, hb5⟩
            have hr5 := Lib.hid (hr4.out.below hb5 hr4.out.lt)
            have hg5 := Lib.hid (only_trans hg4.out (only_of_below hb5 (some R)))
            have hv5 := Lib.hid (hv4.out.below hb5 hltv4)
            have z0 := hv5.out.frozen 0
            have z1 := hv5.out.frozen 1
            have z2 := hv5.out.frozen 2
            have z3 := hv5.out.frozen 3
            have z4 := hv5.out.frozen 4
            have v0 := hv5.out.cell 0
            have v1 := hv5.out.cell 1
            have v2 := hv5.out.cell 2
            have v3 := hv5.out.cell 3
            have v4 := hv5.out.cell 4
            have hltv := hv5.out.lt
            go_wp2_with fail
            exact ex_ret Tryz.results125 (by rfl) hlt hr5.out hg5.out hv5.out (ExC.leaf _ _ 1 (Pu.numOf tx) [] [])
          · rw [if_neg h2]
            have hb2 : ((tk : Int) == 2) = false := by rw [beq_eq_false_iff_ne]; omega
            by_cases h1 : tk = 1
            · have hb1 : ((tk : Int) == 1) = true := by rw [beq_iff_eq]; omega
              have hid := identB_eq tx
              have hic := fun W => ident_any ⟨tx.toArray⟩ W
              rw [hid] at hic
              clear hid
              cases hidt : Pu.ident tx with
              | false =>
                rw [if_neg (by simp)]
                rw [hidt] at hic
                replace hic := Lib.hid hic
                show Calls _ _ _ _ (FaultP R w 4)
                go_enter Tryz.func125, Tryz.ntmps125
                go_wp2_with fail
                rw [← hw1.out]

                refine ht0.out.mono ?_
                rintro e w2 ⟨rfl, rfl⟩
                go_wp2_with fail
                refine ht1.out.mono ?_
                rintro e w2 ⟨rfl, rfl⟩
                go_wp2_with fail
                refine hnx.out.mono ?_
                rintro e w3 ⟨rfl, hr3, hg3⟩
                unfold str

                have hs3 := hg3.size
                obtain ⟨w4, hw4⟩ : ∃ w4, w4 = w3.alloc (.cells #[.int .i64 (tk : Int), .string ⟨tx.toArray⟩] 96) := ⟨_, rfl⟩
                have hr4 : Rd w4 R l d := by rw [hw4]; exact hr3.alloc _
                have hg4 : w.grownBy w4 (some R) := by rw [hw4]; exact only_alloc (only_trans hg1.out hg3) _
                have hv4 : Blk w4 w.heap.size 53 zeroEx := by rw [hw4]; exact (hv1.out.grown hg3 (by intro e; injection e; omega)).alloc _
                have hT4 : Blk w4 w3.heap.size 96 #[.int .i64 (tk : Int), .string ⟨tx.toArray⟩] := by rw [hw4]; exact Blk.new _ _ _
                have ya := hT4.cell 0
                have yb := hT4.cell 1
                have hltT := hT4.lt
                replace hr4 := Lib.hid hr4
                replace hg4 := Lib.hid hg4
                replace hv4 := Lib.hid hv4
                replace hT4 := Lib.hid hT4
                replace hw4 := Lib.hid hw4
                have hltv4 := hv4.out.lt
                clear hr3

                replace h1 := Lib.hid h1
                go_wp2_with fail
                rw [← hw4.out]
                refine (hic.out _).mono ?_
                rintro e w5 ⟨rfl, hb5⟩
                have hr5 := Lib.hid (hr4.out.below hb5 hr4.out.lt)
                have hg5 := Lib.hid (only_trans hg4.out (only_of_below hb5 (some R)))
                have hv5 := Lib.hid (hv4.out.below hb5 hltv4)
                have hT5 := hT4.out.below hb5 hltT
                have hs5 := hb5.size
                have yc := hT5.cell 1
                have hltv := hv5.out.lt
                replace hT5 := Lib.hid hT5
                replace hb5 := Lib.hid hb5
                go_wp2_with fail

                refine (need_no 4 _).mono ?_
                rintro e w6 ⟨rfl, rfl⟩
                go_wp2_with fail
                exact ⟨rfl, rfl, ⟨_, _, hr5.out⟩, hg5.out⟩
              | true =>
                rw [if_pos ⟨h1, rfl⟩]
                rw [hidt] at hic
                replace hic := Lib.hid hic
                cases hp : Pu.pNamed pe tx l with
                | error k =>
                  show Calls _ _ _ _ (FaultP R w k)
                  go_enter Tryz.func125, Tryz.ntmps125
                  go_wp2_with fail
                  rw [← hw1.out]

                  refine ht0.out.mono ?_
                  rintro e w2 ⟨rfl, rfl⟩
                  go_wp2_with fail
                  refine ht1.out.mono ?_
                  rintro e w2 ⟨rfl, rfl⟩
                  go_wp2_with fail
                  refine hnx.out.mono ?_
                  rintro e w3 ⟨rfl, hr3, hg3⟩
                  unfold str

                  have hs3 := hg3.size
                  obtain ⟨w4, hw4⟩ : ∃ w4, w4 = w3.alloc (.cells #[.int .i64 (tk : Int), .string ⟨tx.toArray⟩] 96) := ⟨_, rfl⟩
                  have hr4 : Rd w4 R l d := by rw [hw4]; exact hr3.alloc _
                  have hg4 : w.grownBy w4 (some R) := by rw [hw4]; exact only_alloc (only_trans hg1.out hg3) _
                  have hv4 : Blk w4 w.heap.size 53 zeroEx := by rw [hw4]; exact (hv1.out.grown hg3 (by intro e; injection e; omega)).alloc _
                  have hT4 : Blk w4 w3.heap.size 96 #[.int .i64 (tk : Int), .string ⟨tx.toArray⟩] := by rw [hw4]; exact Blk.new _ _ _
                  have ya := hT4.cell 0
                  have yb := hT4.cell 1
                  have hltT := hT4.lt
                  replace hr4 := Lib.hid hr4
                  replace hg4 := Lib.hid hg4
                  replace hv4 := Lib.hid hv4
                  replace hT4 := Lib.hid hT4
                  replace hw4 := Lib.hid hw4
                  have hltv4 := hv4.out.lt
                  clear hr3

                  replace h1 := Lib.hid h1
                  go_wp2_with fail
                  rw [← hw4.out]
                  refine (hic.out _).mono ?_
                  rintro e w5 ⟨rfl, hb5⟩
                  have hr5 := Lib.hid (hr4.out.below hb5 hr4.out.lt)
                  have hg5 := Lib.hid (only_trans hg4.out (only_of_below hb5 (some R)))
                  have hv5 := Lib.hid (hv4.out.below hb5 hltv4)
                  have hT5 := hT4.out.below hb5 hltT
                  have hs5 := hb5.size
                  have yc := hT5.cell 1
                  have hltv := hv5.out.lt
                  replace hT5 := Lib.hid hT5
                  replace hb5 := Lib.hid hb5
                  go_wp2_with fail

                  refine (need_yes 4 _).mono ?_
                  rintro e w6 ⟨rfl, rfl⟩
                  have hnm := named_any hE'.out he'.out R tx l w5 (hl.suf (List.suffix_cons _ _)) hr5.out
                  rw [hp] at hnm
                  replace hnm := Lib.hid hnm
                  go_wp2_with fail
                  refine hnm.out.mono ?_

                  rintro e w7 ⟨rfl, hr7, hg7⟩
                  go_wp2_with fail
                  exact ⟨rfl, rfl, hr7, only_trans hg5.out hg7⟩
                | ok r =>
                  obtain ⟨x, l2⟩ := r
                  go_enter Tryz.func125, Tryz.ntmps125
                  go_wp2_with fail
                  rw [← hw1.out]

                  refine ht0.out.mono ?_
                  rintro e w2 ⟨rfl, rfl⟩
                  go_wp2_with fail
                  refine ht1.out.mono ?_
                  rintro e w2 ⟨rfl, rfl⟩
                  go_wp2_with fail
                  refine hnx.out.mono ?_
                  rintro e w3 ⟨rfl, hr3, hg3⟩
                  unfold str

                  have hs3 := hg3.size
                  obtain ⟨w4, hw4⟩ : ∃ w4, w4 = w3.alloc (.cells #[.int .i64 (tk : Int), .string ⟨tx.toArray⟩] 96) := ⟨_, rfl⟩
                  have hr4 : Rd w4 R l d := by rw [hw4]; exact hr3.alloc _
                  have hg4 : w.grownBy w4 (some R) := by rw [hw4]; exact only_alloc (only_trans hg1.out hg3) _
                  have hv4 : Blk w4 w.heap.size 53 zeroEx := by rw [hw4]; exact (hv1.out.grown hg3 (by intro e; injection e; omega)).alloc _
                  have hT4 : Blk w4 w3.heap.size 96 #[.int .i64 (tk : Int), .string ⟨tx.toArray⟩] := by rw [hw4]; exact Blk.new _ _ _
                  have ya := hT4.cell 0
                  have yb := hT4.cell 1
                  have hltT := hT4.lt
                  replace hr4 := Lib.hid hr4
                  replace hg4 := Lib.hid hg4
                  replace hv4 := Lib.hid hv4
                  replace hT4 := Lib.hid hT4
                  replace hw4 := Lib.hid hw4
                  have hltv4 := hv4.out.lt
                  clear hr3

                  replace h1 := Lib.hid h1
                  go_wp2_with fail
                  rw [← hw4.out]
                  refine (hic.out _).mono ?_
                  rintro e w5 ⟨rfl, hb5⟩
                  have hr5 := Lib.hid (hr4.out.below hb5 hr4.out.lt)
                  have hg5 := Lib.hid (only_trans hg4.out (only_of_below hb5 (some R)))
                  have hv5 := Lib.hid (hv4.out.below hb5 hltv4)
                  have hT5 := hT4.out.below hb5 hltT
                  have hs5 := hb5.size
                  have yc := hT5.cell 1
                  have hltv := hv5.out.lt
                  replace hT5 := Lib.hid hT5
                  replace hb5 := Lib.hid hb5
                  go_wp2_with fail

                  refine (need_yes 4 _).mono ?_
                  rintro e w6 ⟨rfl, rfl⟩
                  have hnm := named_any hE'.out he'.out R tx l w5 (hl.suf (List.suffix_cons _ _)) hr5.out
                  rw [hp] at hnm
                  replace hnm := Lib.hid hnm
                  go_wp2_with fail
                  refine hnm.out.mono ?_

                  rintro e w7 ⟨⟨cs, rfl, hex⟩, hr7, hg7⟩
                  obtain ⟨k', n', of', nm', A', m', c', rfl⟩ := hex.form
                  have hv7 := Lib.hid (hv5.out.grown hg7 (by intro e; injection e; omega))
                  have hg07 := Lib.hid (only_trans hg5.out hg7)
                  replace hr7 := Lib.hid hr7
                  replace hex := Lib.hid hex
                  have z0 := hv7.out.frozen 0
                  have z1 := hv7.out.frozen 1
                  have z2 := hv7.out.frozen 2
                  have z3 := hv7.out.frozen 3
                  have z4 := hv7.out.frozen 4
                  have v0 := hv7.out.cell 0
                  have v1 := hv7.out.cell 1
                  have v2 := hv7.out.cell 2
                  have v3 := hv7.out.cell 3
                  have v4 := hv7.out.cell 4
                  have hltv7 := hv7.out.lt
                  go_wp2_with fail
                  exact ex_ret Tryz.results125 (by rfl) hlt hr7.out hg07.out hv7.out (hex.out.wide (by omega))
            · have hb1 : ((tk : Int) == 1) = false := by rw [beq_eq_false_iff_ne]; omega
              rw [if_neg (fun h => h1 h.1)]
              show Calls _ _ _ _ (FaultP R w 4)
              go_enter Tryz.func125, Tryz.ntmps125
              go_wp2_with fail
              rw [← hw1.out]

              refine ht0.out.mono ?_
              rintro e w2 ⟨rfl, rfl⟩
              go_wp2_with fail
              refine ht1.out.mono ?_
              rintro e w2 ⟨rfl, rfl⟩
              go_wp2_with fail
              refine hnx.out.mono ?_
              rintro e w3 ⟨rfl, hr3, hg3⟩
              unfold str

              have hs3 := hg3.size
              obtain ⟨w4, hw4⟩ : ∃ w4, w4 = w3.alloc (.cells #[.int .i64 (tk : Int), .string ⟨tx.toArray⟩] 96) := ⟨_, rfl⟩
              have hr4 : Rd w4 R l d := by rw [hw4]; exact hr3.alloc _
              have hg4 : w.grownBy w4 (some R) := by rw [hw4]; exact only_alloc (only_trans hg1.out hg3) _
              have hv4 : Blk w4 w.heap.size 53 zeroEx := by rw [hw4]; exact (hv1.out.grown hg3 (by intro e; injection e; omega)).alloc _
              have hT4 : Blk w4 w3.heap.size 96 #[.int .i64 (tk : Int), .string ⟨tx.toArray⟩] := by rw [hw4]; exact Blk.new _ _ _
              have ya := hT4.cell 0
              have yb := hT4.cell 1
              have hltT := hT4.lt
              replace hr4 := Lib.hid hr4
              replace hg4 := Lib.hid hg4
              replace hv4 := Lib.hid hv4
              replace hT4 := Lib.hid hT4
              replace hw4 := Lib.hid hw4
              have hltv4 := hv4.out.lt
              clear hr3

              go_wp2_with fail
              refine (need_no 4 _).mono ?_
              rintro e w5 ⟨rfl, rfl⟩
              go_wp2_with fail
              rw [← hw4.out]
              exact ⟨rfl, rfl, ⟨_, _, hr4.out⟩, hg4.out⟩
end Go.Proofs.YtpfgjiapdepdmaaGreatDoor
