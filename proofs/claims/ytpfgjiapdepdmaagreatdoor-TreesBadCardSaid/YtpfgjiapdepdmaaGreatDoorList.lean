/- The walk of the reader's list. -/
import Derived.Test.YtpfgjiapdepdmaaGreatDoorEList
namespace Go.Proofs.YtpfgjiapdepdmaaGreatDoor
open Go.RowKit Go.Shelf

/-- the contract of the reader's expr at one depth -/
def EC (d : Int) (pe : List Pu.Tok → Pu.PR Pu.Ex) : Prop := ∀ (R : Nat) (l : List Pu.Tok) (w : World), Pu.Fit l → Rd w R l d →
  Calls Tryz.prog 97 #[.pointer (some ⟨R, 0, none⟩)] w (ExprPost R d w (pe l))
def ListPost (R : Nat) (d : Int) (w : World) (r : Pu.PR (List Pu.Ex)) (e : Ending) (w' : World) : Prop := match r with
  | .ok (xs, l') => (∃ v, e = .returned v ∧ OwnE w' w.heap.size v xs) ∧ Rd w' R l' d ∧ w.grownBy w' (some R)
  | .error k => FaultP R w k e w'

/-- a frame, and what stays below it -/
theorem only_below {a b c : World} {row : Option Nat} (h : a.grownBy b row) (k : Below a.heap.size b c) : a.grownBy c row :=
  ⟨k.os.trans h.os, k.tape.trans h.tape, k.output.trans h.output, Nat.le_trans h.size k.size, fun i hi hn => (k.block i hi).trans (h.block i hi hn)⟩

set_option maxHeartbeats 1000000 in
theorem list_any {d : Int} {pe : List Pu.Tok → Pu.PR Pu.Ex} (hE : EC d pe) (he : Pu.Eats pe) (R : Nat) (fin : UInt8) (l : List Pu.Tok) (w : World) (hl : Pu.Fit l) (h : Rd w R l d) :
    Calls Tryz.prog 141 #[.pointer (some ⟨R, 0, none⟩), .string ⟨#[fin]⟩] w (ListPost R d w (Pu.pList pe fin l)) := by
  have hlt := h.lt
  have hc := hE R l w hl h
  replace hc := Lib.hid hc
  have hE' := Lib.hid hE
  have he' := Lib.hid he
  clear hE he h
  cases hp : pe l with
  | error k =>
    have hpl : Pu.pList pe fin l = .error k := by unfold Pu.pList; rw [hp]; rfl
    rw [hpl]
    rw [hp] at hc
    clear hpl hp
    go_enter Tryz.func141, Tryz.ntmps141
    go_wp2_with fail
    refine hc.out.mono ?_
    rintro e w1 ⟨rfl, hr, hg⟩
    go_wp2_with fail
    exact ⟨rfl, rfl, hr, hg⟩
  | ok r =>
    obtain ⟨x, l0⟩ := r
    have hl0 := he'.out l x l0 hp
    have hpl : Pu.pList pe fin l = Pu.pMore pe fin l0.length [x] l0 := by unfold Pu.pList; rw [hp]; rfl
    rw [hpl]
    rw [hp] at hc
    obtain ⟨goal, hgoal⟩ : ∃ g, g = Pu.pMore pe fin l0.length [x] l0 := ⟨_, rfl⟩
    rw [← hgoal]
    replace hgoal := Lib.hid hgoal
    clear hpl hp
    go_enter Tryz.func141, Tryz.ntmps141
    go_wp2_with fail
    refine hc.out.mono ?_
    rintro e w1 ⟨⟨cs, rfl, hex⟩, hr1, hg1⟩
    have hs1 := hg1.size
    have how := OwnE.one hex hs1
    have hr1' := hr1.alloc (.cells cs.toArray 53)
    have hg1' := only_alloc hg1 (.cells cs.toArray 53)
    obtain ⟨k0, n0, of0, s0, A0, m0, c0, rfl⟩ := hex.form
    replace how := Lib.hid how
    replace hr1' := Lib.hid hr1'
    replace hg1' := Lib.hid hg1'
    clear hex hr1 hc
    go_wp2_with fail
    go_loopw [5] (fun v wi => ∃ (acc : List Pu.Ex) (l' : List Pu.Tok), OwnE wi w.heap.size v acc ∧ Rd wi R l' d ∧ w.grownBy wi (some R) ∧ acc.length + l'.length ≤ 1001 ∧ l' <:+ l ∧ goal = Pu.pMore pe fin l'.length acc l')
      (fun _ wi => tokLeft wi R)
    case atStart => exact ⟨[x], l0, how.out, hr1'.out, hg1'.out, by have := hl0.length_le; have := hl.1; simp; omega, hl0, hgoal.out⟩
    case round =>
      obtain ⟨acc, l', hown, hr, hg, hn, hsf, heq⟩ := hrel
      have htl := hr.left
      have hts := take_any R 44 d l' wr hr
      replace hts := Lib.hid hts
      replace hown := Lib.hid hown
      replace hg := Lib.hid hg
      replace hr := Lib.hid hr
      cases ht : Pu.take 44 l' with
      | none =>
        rw [ht] at hts
        rw [Pu.pMore_none fin acc l' ht] at heq
        have hm := must_any R fin d l' wr hr.out
        replace hm := Lib.hid hm
        replace heq := Lib.hid heq
        go_wp2_with fail
        refine hts.out.mono ?_
        rintro e w2 ⟨rfl, rfl⟩
        go_wp2_with fail
        cases hmm : Pu.must fin l' with
        | error k =>
          rw [hmm] at hm heq
          refine hm.out.mono ?_
          rintro e w3 ⟨rfl, rfl⟩
          go_wp2_with fail
          rw [heq.out]
          exact ⟨rfl, rfl, ⟨_, _, hr.out⟩, hg.out⟩
        | ok l3 =>
          rw [hmm] at hm heq
          refine hm.out.mono ?_
          rintro e w3 ⟨rfl, hr3, hg3⟩
          go_wp2_with fail
          go_ret
          rw [heq.out]
          exact ⟨⟨_, rfl, hown.out.later hg3 hlt⟩, hr3, only_trans hg.out hg3⟩
      | some l1 =>
        rw [ht] at hts
        have hl1 := Pu.take_len ht
        rw [Pu.pMore_some he'.out fin acc l' l1 ht] at heq
        have hcx := fun W (hr : Rd W R l1 d) => hE'.out R l1 W (hl.suf ((Pu.take_suf ht).trans hsf)) hr
        replace hcx := Lib.hid hcx
        go_wp2_with fail
        refine hts.out.mono ?_
        rintro e w2 ⟨rfl, hr2, hg2⟩
        have hown2 := hown.out.later hg2 hlt
        have hg02 := only_trans hg.out hg2
        have hs02 := hg02.size
        have hcx2 := hcx.out w2 hr2
        replace hcx2 := Lib.hid hcx2
        replace hown2 := Lib.hid hown2
        replace hg02 := Lib.hid hg02
        clear hr2
        go_wp2_with fail
        cases hp1 : pe l1 with
        | error k =>
          rw [hp1] at hcx2 heq
          replace heq := Lib.hid heq
          refine hcx2.out.mono ?_
          rintro e w3 ⟨rfl, hr3, hg3⟩
          go_wp2_with fail
          rw [heq.out]
          exact ⟨rfl, rfl, hr3, only_trans hg02.out hg3⟩
        | ok r =>
          obtain ⟨x1, l2⟩ := r
          have hl2 := he'.out l1 x1 l2 hp1
          rw [hp1] at hcx2 heq
          replace heq := Lib.hid heq
          refine hcx2.out.mono ?_
          rintro e w3 ⟨⟨cs, rfl, hex⟩, hr3, hg3⟩
          have hs3 := hg3.size
          have hown3 := hown2.out.later hg3 hlt
          have hlt3 : ∀ g, u5.ownBlock = some g → g < w2.heap.size := by
            obtain ⟨cells, h1, _⟩ := hown2.out
            exact fun g hg => (h1.lt g hg).2
          have hex3 : ExC w3 (fun b => w.heap.size ≤ b ∧ some b ≠ u5.ownBlock) x1 cs := hex.keep (Nat.le_refl _) fun b hs hb => by
            unfold New at hs
            refine ⟨rfl, by omega, fun e => ?_⟩
            have := hlt3 b e.symm
            omega
          have hgr : ∀ g, u5.ownBlock = some g → w.heap.size ≤ g := by
            obtain ⟨cells, h1, _⟩ := hown2.out
            exact fun g hg => (h1.lt g hg).1
          have hg03 := only_trans hg02.out hg3
          obtain ⟨k1, n1, of1, s1, A1, m1, c1, rfl⟩ := hex.form
          replace hown3 := Lib.hid hown3
          replace hex3 := Lib.hid hex3
          replace hg03 := Lib.hid hg03
          replace hgr := Lib.hid hgr
          replace hlt3 := Lib.hid hlt3
          replace hr3 := Lib.hid hr3
          clear hex
          go_wp2_with (at_builtin; refine append_ex (by rfl) _ _ (by rfl) w3 w.heap.size u5 acc x1 _ w3.heap.size (by rfl) (by rfl) rfl hown3.out hex3.out (by omega) (by omega) ?_; intro v' w4 hown4 hb4 hs4 hgb4)
          have hr4 := hr3.out.below hb4 hlt
          have hl2' := hl2.length_le
          refine ⟨⟨acc ++ [x1], l2, hown4, hr4, only_below hg03.out hb4, by simp; omega, hl2.trans ((Pu.take_suf ht).trans hsf), heq.out⟩, ?_⟩
          rw [htl, hr4.left]
          omega
end Go.Proofs.YtpfgjiapdepdmaaGreatDoor
