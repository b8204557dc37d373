/- The walk of tree.kind: what may be. -/
import Derived.Test.YtpfgjiapdepdmaaGreatDoorCut
namespace Go.Proofs.YtpfgjiapdepdmaaGreatDoor
open Go.RowKit Go.Shelf

/-- what a checker does: it returns, or panics with the fault -/
def ChkPost (w : World) (r : Nat) (e : Ending) (w' : World) : Prop := (if r = 0 then e = .returned (.tuple #[]) else Faulted r e) ∧ Below w.heap.size w w'
theorem ChkPost.ok {w w' : World} {e : Ending} (h : e = .returned (.tuple #[])) (hb : Below w.heap.size w w') : ChkPost w 0 e w' := ⟨h, hb⟩
theorem ChkPost.bad {w w' : World} {e : Ending} {r : Nat} (hr : r ≠ 0) (h : Faulted r e) (hb : Below w.heap.size w w') : ChkPost w r e w' := ⟨by rw [if_neg hr]; exact h, hb⟩
theorem isIdent (b : ByteArray) (v : Bool) (h : identB b = v) (W : World) : Calls Tryz.prog 39 #[.string b] W fun e w' => e = .returned (.bool v) ∧ Below W.heap.size W w' := by
  rw [← h]
  exact ident_any b W
theorem isQuot (b : ByteArray) (v : Bool) (h : quotB b = v) (W : World) : Calls Tryz.prog 90 #[.string b] W fun e w' => e = .returned (.bool v) ∧ Below W.heap.size W w' := by
  rw [← h]
  exact quot_any b W

theorem kind_deep (cs : Array Value) (hcs : ∃ (k : Int) (of nm : ByteArray) (A : Option Addr) (n c : Nat), cs = #[.int .i64 k, .string of, .string nm, .slice A n c]) (w : World) : Calls Tryz.prog 40 #[.agg cs, .int .i64 11] w (ChkPost w 1) := by
  obtain ⟨k, of, nm, A, n, c, rfl⟩ := hcs
  go_enter Tryz.func40, Tryz.ntmps40
  go_wp2_with fail
  refine (need_no 1 _).mono ?_
  rintro e wn ⟨rfl, rfl⟩
  go_wp2_with fail
  exact ⟨rfl, ChkPost.bad (by omega) rfl ((Below.refl w.heap.size w).alloc (Nat.le_refl _) _)⟩
theorem kind_low (D : Int) (hD1 : 1 ≤ D) (hD2 : D ≤ 10) (k : Int) (of nm : ByteArray) (A : Option Addr) (n c : Nat) (w : World) (h : k < 1) : Calls Tryz.prog 40 #[.agg #[.int .i64 k, .string of, .string nm, .slice A n c], .int .i64 D] w (ChkPost w 3) := by
  have h' : ¬ 1 ≤ k := by omega
  go_enter Tryz.func40, Tryz.ntmps40
  go_wp2_with fail
  refine (need_yes 1 _).mono ?_
  rintro e wn ⟨rfl, rfl⟩
  go_wp2_with fail
  refine (need_no 3 _).mono ?_
  rintro e wn ⟨rfl, rfl⟩
  go_wp2_with fail
  exact ⟨rfl, ChkPost.bad (by omega) rfl ((Below.refl w.heap.size w).alloc (Nat.le_refl _) _)⟩
theorem kind_high (D : Int) (hD1 : 1 ≤ D) (hD2 : D ≤ 10) (k : Int) (of nm : ByteArray) (A : Option Addr) (n c : Nat) (w : World) (h : 4 < k) : Calls Tryz.prog 40 #[.agg #[.int .i64 k, .string of, .string nm, .slice A n c], .int .i64 D] w (ChkPost w 3) := by
  have h2 : decide (k ≤ 4) = false := by rw [decide_eq_false_iff_not]; omega
  have h1 : decide (1 ≤ k) = true := by rw [decide_eq_true_iff]; omega
  clear h
  go_enter Tryz.func40, Tryz.ntmps40
  go_wp2_with fail
  refine (need_yes 1 _).mono ?_
  rintro e wn ⟨rfl, rfl⟩
  go_wp2_with fail
  refine (need_no 3 _).mono ?_
  rintro e wn ⟨rfl, rfl⟩
  go_wp2_with fail
  exact ⟨rfl, ChkPost.bad (by omega) rfl ((Below.refl w.heap.size w).alloc (Nat.le_refl _) _)⟩
theorem kind_list_n0 (D : Int) (hD1 : 1 ≤ D) (hD2 : D ≤ 10) (k : Int) (of nm : ByteArray) (A : Option Addr) (n c : Nat) (w : World) (hk1 : 1 ≤ k) (hk4 : k ≤ 4) (g3 : (k == 3) = true) (g4 : (k == 4) = false) (hn0 : n = 0) : Calls Tryz.prog 40 #[.agg #[.int .i64 k, .string of, .string nm, .slice A n c], .int .i64 D] w (ChkPost w 4) := by
  have g4n : (k != 4) = true := by rw [bne, g4]; rfl
  have n1 : ((n : Int) == 1) = false := by rw [hn0]; rfl
  have n2 : (n : Int) < 2 := by omega
  have n2' : n < 2 := by omega
  replace hn0 := Lib.hid hn0
  go_enter Tryz.func40, Tryz.ntmps40
  go_wp2_with fail
  refine (need_yes 1 _).mono ?_
  rintro e wn ⟨rfl, rfl⟩
  go_wp2_with fail
  refine (need_yes 3 _).mono ?_
  rintro e wn ⟨rfl, rfl⟩
  go_wp2_with fail
  refine (need_no 4 _).mono ?_
  rintro e wn ⟨rfl, rfl⟩
  go_wp2_with fail
  exact ⟨rfl, ChkPost.bad (by omega) rfl ((Below.refl w.heap.size w).alloc (Nat.le_refl _) _)⟩
theorem kind_list_nm (D : Int) (hD1 : 1 ≤ D) (hD2 : D ≤ 10) (k : Int) (of nm : ByteArray) (A : Option Addr) (n c : Nat) (w : World) (hk1 : 1 ≤ k) (hk4 : k ≤ 4) (g3 : (k == 3) = true) (g4 : (k == 4) = false) (hn1 : n = 1) (hnm : nm.toList.isEmpty = false) : Calls Tryz.prog 40 #[.agg #[.int .i64 k, .string of, .string nm, .slice A n c], .int .i64 D] w (ChkPost w 4) := by
  have g4n : (k != 4) = true := by rw [bne, g4]; rfl
  have n1 : ((n : Int) == 1) = true := by rw [hn1]; rfl
  have n2 : (n : Int) < 2 := by omega
  have n2' : n < 2 := by omega
  replace hn1 := Lib.hid hn1
  have e1nm : nm.toList.isEmpty = false := hnm
  have e2nm : ¬ nm.toList = [] := by intro e; rw [e] at hnm; cases hnm
  go_enter Tryz.func40, Tryz.ntmps40
  go_wp2_with fail
  refine (need_yes 1 _).mono ?_
  rintro e wn ⟨rfl, rfl⟩
  go_wp2_with fail
  refine (need_yes 3 _).mono ?_
  rintro e wn ⟨rfl, rfl⟩
  go_wp2_with fail
  refine (need_no 4 _).mono ?_
  rintro e wn ⟨rfl, rfl⟩
  go_wp2_with fail
  exact ⟨rfl, ChkPost.bad (by omega) rfl ((Below.refl w.heap.size w).alloc (Nat.le_refl _) _)⟩
theorem kind_list_of (D : Int) (hD1 : 1 ≤ D) (hD2 : D ≤ 10) (k : Int) (of nm : ByteArray) (A : Option Addr) (n c : Nat) (w : World) (hk1 : 1 ≤ k) (hk4 : k ≤ 4) (g3 : (k == 3) = true) (g4 : (k == 4) = false) (hn1 : n = 1) (hnm : nm.toList.isEmpty = true) (hof : of.toList.isEmpty = false) : Calls Tryz.prog 40 #[.agg #[.int .i64 k, .string of, .string nm, .slice A n c], .int .i64 D] w (ChkPost w 4) := by
  have g4n : (k != 4) = true := by rw [bne, g4]; rfl
  have n1 : ((n : Int) == 1) = true := by rw [hn1]; rfl
  have n2 : (n : Int) < 2 := by omega
  have n2' : n < 2 := by omega
  replace hn1 := Lib.hid hn1
  have e1nm : nm.toList.isEmpty = true := hnm
  have e2nm : nm.toList = [] := by simpa using hnm
  have e1of : of.toList.isEmpty = false := hof
  have e2of : ¬ of.toList = [] := by intro e; rw [e] at hof; cases hof
  go_enter Tryz.func40, Tryz.ntmps40
  go_wp2_with fail
  refine (need_yes 1 _).mono ?_
  rintro e wn ⟨rfl, rfl⟩
  go_wp2_with fail
  refine (need_yes 3 _).mono ?_
  rintro e wn ⟨rfl, rfl⟩
  go_wp2_with fail
  refine (need_no 4 _).mono ?_
  rintro e wn ⟨rfl, rfl⟩
  go_wp2_with fail
  exact ⟨rfl, ChkPost.bad (by omega) rfl ((Below.refl w.heap.size w).alloc (Nat.le_refl _) _)⟩
theorem kind_list_ok (D : Int) (hD1 : 1 ≤ D) (hD2 : D ≤ 10) (k : Int) (of nm : ByteArray) (A : Option Addr) (n c : Nat) (w : World) (hk1 : 1 ≤ k) (hk4 : k ≤ 4) (g3 : (k == 3) = true) (g4 : (k == 4) = false) (hn1 : n = 1) (hnm : nm.toList.isEmpty = true) (hof : of.toList.isEmpty = true) (args : List Pu.Ty) (chk : Pu.Ty → Nat) (hn : args.length = n) (helem : ∀ j a, j < n → args[j]? = some a → ∃ (k1 : Int) (of1 nm1 : ByteArray) (A1 : Option Addr) (n1 c1 : Nat) (cs : List Value), cs = [.int .i64 k1, .string of1, .string nm1, .slice A1 n1 c1] ∧ (∃ b off, A = some ⟨b, off, none⟩ ∧ b < w.heap.size ∧ ∀ i u, cs[i]? = some u → w.cell? ⟨b, off + j * 4 + i, none⟩ = some u) ∧ TyC w (fun _ => True) a cs) (hcall : ∀ a cs W, Below w.heap.size w W → TyC w (fun _ => True) a cs → Calls Tryz.prog 40 #[.agg cs.toArray, .int .i64 (D + 1)] W (ChkPost W (chk a))) : Calls Tryz.prog 40 #[.agg #[.int .i64 k, .string of, .string nm, .slice A n c], .int .i64 D] w (ChkPost w (Pu.firstFault chk args)) := by
  have hnl : n ≤ 1000000 := by omega
  obtain ⟨goal, hgoal⟩ : ∃ g, g = Pu.firstFault chk args := ⟨_, rfl⟩
  rw [← hgoal]
  replace hgoal := Lib.hid hgoal
  replace hn := Lib.hid hn
  replace helem := Lib.hid helem
  replace hcall := Lib.hid hcall
  have g4n : (k != 4) = true := by rw [bne, g4]; rfl
  have n1 : ((n : Int) == 1) = true := by rw [hn1]; rfl
  have n2 : (n : Int) < 2 := by omega
  have n2' : n < 2 := by omega
  replace hn1 := Lib.hid hn1
  have e1nm : nm.toList.isEmpty = true := hnm
  have e2nm : nm.toList = [] := by simpa using hnm
  have e1of : of.toList.isEmpty = true := hof
  have e2of : of.toList = [] := by simpa using hof
  go_enter Tryz.func40, Tryz.ntmps40
  go_wp2_with fail
  refine (need_yes 1 _).mono ?_
  rintro e wn ⟨rfl, rfl⟩
  go_wp2_with fail
  refine (need_yes 3 _).mono ?_
  rintro e wn ⟨rfl, rfl⟩
  go_wp2_with fail
  refine (need_yes 4 _).mono ?_
  rintro e wn ⟨rfl, rfl⟩
  go_wp2_with fail
  refine (need_yes 4 _).mono ?_
  rintro e wn ⟨rfl, rfl⟩
  go_wp2_with fail
  have hbelL := Lib.hid ((Below.refl w.heap.size w).alloc (Nat.le_refl _) (.cells #[.int .i64 k, .string of, .string nm, .slice A n c] 50))
  go_loopw [71] (fun i wr => ∃ j : Nat, j ≤ n ∧ i = .int .i64 j ∧ goal = Pu.firstFault chk (args.drop j) ∧ Below w.heap.size w wr) (fun i _ => n - (intOf i).toNat)
  case atStart => exact ⟨0, Nat.zero_le _, rfl, hgoal.out, hbelL.out⟩
  case round =>
    obtain ⟨j, hj, rfl, hgj, hbj⟩ := hrel
    replace hgj := Lib.hid hgj
    by_cases hlt : j < n
    · obtain ⟨a, haj⟩ : ∃ a, args[j]? = some a := ⟨args[j]'(by rw [hn.out]; exact hlt), List.getElem?_eq_getElem _⟩
      obtain ⟨k1, of1, nm1, A1, n1, c1, cs, rfl, hcell, hcs⟩ := helem.out j a hlt haj
      have hdrop : args.drop j = a :: args.drop (j + 1) := by
        have hlj : j < args.length := by rw [hn.out]; exact hlt
        rw [List.drop_eq_getElem_cons hlj]
        rw [List.getElem?_eq_getElem hlj] at haj
        injection haj with haj
        rw [haj]
      obtain ⟨b, off, rfl, hbl, hcj⟩ := hcell
      have hbb : ∀ o u, w.cell? ⟨b, o, none⟩ = some u → wr.cell? ⟨b, o, none⟩ = some u := fun o u hu => (hbj.cell (p := ⟨b, o, none⟩) hbl).trans hu
      have v0 := hbb _ _ (hcj 0 _ rfl)
      have v1 := hbb _ _ (hcj 1 _ rfl)
      have v2 := hbb _ _ (hcj 2 _ rfl)
      have v3 := hbb _ _ (hcj 3 _ rfl)
      simp only [Nat.add_zero] at v0
      have hih := fun W (hW : Below w.heap.size w W) => hcall.out a _ W hW (hcs)
      have hbj' := Lib.hid hbj
      replace hih := Lib.hid hih
      replace hdrop := Lib.hid hdrop
      clear hbb hcj hcs haj hbj
      go_wp2_with fail
      refine (hih.out _ (hbj'.out.alloc hbj'.out.size _)).mono ?_
      rintro e wk ⟨he, hbk⟩
      have hgj2 := hgj.out
      rw [hdrop.out] at hgj2
      cases hr : chk a with
      | zero =>
        rw [hr] at he
        obtain rfl : e = .returned (.tuple #[]) := he
        have hgj3 : goal = Pu.firstFault chk (args.drop (j + 1)) := by rw [hgj2]; show Pu.seq (chk a) _ = _; rw [hr]; rfl
        replace hgj2 := Lib.hid hgj2
        replace hgj3 := Lib.hid hgj3
        replace hr := Lib.hid hr
        go_wp2_with fail
        go_roundw
        case rel => exact ⟨j + 1, by omega, by go_num, hgj3.out, (hbj'.out.alloc hbj'.out.size _).trans (hbk.mono (by have := hbj'.out.size; simp; omega))⟩
        case measure => simp [intOf]; omega
      | succ r =>
        rw [hr] at he
        obtain rfl : e = .panicked [{ v := fault (r + 1), recovered := false }] := he
        have hgj3 : goal = r + 1 := by rw [hgj2]; show Pu.seq (chk a) _ = _; rw [hr]; rfl
        replace hgj2 := Lib.hid hgj2
        replace hgj3 := Lib.hid hgj3
        replace hr := Lib.hid hr
        go_wp2_with fail
        rw [hgj3.out]
        exact ⟨rfl, ChkPost.bad (by omega) rfl ((hbj'.out.alloc hbj'.out.size _).trans (hbk.mono (by have := hbj'.out.size; simp; omega)))⟩
    · have hje : args.drop j = [] := List.drop_eq_nil_of_le (by rw [hn.out]; omega)
      have hg0 : goal = 0 := by rw [hgj.out, hje]; rfl
      have hbj' := Lib.hid hbj
      replace hje := Lib.hid hje
      replace hg0 := Lib.hid hg0
      clear hbj
      go_wp2_with fail
      go_end0
      rw [hg0.out]
      exact ChkPost.ok rfl hbj'.out
theorem kind_list_n2 (D : Int) (hD1 : 1 ≤ D) (hD2 : D ≤ 10) (k : Int) (of nm : ByteArray) (A : Option Addr) (n c : Nat) (w : World) (hk1 : 1 ≤ k) (hk4 : k ≤ 4) (g3 : (k == 3) = true) (g4 : (k == 4) = false) (hn2 : 2 ≤ n) : Calls Tryz.prog 40 #[.agg #[.int .i64 k, .string of, .string nm, .slice A n c], .int .i64 D] w (ChkPost w 4) := by
  have g4n : (k != 4) = true := by rw [bne, g4]; rfl
  have n1 : ((n : Int) == 1) = false := by rw [beq_eq_false_iff_ne]; omega
  have n2 : ¬ (n : Int) < 2 := by omega
  have n2' : ¬ n < 2 := by omega
  go_enter Tryz.func40, Tryz.ntmps40
  go_wp2_with fail
  refine (need_yes 1 _).mono ?_
  rintro e wn ⟨rfl, rfl⟩
  go_wp2_with fail
  refine (need_yes 3 _).mono ?_
  rintro e wn ⟨rfl, rfl⟩
  go_wp2_with fail
  refine (need_no 4 _).mono ?_
  rintro e wn ⟨rfl, rfl⟩
  go_wp2_with fail
  exact ⟨rfl, ChkPost.bad (by omega) rfl ((Below.refl w.heap.size w).alloc (Nat.le_refl _) _)⟩
theorem kind_name_nm (D : Int) (hD1 : 1 ≤ D) (hD2 : D ≤ 10) (k : Int) (of nm : ByteArray) (A : Option Addr) (n c : Nat) (w : World) (hk1 : 1 ≤ k) (hk4 : k ≤ 4) (g3 : (k == 3) = false) (g4 : (k == 4) = true) (hn0 : n = 0) (hidnm : identB nm = false) : Calls Tryz.prog 40 #[.agg #[.int .i64 k, .string of, .string nm, .slice A n c], .int .i64 D] w (ChkPost w 4) := by
  have g4n : (k != 4) = false := by rw [bne, g4]; rfl
  have n1 : ((n : Int) == 1) = false := by rw [hn0]; rfl
  have n2 : (n : Int) < 2 := by omega
  have n2' : n < 2 := by omega
  replace hn0 := Lib.hid hn0
  have hinm := isIdent nm false hidnm
  replace hinm := Lib.hid hinm
  replace hidnm := Lib.hid hidnm
  go_enter Tryz.func40, Tryz.ntmps40
  go_wp2_with fail
  refine (need_yes 1 _).mono ?_
  rintro e wn ⟨rfl, rfl⟩
  go_wp2_with fail
  refine (need_yes 3 _).mono ?_
  rintro e wn ⟨rfl, rfl⟩
  go_wp2_with fail
  refine (need_yes 4 _).mono ?_
  rintro e wn ⟨rfl, rfl⟩
  go_wp2_with fail
  refine (hinm.out _).mono ?_
  rintro e wi1 ⟨rfl, hb1⟩
  have bk1 := (Blk.new w 50 #[.int .i64 k, .string of, .string nm, .slice A n c]).below hb1 (by first | (simp; done) | exact (Blk.new w 50 #[.int .i64 k, .string of, .string nm, .slice A n c]).lt)
  have q1_0 := bk1.cell 0
  have q1_1 := bk1.cell 1
  have q1_2 := bk1.cell 2
  have q1_3 := bk1.cell 3
  simp only [List.getElem?_toArray, List.getElem?_cons_zero, List.getElem?_cons_succ] at q1_0 q1_1 q1_2 q1_3
  have lt1 := bk1.lt
  replace bk1 := Lib.hid bk1
  have hbel1 := ((Below.refl w.heap.size w).alloc (Nat.le_refl _) (.cells #[.int .i64 k, .string of, .string nm, .slice A n c] 50)).trans (hb1.mono (by simp))
  replace hbel1 := Lib.hid hbel1
  go_wp2_with fail
  refine (need_no 4 _).mono ?_
  rintro e wn ⟨rfl, rfl⟩
  go_wp2_with fail
  exact ⟨rfl, ChkPost.bad (by omega) rfl (hbel1.out)⟩
theorem kind_name_of (D : Int) (hD1 : 1 ≤ D) (hD2 : D ≤ 10) (k : Int) (of nm : ByteArray) (A : Option Addr) (n c : Nat) (w : World) (hk1 : 1 ≤ k) (hk4 : k ≤ 4) (g3 : (k == 3) = false) (g4 : (k == 4) = true) (hn0 : n = 0) (hidnm : identB nm = true) (hof : of.toList.isEmpty = false) (hidof : identB of = false) : Calls Tryz.prog 40 #[.agg #[.int .i64 k, .string of, .string nm, .slice A n c], .int .i64 D] w (ChkPost w 4) := by
  have g4n : (k != 4) = false := by rw [bne, g4]; rfl
  have n1 : ((n : Int) == 1) = false := by rw [hn0]; rfl
  have n2 : (n : Int) < 2 := by omega
  have n2' : n < 2 := by omega
  replace hn0 := Lib.hid hn0
  have hinm := isIdent nm true hidnm
  replace hinm := Lib.hid hinm
  replace hidnm := Lib.hid hidnm
  have e1of : of.toList.isEmpty = false := hof
  have e2of : ¬ of.toList = [] := by intro e; rw [e] at hof; cases hof
  have hiof := isIdent of false hidof
  replace hiof := Lib.hid hiof
  replace hidof := Lib.hid hidof
  go_enter Tryz.func40, Tryz.ntmps40
  go_wp2_with fail
  refine (need_yes 1 _).mono ?_
  rintro e wn ⟨rfl, rfl⟩
  go_wp2_with fail
  refine (need_yes 3 _).mono ?_
  rintro e wn ⟨rfl, rfl⟩
  go_wp2_with fail
  refine (need_yes 4 _).mono ?_
  rintro e wn ⟨rfl, rfl⟩
  go_wp2_with fail
  refine (hinm.out _).mono ?_
  rintro e wi1 ⟨rfl, hb1⟩
  have bk1 := (Blk.new w 50 #[.int .i64 k, .string of, .string nm, .slice A n c]).below hb1 (by first | (simp; done) | exact (Blk.new w 50 #[.int .i64 k, .string of, .string nm, .slice A n c]).lt)
  have q1_0 := bk1.cell 0
  have q1_1 := bk1.cell 1
  have q1_2 := bk1.cell 2
  have q1_3 := bk1.cell 3
  simp only [List.getElem?_toArray, List.getElem?_cons_zero, List.getElem?_cons_succ] at q1_0 q1_1 q1_2 q1_3
  have lt1 := bk1.lt
  replace bk1 := Lib.hid bk1
  have hbel1 := ((Below.refl w.heap.size w).alloc (Nat.le_refl _) (.cells #[.int .i64 k, .string of, .string nm, .slice A n c] 50)).trans (hb1.mono (by simp))
  replace hbel1 := Lib.hid hbel1
  go_wp2_with fail
  refine (hiof.out _).mono ?_
  rintro e wi2 ⟨rfl, hb2⟩
  have bk2 := (bk1.out).below hb2 (by first | (simp; done) | exact (bk1.out).lt)
  have q2_0 := bk2.cell 0
  have q2_1 := bk2.cell 1
  have q2_2 := bk2.cell 2
  have q2_3 := bk2.cell 3
  simp only [List.getElem?_toArray, List.getElem?_cons_zero, List.getElem?_cons_succ] at q2_0 q2_1 q2_2 q2_3
  have lt2 := bk2.lt
  replace bk2 := Lib.hid bk2
  have hbel2 := hbel1.out.trans (hb2.mono hbel1.out.size)
  replace hbel2 := Lib.hid hbel2
  go_wp2_with fail
  refine (need_no 4 _).mono ?_
  rintro e wn ⟨rfl, rfl⟩
  go_wp2_with fail
  exact ⟨rfl, ChkPost.bad (by omega) rfl (hbel2.out)⟩
theorem kind_name_ok1 (D : Int) (hD1 : 1 ≤ D) (hD2 : D ≤ 10) (k : Int) (of nm : ByteArray) (A : Option Addr) (n c : Nat) (w : World) (hk1 : 1 ≤ k) (hk4 : k ≤ 4) (g3 : (k == 3) = false) (g4 : (k == 4) = true) (hn0 : n = 0) (hidnm : identB nm = true) (hof : of.toList.isEmpty = true) : Calls Tryz.prog 40 #[.agg #[.int .i64 k, .string of, .string nm, .slice A n c], .int .i64 D] w (ChkPost w 0) := by
  have g4n : (k != 4) = false := by rw [bne, g4]; rfl
  have n1 : ((n : Int) == 1) = false := by rw [hn0]; rfl
  have n2 : (n : Int) < 2 := by omega
  have n2' : n < 2 := by omega
  replace hn0 := Lib.hid hn0
  have hinm := isIdent nm true hidnm
  replace hinm := Lib.hid hinm
  replace hidnm := Lib.hid hidnm
  have e1of : of.toList.isEmpty = true := hof
  have e2of : of.toList = [] := by simpa using hof
  go_enter Tryz.func40, Tryz.ntmps40
  go_wp2_with fail
  refine (need_yes 1 _).mono ?_
  rintro e wn ⟨rfl, rfl⟩
  go_wp2_with fail
  refine (need_yes 3 _).mono ?_
  rintro e wn ⟨rfl, rfl⟩
  go_wp2_with fail
  refine (need_yes 4 _).mono ?_
  rintro e wn ⟨rfl, rfl⟩
  go_wp2_with fail
  refine (hinm.out _).mono ?_
  rintro e wi1 ⟨rfl, hb1⟩
  have bk1 := (Blk.new w 50 #[.int .i64 k, .string of, .string nm, .slice A n c]).below hb1 (by first | (simp; done) | exact (Blk.new w 50 #[.int .i64 k, .string of, .string nm, .slice A n c]).lt)
  have q1_0 := bk1.cell 0
  have q1_1 := bk1.cell 1
  have q1_2 := bk1.cell 2
  have q1_3 := bk1.cell 3
  simp only [List.getElem?_toArray, List.getElem?_cons_zero, List.getElem?_cons_succ] at q1_0 q1_1 q1_2 q1_3
  have lt1 := bk1.lt
  replace bk1 := Lib.hid bk1
  have hbel1 := ((Below.refl w.heap.size w).alloc (Nat.le_refl _) (.cells #[.int .i64 k, .string of, .string nm, .slice A n c] 50)).trans (hb1.mono (by simp))
  replace hbel1 := Lib.hid hbel1
  go_wp2_with fail
  refine (need_yes 4 _).mono ?_
  rintro e wn ⟨rfl, rfl⟩
  go_wp2_with fail
  have hbelL := Lib.hid (hbel1.out)
  go_loopw [71] (fun i wr => i = .int .i64 0 ∧ Below w.heap.size w wr) (fun _ _ => 0)
  case atStart => exact ⟨rfl, hbelL.out⟩
  case round =>
    obtain ⟨rfl, hbj⟩ := hrel
    replace hbj := Lib.hid hbj
    have hnz : n = 0 := hn0.out
    have hnz2 : ¬ 0 < n := by omega
    clear hnz
    go_wp2_with fail
    go_end0
    exact ChkPost.ok rfl hbj.out
theorem kind_name_ok2 (D : Int) (hD1 : 1 ≤ D) (hD2 : D ≤ 10) (k : Int) (of nm : ByteArray) (A : Option Addr) (n c : Nat) (w : World) (hk1 : 1 ≤ k) (hk4 : k ≤ 4) (g3 : (k == 3) = false) (g4 : (k == 4) = true) (hn0 : n = 0) (hidnm : identB nm = true) (hof : of.toList.isEmpty = false) (hidof : identB of = true) : Calls Tryz.prog 40 #[.agg #[.int .i64 k, .string of, .string nm, .slice A n c], .int .i64 D] w (ChkPost w 0) := by
  have g4n : (k != 4) = false := by rw [bne, g4]; rfl
  have n1 : ((n : Int) == 1) = false := by rw [hn0]; rfl
  have n2 : (n : Int) < 2 := by omega
  have n2' : n < 2 := by omega
  replace hn0 := Lib.hid hn0
  have hinm := isIdent nm true hidnm
  replace hinm := Lib.hid hinm
  replace hidnm := Lib.hid hidnm
  have e1of : of.toList.isEmpty = false := hof
  have e2of : ¬ of.toList = [] := by intro e; rw [e] at hof; cases hof
  have hiof := isIdent of true hidof
  replace hiof := Lib.hid hiof
  replace hidof := Lib.hid hidof
  go_enter Tryz.func40, Tryz.ntmps40
  go_wp2_with fail
  refine (need_yes 1 _).mono ?_
  rintro e wn ⟨rfl, rfl⟩
  go_wp2_with fail
  refine (need_yes 3 _).mono ?_
  rintro e wn ⟨rfl, rfl⟩
  go_wp2_with fail
  refine (need_yes 4 _).mono ?_
  rintro e wn ⟨rfl, rfl⟩
  go_wp2_with fail
  refine (hinm.out _).mono ?_
  rintro e wi1 ⟨rfl, hb1⟩
  have bk1 := (Blk.new w 50 #[.int .i64 k, .string of, .string nm, .slice A n c]).below hb1 (by first | (simp; done) | exact (Blk.new w 50 #[.int .i64 k, .string of, .string nm, .slice A n c]).lt)
  have q1_0 := bk1.cell 0
  have q1_1 := bk1.cell 1
  have q1_2 := bk1.cell 2
  have q1_3 := bk1.cell 3
  simp only [List.getElem?_toArray, List.getElem?_cons_zero, List.getElem?_cons_succ] at q1_0 q1_1 q1_2 q1_3
  have lt1 := bk1.lt
  replace bk1 := Lib.hid bk1
  have hbel1 := ((Below.refl w.heap.size w).alloc (Nat.le_refl _) (.cells #[.int .i64 k, .string of, .string nm, .slice A n c] 50)).trans (hb1.mono (by simp))
  replace hbel1 := Lib.hid hbel1
  go_wp2_with fail
  refine (hiof.out _).mono ?_
  rintro e wi2 ⟨rfl, hb2⟩
  have bk2 := (bk1.out).below hb2 (by first | (simp; done) | exact (bk1.out).lt)
  have q2_0 := bk2.cell 0
  have q2_1 := bk2.cell 1
  have q2_2 := bk2.cell 2
  have q2_3 := bk2.cell 3
  simp only [List.getElem?_toArray, List.getElem?_cons_zero, List.getElem?_cons_succ] at q2_0 q2_1 q2_2 q2_3
  have lt2 := bk2.lt
  replace bk2 := Lib.hid bk2
  have hbel2 := hbel1.out.trans (hb2.mono hbel1.out.size)
  replace hbel2 := Lib.hid hbel2
  go_wp2_with fail
  refine (need_yes 4 _).mono ?_
  rintro e wn ⟨rfl, rfl⟩
  go_wp2_with fail
  have hbelL := Lib.hid (hbel2.out)
  go_loopw [71] (fun i wr => i = .int .i64 0 ∧ Below w.heap.size w wr) (fun _ _ => 0)
  case atStart => exact ⟨rfl, hbelL.out⟩
  case round =>
    obtain ⟨rfl, hbj⟩ := hrel
    replace hbj := Lib.hid hbj
    have hnz : n = 0 := hn0.out
    have hnz2 : ¬ 0 < n := by omega
    clear hnz
    go_wp2_with fail
    go_end0
    exact ChkPost.ok rfl hbj.out
theorem kind_name_n1 (D : Int) (hD1 : 1 ≤ D) (hD2 : D ≤ 10) (k : Int) (of nm : ByteArray) (A : Option Addr) (n c : Nat) (w : World) (hk1 : 1 ≤ k) (hk4 : k ≤ 4) (g3 : (k == 3) = false) (g4 : (k == 4) = true) (hn1 : n = 1) : Calls Tryz.prog 40 #[.agg #[.int .i64 k, .string of, .string nm, .slice A n c], .int .i64 D] w (ChkPost w 4) := by
  have g4n : (k != 4) = false := by rw [bne, g4]; rfl
  have n1 : ((n : Int) == 1) = true := by rw [hn1]; rfl
  have n2 : (n : Int) < 2 := by omega
  have n2' : n < 2 := by omega
  replace hn1 := Lib.hid hn1
  go_enter Tryz.func40, Tryz.ntmps40
  go_wp2_with fail
  refine (need_yes 1 _).mono ?_
  rintro e wn ⟨rfl, rfl⟩
  go_wp2_with fail
  refine (need_yes 3 _).mono ?_
  rintro e wn ⟨rfl, rfl⟩
  go_wp2_with fail
  refine (need_no 4 _).mono ?_
  rintro e wn ⟨rfl, rfl⟩
  go_wp2_with fail
  exact ⟨rfl, ChkPost.bad (by omega) rfl ((Below.refl w.heap.size w).alloc (Nat.le_refl _) _)⟩
theorem kind_name_n2 (D : Int) (hD1 : 1 ≤ D) (hD2 : D ≤ 10) (k : Int) (of nm : ByteArray) (A : Option Addr) (n c : Nat) (w : World) (hk1 : 1 ≤ k) (hk4 : k ≤ 4) (g3 : (k == 3) = false) (g4 : (k == 4) = true) (hn2 : 2 ≤ n) : Calls Tryz.prog 40 #[.agg #[.int .i64 k, .string of, .string nm, .slice A n c], .int .i64 D] w (ChkPost w 4) := by
  have g4n : (k != 4) = false := by rw [bne, g4]; rfl
  have n1 : ((n : Int) == 1) = false := by rw [beq_eq_false_iff_ne]; omega
  have n2 : ¬ (n : Int) < 2 := by omega
  have n2' : ¬ n < 2 := by omega
  go_enter Tryz.func40, Tryz.ntmps40
  go_wp2_with fail
  refine (need_yes 1 _).mono ?_
  rintro e wn ⟨rfl, rfl⟩
  go_wp2_with fail
  refine (need_yes 3 _).mono ?_
  rintro e wn ⟨rfl, rfl⟩
  go_wp2_with fail
  refine (need_no 4 _).mono ?_
  rintro e wn ⟨rfl, rfl⟩
  go_wp2_with fail
  exact ⟨rfl, ChkPost.bad (by omega) rfl ((Below.refl w.heap.size w).alloc (Nat.le_refl _) _)⟩
theorem kind_flat_nm (D : Int) (hD1 : 1 ≤ D) (hD2 : D ≤ 10) (k : Int) (of nm : ByteArray) (A : Option Addr) (n c : Nat) (w : World) (hk1 : 1 ≤ k) (hk4 : k ≤ 4) (g3 : (k == 3) = false) (g4 : (k == 4) = false) (hn0 : n = 0) (hnm : nm.toList.isEmpty = false) : Calls Tryz.prog 40 #[.agg #[.int .i64 k, .string of, .string nm, .slice A n c], .int .i64 D] w (ChkPost w 4) := by
  have g4n : (k != 4) = true := by rw [bne, g4]; rfl
  have n1 : ((n : Int) == 1) = false := by rw [hn0]; rfl
  have n2 : (n : Int) < 2 := by omega
  have n2' : n < 2 := by omega
  replace hn0 := Lib.hid hn0
  have e1nm : nm.toList.isEmpty = false := hnm
  have e2nm : ¬ nm.toList = [] := by intro e; rw [e] at hnm; cases hnm
  go_enter Tryz.func40, Tryz.ntmps40
  go_wp2_with fail
  refine (need_yes 1 _).mono ?_
  rintro e wn ⟨rfl, rfl⟩
  go_wp2_with fail
  refine (need_yes 3 _).mono ?_
  rintro e wn ⟨rfl, rfl⟩
  go_wp2_with fail
  refine (need_no 4 _).mono ?_
  rintro e wn ⟨rfl, rfl⟩
  go_wp2_with fail
  exact ⟨rfl, ChkPost.bad (by omega) rfl ((Below.refl w.heap.size w).alloc (Nat.le_refl _) _)⟩
theorem kind_flat_of (D : Int) (hD1 : 1 ≤ D) (hD2 : D ≤ 10) (k : Int) (of nm : ByteArray) (A : Option Addr) (n c : Nat) (w : World) (hk1 : 1 ≤ k) (hk4 : k ≤ 4) (g3 : (k == 3) = false) (g4 : (k == 4) = false) (hn0 : n = 0) (hnm : nm.toList.isEmpty = true) (hof : of.toList.isEmpty = false) : Calls Tryz.prog 40 #[.agg #[.int .i64 k, .string of, .string nm, .slice A n c], .int .i64 D] w (ChkPost w 4) := by
  have g4n : (k != 4) = true := by rw [bne, g4]; rfl
  have n1 : ((n : Int) == 1) = false := by rw [hn0]; rfl
  have n2 : (n : Int) < 2 := by omega
  have n2' : n < 2 := by omega
  replace hn0 := Lib.hid hn0
  have e1nm : nm.toList.isEmpty = true := hnm
  have e2nm : nm.toList = [] := by simpa using hnm
  have e1of : of.toList.isEmpty = false := hof
  have e2of : ¬ of.toList = [] := by intro e; rw [e] at hof; cases hof
  go_enter Tryz.func40, Tryz.ntmps40
  go_wp2_with fail
  refine (need_yes 1 _).mono ?_
  rintro e wn ⟨rfl, rfl⟩
  go_wp2_with fail
  refine (need_yes 3 _).mono ?_
  rintro e wn ⟨rfl, rfl⟩
  go_wp2_with fail
  refine (need_no 4 _).mono ?_
  rintro e wn ⟨rfl, rfl⟩
  go_wp2_with fail
  exact ⟨rfl, ChkPost.bad (by omega) rfl ((Below.refl w.heap.size w).alloc (Nat.le_refl _) _)⟩
theorem kind_flat_ok (D : Int) (hD1 : 1 ≤ D) (hD2 : D ≤ 10) (k : Int) (of nm : ByteArray) (A : Option Addr) (n c : Nat) (w : World) (hk1 : 1 ≤ k) (hk4 : k ≤ 4) (g3 : (k == 3) = false) (g4 : (k == 4) = false) (hn0 : n = 0) (hnm : nm.toList.isEmpty = true) (hof : of.toList.isEmpty = true) (args : List Pu.Ty) (chk : Pu.Ty → Nat) (hn : args.length = n) (helem : ∀ j a, j < n → args[j]? = some a → ∃ (k1 : Int) (of1 nm1 : ByteArray) (A1 : Option Addr) (n1 c1 : Nat) (cs : List Value), cs = [.int .i64 k1, .string of1, .string nm1, .slice A1 n1 c1] ∧ (∃ b off, A = some ⟨b, off, none⟩ ∧ b < w.heap.size ∧ ∀ i u, cs[i]? = some u → w.cell? ⟨b, off + j * 4 + i, none⟩ = some u) ∧ TyC w (fun _ => True) a cs) (hcall : ∀ a cs W, Below w.heap.size w W → TyC w (fun _ => True) a cs → Calls Tryz.prog 40 #[.agg cs.toArray, .int .i64 (D + 1)] W (ChkPost W (chk a))) : Calls Tryz.prog 40 #[.agg #[.int .i64 k, .string of, .string nm, .slice A n c], .int .i64 D] w (ChkPost w (Pu.firstFault chk args)) := by
  have hnl : n ≤ 1000000 := by omega
  obtain ⟨goal, hgoal⟩ : ∃ g, g = Pu.firstFault chk args := ⟨_, rfl⟩
  rw [← hgoal]
  replace hgoal := Lib.hid hgoal
  replace hn := Lib.hid hn
  replace helem := Lib.hid helem
  replace hcall := Lib.hid hcall
  have g4n : (k != 4) = true := by rw [bne, g4]; rfl
  have n1 : ((n : Int) == 1) = false := by rw [hn0]; rfl
  have n2 : (n : Int) < 2 := by omega
  have n2' : n < 2 := by omega
  replace hn0 := Lib.hid hn0
  have e1nm : nm.toList.isEmpty = true := hnm
  have e2nm : nm.toList = [] := by simpa using hnm
  have e1of : of.toList.isEmpty = true := hof
  have e2of : of.toList = [] := by simpa using hof
  go_enter Tryz.func40, Tryz.ntmps40
  go_wp2_with fail
  refine (need_yes 1 _).mono ?_
  rintro e wn ⟨rfl, rfl⟩
  go_wp2_with fail
  refine (need_yes 3 _).mono ?_
  rintro e wn ⟨rfl, rfl⟩
  go_wp2_with fail
  refine (need_yes 4 _).mono ?_
  rintro e wn ⟨rfl, rfl⟩
  go_wp2_with fail
  refine (need_yes 4 _).mono ?_
  rintro e wn ⟨rfl, rfl⟩
  go_wp2_with fail
  have hbelL := Lib.hid ((Below.refl w.heap.size w).alloc (Nat.le_refl _) (.cells #[.int .i64 k, .string of, .string nm, .slice A n c] 50))
  go_loopw [71] (fun i wr => ∃ j : Nat, j ≤ n ∧ i = .int .i64 j ∧ goal = Pu.firstFault chk (args.drop j) ∧ Below w.heap.size w wr) (fun i _ => n - (intOf i).toNat)
  case atStart => exact ⟨0, Nat.zero_le _, rfl, hgoal.out, hbelL.out⟩
  case round =>
    obtain ⟨j, hj, rfl, hgj, hbj⟩ := hrel
    replace hgj := Lib.hid hgj
    by_cases hlt : j < n
    · obtain ⟨a, haj⟩ : ∃ a, args[j]? = some a := ⟨args[j]'(by rw [hn.out]; exact hlt), List.getElem?_eq_getElem _⟩
      obtain ⟨k1, of1, nm1, A1, n1, c1, cs, rfl, hcell, hcs⟩ := helem.out j a hlt haj
      have hdrop : args.drop j = a :: args.drop (j + 1) := by
        have hlj : j < args.length := by rw [hn.out]; exact hlt
        rw [List.drop_eq_getElem_cons hlj]
        rw [List.getElem?_eq_getElem hlj] at haj
        injection haj with haj
        rw [haj]
      obtain ⟨b, off, rfl, hbl, hcj⟩ := hcell
      have hbb : ∀ o u, w.cell? ⟨b, o, none⟩ = some u → wr.cell? ⟨b, o, none⟩ = some u := fun o u hu => (hbj.cell (p := ⟨b, o, none⟩) hbl).trans hu
      have v0 := hbb _ _ (hcj 0 _ rfl)
      have v1 := hbb _ _ (hcj 1 _ rfl)
      have v2 := hbb _ _ (hcj 2 _ rfl)
      have v3 := hbb _ _ (hcj 3 _ rfl)
      simp only [Nat.add_zero] at v0
      have hih := fun W (hW : Below w.heap.size w W) => hcall.out a _ W hW (hcs)
      have hbj' := Lib.hid hbj
      replace hih := Lib.hid hih
      replace hdrop := Lib.hid hdrop
      clear hbb hcj hcs haj hbj
      go_wp2_with fail
      refine (hih.out _ (hbj'.out.alloc hbj'.out.size _)).mono ?_
      rintro e wk ⟨he, hbk⟩
      have hgj2 := hgj.out
      rw [hdrop.out] at hgj2
      cases hr : chk a with
      | zero =>
        rw [hr] at he
        obtain rfl : e = .returned (.tuple #[]) := he
        have hgj3 : goal = Pu.firstFault chk (args.drop (j + 1)) := by rw [hgj2]; show Pu.seq (chk a) _ = _; rw [hr]; rfl
        replace hgj2 := Lib.hid hgj2
        replace hgj3 := Lib.hid hgj3
        replace hr := Lib.hid hr
        go_wp2_with fail
        go_roundw
        case rel => exact ⟨j + 1, by omega, by go_num, hgj3.out, (hbj'.out.alloc hbj'.out.size _).trans (hbk.mono (by have := hbj'.out.size; simp; omega))⟩
        case measure => simp [intOf]; omega
      | succ r =>
        rw [hr] at he
        obtain rfl : e = .panicked [{ v := fault (r + 1), recovered := false }] := he
        have hgj3 : goal = r + 1 := by rw [hgj2]; show Pu.seq (chk a) _ = _; rw [hr]; rfl
        replace hgj2 := Lib.hid hgj2
        replace hgj3 := Lib.hid hgj3
        replace hr := Lib.hid hr
        go_wp2_with fail
        rw [hgj3.out]
        exact ⟨rfl, ChkPost.bad (by omega) rfl ((hbj'.out.alloc hbj'.out.size _).trans (hbk.mono (by have := hbj'.out.size; simp; omega)))⟩
    · have hje : args.drop j = [] := List.drop_eq_nil_of_le (by rw [hn.out]; omega)
      have hg0 : goal = 0 := by rw [hgj.out, hje]; rfl
      have hbj' := Lib.hid hbj
      replace hje := Lib.hid hje
      replace hg0 := Lib.hid hg0
      clear hbj
      go_wp2_with fail
      go_end0
      rw [hg0.out]
      exact ChkPost.ok rfl hbj'.out
theorem kind_flat_n1 (D : Int) (hD1 : 1 ≤ D) (hD2 : D ≤ 10) (k : Int) (of nm : ByteArray) (A : Option Addr) (n c : Nat) (w : World) (hk1 : 1 ≤ k) (hk4 : k ≤ 4) (g3 : (k == 3) = false) (g4 : (k == 4) = false) (hn1 : n = 1) : Calls Tryz.prog 40 #[.agg #[.int .i64 k, .string of, .string nm, .slice A n c], .int .i64 D] w (ChkPost w 4) := by
  have g4n : (k != 4) = true := by rw [bne, g4]; rfl
  have n1 : ((n : Int) == 1) = true := by rw [hn1]; rfl
  have n2 : (n : Int) < 2 := by omega
  have n2' : n < 2 := by omega
  replace hn1 := Lib.hid hn1
  go_enter Tryz.func40, Tryz.ntmps40
  go_wp2_with fail
  refine (need_yes 1 _).mono ?_
  rintro e wn ⟨rfl, rfl⟩
  go_wp2_with fail
  refine (need_yes 3 _).mono ?_
  rintro e wn ⟨rfl, rfl⟩
  go_wp2_with fail
  refine (need_no 4 _).mono ?_
  rintro e wn ⟨rfl, rfl⟩
  go_wp2_with fail
  exact ⟨rfl, ChkPost.bad (by omega) rfl ((Below.refl w.heap.size w).alloc (Nat.le_refl _) _)⟩
theorem kind_flat_n2 (D : Int) (hD1 : 1 ≤ D) (hD2 : D ≤ 10) (k : Int) (of nm : ByteArray) (A : Option Addr) (n c : Nat) (w : World) (hk1 : 1 ≤ k) (hk4 : k ≤ 4) (g3 : (k == 3) = false) (g4 : (k == 4) = false) (hn2 : 2 ≤ n) : Calls Tryz.prog 40 #[.agg #[.int .i64 k, .string of, .string nm, .slice A n c], .int .i64 D] w (ChkPost w 4) := by
  have g4n : (k != 4) = true := by rw [bne, g4]; rfl
  have n1 : ((n : Int) == 1) = false := by rw [beq_eq_false_iff_ne]; omega
  have n2 : ¬ (n : Int) < 2 := by omega
  have n2' : ¬ n < 2 := by omega
  go_enter Tryz.func40, Tryz.ntmps40
  go_wp2_with fail
  refine (need_yes 1 _).mono ?_
  rintro e wn ⟨rfl, rfl⟩
  go_wp2_with fail
  refine (need_yes 3 _).mono ?_
  rintro e wn ⟨rfl, rfl⟩
  go_wp2_with fail
  refine (need_no 4 _).mono ?_
  rintro e wn ⟨rfl, rfl⟩
  go_wp2_with fail
  exact ⟨rfl, ChkPost.bad (by omega) rfl ((Below.refl w.heap.size w).alloc (Nat.le_refl _) _)⟩
end Go.Proofs.YtpfgjiapdepdmaaGreatDoor
