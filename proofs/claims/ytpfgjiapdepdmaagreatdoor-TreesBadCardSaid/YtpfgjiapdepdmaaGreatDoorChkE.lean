/- The walk of tree.expr: what may be. -/
import Derived.Test.YtpfgjiapdepdmaaGreatDoorChkKA
namespace Go.Proofs.YtpfgjiapdepdmaaGreatDoor
open Go.RowKit Go.Shelf

theorem expr_deep (cs : Array Value) (hcs : ∃ (k N : Int) (of s : ByteArray) (A : Option Addr) (n c : Nat), cs = #[.int .i64 k, .int .i64 N, .string of, .string s, .slice A n c]) (w : World) : Calls Tryz.prog 70 #[.agg cs, .int .i64 11] w (ChkPost w 1) := by
  obtain ⟨k, N, of, s, A, n, c, rfl⟩ := hcs
  go_enter Tryz.func70, Tryz.ntmps70
  go_wp2_with fail
  refine (need_no 1 _).mono ?_
  rintro e wn ⟨rfl, rfl⟩
  go_wp2_with fail
  exact ⟨rfl, ChkPost.bad (by omega) rfl ((Below.refl w.heap.size w).alloc (Nat.le_refl _) _)⟩
theorem expr_low (D : Int) (hD1 : 1 ≤ D) (hD2 : D ≤ 10) (k : Int) (N : Int) (of s : ByteArray) (A : Option Addr) (n c : Nat) (w : World) (h : k < 1) : Calls Tryz.prog 70 #[.agg #[.int .i64 k, .int .i64 N, .string of, .string s, .slice A n c], .int .i64 D] w (ChkPost w 3) := by
  have h' : ¬ 1 ≤ k := by omega
  go_enter Tryz.func70, Tryz.ntmps70
  go_wp2_with fail
  refine (need_yes 1 _).mono ?_
  rintro e wn ⟨rfl, rfl⟩
  go_wp2_with fail
  refine (need_no 3 _).mono ?_
  rintro e wn ⟨rfl, rfl⟩
  go_wp2_with fail
  exact ⟨rfl, ChkPost.bad (by omega) rfl ((Below.refl w.heap.size w).alloc (Nat.le_refl _) _)⟩
theorem expr_high (D : Int) (hD1 : 1 ≤ D) (hD2 : D ≤ 10) (k : Int) (N : Int) (of s : ByteArray) (A : Option Addr) (n c : Nat) (w : World) (h : 7 < k) : Calls Tryz.prog 70 #[.agg #[.int .i64 k, .int .i64 N, .string of, .string s, .slice A n c], .int .i64 D] w (ChkPost w 3) := by
  have h2 : decide (k ≤ 7) = false := by rw [decide_eq_false_iff_not]; omega
  have h1 : decide (1 ≤ k) = true := by rw [decide_eq_true_iff]; omega
  clear h
  go_enter Tryz.func70, Tryz.ntmps70
  go_wp2_with fail
  refine (need_yes 1 _).mono ?_
  rintro e wn ⟨rfl, rfl⟩
  go_wp2_with fail
  refine (need_no 3 _).mono ?_
  rintro e wn ⟨rfl, rfl⟩
  go_wp2_with fail
  exact ⟨rfl, ChkPost.bad (by omega) rfl ((Below.refl w.heap.size w).alloc (Nat.le_refl _) _)⟩
theorem expr_many (D : Int) (hD1 : 1 ≤ D) (hD2 : D ≤ 10) (k : Int) (N : Int) (of s : ByteArray) (A : Option Addr) (n c : Nat) (w : World) (hk1 : 1 ≤ k) (hk7 : k ≤ 7) (hn : 8 < n) : Calls Tryz.prog 70 #[.agg #[.int .i64 k, .int .i64 N, .string of, .string s, .slice A n c], .int .i64 D] w (ChkPost w 1) := by
  have hn8 : decide ((n : Int) ≤ 8) = false := by rw [decide_eq_false_iff_not]; omega
  have hn8b : decide (n ≤ 8) = false := by rw [decide_eq_false_iff_not]; omega
  clear hn
  go_enter Tryz.func70, Tryz.ntmps70
  go_wp2_with fail
  refine (need_yes 1 _).mono ?_
  rintro e wn ⟨rfl, rfl⟩
  go_wp2_with fail
  refine (need_yes 3 _).mono ?_
  rintro e wn ⟨rfl, rfl⟩
  go_wp2_with fail
  refine (need_no 1 _).mono ?_
  rintro e wn ⟨rfl, rfl⟩
  go_wp2_with fail
  exact ⟨rfl, ChkPost.bad (by omega) rfl ((Below.refl w.heap.size w).alloc (Nat.le_refl _) _)⟩
theorem expr_n (D : Int) (hD1 : 1 ≤ D) (hD2 : D ≤ 10) (k : Int) (N : Int) (of s : ByteArray) (A : Option Addr) (n c : Nat) (w : World) (hk1 : 1 ≤ k) (hk7 : k ≤ 7) (hn8 : n ≤ 8) (g1 : (k == 1) = false) (gN : (N == 0) = false) : Calls Tryz.prog 70 #[.agg #[.int .i64 k, .int .i64 N, .string of, .string s, .slice A n c], .int .i64 D] w (ChkPost w 4) := by
  have hn8' : (n : Int) ≤ 8 := by omega
  go_enter Tryz.func70, Tryz.ntmps70
  go_wp2_with fail
  refine (need_yes 1 _).mono ?_
  rintro e wn ⟨rfl, rfl⟩
  go_wp2_with fail
  refine (need_yes 3 _).mono ?_
  rintro e wn ⟨rfl, rfl⟩
  go_wp2_with fail
  refine (need_yes 1 _).mono ?_
  rintro e wn ⟨rfl, rfl⟩
  go_wp2_with fail
  refine (need_no 4 _).mono ?_
  rintro e wn ⟨rfl, rfl⟩
  go_wp2_with fail
  exact ⟨rfl, ChkPost.bad (by omega) rfl ((Below.refl w.heap.size w).alloc (Nat.le_refl _) _)⟩
theorem expr_of1 (D : Int) (hD1 : 1 ≤ D) (hD2 : D ≤ 10) (k : Int) (N : Int) (of s : ByteArray) (A : Option Addr) (n c : Nat) (w : World) (hk1 : 1 ≤ k) (hk7 : k ≤ 7) (hn8 : n ≤ 8) (g1 : (k == 1) = true) (g4 : (k == 4) = false) (hof : of.toList.isEmpty = false) : Calls Tryz.prog 70 #[.agg #[.int .i64 k, .int .i64 N, .string of, .string s, .slice A n c], .int .i64 D] w (ChkPost w 4) := by
  have hn8' : (n : Int) ≤ 8 := by omega
  have e1of : of.toList.isEmpty = false := hof
  have e2of : ¬ of.toList = [] := by intro e; rw [e] at hof; cases hof
  go_enter Tryz.func70, Tryz.ntmps70
  go_wp2_with fail
  refine (need_yes 1 _).mono ?_
  rintro e wn ⟨rfl, rfl⟩
  go_wp2_with fail
  refine (need_yes 3 _).mono ?_
  rintro e wn ⟨rfl, rfl⟩
  go_wp2_with fail
  refine (need_yes 1 _).mono ?_
  rintro e wn ⟨rfl, rfl⟩
  go_wp2_with fail
  refine (need_no 4 _).mono ?_
  rintro e wn ⟨rfl, rfl⟩
  go_wp2_with fail
  exact ⟨rfl, ChkPost.bad (by omega) rfl ((Below.refl w.heap.size w).alloc (Nat.le_refl _) _)⟩
theorem expr_of (D : Int) (hD1 : 1 ≤ D) (hD2 : D ≤ 10) (k : Int) (N : Int) (of s : ByteArray) (A : Option Addr) (n c : Nat) (w : World) (hk1 : 1 ≤ k) (hk7 : k ≤ 7) (hn8 : n ≤ 8) (g1 : (k == 1) = false) (gN : (N == 0) = true) (g4 : (k == 4) = false) (hof : of.toList.isEmpty = false) : Calls Tryz.prog 70 #[.agg #[.int .i64 k, .int .i64 N, .string of, .string s, .slice A n c], .int .i64 D] w (ChkPost w 4) := by
  have hn8' : (n : Int) ≤ 8 := by omega
  have e1of : of.toList.isEmpty = false := hof
  have e2of : ¬ of.toList = [] := by intro e; rw [e] at hof; cases hof
  go_enter Tryz.func70, Tryz.ntmps70
  go_wp2_with fail
  refine (need_yes 1 _).mono ?_
  rintro e wn ⟨rfl, rfl⟩
  go_wp2_with fail
  refine (need_yes 3 _).mono ?_
  rintro e wn ⟨rfl, rfl⟩
  go_wp2_with fail
  refine (need_yes 1 _).mono ?_
  rintro e wn ⟨rfl, rfl⟩
  go_wp2_with fail
  refine (need_no 4 _).mono ?_
  rintro e wn ⟨rfl, rfl⟩
  go_wp2_with fail
  exact ⟨rfl, ChkPost.bad (by omega) rfl ((Below.refl w.heap.size w).alloc (Nat.le_refl _) _)⟩
theorem expr_1_s (D : Int) (hD1 : 1 ≤ D) (hD2 : D ≤ 10) (N : Int) (of s : ByteArray) (A : Option Addr) (n c : Nat) (w : World)  (hn8 : n ≤ 8) (hof : of.toList.isEmpty = true) (hs : s.toList.isEmpty = false) : Calls Tryz.prog 70 #[.agg #[.int .i64 1, .int .i64 N, .string of, .string s, .slice A n c], .int .i64 D] w (ChkPost w 4) := by
  have hn8' : (n : Int) ≤ 8 := by omega
  have e1of : of.toList.isEmpty = true := hof
  have e2of : of.toList = [] := by simpa using hof
  have e1s : s.toList.isEmpty = false := hs
  have e2s : ¬ s.toList = [] := by intro e; rw [e] at hs; cases hs
  go_enter Tryz.func70, Tryz.ntmps70
  go_wp2_with fail
  refine (need_yes 1 _).mono ?_
  rintro e wn ⟨rfl, rfl⟩
  go_wp2_with fail
  refine (need_yes 3 _).mono ?_
  rintro e wn ⟨rfl, rfl⟩
  go_wp2_with fail
  refine (need_yes 1 _).mono ?_
  rintro e wn ⟨rfl, rfl⟩
  go_wp2_with fail
  refine (need_yes 4 _).mono ?_
  rintro e wn ⟨rfl, rfl⟩
  go_wp2_with fail
  refine (need_no 4 _).mono ?_
  rintro e wn ⟨rfl, rfl⟩
  go_wp2_with fail
  exact ⟨rfl, ChkPost.bad (by omega) rfl ((Below.refl w.heap.size w).alloc (Nat.le_refl _) _)⟩
theorem expr_1_m (D : Int) (hD1 : 1 ≤ D) (hD2 : D ≤ 10) (N : Int) (of s : ByteArray) (A : Option Addr) (n c : Nat) (w : World)  (hn8 : n ≤ 8) (hof : of.toList.isEmpty = true) (hs : s.toList.isEmpty = true) (hn0 : 0 < n) : Calls Tryz.prog 70 #[.agg #[.int .i64 1, .int .i64 N, .string of, .string s, .slice A n c], .int .i64 D] w (ChkPost w 4) := by
  have hn8' : (n : Int) ≤ 8 := by omega
  have e1of : of.toList.isEmpty = true := hof
  have e2of : of.toList = [] := by simpa using hof
  have e1s : s.toList.isEmpty = true := hs
  have e2s : s.toList = [] := by simpa using hs
  have n0 : ((n : Int) == 0) = false := by rw [beq_eq_false_iff_ne]; omega
  have n0c : (0 : Int) < n := by omega
  go_enter Tryz.func70, Tryz.ntmps70
  go_wp2_with fail
  refine (need_yes 1 _).mono ?_
  rintro e wn ⟨rfl, rfl⟩
  go_wp2_with fail
  refine (need_yes 3 _).mono ?_
  rintro e wn ⟨rfl, rfl⟩
  go_wp2_with fail
  refine (need_yes 1 _).mono ?_
  rintro e wn ⟨rfl, rfl⟩
  go_wp2_with fail
  refine (need_yes 4 _).mono ?_
  rintro e wn ⟨rfl, rfl⟩
  go_wp2_with fail
  refine (need_no 4 _).mono ?_
  rintro e wn ⟨rfl, rfl⟩
  go_wp2_with fail
  exact ⟨rfl, ChkPost.bad (by omega) rfl ((Below.refl w.heap.size w).alloc (Nat.le_refl _) _)⟩
theorem expr_1_neg (D : Int) (hD1 : 1 ≤ D) (hD2 : D ≤ 10) (N : Int) (of s : ByteArray) (A : Option Addr) (n c : Nat) (w : World)  (hn8 : n ≤ 8) (hof : of.toList.isEmpty = true) (hs : s.toList.isEmpty = true) (hn0 : n = 0) (hN : N < 0) : Calls Tryz.prog 70 #[.agg #[.int .i64 1, .int .i64 N, .string of, .string s, .slice A n c], .int .i64 D] w (ChkPost w 2) := by
  have hn8' : (n : Int) ≤ 8 := by omega
  have e1of : of.toList.isEmpty = true := hof
  have e2of : of.toList = [] := by simpa using hof
  have e1s : s.toList.isEmpty = true := hs
  have e2s : s.toList = [] := by simpa using hs
  have n0 : ((n : Int) == 0) = true := by rw [hn0]; rfl
  have n0b : n = 0 := hn0
  have n0c : ¬ 0 < n := by omega
  replace hn0 := Lib.hid hn0
  clear n0b
  have hN' : decide (0 ≤ N) = false := by rw [decide_eq_false_iff_not]; omega
  clear hN
  go_enter Tryz.func70, Tryz.ntmps70
  go_wp2_with fail
  refine (need_yes 1 _).mono ?_
  rintro e wn ⟨rfl, rfl⟩
  go_wp2_with fail
  refine (need_yes 3 _).mono ?_
  rintro e wn ⟨rfl, rfl⟩
  go_wp2_with fail
  refine (need_yes 1 _).mono ?_
  rintro e wn ⟨rfl, rfl⟩
  go_wp2_with fail
  refine (need_yes 4 _).mono ?_
  rintro e wn ⟨rfl, rfl⟩
  go_wp2_with fail
  refine (need_yes 4 _).mono ?_
  rintro e wn ⟨rfl, rfl⟩
  go_wp2_with fail
  refine (need_no 2 _).mono ?_
  rintro e wn ⟨rfl, rfl⟩
  go_wp2_with fail
  exact ⟨rfl, ChkPost.bad (by omega) rfl ((Below.refl w.heap.size w).alloc (Nat.le_refl _) _)⟩
theorem expr_1_big (D : Int) (hD1 : 1 ≤ D) (hD2 : D ≤ 10) (N : Int) (of s : ByteArray) (A : Option Addr) (n c : Nat) (w : World)  (hn8 : n ≤ 8) (hof : of.toList.isEmpty = true) (hs : s.toList.isEmpty = true) (hn0 : n = 0) (hN : 999999 < N) : Calls Tryz.prog 70 #[.agg #[.int .i64 1, .int .i64 N, .string of, .string s, .slice A n c], .int .i64 D] w (ChkPost w 2) := by
  have hn8' : (n : Int) ≤ 8 := by omega
  have e1of : of.toList.isEmpty = true := hof
  have e2of : of.toList = [] := by simpa using hof
  have e1s : s.toList.isEmpty = true := hs
  have e2s : s.toList = [] := by simpa using hs
  have n0 : ((n : Int) == 0) = true := by rw [hn0]; rfl
  have n0b : n = 0 := hn0
  have n0c : ¬ 0 < n := by omega
  replace hn0 := Lib.hid hn0
  clear n0b
  have hN' : decide (N ≤ 999999) = false := by rw [decide_eq_false_iff_not]; omega
  have hN0 : decide (0 ≤ N) = true := by rw [decide_eq_true_iff]; omega
  clear hN
  go_enter Tryz.func70, Tryz.ntmps70
  go_wp2_with fail
  refine (need_yes 1 _).mono ?_
  rintro e wn ⟨rfl, rfl⟩
  go_wp2_with fail
  refine (need_yes 3 _).mono ?_
  rintro e wn ⟨rfl, rfl⟩
  go_wp2_with fail
  refine (need_yes 1 _).mono ?_
  rintro e wn ⟨rfl, rfl⟩
  go_wp2_with fail
  refine (need_yes 4 _).mono ?_
  rintro e wn ⟨rfl, rfl⟩
  go_wp2_with fail
  refine (need_yes 4 _).mono ?_
  rintro e wn ⟨rfl, rfl⟩
  go_wp2_with fail
  refine (need_no 2 _).mono ?_
  rintro e wn ⟨rfl, rfl⟩
  go_wp2_with fail
  exact ⟨rfl, ChkPost.bad (by omega) rfl ((Below.refl w.heap.size w).alloc (Nat.le_refl _) _)⟩
theorem expr_1_ok (D : Int) (hD1 : 1 ≤ D) (hD2 : D ≤ 10) (N : Int) (of s : ByteArray) (A : Option Addr) (n c : Nat) (w : World)  (hn8 : n ≤ 8) (hof : of.toList.isEmpty = true) (hs : s.toList.isEmpty = true) (hn0 : n = 0) (hN0 : 0 ≤ N) (hN1 : N ≤ 999999) (args : List Pu.Ex) (chk : Pu.Ex → Nat) (hn : args.length = n) (helem : ∀ j a, j < n → args[j]? = some a → ∃ (k1 m1 : Int) (of1 s1 : ByteArray) (A1 : Option Addr) (n1 c1 : Nat) (cs : List Value), cs = [.int .i64 k1, .int .i64 m1, .string of1, .string s1, .slice A1 n1 c1] ∧ (∃ b off, A = some ⟨b, off, none⟩ ∧ b < w.heap.size ∧ ∀ i u, cs[i]? = some u → w.cell? ⟨b, off + j * 5 + i, none⟩ = some u) ∧ ExC w (fun _ => True) a cs) (hcall : ∀ a cs W, Below w.heap.size w W → ExC w (fun _ => True) a cs → Calls Tryz.prog 70 #[.agg cs.toArray, .int .i64 (D + 1)] W (ChkPost W (chk a))) : Calls Tryz.prog 70 #[.agg #[.int .i64 1, .int .i64 N, .string of, .string s, .slice A n c], .int .i64 D] w (ChkPost w (Pu.firstFault chk args)) := by
  have hnl : n ≤ 1000000 := by omega
  obtain ⟨goal, hgoal⟩ : ∃ g, g = Pu.firstFault chk args := ⟨_, rfl⟩
  rw [← hgoal]
  replace hgoal := Lib.hid hgoal
  replace hn := Lib.hid hn
  replace helem := Lib.hid helem
  replace hcall := Lib.hid hcall
  have hn8' : (n : Int) ≤ 8 := by omega
  have e1of : of.toList.isEmpty = true := hof
  have e2of : of.toList = [] := by simpa using hof
  have e1s : s.toList.isEmpty = true := hs
  have e2s : s.toList = [] := by simpa using hs
  have n0 : ((n : Int) == 0) = true := by rw [hn0]; rfl
  have n0b : n = 0 := hn0
  have n0c : ¬ 0 < n := by omega
  replace hn0 := Lib.hid hn0
  clear n0b
  go_enter Tryz.func70, Tryz.ntmps70
  go_wp2_with fail
  refine (need_yes 1 _).mono ?_
  rintro e wn ⟨rfl, rfl⟩
  go_wp2_with fail
  refine (need_yes 3 _).mono ?_
  rintro e wn ⟨rfl, rfl⟩
  go_wp2_with fail
  refine (need_yes 1 _).mono ?_
  rintro e wn ⟨rfl, rfl⟩
  go_wp2_with fail
  refine (need_yes 4 _).mono ?_
  rintro e wn ⟨rfl, rfl⟩
  go_wp2_with fail
  refine (need_yes 4 _).mono ?_
  rintro e wn ⟨rfl, rfl⟩
  go_wp2_with fail
  refine (need_yes 2 _).mono ?_
  rintro e wn ⟨rfl, rfl⟩
  go_wp2_with fail
  have hbelL := Lib.hid ((Below.refl w.heap.size w).alloc (Nat.le_refl _) (.cells #[.int .i64 1, .int .i64 N, .string of, .string s, .slice A n c] 53))
  go_loopw [122] (fun i wr => ∃ j : Nat, j ≤ n ∧ i = .int .i64 j ∧ goal = Pu.firstFault chk (args.drop j) ∧ Below w.heap.size w wr) (fun i _ => n - (intOf i).toNat)
  case atStart => exact ⟨0, Nat.zero_le _, rfl, hgoal.out, hbelL.out⟩
  case round =>
    obtain ⟨j, hj, rfl, hgj, hbj⟩ := hrel
    replace hgj := Lib.hid hgj
    by_cases hlt : j < n
    · exact absurd hlt (by have := hn0.out; omega)
    · have hje : args.drop j = [] := List.drop_eq_nil_of_le (by rw [hn.out]; omega)
      have hg0 : goal = 0 := by rw [hgj.out, hje]; rfl
      have hbj' := Lib.hid hbj
      replace hje := Lib.hid hje
      replace hg0 := Lib.hid hg0
      clear hbj
      go_wp2_with fail
      go_end0
      rw [hg0.out]
      exact ChkPost.ok rfl hbj'.out
theorem expr_2_s (D : Int) (hD1 : 1 ≤ D) (hD2 : D ≤ 10) (N : Int) (of s : ByteArray) (A : Option Addr) (n c : Nat) (w : World)  (hn8 : n ≤ 8) (gN : (N == 0) = true) (hof : of.toList.isEmpty = true) (hids : quotB s = false) : Calls Tryz.prog 70 #[.agg #[.int .i64 2, .int .i64 N, .string of, .string s, .slice A n c], .int .i64 D] w (ChkPost w 4) := by
  have hn8' : (n : Int) ≤ 8 := by omega
  have e1of : of.toList.isEmpty = true := hof
  have e2of : of.toList = [] := by simpa using hof
  have his := isQuot s false hids
  replace his := Lib.hid his
  replace hids := Lib.hid hids
  go_enter Tryz.func70, Tryz.ntmps70
  go_wp2_with fail
  refine (need_yes 1 _).mono ?_
  rintro e wn ⟨rfl, rfl⟩
  go_wp2_with fail
  refine (need_yes 3 _).mono ?_
  rintro e wn ⟨rfl, rfl⟩
  go_wp2_with fail
  refine (need_yes 1 _).mono ?_
  rintro e wn ⟨rfl, rfl⟩
  go_wp2_with fail
  refine (need_yes 4 _).mono ?_
  rintro e wn ⟨rfl, rfl⟩
  go_wp2_with fail
  refine (his.out _).mono ?_
  rintro e wi1 ⟨rfl, hb1⟩
  have bk1 := (Blk.new w 53 #[.int .i64 2, .int .i64 N, .string of, .string s, .slice A n c]).below hb1 (by first | (simp; done) | exact (Blk.new w 53 #[.int .i64 2, .int .i64 N, .string of, .string s, .slice A n c]).lt)
  have q1_0 := bk1.cell 0
  have q1_1 := bk1.cell 1
  have q1_2 := bk1.cell 2
  have q1_3 := bk1.cell 3
  have q1_4 := bk1.cell 4
  simp only [List.getElem?_toArray, List.getElem?_cons_zero, List.getElem?_cons_succ] at q1_0 q1_1 q1_2 q1_3 q1_4
  have lt1 := bk1.lt
  replace bk1 := Lib.hid bk1
  have hbel1 := ((Below.refl w.heap.size w).alloc (Nat.le_refl _) (.cells #[.int .i64 2, .int .i64 N, .string of, .string s, .slice A n c] 53)).trans (hb1.mono (by simp))
  replace hbel1 := Lib.hid hbel1
  go_wp2_with fail
  refine (need_no 4 _).mono ?_
  rintro e wn ⟨rfl, rfl⟩
  go_wp2_with fail
  exact ⟨rfl, ChkPost.bad (by omega) rfl (hbel1.out)⟩
theorem expr_2_m (D : Int) (hD1 : 1 ≤ D) (hD2 : D ≤ 10) (N : Int) (of s : ByteArray) (A : Option Addr) (n c : Nat) (w : World)  (hn8 : n ≤ 8) (gN : (N == 0) = true) (hof : of.toList.isEmpty = true) (hids : quotB s = true) (hn0 : 0 < n) : Calls Tryz.prog 70 #[.agg #[.int .i64 2, .int .i64 N, .string of, .string s, .slice A n c], .int .i64 D] w (ChkPost w 4) := by
  have hn8' : (n : Int) ≤ 8 := by omega
  have e1of : of.toList.isEmpty = true := hof
  have e2of : of.toList = [] := by simpa using hof
  have his := isQuot s true hids
  replace his := Lib.hid his
  replace hids := Lib.hid hids
  have n0 : ((n : Int) == 0) = false := by rw [beq_eq_false_iff_ne]; omega
  have n0c : (0 : Int) < n := by omega
  go_enter Tryz.func70, Tryz.ntmps70
  go_wp2_with fail
  refine (need_yes 1 _).mono ?_
  rintro e wn ⟨rfl, rfl⟩
  go_wp2_with fail
  refine (need_yes 3 _).mono ?_
  rintro e wn ⟨rfl, rfl⟩
  go_wp2_with fail
  refine (need_yes 1 _).mono ?_
  rintro e wn ⟨rfl, rfl⟩
  go_wp2_with fail
  refine (need_yes 4 _).mono ?_
  rintro e wn ⟨rfl, rfl⟩
  go_wp2_with fail
  refine (his.out _).mono ?_
  rintro e wi1 ⟨rfl, hb1⟩
  have bk1 := (Blk.new w 53 #[.int .i64 2, .int .i64 N, .string of, .string s, .slice A n c]).below hb1 (by first | (simp; done) | exact (Blk.new w 53 #[.int .i64 2, .int .i64 N, .string of, .string s, .slice A n c]).lt)
  have q1_0 := bk1.cell 0
  have q1_1 := bk1.cell 1
  have q1_2 := bk1.cell 2
  have q1_3 := bk1.cell 3
  have q1_4 := bk1.cell 4
  simp only [List.getElem?_toArray, List.getElem?_cons_zero, List.getElem?_cons_succ] at q1_0 q1_1 q1_2 q1_3 q1_4
  have lt1 := bk1.lt
  replace bk1 := Lib.hid bk1
  have hbel1 := ((Below.refl w.heap.size w).alloc (Nat.le_refl _) (.cells #[.int .i64 2, .int .i64 N, .string of, .string s, .slice A n c] 53)).trans (hb1.mono (by simp))
  replace hbel1 := Lib.hid hbel1
  go_wp2_with fail
  refine (need_no 4 _).mono ?_
  rintro e wn ⟨rfl, rfl⟩
  go_wp2_with fail
  exact ⟨rfl, ChkPost.bad (by omega) rfl (hbel1.out)⟩
theorem expr_2_ok (D : Int) (hD1 : 1 ≤ D) (hD2 : D ≤ 10) (N : Int) (of s : ByteArray) (A : Option Addr) (n c : Nat) (w : World)  (hn8 : n ≤ 8) (gN : (N == 0) = true) (hof : of.toList.isEmpty = true) (hids : quotB s = true) (hn0 : n = 0) (args : List Pu.Ex) (chk : Pu.Ex → Nat) (hn : args.length = n) (helem : ∀ j a, j < n → args[j]? = some a → ∃ (k1 m1 : Int) (of1 s1 : ByteArray) (A1 : Option Addr) (n1 c1 : Nat) (cs : List Value), cs = [.int .i64 k1, .int .i64 m1, .string of1, .string s1, .slice A1 n1 c1] ∧ (∃ b off, A = some ⟨b, off, none⟩ ∧ b < w.heap.size ∧ ∀ i u, cs[i]? = some u → w.cell? ⟨b, off + j * 5 + i, none⟩ = some u) ∧ ExC w (fun _ => True) a cs) (hcall : ∀ a cs W, Below w.heap.size w W → ExC w (fun _ => True) a cs → Calls Tryz.prog 70 #[.agg cs.toArray, .int .i64 (D + 1)] W (ChkPost W (chk a))) : Calls Tryz.prog 70 #[.agg #[.int .i64 2, .int .i64 N, .string of, .string s, .slice A n c], .int .i64 D] w (ChkPost w (Pu.firstFault chk args)) := by
  have hnl : n ≤ 1000000 := by omega
  obtain ⟨goal, hgoal⟩ : ∃ g, g = Pu.firstFault chk args := ⟨_, rfl⟩
  rw [← hgoal]
  replace hgoal := Lib.hid hgoal
  replace hn := Lib.hid hn
  replace helem := Lib.hid helem
  replace hcall := Lib.hid hcall
  have hn8' : (n : Int) ≤ 8 := by omega
  have e1of : of.toList.isEmpty = true := hof
  have e2of : of.toList = [] := by simpa using hof
  have his := isQuot s true hids
  replace his := Lib.hid his
  replace hids := Lib.hid hids
  have n0 : ((n : Int) == 0) = true := by rw [hn0]; rfl
  have n0b : n = 0 := hn0
  have n0c : ¬ 0 < n := by omega
  replace hn0 := Lib.hid hn0
  clear n0b
  go_enter Tryz.func70, Tryz.ntmps70
  go_wp2_with fail
  refine (need_yes 1 _).mono ?_
  rintro e wn ⟨rfl, rfl⟩
  go_wp2_with fail
  refine (need_yes 3 _).mono ?_
  rintro e wn ⟨rfl, rfl⟩
  go_wp2_with fail
  refine (need_yes 1 _).mono ?_
  rintro e wn ⟨rfl, rfl⟩
  go_wp2_with fail
  refine (need_yes 4 _).mono ?_
  rintro e wn ⟨rfl, rfl⟩
  go_wp2_with fail
  refine (his.out _).mono ?_
  rintro e wi1 ⟨rfl, hb1⟩
  have bk1 := (Blk.new w 53 #[.int .i64 2, .int .i64 N, .string of, .string s, .slice A n c]).below hb1 (by first | (simp; done) | exact (Blk.new w 53 #[.int .i64 2, .int .i64 N, .string of, .string s, .slice A n c]).lt)
  have q1_0 := bk1.cell 0
  have q1_1 := bk1.cell 1
  have q1_2 := bk1.cell 2
  have q1_3 := bk1.cell 3
  have q1_4 := bk1.cell 4
  simp only [List.getElem?_toArray, List.getElem?_cons_zero, List.getElem?_cons_succ] at q1_0 q1_1 q1_2 q1_3 q1_4
  have lt1 := bk1.lt
  replace bk1 := Lib.hid bk1
  have hbel1 := ((Below.refl w.heap.size w).alloc (Nat.le_refl _) (.cells #[.int .i64 2, .int .i64 N, .string of, .string s, .slice A n c] 53)).trans (hb1.mono (by simp))
  replace hbel1 := Lib.hid hbel1
  go_wp2_with fail
  refine (need_yes 4 _).mono ?_
  rintro e wn ⟨rfl, rfl⟩
  go_wp2_with fail
  have hbelL := Lib.hid (hbel1.out)
  go_loopw [122] (fun i wr => ∃ j : Nat, j ≤ n ∧ i = .int .i64 j ∧ goal = Pu.firstFault chk (args.drop j) ∧ Below w.heap.size w wr) (fun i _ => n - (intOf i).toNat)
  case atStart => exact ⟨0, Nat.zero_le _, rfl, hgoal.out, hbelL.out⟩
  case round =>
    obtain ⟨j, hj, rfl, hgj, hbj⟩ := hrel
    replace hgj := Lib.hid hgj
    by_cases hlt : j < n
    · exact absurd hlt (by have := hn0.out; omega)
    · have hje : args.drop j = [] := List.drop_eq_nil_of_le (by rw [hn.out]; omega)
      have hg0 : goal = 0 := by rw [hgj.out, hje]; rfl
      have hbj' := Lib.hid hbj
      replace hje := Lib.hid hje
      replace hg0 := Lib.hid hg0
      clear hbj
      go_wp2_with fail
      go_end0
      rw [hg0.out]
      exact ChkPost.ok rfl hbj'.out
theorem expr_3_s (D : Int) (hD1 : 1 ≤ D) (hD2 : D ≤ 10) (N : Int) (of s : ByteArray) (A : Option Addr) (n c : Nat) (w : World)  (hn8 : n ≤ 8) (gN : (N == 0) = true) (hof : of.toList.isEmpty = true) (hids : identB s = false) : Calls Tryz.prog 70 #[.agg #[.int .i64 3, .int .i64 N, .string of, .string s, .slice A n c], .int .i64 D] w (ChkPost w 4) := by
  have hn8' : (n : Int) ≤ 8 := by omega
  have e1of : of.toList.isEmpty = true := hof
  have e2of : of.toList = [] := by simpa using hof
  have his := isIdent s false hids
  replace his := Lib.hid his
  replace hids := Lib.hid hids
  go_enter Tryz.func70, Tryz.ntmps70
  go_wp2_with fail
  refine (need_yes 1 _).mono ?_
  rintro e wn ⟨rfl, rfl⟩
  go_wp2_with fail
  refine (need_yes 3 _).mono ?_
  rintro e wn ⟨rfl, rfl⟩
  go_wp2_with fail
  refine (need_yes 1 _).mono ?_
  rintro e wn ⟨rfl, rfl⟩
  go_wp2_with fail
  refine (need_yes 4 _).mono ?_
  rintro e wn ⟨rfl, rfl⟩
  go_wp2_with fail
  refine (his.out _).mono ?_
  rintro e wi1 ⟨rfl, hb1⟩
  have bk1 := (Blk.new w 53 #[.int .i64 3, .int .i64 N, .string of, .string s, .slice A n c]).below hb1 (by first | (simp; done) | exact (Blk.new w 53 #[.int .i64 3, .int .i64 N, .string of, .string s, .slice A n c]).lt)
  have q1_0 := bk1.cell 0
  have q1_1 := bk1.cell 1
  have q1_2 := bk1.cell 2
  have q1_3 := bk1.cell 3
  have q1_4 := bk1.cell 4
  simp only [List.getElem?_toArray, List.getElem?_cons_zero, List.getElem?_cons_succ] at q1_0 q1_1 q1_2 q1_3 q1_4
  have lt1 := bk1.lt
  replace bk1 := Lib.hid bk1
  have hbel1 := ((Below.refl w.heap.size w).alloc (Nat.le_refl _) (.cells #[.int .i64 3, .int .i64 N, .string of, .string s, .slice A n c] 53)).trans (hb1.mono (by simp))
  replace hbel1 := Lib.hid hbel1
  go_wp2_with fail
  refine (need_no 4 _).mono ?_
  rintro e wn ⟨rfl, rfl⟩
  go_wp2_with fail
  exact ⟨rfl, ChkPost.bad (by omega) rfl (hbel1.out)⟩
theorem expr_3_m (D : Int) (hD1 : 1 ≤ D) (hD2 : D ≤ 10) (N : Int) (of s : ByteArray) (A : Option Addr) (n c : Nat) (w : World)  (hn8 : n ≤ 8) (gN : (N == 0) = true) (hof : of.toList.isEmpty = true) (hids : identB s = true) (hn0 : 0 < n) : Calls Tryz.prog 70 #[.agg #[.int .i64 3, .int .i64 N, .string of, .string s, .slice A n c], .int .i64 D] w (ChkPost w 4) := by
  have hn8' : (n : Int) ≤ 8 := by omega
  have e1of : of.toList.isEmpty = true := hof
  have e2of : of.toList = [] := by simpa using hof
  have his := isIdent s true hids
  replace his := Lib.hid his
  replace hids := Lib.hid hids
  have n0 : ((n : Int) == 0) = false := by rw [beq_eq_false_iff_ne]; omega
  have n0c : (0 : Int) < n := by omega
  go_enter Tryz.func70, Tryz.ntmps70
  go_wp2_with fail
  refine (need_yes 1 _).mono ?_
  rintro e wn ⟨rfl, rfl⟩
  go_wp2_with fail
  refine (need_yes 3 _).mono ?_
  rintro e wn ⟨rfl, rfl⟩
  go_wp2_with fail
  refine (need_yes 1 _).mono ?_
  rintro e wn ⟨rfl, rfl⟩
  go_wp2_with fail
  refine (need_yes 4 _).mono ?_
  rintro e wn ⟨rfl, rfl⟩
  go_wp2_with fail
  refine (his.out _).mono ?_
  rintro e wi1 ⟨rfl, hb1⟩
  have bk1 := (Blk.new w 53 #[.int .i64 3, .int .i64 N, .string of, .string s, .slice A n c]).below hb1 (by first | (simp; done) | exact (Blk.new w 53 #[.int .i64 3, .int .i64 N, .string of, .string s, .slice A n c]).lt)
  have q1_0 := bk1.cell 0
  have q1_1 := bk1.cell 1
  have q1_2 := bk1.cell 2
  have q1_3 := bk1.cell 3
  have q1_4 := bk1.cell 4
  simp only [List.getElem?_toArray, List.getElem?_cons_zero, List.getElem?_cons_succ] at q1_0 q1_1 q1_2 q1_3 q1_4
  have lt1 := bk1.lt
  replace bk1 := Lib.hid bk1
  have hbel1 := ((Below.refl w.heap.size w).alloc (Nat.le_refl _) (.cells #[.int .i64 3, .int .i64 N, .string of, .string s, .slice A n c] 53)).trans (hb1.mono (by simp))
  replace hbel1 := Lib.hid hbel1
  go_wp2_with fail
  refine (need_no 4 _).mono ?_
  rintro e wn ⟨rfl, rfl⟩
  go_wp2_with fail
  exact ⟨rfl, ChkPost.bad (by omega) rfl (hbel1.out)⟩
theorem expr_3_ok (D : Int) (hD1 : 1 ≤ D) (hD2 : D ≤ 10) (N : Int) (of s : ByteArray) (A : Option Addr) (n c : Nat) (w : World)  (hn8 : n ≤ 8) (gN : (N == 0) = true) (hof : of.toList.isEmpty = true) (hids : identB s = true) (hn0 : n = 0) (args : List Pu.Ex) (chk : Pu.Ex → Nat) (hn : args.length = n) (helem : ∀ j a, j < n → args[j]? = some a → ∃ (k1 m1 : Int) (of1 s1 : ByteArray) (A1 : Option Addr) (n1 c1 : Nat) (cs : List Value), cs = [.int .i64 k1, .int .i64 m1, .string of1, .string s1, .slice A1 n1 c1] ∧ (∃ b off, A = some ⟨b, off, none⟩ ∧ b < w.heap.size ∧ ∀ i u, cs[i]? = some u → w.cell? ⟨b, off + j * 5 + i, none⟩ = some u) ∧ ExC w (fun _ => True) a cs) (hcall : ∀ a cs W, Below w.heap.size w W → ExC w (fun _ => True) a cs → Calls Tryz.prog 70 #[.agg cs.toArray, .int .i64 (D + 1)] W (ChkPost W (chk a))) : Calls Tryz.prog 70 #[.agg #[.int .i64 3, .int .i64 N, .string of, .string s, .slice A n c], .int .i64 D] w (ChkPost w (Pu.firstFault chk args)) := by
  have hnl : n ≤ 1000000 := by omega
  obtain ⟨goal, hgoal⟩ : ∃ g, g = Pu.firstFault chk args := ⟨_, rfl⟩
  rw [← hgoal]
  replace hgoal := Lib.hid hgoal
  replace hn := Lib.hid hn
  replace helem := Lib.hid helem
  replace hcall := Lib.hid hcall
  have hn8' : (n : Int) ≤ 8 := by omega
  have e1of : of.toList.isEmpty = true := hof
  have e2of : of.toList = [] := by simpa using hof
  have his := isIdent s true hids
  replace his := Lib.hid his
  replace hids := Lib.hid hids
  have n0 : ((n : Int) == 0) = true := by rw [hn0]; rfl
  have n0b : n = 0 := hn0
  have n0c : ¬ 0 < n := by omega
  replace hn0 := Lib.hid hn0
  clear n0b
  go_enter Tryz.func70, Tryz.ntmps70
  go_wp2_with fail
  refine (need_yes 1 _).mono ?_
  rintro e wn ⟨rfl, rfl⟩
  go_wp2_with fail
  refine (need_yes 3 _).mono ?_
  rintro e wn ⟨rfl, rfl⟩
  go_wp2_with fail
  refine (need_yes 1 _).mono ?_
  rintro e wn ⟨rfl, rfl⟩
  go_wp2_with fail
  refine (need_yes 4 _).mono ?_
  rintro e wn ⟨rfl, rfl⟩
  go_wp2_with fail
  refine (his.out _).mono ?_
  rintro e wi1 ⟨rfl, hb1⟩
  have bk1 := (Blk.new w 53 #[.int .i64 3, .int .i64 N, .string of, .string s, .slice A n c]).below hb1 (by first | (simp; done) | exact (Blk.new w 53 #[.int .i64 3, .int .i64 N, .string of, .string s, .slice A n c]).lt)
  have q1_0 := bk1.cell 0
  have q1_1 := bk1.cell 1
  have q1_2 := bk1.cell 2
  have q1_3 := bk1.cell 3
  have q1_4 := bk1.cell 4
  simp only [List.getElem?_toArray, List.getElem?_cons_zero, List.getElem?_cons_succ] at q1_0 q1_1 q1_2 q1_3 q1_4
  have lt1 := bk1.lt
  replace bk1 := Lib.hid bk1
  have hbel1 := ((Below.refl w.heap.size w).alloc (Nat.le_refl _) (.cells #[.int .i64 3, .int .i64 N, .string of, .string s, .slice A n c] 53)).trans (hb1.mono (by simp))
  replace hbel1 := Lib.hid hbel1
  go_wp2_with fail
  refine (need_yes 4 _).mono ?_
  rintro e wn ⟨rfl, rfl⟩
  go_wp2_with fail
  have hbelL := Lib.hid (hbel1.out)
  go_loopw [122] (fun i wr => ∃ j : Nat, j ≤ n ∧ i = .int .i64 j ∧ goal = Pu.firstFault chk (args.drop j) ∧ Below w.heap.size w wr) (fun i _ => n - (intOf i).toNat)
  case atStart => exact ⟨0, Nat.zero_le _, rfl, hgoal.out, hbelL.out⟩
  case round =>
    obtain ⟨j, hj, rfl, hgj, hbj⟩ := hrel
    replace hgj := Lib.hid hgj
    by_cases hlt : j < n
    · exact absurd hlt (by have := hn0.out; omega)
    · have hje : args.drop j = [] := List.drop_eq_nil_of_le (by rw [hn.out]; omega)
      have hg0 : goal = 0 := by rw [hgj.out, hje]; rfl
      have hbj' := Lib.hid hbj
      replace hje := Lib.hid hje
      replace hg0 := Lib.hid hg0
      clear hbj
      go_wp2_with fail
      go_end0
      rw [hg0.out]
      exact ChkPost.ok rfl hbj'.out
theorem expr_4_s (D : Int) (hD1 : 1 ≤ D) (hD2 : D ≤ 10) (N : Int) (of s : ByteArray) (A : Option Addr) (n c : Nat) (w : World)  (hn8 : n ≤ 8) (gN : (N == 0) = true) (hids : identB s = false) : Calls Tryz.prog 70 #[.agg #[.int .i64 4, .int .i64 N, .string of, .string s, .slice A n c], .int .i64 D] w (ChkPost w 4) := by
  have hn8' : (n : Int) ≤ 8 := by omega
  have his := isIdent s false hids
  replace his := Lib.hid his
  replace hids := Lib.hid hids
  go_enter Tryz.func70, Tryz.ntmps70
  go_wp2_with fail
  refine (need_yes 1 _).mono ?_
  rintro e wn ⟨rfl, rfl⟩
  go_wp2_with fail
  refine (need_yes 3 _).mono ?_
  rintro e wn ⟨rfl, rfl⟩
  go_wp2_with fail
  refine (need_yes 1 _).mono ?_
  rintro e wn ⟨rfl, rfl⟩
  go_wp2_with fail
  refine (need_yes 4 _).mono ?_
  rintro e wn ⟨rfl, rfl⟩
  go_wp2_with fail
  refine (his.out _).mono ?_
  rintro e wi1 ⟨rfl, hb1⟩
  have bk1 := (Blk.new w 53 #[.int .i64 4, .int .i64 N, .string of, .string s, .slice A n c]).below hb1 (by first | (simp; done) | exact (Blk.new w 53 #[.int .i64 4, .int .i64 N, .string of, .string s, .slice A n c]).lt)
  have q1_0 := bk1.cell 0
  have q1_1 := bk1.cell 1
  have q1_2 := bk1.cell 2
  have q1_3 := bk1.cell 3
  have q1_4 := bk1.cell 4
  simp only [List.getElem?_toArray, List.getElem?_cons_zero, List.getElem?_cons_succ] at q1_0 q1_1 q1_2 q1_3 q1_4
  have lt1 := bk1.lt
  replace bk1 := Lib.hid bk1
  have hbel1 := ((Below.refl w.heap.size w).alloc (Nat.le_refl _) (.cells #[.int .i64 4, .int .i64 N, .string of, .string s, .slice A n c] 53)).trans (hb1.mono (by simp))
  replace hbel1 := Lib.hid hbel1
  go_wp2_with fail
  refine (need_no 4 _).mono ?_
  rintro e wn ⟨rfl, rfl⟩
  go_wp2_with fail
  exact ⟨rfl, ChkPost.bad (by omega) rfl (hbel1.out)⟩
theorem expr_4_of (D : Int) (hD1 : 1 ≤ D) (hD2 : D ≤ 10) (N : Int) (of s : ByteArray) (A : Option Addr) (n c : Nat) (w : World)  (hn8 : n ≤ 8) (gN : (N == 0) = true) (hids : identB s = true) (hof : of.toList.isEmpty = false) (hidof : identB of = false) : Calls Tryz.prog 70 #[.agg #[.int .i64 4, .int .i64 N, .string of, .string s, .slice A n c], .int .i64 D] w (ChkPost w 4) := by
  have hn8' : (n : Int) ≤ 8 := by omega
  have his := isIdent s true hids
  replace his := Lib.hid his
  replace hids := Lib.hid hids
  have e1of : of.toList.isEmpty = false := hof
  have e2of : ¬ of.toList = [] := by intro e; rw [e] at hof; cases hof
  have hiof := isIdent of false hidof
  replace hiof := Lib.hid hiof
  replace hidof := Lib.hid hidof
  go_enter Tryz.func70, Tryz.ntmps70
  go_wp2_with fail
  refine (need_yes 1 _).mono ?_
  rintro e wn ⟨rfl, rfl⟩
  go_wp2_with fail
  refine (need_yes 3 _).mono ?_
  rintro e wn ⟨rfl, rfl⟩
  go_wp2_with fail
  refine (need_yes 1 _).mono ?_
  rintro e wn ⟨rfl, rfl⟩
  go_wp2_with fail
  refine (need_yes 4 _).mono ?_
  rintro e wn ⟨rfl, rfl⟩
  go_wp2_with fail
  refine (his.out _).mono ?_
  rintro e wi1 ⟨rfl, hb1⟩
  have bk1 := (Blk.new w 53 #[.int .i64 4, .int .i64 N, .string of, .string s, .slice A n c]).below hb1 (by first | (simp; done) | exact (Blk.new w 53 #[.int .i64 4, .int .i64 N, .string of, .string s, .slice A n c]).lt)
  have q1_0 := bk1.cell 0
  have q1_1 := bk1.cell 1
  have q1_2 := bk1.cell 2
  have q1_3 := bk1.cell 3
  have q1_4 := bk1.cell 4
  simp only [List.getElem?_toArray, List.getElem?_cons_zero, List.getElem?_cons_succ] at q1_0 q1_1 q1_2 q1_3 q1_4
  have lt1 := bk1.lt
  replace bk1 := Lib.hid bk1
  have hbel1 := ((Below.refl w.heap.size w).alloc (Nat.le_refl _) (.cells #[.int .i64 4, .int .i64 N, .string of, .string s, .slice A n c] 53)).trans (hb1.mono (by simp))
  replace hbel1 := Lib.hid hbel1
  go_wp2_with fail
  refine (hiof.out _).mono ?_
  rintro e wi2 ⟨rfl, hb2⟩
  have bk2 := (bk1.out).below hb2 (by first | (simp; done) | exact (bk1.out).lt)
  have q2_0 := bk2.cell 0
  have q2_1 := bk2.cell 1
  have q2_2 := bk2.cell 2
  have q2_3 := bk2.cell 3
  have q2_4 := bk2.cell 4
  simp only [List.getElem?_toArray, List.getElem?_cons_zero, List.getElem?_cons_succ] at q2_0 q2_1 q2_2 q2_3 q2_4
  have lt2 := bk2.lt
  replace bk2 := Lib.hid bk2
  have hbel2 := hbel1.out.trans (hb2.mono hbel1.out.size)
  replace hbel2 := Lib.hid hbel2
  go_wp2_with fail
  refine (need_no 4 _).mono ?_
  rintro e wn ⟨rfl, rfl⟩
  go_wp2_with fail
  exact ⟨rfl, ChkPost.bad (by omega) rfl (hbel2.out)⟩
theorem expr_4_ok1 (D : Int) (hD1 : 1 ≤ D) (hD2 : D ≤ 10) (N : Int) (of s : ByteArray) (A : Option Addr) (n c : Nat) (w : World)  (hn8 : n ≤ 8) (gN : (N == 0) = true) (hids : identB s = true) (hof : of.toList.isEmpty = true) (args : List Pu.Ex) (chk : Pu.Ex → Nat) (hn : args.length = n) (helem : ∀ j a, j < n → args[j]? = some a → ∃ (k1 m1 : Int) (of1 s1 : ByteArray) (A1 : Option Addr) (n1 c1 : Nat) (cs : List Value), cs = [.int .i64 k1, .int .i64 m1, .string of1, .string s1, .slice A1 n1 c1] ∧ (∃ b off, A = some ⟨b, off, none⟩ ∧ b < w.heap.size ∧ ∀ i u, cs[i]? = some u → w.cell? ⟨b, off + j * 5 + i, none⟩ = some u) ∧ ExC w (fun _ => True) a cs) (hcall : ∀ a cs W, Below w.heap.size w W → ExC w (fun _ => True) a cs → Calls Tryz.prog 70 #[.agg cs.toArray, .int .i64 (D + 1)] W (ChkPost W (chk a))) : Calls Tryz.prog 70 #[.agg #[.int .i64 4, .int .i64 N, .string of, .string s, .slice A n c], .int .i64 D] w (ChkPost w (Pu.firstFault chk args)) := by
  have hnl : n ≤ 1000000 := by omega
  obtain ⟨goal, hgoal⟩ : ∃ g, g = Pu.firstFault chk args := ⟨_, rfl⟩
  rw [← hgoal]
  replace hgoal := Lib.hid hgoal
  replace hn := Lib.hid hn
  replace helem := Lib.hid helem
  replace hcall := Lib.hid hcall
  have hn8' : (n : Int) ≤ 8 := by omega
  have his := isIdent s true hids
  replace his := Lib.hid his
  replace hids := Lib.hid hids
  have e1of : of.toList.isEmpty = true := hof
  have e2of : of.toList = [] := by simpa using hof
  go_enter Tryz.func70, Tryz.ntmps70
  go_wp2_with fail
  refine (need_yes 1 _).mono ?_
  rintro e wn ⟨rfl, rfl⟩
  go_wp2_with fail
  refine (need_yes 3 _).mono ?_
  rintro e wn ⟨rfl, rfl⟩
  go_wp2_with fail
  refine (need_yes 1 _).mono ?_
  rintro e wn ⟨rfl, rfl⟩
  go_wp2_with fail
  refine (need_yes 4 _).mono ?_
  rintro e wn ⟨rfl, rfl⟩
  go_wp2_with fail
  refine (his.out _).mono ?_
  rintro e wi1 ⟨rfl, hb1⟩
  have bk1 := (Blk.new w 53 #[.int .i64 4, .int .i64 N, .string of, .string s, .slice A n c]).below hb1 (by first | (simp; done) | exact (Blk.new w 53 #[.int .i64 4, .int .i64 N, .string of, .string s, .slice A n c]).lt)
  have q1_0 := bk1.cell 0
  have q1_1 := bk1.cell 1
  have q1_2 := bk1.cell 2
  have q1_3 := bk1.cell 3
  have q1_4 := bk1.cell 4
  simp only [List.getElem?_toArray, List.getElem?_cons_zero, List.getElem?_cons_succ] at q1_0 q1_1 q1_2 q1_3 q1_4
  have lt1 := bk1.lt
  replace bk1 := Lib.hid bk1
  have hbel1 := ((Below.refl w.heap.size w).alloc (Nat.le_refl _) (.cells #[.int .i64 4, .int .i64 N, .string of, .string s, .slice A n c] 53)).trans (hb1.mono (by simp))
  replace hbel1 := Lib.hid hbel1
  go_wp2_with fail
  refine (need_yes 4 _).mono ?_
  rintro e wn ⟨rfl, rfl⟩
  go_wp2_with fail
  have hbelL := Lib.hid (hbel1.out)
  go_loopw [122] (fun i wr => ∃ j : Nat, j ≤ n ∧ i = .int .i64 j ∧ goal = Pu.firstFault chk (args.drop j) ∧ Below w.heap.size w wr) (fun i _ => n - (intOf i).toNat)
  case atStart => exact ⟨0, Nat.zero_le _, rfl, hgoal.out, hbelL.out⟩
  case round =>
    obtain ⟨j, hj, rfl, hgj, hbj⟩ := hrel
    replace hgj := Lib.hid hgj
    by_cases hlt : j < n
    · obtain ⟨a, haj⟩ : ∃ a, args[j]? = some a := ⟨args[j]'(by rw [hn.out]; exact hlt), List.getElem?_eq_getElem _⟩
      obtain ⟨k1, m1, of1, s1, A1, n1, c1, cs, rfl, hcell, hcs⟩ := helem.out j a hlt haj
      have hdrop : args.drop j = a :: args.drop (j + 1) := by
        have hlj : j < args.length := by rw [hn.out]; exact hlt
        rw [List.drop_eq_getElem_cons hlj]
        rw [List.getElem?_eq_getElem hlj] at haj
        injection haj with haj
        rw [haj]
      obtain ⟨b, off, rfl, hbl, hcj⟩ := hcell
      have hbb : ∀ o u, w.cell? ⟨b, o, none⟩ = some u → wr.cell? ⟨b, o, none⟩ = some u := fun o u hu => (hbj.cell (p := ⟨b, o, none⟩) hbl).trans hu
      have v0 := hbb _ _ (hcj 0 _ rfl)
      have v1 := hbb _ _ (hcj 1 _ rfl)
      have v2 := hbb _ _ (hcj 2 _ rfl)
      have v3 := hbb _ _ (hcj 3 _ rfl)
      have v4 := hbb _ _ (hcj 4 _ rfl)
      simp only [Nat.add_zero] at v0
      have hih := fun W (hW : Below w.heap.size w W) => hcall.out a _ W hW (hcs)
      have hbj' := Lib.hid hbj
      replace hih := Lib.hid hih
      replace hdrop := Lib.hid hdrop
      clear hbb hcj hcs haj hbj
      go_wp2_with fail
      refine (hih.out _ (hbj'.out.alloc hbj'.out.size _)).mono ?_
      rintro e wk ⟨he, hbk⟩
      have hgj2 := hgj.out
      rw [hdrop.out] at hgj2
      cases hr : chk a with
      | zero =>
        rw [hr] at he
        obtain rfl : e = .returned (.tuple #[]) := he
        have hgj3 : goal = Pu.firstFault chk (args.drop (j + 1)) := by rw [hgj2]; show Pu.seq (chk a) _ = _; rw [hr]; rfl
        replace hgj2 := Lib.hid hgj2
        replace hgj3 := Lib.hid hgj3
        replace hr := Lib.hid hr
        go_wp2_with fail
        go_roundw
        case rel => exact ⟨j + 1, by omega, by go_num, hgj3.out, (hbj'.out.alloc hbj'.out.size _).trans (hbk.mono (by have := hbj'.out.size; simp; omega))⟩
        case measure => simp [intOf]; omega
      | succ r =>
        rw [hr] at he
        obtain rfl : e = .panicked [{ v := fault (r + 1), recovered := false }] := he
        have hgj3 : goal = r + 1 := by rw [hgj2]; show Pu.seq (chk a) _ = _; rw [hr]; rfl
        replace hgj2 := Lib.hid hgj2
        replace hgj3 := Lib.hid hgj3
        replace hr := Lib.hid hr
        go_wp2_with fail
        rw [hgj3.out]
        exact ⟨rfl, ChkPost.bad (by omega) rfl ((hbj'.out.alloc hbj'.out.size _).trans (hbk.mono (by have := hbj'.out.size; simp; omega)))⟩
    · have hje : args.drop j = [] := List.drop_eq_nil_of_le (by rw [hn.out]; omega)
      have hg0 : goal = 0 := by rw [hgj.out, hje]; rfl
      have hbj' := Lib.hid hbj
      replace hje := Lib.hid hje
      replace hg0 := Lib.hid hg0
      clear hbj
      go_wp2_with fail
      go_end0
      rw [hg0.out]
      exact ChkPost.ok rfl hbj'.out
theorem expr_4_ok2 (D : Int) (hD1 : 1 ≤ D) (hD2 : D ≤ 10) (N : Int) (of s : ByteArray) (A : Option Addr) (n c : Nat) (w : World)  (hn8 : n ≤ 8) (gN : (N == 0) = true) (hids : identB s = true) (hof : of.toList.isEmpty = false) (hidof : identB of = true) (args : List Pu.Ex) (chk : Pu.Ex → Nat) (hn : args.length = n) (helem : ∀ j a, j < n → args[j]? = some a → ∃ (k1 m1 : Int) (of1 s1 : ByteArray) (A1 : Option Addr) (n1 c1 : Nat) (cs : List Value), cs = [.int .i64 k1, .int .i64 m1, .string of1, .string s1, .slice A1 n1 c1] ∧ (∃ b off, A = some ⟨b, off, none⟩ ∧ b < w.heap.size ∧ ∀ i u, cs[i]? = some u → w.cell? ⟨b, off + j * 5 + i, none⟩ = some u) ∧ ExC w (fun _ => True) a cs) (hcall : ∀ a cs W, Below w.heap.size w W → ExC w (fun _ => True) a cs → Calls Tryz.prog 70 #[.agg cs.toArray, .int .i64 (D + 1)] W (ChkPost W (chk a))) : Calls Tryz.prog 70 #[.agg #[.int .i64 4, .int .i64 N, .string of, .string s, .slice A n c], .int .i64 D] w (ChkPost w (Pu.firstFault chk args)) := by
  have hnl : n ≤ 1000000 := by omega
  obtain ⟨goal, hgoal⟩ : ∃ g, g = Pu.firstFault chk args := ⟨_, rfl⟩
  rw [← hgoal]
  replace hgoal := Lib.hid hgoal
  replace hn := Lib.hid hn
  replace helem := Lib.hid helem
  replace hcall := Lib.hid hcall
  have hn8' : (n : Int) ≤ 8 := by omega
  have his := isIdent s true hids
  replace his := Lib.hid his
  replace hids := Lib.hid hids
  have e1of : of.toList.isEmpty = false := hof
  have e2of : ¬ of.toList = [] := by intro e; rw [e] at hof; cases hof
  have hiof := isIdent of true hidof
  replace hiof := Lib.hid hiof
  replace hidof := Lib.hid hidof
  go_enter Tryz.func70, Tryz.ntmps70
  go_wp2_with fail
  refine (need_yes 1 _).mono ?_
  rintro e wn ⟨rfl, rfl⟩
  go_wp2_with fail
  refine (need_yes 3 _).mono ?_
  rintro e wn ⟨rfl, rfl⟩
  go_wp2_with fail
  refine (need_yes 1 _).mono ?_
  rintro e wn ⟨rfl, rfl⟩
  go_wp2_with fail
  refine (need_yes 4 _).mono ?_
  rintro e wn ⟨rfl, rfl⟩
  go_wp2_with fail
  refine (his.out _).mono ?_
  rintro e wi1 ⟨rfl, hb1⟩
  have bk1 := (Blk.new w 53 #[.int .i64 4, .int .i64 N, .string of, .string s, .slice A n c]).below hb1 (by first | (simp; done) | exact (Blk.new w 53 #[.int .i64 4, .int .i64 N, .string of, .string s, .slice A n c]).lt)
  have q1_0 := bk1.cell 0
  have q1_1 := bk1.cell 1
  have q1_2 := bk1.cell 2
  have q1_3 := bk1.cell 3
  have q1_4 := bk1.cell 4
  simp only [List.getElem?_toArray, List.getElem?_cons_zero, List.getElem?_cons_succ] at q1_0 q1_1 q1_2 q1_3 q1_4
  have lt1 := bk1.lt
  replace bk1 := Lib.hid bk1
  have hbel1 := ((Below.refl w.heap.size w).alloc (Nat.le_refl _) (.cells #[.int .i64 4, .int .i64 N, .string of, .string s, .slice A n c] 53)).trans (hb1.mono (by simp))
  replace hbel1 := Lib.hid hbel1
  go_wp2_with fail
  refine (hiof.out _).mono ?_
  rintro e wi2 ⟨rfl, hb2⟩
  have bk2 := (bk1.out).below hb2 (by first | (simp; done) | exact (bk1.out).lt)
  have q2_0 := bk2.cell 0
  have q2_1 := bk2.cell 1
  have q2_2 := bk2.cell 2
  have q2_3 := bk2.cell 3
  have q2_4 := bk2.cell 4
  simp only [List.getElem?_toArray, List.getElem?_cons_zero, List.getElem?_cons_succ] at q2_0 q2_1 q2_2 q2_3 q2_4
  have lt2 := bk2.lt
  replace bk2 := Lib.hid bk2
  have hbel2 := hbel1.out.trans (hb2.mono hbel1.out.size)
  replace hbel2 := Lib.hid hbel2
  go_wp2_with fail
  refine (need_yes 4 _).mono ?_
  rintro e wn ⟨rfl, rfl⟩
  go_wp2_with fail
  have hbelL := Lib.hid (hbel2.out)
  go_loopw [122] (fun i wr => ∃ j : Nat, j ≤ n ∧ i = .int .i64 j ∧ goal = Pu.firstFault chk (args.drop j) ∧ Below w.heap.size w wr) (fun i _ => n - (intOf i).toNat)
  case atStart => exact ⟨0, Nat.zero_le _, rfl, hgoal.out, hbelL.out⟩
  case round =>
    obtain ⟨j, hj, rfl, hgj, hbj⟩ := hrel
    replace hgj := Lib.hid hgj
    by_cases hlt : j < n
    · obtain ⟨a, haj⟩ : ∃ a, args[j]? = some a := ⟨args[j]'(by rw [hn.out]; exact hlt), List.getElem?_eq_getElem _⟩
      obtain ⟨k1, m1, of1, s1, A1, n1, c1, cs, rfl, hcell, hcs⟩ := helem.out j a hlt haj
      have hdrop : args.drop j = a :: args.drop (j + 1) := by
        have hlj : j < args.length := by rw [hn.out]; exact hlt
        rw [List.drop_eq_getElem_cons hlj]
        rw [List.getElem?_eq_getElem hlj] at haj
        injection haj with haj
        rw [haj]
      obtain ⟨b, off, rfl, hbl, hcj⟩ := hcell
      have hbb : ∀ o u, w.cell? ⟨b, o, none⟩ = some u → wr.cell? ⟨b, o, none⟩ = some u := fun o u hu => (hbj.cell (p := ⟨b, o, none⟩) hbl).trans hu
      have v0 := hbb _ _ (hcj 0 _ rfl)
      have v1 := hbb _ _ (hcj 1 _ rfl)
      have v2 := hbb _ _ (hcj 2 _ rfl)
      have v3 := hbb _ _ (hcj 3 _ rfl)
      have v4 := hbb _ _ (hcj 4 _ rfl)
      simp only [Nat.add_zero] at v0
      have hih := fun W (hW : Below w.heap.size w W) => hcall.out a _ W hW (hcs)
      have hbj' := Lib.hid hbj
      replace hih := Lib.hid hih
      replace hdrop := Lib.hid hdrop
      clear hbb hcj hcs haj hbj
      go_wp2_with fail
      refine (hih.out _ (hbj'.out.alloc hbj'.out.size _)).mono ?_
      rintro e wk ⟨he, hbk⟩
      have hgj2 := hgj.out
      rw [hdrop.out] at hgj2
      cases hr : chk a with
      | zero =>
        rw [hr] at he
        obtain rfl : e = .returned (.tuple #[]) := he
        have hgj3 : goal = Pu.firstFault chk (args.drop (j + 1)) := by rw [hgj2]; show Pu.seq (chk a) _ = _; rw [hr]; rfl
        replace hgj2 := Lib.hid hgj2
        replace hgj3 := Lib.hid hgj3
        replace hr := Lib.hid hr
        go_wp2_with fail
        go_roundw
        case rel => exact ⟨j + 1, by omega, by go_num, hgj3.out, (hbj'.out.alloc hbj'.out.size _).trans (hbk.mono (by have := hbj'.out.size; simp; omega))⟩
        case measure => simp [intOf]; omega
      | succ r =>
        rw [hr] at he
        obtain rfl : e = .panicked [{ v := fault (r + 1), recovered := false }] := he
        have hgj3 : goal = r + 1 := by rw [hgj2]; show Pu.seq (chk a) _ = _; rw [hr]; rfl
        replace hgj2 := Lib.hid hgj2
        replace hgj3 := Lib.hid hgj3
        replace hr := Lib.hid hr
        go_wp2_with fail
        rw [hgj3.out]
        exact ⟨rfl, ChkPost.bad (by omega) rfl ((hbj'.out.alloc hbj'.out.size _).trans (hbk.mono (by have := hbj'.out.size; simp; omega)))⟩
    · have hje : args.drop j = [] := List.drop_eq_nil_of_le (by rw [hn.out]; omega)
      have hg0 : goal = 0 := by rw [hgj.out, hje]; rfl
      have hbj' := Lib.hid hbj
      replace hje := Lib.hid hje
      replace hg0 := Lib.hid hg0
      clear hbj
      go_wp2_with fail
      go_end0
      rw [hg0.out]
      exact ChkPost.ok rfl hbj'.out
theorem expr_6_s (D : Int) (hD1 : 1 ≤ D) (hD2 : D ≤ 10) (N : Int) (of s : ByteArray) (A : Option Addr) (n c : Nat) (w : World)  (hn8 : n ≤ 8) (gN : (N == 0) = true) (hof : of.toList.isEmpty = true) (hs : s.toList.isEmpty = false) : Calls Tryz.prog 70 #[.agg #[.int .i64 6, .int .i64 N, .string of, .string s, .slice A n c], .int .i64 D] w (ChkPost w 4) := by
  have hn8' : (n : Int) ≤ 8 := by omega
  have e1of : of.toList.isEmpty = true := hof
  have e2of : of.toList = [] := by simpa using hof
  have e1s : s.toList.isEmpty = false := hs
  have e2s : ¬ s.toList = [] := by intro e; rw [e] at hs; cases hs
  go_enter Tryz.func70, Tryz.ntmps70
  go_wp2_with fail
  refine (need_yes 1 _).mono ?_
  rintro e wn ⟨rfl, rfl⟩
  go_wp2_with fail
  refine (need_yes 3 _).mono ?_
  rintro e wn ⟨rfl, rfl⟩
  go_wp2_with fail
  refine (need_yes 1 _).mono ?_
  rintro e wn ⟨rfl, rfl⟩
  go_wp2_with fail
  refine (need_yes 4 _).mono ?_
  rintro e wn ⟨rfl, rfl⟩
  go_wp2_with fail
  refine (need_no 4 _).mono ?_
  rintro e wn ⟨rfl, rfl⟩
  go_wp2_with fail
  exact ⟨rfl, ChkPost.bad (by omega) rfl ((Below.refl w.heap.size w).alloc (Nat.le_refl _) _)⟩
theorem expr_6_m (D : Int) (hD1 : 1 ≤ D) (hD2 : D ≤ 10) (N : Int) (of s : ByteArray) (A : Option Addr) (n c : Nat) (w : World)  (hn8 : n ≤ 8) (gN : (N == 0) = true) (hof : of.toList.isEmpty = true) (hs : s.toList.isEmpty = true) (hn0 : n = 0) : Calls Tryz.prog 70 #[.agg #[.int .i64 6, .int .i64 N, .string of, .string s, .slice A n c], .int .i64 D] w (ChkPost w 4) := by
  have hn8' : (n : Int) ≤ 8 := by omega
  have e1of : of.toList.isEmpty = true := hof
  have e2of : of.toList = [] := by simpa using hof
  have e1s : s.toList.isEmpty = true := hs
  have e2s : s.toList = [] := by simpa using hs
  have n0 : ((n : Int) == 0) = true := by rw [hn0]; rfl
  have n0b : n = 0 := hn0
  have n0c : ¬ 0 < n := by omega
  replace hn0 := Lib.hid hn0
  clear n0b
  go_enter Tryz.func70, Tryz.ntmps70
  go_wp2_with fail
  refine (need_yes 1 _).mono ?_
  rintro e wn ⟨rfl, rfl⟩
  go_wp2_with fail
  refine (need_yes 3 _).mono ?_
  rintro e wn ⟨rfl, rfl⟩
  go_wp2_with fail
  refine (need_yes 1 _).mono ?_
  rintro e wn ⟨rfl, rfl⟩
  go_wp2_with fail
  refine (need_yes 4 _).mono ?_
  rintro e wn ⟨rfl, rfl⟩
  go_wp2_with fail
  refine (need_no 4 _).mono ?_
  rintro e wn ⟨rfl, rfl⟩
  go_wp2_with fail
  exact ⟨rfl, ChkPost.bad (by omega) rfl ((Below.refl w.heap.size w).alloc (Nat.le_refl _) _)⟩
theorem expr_6_ok (D : Int) (hD1 : 1 ≤ D) (hD2 : D ≤ 10) (N : Int) (of s : ByteArray) (A : Option Addr) (n c : Nat) (w : World)  (hn8 : n ≤ 8) (gN : (N == 0) = true) (hof : of.toList.isEmpty = true) (hs : s.toList.isEmpty = true) (hn0 : 0 < n) (args : List Pu.Ex) (chk : Pu.Ex → Nat) (hn : args.length = n) (helem : ∀ j a, j < n → args[j]? = some a → ∃ (k1 m1 : Int) (of1 s1 : ByteArray) (A1 : Option Addr) (n1 c1 : Nat) (cs : List Value), cs = [.int .i64 k1, .int .i64 m1, .string of1, .string s1, .slice A1 n1 c1] ∧ (∃ b off, A = some ⟨b, off, none⟩ ∧ b < w.heap.size ∧ ∀ i u, cs[i]? = some u → w.cell? ⟨b, off + j * 5 + i, none⟩ = some u) ∧ ExC w (fun _ => True) a cs) (hcall : ∀ a cs W, Below w.heap.size w W → ExC w (fun _ => True) a cs → Calls Tryz.prog 70 #[.agg cs.toArray, .int .i64 (D + 1)] W (ChkPost W (chk a))) : Calls Tryz.prog 70 #[.agg #[.int .i64 6, .int .i64 N, .string of, .string s, .slice A n c], .int .i64 D] w (ChkPost w (Pu.firstFault chk args)) := by
  have hnl : n ≤ 1000000 := by omega
  obtain ⟨goal, hgoal⟩ : ∃ g, g = Pu.firstFault chk args := ⟨_, rfl⟩
  rw [← hgoal]
  replace hgoal := Lib.hid hgoal
  replace hn := Lib.hid hn
  replace helem := Lib.hid helem
  replace hcall := Lib.hid hcall
  have hn8' : (n : Int) ≤ 8 := by omega
  have e1of : of.toList.isEmpty = true := hof
  have e2of : of.toList = [] := by simpa using hof
  have e1s : s.toList.isEmpty = true := hs
  have e2s : s.toList = [] := by simpa using hs
  have n0 : ((n : Int) == 0) = false := by rw [beq_eq_false_iff_ne]; omega
  have n0c : (0 : Int) < n := by omega
  go_enter Tryz.func70, Tryz.ntmps70
  go_wp2_with fail
  refine (need_yes 1 _).mono ?_
  rintro e wn ⟨rfl, rfl⟩
  go_wp2_with fail
  refine (need_yes 3 _).mono ?_
  rintro e wn ⟨rfl, rfl⟩
  go_wp2_with fail
  refine (need_yes 1 _).mono ?_
  rintro e wn ⟨rfl, rfl⟩
  go_wp2_with fail
  refine (need_yes 4 _).mono ?_
  rintro e wn ⟨rfl, rfl⟩
  go_wp2_with fail
  refine (need_yes 4 _).mono ?_
  rintro e wn ⟨rfl, rfl⟩
  go_wp2_with fail
  have hbelL := Lib.hid ((Below.refl w.heap.size w).alloc (Nat.le_refl _) (.cells #[.int .i64 6, .int .i64 N, .string of, .string s, .slice A n c] 53))
  go_loopw [122] (fun i wr => ∃ j : Nat, j ≤ n ∧ i = .int .i64 j ∧ goal = Pu.firstFault chk (args.drop j) ∧ Below w.heap.size w wr) (fun i _ => n - (intOf i).toNat)
  case atStart => exact ⟨0, Nat.zero_le _, rfl, hgoal.out, hbelL.out⟩
  case round =>
    obtain ⟨j, hj, rfl, hgj, hbj⟩ := hrel
    replace hgj := Lib.hid hgj
    by_cases hlt : j < n
    · obtain ⟨a, haj⟩ : ∃ a, args[j]? = some a := ⟨args[j]'(by rw [hn.out]; exact hlt), List.getElem?_eq_getElem _⟩
      obtain ⟨k1, m1, of1, s1, A1, n1, c1, cs, rfl, hcell, hcs⟩ := helem.out j a hlt haj
      have hdrop : args.drop j = a :: args.drop (j + 1) := by
        have hlj : j < args.length := by rw [hn.out]; exact hlt
        rw [List.drop_eq_getElem_cons hlj]
        rw [List.getElem?_eq_getElem hlj] at haj
        injection haj with haj
        rw [haj]
      obtain ⟨b, off, rfl, hbl, hcj⟩ := hcell
      have hbb : ∀ o u, w.cell? ⟨b, o, none⟩ = some u → wr.cell? ⟨b, o, none⟩ = some u := fun o u hu => (hbj.cell (p := ⟨b, o, none⟩) hbl).trans hu
      have v0 := hbb _ _ (hcj 0 _ rfl)
      have v1 := hbb _ _ (hcj 1 _ rfl)
      have v2 := hbb _ _ (hcj 2 _ rfl)
      have v3 := hbb _ _ (hcj 3 _ rfl)
      have v4 := hbb _ _ (hcj 4 _ rfl)
      simp only [Nat.add_zero] at v0
      have hih := fun W (hW : Below w.heap.size w W) => hcall.out a _ W hW (hcs)
      have hbj' := Lib.hid hbj
      replace hih := Lib.hid hih
      replace hdrop := Lib.hid hdrop
      clear hbb hcj hcs haj hbj
      go_wp2_with fail
      refine (hih.out _ (hbj'.out.alloc hbj'.out.size _)).mono ?_
      rintro e wk ⟨he, hbk⟩
      have hgj2 := hgj.out
      rw [hdrop.out] at hgj2
      cases hr : chk a with
      | zero =>
        rw [hr] at he
        obtain rfl : e = .returned (.tuple #[]) := he
        have hgj3 : goal = Pu.firstFault chk (args.drop (j + 1)) := by rw [hgj2]; show Pu.seq (chk a) _ = _; rw [hr]; rfl
        replace hgj2 := Lib.hid hgj2
        replace hgj3 := Lib.hid hgj3
        replace hr := Lib.hid hr
        go_wp2_with fail
        go_roundw
        case rel => exact ⟨j + 1, by omega, by go_num, hgj3.out, (hbj'.out.alloc hbj'.out.size _).trans (hbk.mono (by have := hbj'.out.size; simp; omega))⟩
        case measure => simp [intOf]; omega
      | succ r =>
        rw [hr] at he
        obtain rfl : e = .panicked [{ v := fault (r + 1), recovered := false }] := he
        have hgj3 : goal = r + 1 := by rw [hgj2]; show Pu.seq (chk a) _ = _; rw [hr]; rfl
        replace hgj2 := Lib.hid hgj2
        replace hgj3 := Lib.hid hgj3
        replace hr := Lib.hid hr
        go_wp2_with fail
        rw [hgj3.out]
        exact ⟨rfl, ChkPost.bad (by omega) rfl ((hbj'.out.alloc hbj'.out.size _).trans (hbk.mono (by have := hbj'.out.size; simp; omega)))⟩
    · have hje : args.drop j = [] := List.drop_eq_nil_of_le (by rw [hn.out]; omega)
      have hg0 : goal = 0 := by rw [hgj.out, hje]; rfl
      have hbj' := Lib.hid hbj
      replace hje := Lib.hid hje
      replace hg0 := Lib.hid hg0
      clear hbj
      go_wp2_with fail
      go_end0
      rw [hg0.out]
      exact ChkPost.ok rfl hbj'.out
theorem expr_5_s (D : Int) (hD1 : 1 ≤ D) (hD2 : D ≤ 10) (N : Int) (of s : ByteArray) (A : Option Addr) (n c : Nat) (w : World)  (hn8 : n ≤ 8) (gN : (N == 0) = true) (hof : of.toList.isEmpty = true) (hs : s.toList.isEmpty = false) : Calls Tryz.prog 70 #[.agg #[.int .i64 5, .int .i64 N, .string of, .string s, .slice A n c], .int .i64 D] w (ChkPost w 4) := by
  have hn8' : (n : Int) ≤ 8 := by omega
  have e1of : of.toList.isEmpty = true := hof
  have e2of : of.toList = [] := by simpa using hof
  have e1s : s.toList.isEmpty = false := hs
  have e2s : ¬ s.toList = [] := by intro e; rw [e] at hs; cases hs
  go_enter Tryz.func70, Tryz.ntmps70
  go_wp2_with fail
  refine (need_yes 1 _).mono ?_
  rintro e wn ⟨rfl, rfl⟩
  go_wp2_with fail
  refine (need_yes 3 _).mono ?_
  rintro e wn ⟨rfl, rfl⟩
  go_wp2_with fail
  refine (need_yes 1 _).mono ?_
  rintro e wn ⟨rfl, rfl⟩
  go_wp2_with fail
  refine (need_yes 4 _).mono ?_
  rintro e wn ⟨rfl, rfl⟩
  go_wp2_with fail
  refine (need_no 4 _).mono ?_
  rintro e wn ⟨rfl, rfl⟩
  go_wp2_with fail
  exact ⟨rfl, ChkPost.bad (by omega) rfl ((Below.refl w.heap.size w).alloc (Nat.le_refl _) _)⟩
theorem expr_5_m (D : Int) (hD1 : 1 ≤ D) (hD2 : D ≤ 10) (N : Int) (of s : ByteArray) (A : Option Addr) (n c : Nat) (w : World)  (hn8 : n ≤ 8) (gN : (N == 0) = true) (hof : of.toList.isEmpty = true) (hs : s.toList.isEmpty = true) (hn2 : n ≠ 2) : Calls Tryz.prog 70 #[.agg #[.int .i64 5, .int .i64 N, .string of, .string s, .slice A n c], .int .i64 D] w (ChkPost w 4) := by
  have hn8' : (n : Int) ≤ 8 := by omega
  have e1of : of.toList.isEmpty = true := hof
  have e2of : of.toList = [] := by simpa using hof
  have e1s : s.toList.isEmpty = true := hs
  have e2s : s.toList = [] := by simpa using hs
  have n2 : ((n : Int) == 2) = false := by rw [beq_eq_false_iff_ne]; omega
  go_enter Tryz.func70, Tryz.ntmps70
  go_wp2_with fail
  refine (need_yes 1 _).mono ?_
  rintro e wn ⟨rfl, rfl⟩
  go_wp2_with fail
  refine (need_yes 3 _).mono ?_
  rintro e wn ⟨rfl, rfl⟩
  go_wp2_with fail
  refine (need_yes 1 _).mono ?_
  rintro e wn ⟨rfl, rfl⟩
  go_wp2_with fail
  refine (need_yes 4 _).mono ?_
  rintro e wn ⟨rfl, rfl⟩
  go_wp2_with fail
  refine (need_no 4 _).mono ?_
  rintro e wn ⟨rfl, rfl⟩
  go_wp2_with fail
  exact ⟨rfl, ChkPost.bad (by omega) rfl ((Below.refl w.heap.size w).alloc (Nat.le_refl _) _)⟩
theorem expr_5_ok (D : Int) (hD1 : 1 ≤ D) (hD2 : D ≤ 10) (N : Int) (of s : ByteArray) (A : Option Addr) (n c : Nat) (w : World)  (hn8 : n ≤ 8) (gN : (N == 0) = true) (hof : of.toList.isEmpty = true) (hs : s.toList.isEmpty = true) (hn2 : n = 2) (args : List Pu.Ex) (chk : Pu.Ex → Nat) (hn : args.length = n) (helem : ∀ j a, j < n → args[j]? = some a → ∃ (k1 m1 : Int) (of1 s1 : ByteArray) (A1 : Option Addr) (n1 c1 : Nat) (cs : List Value), cs = [.int .i64 k1, .int .i64 m1, .string of1, .string s1, .slice A1 n1 c1] ∧ (∃ b off, A = some ⟨b, off, none⟩ ∧ b < w.heap.size ∧ ∀ i u, cs[i]? = some u → w.cell? ⟨b, off + j * 5 + i, none⟩ = some u) ∧ ExC w (fun _ => True) a cs) (hcall : ∀ a cs W, Below w.heap.size w W → ExC w (fun _ => True) a cs → Calls Tryz.prog 70 #[.agg cs.toArray, .int .i64 (D + 1)] W (ChkPost W (chk a))) : Calls Tryz.prog 70 #[.agg #[.int .i64 5, .int .i64 N, .string of, .string s, .slice A n c], .int .i64 D] w (ChkPost w (Pu.firstFault chk args)) := by
  have hnl : n ≤ 1000000 := by omega
  obtain ⟨goal, hgoal⟩ : ∃ g, g = Pu.firstFault chk args := ⟨_, rfl⟩
  rw [← hgoal]
  replace hgoal := Lib.hid hgoal
  replace hn := Lib.hid hn
  replace helem := Lib.hid helem
  replace hcall := Lib.hid hcall
  have hn8' : (n : Int) ≤ 8 := by omega
  have e1of : of.toList.isEmpty = true := hof
  have e2of : of.toList = [] := by simpa using hof
  have e1s : s.toList.isEmpty = true := hs
  have e2s : s.toList = [] := by simpa using hs
  have n2 : ((n : Int) == 2) = true := by rw [hn2]; rfl
  replace hn2 := Lib.hid hn2
  go_enter Tryz.func70, Tryz.ntmps70
  go_wp2_with fail
  refine (need_yes 1 _).mono ?_
  rintro e wn ⟨rfl, rfl⟩
  go_wp2_with fail
  refine (need_yes 3 _).mono ?_
  rintro e wn ⟨rfl, rfl⟩
  go_wp2_with fail
  refine (need_yes 1 _).mono ?_
  rintro e wn ⟨rfl, rfl⟩
  go_wp2_with fail
  refine (need_yes 4 _).mono ?_
  rintro e wn ⟨rfl, rfl⟩
  go_wp2_with fail
  refine (need_yes 4 _).mono ?_
  rintro e wn ⟨rfl, rfl⟩
  go_wp2_with fail
  have hbelL := Lib.hid ((Below.refl w.heap.size w).alloc (Nat.le_refl _) (.cells #[.int .i64 5, .int .i64 N, .string of, .string s, .slice A n c] 53))
  go_loopw [122] (fun i wr => ∃ j : Nat, j ≤ n ∧ i = .int .i64 j ∧ goal = Pu.firstFault chk (args.drop j) ∧ Below w.heap.size w wr) (fun i _ => n - (intOf i).toNat)
  case atStart => exact ⟨0, Nat.zero_le _, rfl, hgoal.out, hbelL.out⟩
  case round =>
    obtain ⟨j, hj, rfl, hgj, hbj⟩ := hrel
    replace hgj := Lib.hid hgj
    by_cases hlt : j < n
    · obtain ⟨a, haj⟩ : ∃ a, args[j]? = some a := ⟨args[j]'(by rw [hn.out]; exact hlt), List.getElem?_eq_getElem _⟩
      obtain ⟨k1, m1, of1, s1, A1, n1, c1, cs, rfl, hcell, hcs⟩ := helem.out j a hlt haj
      have hdrop : args.drop j = a :: args.drop (j + 1) := by
        have hlj : j < args.length := by rw [hn.out]; exact hlt
        rw [List.drop_eq_getElem_cons hlj]
        rw [List.getElem?_eq_getElem hlj] at haj
        injection haj with haj
        rw [haj]
      obtain ⟨b, off, rfl, hbl, hcj⟩ := hcell
      have hbb : ∀ o u, w.cell? ⟨b, o, none⟩ = some u → wr.cell? ⟨b, o, none⟩ = some u := fun o u hu => (hbj.cell (p := ⟨b, o, none⟩) hbl).trans hu
      have v0 := hbb _ _ (hcj 0 _ rfl)
      have v1 := hbb _ _ (hcj 1 _ rfl)
      have v2 := hbb _ _ (hcj 2 _ rfl)
      have v3 := hbb _ _ (hcj 3 _ rfl)
      have v4 := hbb _ _ (hcj 4 _ rfl)
      simp only [Nat.add_zero] at v0
      have hih := fun W (hW : Below w.heap.size w W) => hcall.out a _ W hW (hcs)
      have hbj' := Lib.hid hbj
      replace hih := Lib.hid hih
      replace hdrop := Lib.hid hdrop
      clear hbb hcj hcs haj hbj
      go_wp2_with fail
      refine (hih.out _ (hbj'.out.alloc hbj'.out.size _)).mono ?_
      rintro e wk ⟨he, hbk⟩
      have hgj2 := hgj.out
      rw [hdrop.out] at hgj2
      cases hr : chk a with
      | zero =>
        rw [hr] at he
        obtain rfl : e = .returned (.tuple #[]) := he
        have hgj3 : goal = Pu.firstFault chk (args.drop (j + 1)) := by rw [hgj2]; show Pu.seq (chk a) _ = _; rw [hr]; rfl
        replace hgj2 := Lib.hid hgj2
        replace hgj3 := Lib.hid hgj3
        replace hr := Lib.hid hr
        go_wp2_with fail
        go_roundw
        case rel => exact ⟨j + 1, by omega, by go_num, hgj3.out, (hbj'.out.alloc hbj'.out.size _).trans (hbk.mono (by have := hbj'.out.size; simp; omega))⟩
        case measure => simp [intOf]; omega
      | succ r =>
        rw [hr] at he
        obtain rfl : e = .panicked [{ v := fault (r + 1), recovered := false }] := he
        have hgj3 : goal = r + 1 := by rw [hgj2]; show Pu.seq (chk a) _ = _; rw [hr]; rfl
        replace hgj2 := Lib.hid hgj2
        replace hgj3 := Lib.hid hgj3
        replace hr := Lib.hid hr
        go_wp2_with fail
        rw [hgj3.out]
        exact ⟨rfl, ChkPost.bad (by omega) rfl ((hbj'.out.alloc hbj'.out.size _).trans (hbk.mono (by have := hbj'.out.size; simp; omega)))⟩
    · have hje : args.drop j = [] := List.drop_eq_nil_of_le (by rw [hn.out]; omega)
      have hg0 : goal = 0 := by rw [hgj.out, hje]; rfl
      have hbj' := Lib.hid hbj
      replace hje := Lib.hid hje
      replace hg0 := Lib.hid hg0
      clear hbj
      go_wp2_with fail
      go_end0
      rw [hg0.out]
      exact ChkPost.ok rfl hbj'.out
theorem expr_7_s (D : Int) (hD1 : 1 ≤ D) (hD2 : D ≤ 10) (N : Int) (of s : ByteArray) (A : Option Addr) (n c : Nat) (w : World)  (hn8 : n ≤ 8) (gN : (N == 0) = true) (hof : of.toList.isEmpty = true) (hs : s.toList.isEmpty = false) : Calls Tryz.prog 70 #[.agg #[.int .i64 7, .int .i64 N, .string of, .string s, .slice A n c], .int .i64 D] w (ChkPost w 4) := by
  have hn8' : (n : Int) ≤ 8 := by omega
  have e1of : of.toList.isEmpty = true := hof
  have e2of : of.toList = [] := by simpa using hof
  have e1s : s.toList.isEmpty = false := hs
  have e2s : ¬ s.toList = [] := by intro e; rw [e] at hs; cases hs
  go_enter Tryz.func70, Tryz.ntmps70
  go_wp2_with fail
  refine (need_yes 1 _).mono ?_
  rintro e wn ⟨rfl, rfl⟩
  go_wp2_with fail
  refine (need_yes 3 _).mono ?_
  rintro e wn ⟨rfl, rfl⟩
  go_wp2_with fail
  refine (need_yes 1 _).mono ?_
  rintro e wn ⟨rfl, rfl⟩
  go_wp2_with fail
  refine (need_yes 4 _).mono ?_
  rintro e wn ⟨rfl, rfl⟩
  go_wp2_with fail
  refine (need_no 4 _).mono ?_
  rintro e wn ⟨rfl, rfl⟩
  go_wp2_with fail
  exact ⟨rfl, ChkPost.bad (by omega) rfl ((Below.refl w.heap.size w).alloc (Nat.le_refl _) _)⟩
theorem expr_7_m (D : Int) (hD1 : 1 ≤ D) (hD2 : D ≤ 10) (N : Int) (of s : ByteArray) (A : Option Addr) (n c : Nat) (w : World)  (hn8 : n ≤ 8) (gN : (N == 0) = true) (hof : of.toList.isEmpty = true) (hs : s.toList.isEmpty = true) (hn2 : n ≠ 2) : Calls Tryz.prog 70 #[.agg #[.int .i64 7, .int .i64 N, .string of, .string s, .slice A n c], .int .i64 D] w (ChkPost w 4) := by
  have hn8' : (n : Int) ≤ 8 := by omega
  have e1of : of.toList.isEmpty = true := hof
  have e2of : of.toList = [] := by simpa using hof
  have e1s : s.toList.isEmpty = true := hs
  have e2s : s.toList = [] := by simpa using hs
  have n2 : ((n : Int) == 2) = false := by rw [beq_eq_false_iff_ne]; omega
  go_enter Tryz.func70, Tryz.ntmps70
  go_wp2_with fail
  refine (need_yes 1 _).mono ?_
  rintro e wn ⟨rfl, rfl⟩
  go_wp2_with fail
  refine (need_yes 3 _).mono ?_
  rintro e wn ⟨rfl, rfl⟩
  go_wp2_with fail
  refine (need_yes 1 _).mono ?_
  rintro e wn ⟨rfl, rfl⟩
  go_wp2_with fail
  refine (need_yes 4 _).mono ?_
  rintro e wn ⟨rfl, rfl⟩
  go_wp2_with fail
  refine (need_no 4 _).mono ?_
  rintro e wn ⟨rfl, rfl⟩
  go_wp2_with fail
  exact ⟨rfl, ChkPost.bad (by omega) rfl ((Below.refl w.heap.size w).alloc (Nat.le_refl _) _)⟩
theorem expr_7_ok (D : Int) (hD1 : 1 ≤ D) (hD2 : D ≤ 10) (N : Int) (of s : ByteArray) (A : Option Addr) (n c : Nat) (w : World)  (hn8 : n ≤ 8) (gN : (N == 0) = true) (hof : of.toList.isEmpty = true) (hs : s.toList.isEmpty = true) (hn2 : n = 2) (args : List Pu.Ex) (chk : Pu.Ex → Nat) (hn : args.length = n) (helem : ∀ j a, j < n → args[j]? = some a → ∃ (k1 m1 : Int) (of1 s1 : ByteArray) (A1 : Option Addr) (n1 c1 : Nat) (cs : List Value), cs = [.int .i64 k1, .int .i64 m1, .string of1, .string s1, .slice A1 n1 c1] ∧ (∃ b off, A = some ⟨b, off, none⟩ ∧ b < w.heap.size ∧ ∀ i u, cs[i]? = some u → w.cell? ⟨b, off + j * 5 + i, none⟩ = some u) ∧ ExC w (fun _ => True) a cs) (hcall : ∀ a cs W, Below w.heap.size w W → ExC w (fun _ => True) a cs → Calls Tryz.prog 70 #[.agg cs.toArray, .int .i64 (D + 1)] W (ChkPost W (chk a))) : Calls Tryz.prog 70 #[.agg #[.int .i64 7, .int .i64 N, .string of, .string s, .slice A n c], .int .i64 D] w (ChkPost w (Pu.firstFault chk args)) := by
  have hnl : n ≤ 1000000 := by omega
  obtain ⟨goal, hgoal⟩ : ∃ g, g = Pu.firstFault chk args := ⟨_, rfl⟩
  rw [← hgoal]
  replace hgoal := Lib.hid hgoal
  replace hn := Lib.hid hn
  replace helem := Lib.hid helem
  replace hcall := Lib.hid hcall
  have hn8' : (n : Int) ≤ 8 := by omega
  have e1of : of.toList.isEmpty = true := hof
  have e2of : of.toList = [] := by simpa using hof
  have e1s : s.toList.isEmpty = true := hs
  have e2s : s.toList = [] := by simpa using hs
  have n2 : ((n : Int) == 2) = true := by rw [hn2]; rfl
  replace hn2 := Lib.hid hn2
  go_enter Tryz.func70, Tryz.ntmps70
  go_wp2_with fail
  refine (need_yes 1 _).mono ?_
  rintro e wn ⟨rfl, rfl⟩
  go_wp2_with fail
  refine (need_yes 3 _).mono ?_
  rintro e wn ⟨rfl, rfl⟩
  go_wp2_with fail
  refine (need_yes 1 _).mono ?_
  rintro e wn ⟨rfl, rfl⟩
  go_wp2_with fail
  refine (need_yes 4 _).mono ?_
  rintro e wn ⟨rfl, rfl⟩
  go_wp2_with fail
  refine (need_yes 4 _).mono ?_
  rintro e wn ⟨rfl, rfl⟩
  go_wp2_with fail
  have hbelL := Lib.hid ((Below.refl w.heap.size w).alloc (Nat.le_refl _) (.cells #[.int .i64 7, .int .i64 N, .string of, .string s, .slice A n c] 53))
  go_loopw [122] (fun i wr => ∃ j : Nat, j ≤ n ∧ i = .int .i64 j ∧ goal = Pu.firstFault chk (args.drop j) ∧ Below w.heap.size w wr) (fun i _ => n - (intOf i).toNat)
  case atStart => exact ⟨0, Nat.zero_le _, rfl, hgoal.out, hbelL.out⟩
  case round =>
    obtain ⟨j, hj, rfl, hgj, hbj⟩ := hrel
    replace hgj := Lib.hid hgj
    by_cases hlt : j < n
    · obtain ⟨a, haj⟩ : ∃ a, args[j]? = some a := ⟨args[j]'(by rw [hn.out]; exact hlt), List.getElem?_eq_getElem _⟩
      obtain ⟨k1, m1, of1, s1, A1, n1, c1, cs, rfl, hcell, hcs⟩ := helem.out j a hlt haj
      have hdrop : args.drop j = a :: args.drop (j + 1) := by
        have hlj : j < args.length := by rw [hn.out]; exact hlt
        rw [List.drop_eq_getElem_cons hlj]
        rw [List.getElem?_eq_getElem hlj] at haj
        injection haj with haj
        rw [haj]
      obtain ⟨b, off, rfl, hbl, hcj⟩ := hcell
      have hbb : ∀ o u, w.cell? ⟨b, o, none⟩ = some u → wr.cell? ⟨b, o, none⟩ = some u := fun o u hu => (hbj.cell (p := ⟨b, o, none⟩) hbl).trans hu
      have v0 := hbb _ _ (hcj 0 _ rfl)
      have v1 := hbb _ _ (hcj 1 _ rfl)
      have v2 := hbb _ _ (hcj 2 _ rfl)
      have v3 := hbb _ _ (hcj 3 _ rfl)
      have v4 := hbb _ _ (hcj 4 _ rfl)
      simp only [Nat.add_zero] at v0
      have hih := fun W (hW : Below w.heap.size w W) => hcall.out a _ W hW (hcs)
      have hbj' := Lib.hid hbj
      replace hih := Lib.hid hih
      replace hdrop := Lib.hid hdrop
      clear hbb hcj hcs haj hbj
      go_wp2_with fail
      refine (hih.out _ (hbj'.out.alloc hbj'.out.size _)).mono ?_
      rintro e wk ⟨he, hbk⟩
      have hgj2 := hgj.out
      rw [hdrop.out] at hgj2
      cases hr : chk a with
      | zero =>
        rw [hr] at he
        obtain rfl : e = .returned (.tuple #[]) := he
        have hgj3 : goal = Pu.firstFault chk (args.drop (j + 1)) := by rw [hgj2]; show Pu.seq (chk a) _ = _; rw [hr]; rfl
        replace hgj2 := Lib.hid hgj2
        replace hgj3 := Lib.hid hgj3
        replace hr := Lib.hid hr
        go_wp2_with fail
        go_roundw
        case rel => exact ⟨j + 1, by omega, by go_num, hgj3.out, (hbj'.out.alloc hbj'.out.size _).trans (hbk.mono (by have := hbj'.out.size; simp; omega))⟩
        case measure => simp [intOf]; omega
      | succ r =>
        rw [hr] at he
        obtain rfl : e = .panicked [{ v := fault (r + 1), recovered := false }] := he
        have hgj3 : goal = r + 1 := by rw [hgj2]; show Pu.seq (chk a) _ = _; rw [hr]; rfl
        replace hgj2 := Lib.hid hgj2
        replace hgj3 := Lib.hid hgj3
        replace hr := Lib.hid hr
        go_wp2_with fail
        rw [hgj3.out]
        exact ⟨rfl, ChkPost.bad (by omega) rfl ((hbj'.out.alloc hbj'.out.size _).trans (hbk.mono (by have := hbj'.out.size; simp; omega)))⟩
    · have hje : args.drop j = [] := List.drop_eq_nil_of_le (by rw [hn.out]; omega)
      have hg0 : goal = 0 := by rw [hgj.out, hje]; rfl
      have hbj' := Lib.hid hbj
      replace hje := Lib.hid hje
      replace hg0 := Lib.hid hg0
      clear hbj
      go_wp2_with fail
      go_end0
      rw [hg0.out]
      exact ChkPost.ok rfl hbj'.out
end Go.Proofs.YtpfgjiapdepdmaaGreatDoor
