/- tree.expr: what it does, whole. -/
import Derived.Test.YtpfgjiapdepdmaaGreatDoorChkE
namespace Go.Proofs.YtpfgjiapdepdmaaGreatDoor
open Go.RowKit Go.Shelf

theorem ExC.anyS {w : World} {S : Nat → Prop} {t : Pu.Ex} {cs : List Value} (h : ExC w S t cs) : ExC w (fun _ => True) t cs := h.keep (Nat.le_refl _) fun _ _ _ => ⟨rfl, trivial⟩
theorem ExC.laterA {w w' : World} {t : Pu.Ex} {cs : List Value} (h : ExC w (fun _ => True) t cs) (hb : Below w.heap.size w w') : ExC w' (fun _ => True) t cs := h.keep hb.size fun b _ hl => ⟨hb.block b hl, trivial⟩
theorem exOwn_eq (k m : Int) (of s : List UInt8) (n : Nat) (h1 : 1 ≤ k) (h7 : k ≤ 7) (h8 : n ≤ 8) : Pu.exOwn k m of s n =
    Pu.seq (Pu.need ((k == 1 || m == 0) && (k == 4 || of.isEmpty)) 4) (Pu.seq (Pu.need (Pu.exForm k s of n) 4) (Pu.need (k != 1 || (0 ≤ m && m ≤ 999999)) 2)) := by
  have hr : (decide (1 ≤ k) && decide (k ≤ 7)) = true := by simp [h1, h7]
  have h8' : decide (n ≤ 8) = true := by simpa using h8
  unfold Pu.exOwn
  rw [hr, h8']
  rfl
theorem seq_pos {a b : Nat} (h : a ≠ 0) : Pu.seq a b = a := by unfold Pu.seq; rw [if_neg h]
theorem seq_zero (b : Nat) : Pu.seq 0 b = b := rfl

theorem expr_chk : ∀ (d : Nat), d ≤ 10 → ∀ (t : Pu.Ex) (cs : List Value) (w : World), ExC w (fun _ => True) t cs →
    Calls Tryz.prog 70 #[.agg cs.toArray, .int .i64 (11 - (d : Int))] w (ChkPost w (Pu.exFault d t))
  | 0, _, t, cs, w, h => by
    obtain ⟨k, N, of, nm, A, n, c, rfl⟩ := h.form
    exact expr_deep _ ⟨k, N, of, nm, A, n, c, rfl⟩ w
  | d + 1, hd, t, cs, w, h => by
    have ih := expr_chk d (by omega)
    obtain ⟨D, hD⟩ : ∃ D : Int, D = 11 - ((d + 1 : Nat) : Int) := ⟨_, rfl⟩
    have hD1 : 1 ≤ D := by omega
    have hD2 : D ≤ 10 := by omega
    rw [← hD]
    rw [show (11 : Int) - (d : Int) = D + 1 by omega] at ih
    cases h with
    | mk k N of s args A c css hcap hlen ha hc =>
      have hcall : ∀ a cs W, Below w.heap.size w W → ExC w (fun _ => True) a cs → Calls Tryz.prog 70 #[.agg cs.toArray, .int .i64 (D + 1)] W (ChkPost W (Pu.exFault d a)) := fun a cs W hW hcs => ih a cs W (hcs.laterA hW)
      have helem : ∀ j a, j < args.length → args[j]? = some a → ∃ (k1 m1 : Int) (of1 s1 : ByteArray) (A1 : Option Addr) (n1 c1 : Nat) (cs : List Value), cs = [.int .i64 k1, .int .i64 m1, .string of1, .string s1, .slice A1 n1 c1] ∧ (∃ b off, A = some ⟨b, off, none⟩ ∧ b < w.heap.size ∧ ∀ i u, cs[i]? = some u → w.cell? ⟨b, off + j * 5 + i, none⟩ = some u) ∧ ExC w (fun _ => True) a cs := by
        intro j a hj haj
        obtain ⟨k1, m1, of1, nm1, A1, n1, c1, hcs⟩ := (ha j a haj).form
        obtain ⟨b, off, hA, _, hbl, hcell⟩ := hc (by omega)
        exact ⟨k1, m1, of1, nm1, A1, n1, c1, css j, hcs, ⟨b, off, hA, hbl, fun i u hu => hcell j hj i u hu⟩, ha j a haj⟩
      have hof := emp_of of
      have hsx := emp_of s
      have isx := identB_eq s
      have iof := identB_eq of
      have qsx := quotB_eq s
      show Calls _ _ _ _ (ChkPost w (Pu.seq (Pu.exOwn k N of s args.length) (Pu.firstFault (Pu.exFault d) args)))
      by_cases k1 : k < 1
      · have e : Pu.exOwn k N of s args.length = 3 := by
          have : decide (1 ≤ k) = false := by rw [decide_eq_false_iff_not]; omega
          simp [Pu.exOwn, Pu.need, Pu.seq, this]
        rw [e]
        exact expr_low D hD1 hD2 k N _ _ A _ c w k1
      by_cases k7 : 7 < k
      · have e : Pu.exOwn k N of s args.length = 3 := by
          have : decide (k ≤ 7) = false := by rw [decide_eq_false_iff_not]; omega
          simp [Pu.exOwn, Pu.need, Pu.seq, this]
        rw [e]
        exact expr_high D hD1 hD2 k N _ _ A _ c w k7
      have k1' : 1 ≤ k := by omega
      have k7' : k ≤ 7 := by omega
      by_cases n8 : 8 < args.length
      · have e : Pu.exOwn k N of s args.length = 1 := by
          have hr : (decide (1 ≤ k) && decide (k ≤ 7)) = true := by simp [k1', k7']
          have : decide (args.length ≤ 8) = false := by rw [decide_eq_false_iff_not]; omega
          unfold Pu.exOwn
          rw [hr, this]
          rfl
        rw [e]
        exact expr_many D hD1 hD2 k N _ _ A _ c w k1' k7' n8
      have n8' : args.length ≤ 8 := by omega
      rw [exOwn_eq k N of s _ k1' k7' n8']
      by_cases hk1 : k = 1
      · subst hk1
        rw [show ((1 : Int) == 1 || N == 0) = true by rfl, show ((1 : Int) == 4 || of.isEmpty) = of.isEmpty by rfl, show ((1 : Int) != 1 || (decide (0 ≤ N) && decide (N ≤ 999999))) = (decide (0 ≤ N) && decide (N ≤ 999999)) by rfl,
          show Pu.exForm 1 s of args.length = (s.isEmpty && args.length == 0) by rfl]
        cases h2 : of.isEmpty with
        | false => exact expr_of1 D hD1 hD2 1 N _ _ A _ c w k1' k7' n8' rfl rfl (by rw [hof, h2])
        | true =>
          cases h3 : s.isEmpty with
          | false => exact expr_1_s D hD1 hD2 N _ _ A _ c w n8' (by rw [hof, h2]) (by rw [hsx, h3])
          | true =>
            by_cases hn : args.length = 0
            · rw [hn]
              by_cases hN : N < 0
              · have : decide (0 ≤ N) = false := by rw [decide_eq_false_iff_not]; omega
                rw [this]
                exact expr_1_neg D hD1 hD2 N _ _ A _ c w (by omega) (by rw [hof, h2]) (by rw [hsx, h3]) rfl hN
              · by_cases hN2 : 999999 < N
                · have e1 : decide (0 ≤ N) = true := by rw [decide_eq_true_iff]; omega
                  have e2 : decide (N ≤ 999999) = false := by rw [decide_eq_false_iff_not]; omega
                  rw [e1, e2]
                  exact expr_1_big D hD1 hD2 N _ _ A _ c w (by omega) (by rw [hof, h2]) (by rw [hsx, h3]) rfl hN2
                · have e1 : decide (0 ≤ N) = true := by rw [decide_eq_true_iff]; omega
                  have e2 : decide (N ≤ 999999) = true := by rw [decide_eq_true_iff]; omega
                  rw [e1, e2]
                  exact expr_1_ok D hD1 hD2 N _ _ A _ c w (by omega) (by rw [hof, h2]) (by rw [hsx, h3]) rfl (by omega) (by omega) args (Pu.exFault d) hn (fun j a hj => by omega) hcall
            · have e0 : (args.length == 0) = false := by simpa using hn
              rw [e0]
              exact expr_1_m D hD1 hD2 N _ _ A _ c w n8' (by rw [hof, h2]) (by rw [hsx, h3]) (by omega)
      · have g1 : (k == 1) = false := by simpa using hk1
        have g1' : (k != 1) = true := by simpa using hk1
        rw [g1, g1']
        cases hN : (N == 0) with
        | false => exact expr_n D hD1 hD2 k N _ _ A _ c w k1' k7' n8' g1 hN
        | true =>
          by_cases hk4 : k = 4
          · subst hk4
            rw [show ((4 : Int) == 4 || of.isEmpty) = true by rfl, show Pu.exForm 4 s of args.length = (Pu.ident s && (of.isEmpty || Pu.ident of)) by rfl]
            cases h3 : Pu.ident s with
            | false => exact expr_4_s D hD1 hD2 N _ _ A _ c w n8' hN (by rw [isx, h3])
            | true =>
              cases h2 : of.isEmpty with
              | true => exact expr_4_ok1 D hD1 hD2 N _ _ A _ c w n8' hN (by rw [isx, h3]) (by rw [hof, h2]) args (Pu.exFault d) rfl helem hcall
              | false =>
                cases h4 : Pu.ident of with
                | false => exact expr_4_of D hD1 hD2 N _ _ A _ c w n8' hN (by rw [isx, h3]) (by rw [hof, h2]) (by rw [iof, h4])
                | true => exact expr_4_ok2 D hD1 hD2 N _ _ A _ c w n8' hN (by rw [isx, h3]) (by rw [hof, h2]) (by rw [iof, h4]) args (Pu.exFault d) rfl helem hcall
          · have g4 : (k == 4) = false := by simpa using hk4
            rw [g4]
            cases h2 : of.isEmpty with
            | false => exact expr_of D hD1 hD2 k N _ _ A _ c w k1' k7' n8' g1 hN g4 (by rw [hof, h2])
            | true =>
              have hk : k = 2 ∨ k = 3 ∨ k = 5 ∨ k = 6 ∨ k = 7 := by omega
              rcases hk with rfl | rfl | rfl | rfl | rfl
              · rw [show Pu.exForm 2 s of args.length = (Pu.quotable s && args.length == 0) by rfl]
                cases h3 : Pu.quotable s with
                | false => exact expr_2_s D hD1 hD2 N _ _ A _ c w n8' hN (by rw [hof, h2]) (by rw [qsx, h3])
                | true =>
                  by_cases hn : args.length = 0
                  · rw [hn]
                    exact expr_2_ok D hD1 hD2 N _ _ A _ c w (by omega) hN (by rw [hof, h2]) (by rw [qsx, h3]) rfl args (Pu.exFault d) hn (fun j a hj => by omega) hcall
                  · have e0 : (args.length == 0) = false := by simpa using hn
                    rw [e0]
                    exact expr_2_m D hD1 hD2 N _ _ A _ c w n8' hN (by rw [hof, h2]) (by rw [qsx, h3]) (by omega)
              · rw [show Pu.exForm 3 s of args.length = (Pu.ident s && args.length == 0) by rfl]
                cases h3 : Pu.ident s with
                | false => exact expr_3_s D hD1 hD2 N _ _ A _ c w n8' hN (by rw [hof, h2]) (by rw [isx, h3])
                | true =>
                  by_cases hn : args.length = 0
                  · rw [hn]
                    exact expr_3_ok D hD1 hD2 N _ _ A _ c w (by omega) hN (by rw [hof, h2]) (by rw [isx, h3]) rfl args (Pu.exFault d) hn (fun j a hj => by omega) hcall
                  · have e0 : (args.length == 0) = false := by simpa using hn
                    rw [e0]
                    exact expr_3_m D hD1 hD2 N _ _ A _ c w n8' hN (by rw [hof, h2]) (by rw [isx, h3]) (by omega)
              · rw [show Pu.exForm 5 s of args.length = (s.isEmpty && args.length == 2) by rfl]
                cases h3 : s.isEmpty with
                | false => exact expr_5_s D hD1 hD2 N _ _ A _ c w n8' hN (by rw [hof, h2]) (by rw [hsx, h3])
                | true =>
                  by_cases hn : args.length = 2
                  · have e0 : (args.length == 2) = true := by rw [hn]; rfl
                    rw [e0]
                    exact expr_5_ok D hD1 hD2 N _ _ A _ c w n8' hN (by rw [hof, h2]) (by rw [hsx, h3]) hn args (Pu.exFault d) rfl helem hcall
                  · have e0 : (args.length == 2) = false := by simpa using hn
                    rw [e0]
                    exact expr_5_m D hD1 hD2 N _ _ A _ c w n8' hN (by rw [hof, h2]) (by rw [hsx, h3]) hn
              · rw [show Pu.exForm 6 s of args.length = (s.isEmpty && decide (0 < args.length)) by rfl]
                cases h3 : s.isEmpty with
                | false => exact expr_6_s D hD1 hD2 N _ _ A _ c w n8' hN (by rw [hof, h2]) (by rw [hsx, h3])
                | true =>
                  by_cases hn : 0 < args.length
                  · have e0 : decide (0 < args.length) = true := by simpa using hn
                    rw [e0]
                    exact expr_6_ok D hD1 hD2 N _ _ A _ c w n8' hN (by rw [hof, h2]) (by rw [hsx, h3]) hn args (Pu.exFault d) rfl helem hcall
                  · have e0 : decide (0 < args.length) = false := by rw [decide_eq_false_iff_not]; exact hn
                    rw [e0]
                    exact expr_6_m D hD1 hD2 N _ _ A _ c w n8' hN (by rw [hof, h2]) (by rw [hsx, h3]) (by omega)
              · rw [show Pu.exForm 7 s of args.length = (s.isEmpty && args.length == 2) by rfl]
                cases h3 : s.isEmpty with
                | false => exact expr_7_s D hD1 hD2 N _ _ A _ c w n8' hN (by rw [hof, h2]) (by rw [hsx, h3])
                | true =>
                  by_cases hn : args.length = 2
                  · have e0 : (args.length == 2) = true := by rw [hn]; rfl
                    rw [e0]
                    exact expr_7_ok D hD1 hD2 N _ _ A _ c w n8' hN (by rw [hof, h2]) (by rw [hsx, h3]) hn args (Pu.exFault d) rfl helem hcall
                  · have e0 : (args.length == 2) = false := by simpa using hn
                    rw [e0]
                    exact expr_7_m D hD1 hD2 N _ _ A _ c w n8' hN (by rw [hof, h2]) (by rw [hsx, h3]) hn
end Go.Proofs.YtpfgjiapdepdmaaGreatDoor
