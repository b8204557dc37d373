/- tree.kind: what it does, whole. -/
import Derived.Test.YtpfgjiapdepdmaaGreatDoorChkK
namespace Go.Proofs.YtpfgjiapdepdmaaGreatDoor
open Go.RowKit Go.Shelf

theorem TyC.anyS {w : World} {S : Nat → Prop} {t : Pu.Ty} {cs : List Value} (h : TyC w S t cs) : TyC w (fun _ => True) t cs := h.keep (Nat.le_refl _) fun _ _ _ => ⟨rfl, trivial⟩
theorem TyC.laterA {w w' : World} {t : Pu.Ty} {cs : List Value} (h : TyC w (fun _ => True) t cs) (hb : Below w.heap.size w w') : TyC w' (fun _ => True) t cs := h.keep hb.size fun b _ hl => ⟨hb.block b hl, trivial⟩
theorem emp_of (l : List UInt8) : (⟨l.toArray⟩ : ByteArray).toList.isEmpty = l.isEmpty := by rw [toList_toArray]

theorem kind_chk : ∀ (d : Nat), d ≤ 10 → ∀ (t : Pu.Ty) (cs : List Value) (w : World), TyC w (fun _ => True) t cs →
    Calls Tryz.prog 40 #[.agg cs.toArray, .int .i64 (11 - (d : Int))] w (ChkPost w (Pu.tyFault d t))
  | 0, _, t, cs, w, h => by
    obtain ⟨k, of, nm, A, n, c, rfl⟩ := h.form
    exact kind_deep _ ⟨k, of, nm, A, n, c, rfl⟩ w
  | d + 1, hd, t, cs, w, h => by
    have ih := kind_chk d (by omega)
    obtain ⟨D, hD⟩ : ∃ D : Int, D = 11 - ((d + 1 : Nat) : Int) := ⟨_, rfl⟩
    have hD1 : 1 ≤ D := by omega
    have hD2 : D ≤ 10 := by omega
    rw [← hD]
    rw [show (11 : Int) - (d : Int) = D + 1 by omega] at ih
    cases h with
    | mk k of nm args A c css hcap hlen ha hc =>
      show Calls _ _ _ _ (ChkPost w (Pu.seq (Pu.tyOwn k of nm args.length) (Pu.firstFault (Pu.tyFault d) args)))
      by_cases k1 : k < 1
      · have e : Pu.tyOwn k of nm args.length = 3 := by
          have : decide (1 ≤ k) = false := by rw [decide_eq_false_iff_not]; omega
          simp [Pu.tyOwn, Pu.need, Pu.seq, this]
        rw [e]
        exact kind_low D hD1 hD2 k _ _ A _ c w k1
      by_cases k4 : 4 < k
      · have e : Pu.tyOwn k of nm args.length = 3 := by
          have : decide (k ≤ 4) = false := by rw [decide_eq_false_iff_not]; omega
          simp [Pu.tyOwn, Pu.need, Pu.seq, this]
        rw [e]
        exact kind_high D hD1 hD2 k _ _ A _ c w k4
      have k1' : 1 ≤ k := by omega
      have k4' : k ≤ 4 := by omega
      have hr : (decide (1 ≤ k) && decide (k ≤ 4)) = true := by simp [k1', k4']
      have own : Pu.tyOwn k of nm args.length = Pu.seq (Pu.need ((k == 3) == (args.length == 1) && decide (args.length < 2) && (k == 4 || (nm.isEmpty && of.isEmpty))) 4) (Pu.need (k != 4 || (Pu.ident nm && (of.isEmpty || Pu.ident of))) 4) := by
        unfold Pu.tyOwn
        rw [hr]
        rfl
      rw [own]
      have hnm := emp_of nm
      have hof := emp_of of
      have inm := identB_eq nm
      have iof := identB_eq of
      have hn3 : args.length = 1 ∨ args.length = 0 ∨ 2 ≤ args.length := by omega
      by_cases k3 : k = 3
      · have g3 : (k == 3) = true := by rw [k3]; rfl
        have g4 : (k == 4) = false := by rw [k3]; rfl
        have g4' : (k != 4) = true := by rw [k3]; rfl
        rw [g3, g4, g4']
        rcases hn3 with hn | hn | hn
        · have e1 : (args.length == 1) = true := by rw [hn]; rfl
          have e2 : decide (args.length < 2) = true := by rw [hn]; rfl
          rw [e1, e2]
          cases h1 : nm.isEmpty with
          | false => exact kind_list_nm D hD1 hD2 k _ _ A _ c w k1' k4' g3 g4 hn (by rw [hnm, h1])
          | true =>
            cases h2 : of.isEmpty with
            | false => exact kind_list_of D hD1 hD2 k _ _ A _ c w k1' k4' g3 g4 hn (by rw [hnm, h1]) (by rw [hof, h2])
            | true =>
              refine kind_list_ok D hD1 hD2 k _ _ A _ c w k1' k4' g3 g4 hn (by rw [hnm, h1]) (by rw [hof, h2]) args (Pu.tyFault d) rfl ?_ ?_
              · intro j a hj haj
                obtain ⟨k1, of1, nm1, A1, n1, c1, hcs⟩ := (ha j a haj).form
                obtain ⟨b, off, hA, _, hbl, hcell⟩ := hc (by omega)
                exact ⟨k1, of1, nm1, A1, n1, c1, css j, hcs, ⟨b, off, hA, hbl, fun i u hu => hcell j hj i u hu⟩, ha j a haj⟩
              · intro a cs W hW hcs
                exact ih a cs W (hcs.laterA hW)
        · have e1 : (args.length == 1) = false := by rw [hn]; rfl
          rw [e1]
          exact kind_list_n0 D hD1 hD2 k _ _ A _ c w k1' k4' g3 g4 hn
        · have e1 : (args.length == 1) = false := by rw [beq_eq_false_iff_ne]; omega
          rw [e1]
          exact kind_list_n2 D hD1 hD2 k _ _ A _ c w k1' k4' g3 g4 hn
      · have g3 : (k == 3) = false := by simpa using k3
        rw [g3]
        rcases hn3 with hn | hn | hn
        · have e1 : (args.length == 1) = true := by rw [hn]; rfl
          rw [e1]
          by_cases k4e : k = 4
          · exact kind_name_n1 D hD1 hD2 k _ _ A _ c w k1' k4' g3 (by rw [k4e]; rfl) hn
          · exact kind_flat_n1 D hD1 hD2 k _ _ A _ c w k1' k4' g3 (by simpa using k4e) hn
        · have e1 : (args.length == 1) = false := by rw [hn]; rfl
          have e2 : decide (args.length < 2) = true := by rw [hn]; rfl
          have ea : args = [] := List.eq_nil_of_length_eq_zero hn
          have ef : Pu.firstFault (Pu.tyFault d) args = 0 := by rw [ea]; rfl
          rw [e1, e2, ef]
          by_cases k4e : k = 4
          · have g4 : (k == 4) = true := by rw [k4e]; rfl
            have g4' : (k != 4) = false := by rw [k4e]; rfl
            rw [g4, g4']
            cases h1 : Pu.ident nm with
            | false => exact kind_name_nm D hD1 hD2 k _ _ A _ c w k1' k4' g3 g4 hn (by rw [inm, h1])
            | true =>
              cases h2 : of.isEmpty with
              | true => exact kind_name_ok1 D hD1 hD2 k _ _ A _ c w k1' k4' g3 g4 hn (by rw [inm, h1]) (by rw [hof, h2])
              | false =>
                cases h3 : Pu.ident of with
                | false => exact kind_name_of D hD1 hD2 k _ _ A _ c w k1' k4' g3 g4 hn (by rw [inm, h1]) (by rw [hof, h2]) (by rw [iof, h3])
                | true => exact kind_name_ok2 D hD1 hD2 k _ _ A _ c w k1' k4' g3 g4 hn (by rw [inm, h1]) (by rw [hof, h2]) (by rw [iof, h3])
          · have g4 : (k == 4) = false := by simpa using k4e
            have g4' : (k != 4) = true := by simpa using k4e
            rw [g4, g4']
            cases h1 : nm.isEmpty with
            | false => exact kind_flat_nm D hD1 hD2 k _ _ A _ c w k1' k4' g3 g4 hn (by rw [hnm, h1])
            | true =>
              cases h2 : of.isEmpty with
              | false => exact kind_flat_of D hD1 hD2 k _ _ A _ c w k1' k4' g3 g4 hn (by rw [hnm, h1]) (by rw [hof, h2])
              | true =>
                have h0 := kind_flat_ok D hD1 hD2 k _ _ A _ c w k1' k4' g3 g4 hn (by rw [hnm, h1]) (by rw [hof, h2]) args (Pu.tyFault d) rfl (fun j a hj => by omega) (fun a cs W hW hcs => ih a cs W (hcs.laterA hW))
                rw [ef] at h0
                exact h0
        · have e1 : (args.length == 1) = false := by rw [beq_eq_false_iff_ne]; omega
          have e2 : decide (args.length < 2) = false := by rw [decide_eq_false_iff_not]; omega
          rw [e1, e2]
          by_cases k4e : k = 4
          · exact kind_name_n2 D hD1 hD2 k _ _ A _ c w k1' k4' g3 (by rw [k4e]; rfl) hn
          · exact kind_flat_n2 D hD1 hD2 k _ _ A _ c w k1' k4' g3 (by simpa using k4e) hn
end Go.Proofs.YtpfgjiapdepdmaaGreatDoor
