/- The walk of token.number; numerals. -/
import Derived.Test.YtpfgjiapdepdmaaGreatDoorDigits
import Derived.Test.YtpfgjiapdepdmaaGreatDoorEnv
namespace Go.Proofs.YtpfgjiapdepdmaaGreatDoor
open Go.RowKit Go.Shelf

theorem snoc_of {α : Type} (l : List α) (h : l ≠ []) : ∃ l' c, l = l' ++ [c] := by
  rcases List.eq_nil_or_concat l with e | ⟨l', c, e⟩
  · exact absurd e h
  · exact ⟨l', c, by simpa using e⟩
def val (l : List UInt8) : Nat := l.foldl (fun n c => 10 * n + (c.toNat - 48)) 0
theorem val_snoc (l : List UInt8) (c : UInt8) : val (l ++ [c]) = 10 * val l + (c.toNat - 48) := by unfold val; rw [List.foldl_append]; rfl
theorem digit_bd {c : UInt8} (h : Pu.digit c = true) : 48 ≤ c.toNat ∧ c.toNat ≤ 57 := by
  unfold Pu.digit at h
  simp only [Bool.and_eq_true, decide_eq_true_eq, UInt8.le_iff_toNat_le] at h
  exact h
theorem ofNat_digit {c : UInt8} (h : Pu.digit c = true) : UInt8.ofNat (48 + (c.toNat - 48)) = c := by
  have := digit_bd h
  rw [show 48 + (c.toNat - 48) = c.toNat by omega]
  exact UInt8.ofNat_toNat
theorem dd_small {u : Nat} (h : u < 10) : Lib.decDigits u = [UInt8.ofNat (48 + u)] := by rw [Lib.decDigits, dif_pos h]
theorem dd_big {u : Nat} (h : ¬ u < 10) : Lib.decDigits u = Lib.decDigits (u / 10) ++ [UInt8.ofNat (48 + u % 10)] := by rw [Lib.decDigits, dif_neg h]
/-- a numeral that does not begin with 0 is what its number is written as -/
theorem dd_val : ∀ (k : Nat) (l : List UInt8), l.length = k + 1 → l.all Pu.digit = true → (∀ c t, l = c :: t → c ≠ 48) → Lib.decDigits (val l) = l ∧ 1 ≤ val l := by
  intro k
  induction k with
  | zero =>
    intro l hl hd hh
    obtain ⟨c, rfl⟩ := List.length_eq_one_iff.1 hl
    have hc : Pu.digit c = true := by simpa using hd
    have := digit_bd hc
    have hne := hh c [] rfl
    have hne2 : c.toNat ≠ 48 := fun e => hne (by apply UInt8.toNat_inj.1; exact e)
    have hv : val [c] = c.toNat - 48 := by unfold val; simp
    rw [hv]
    refine ⟨?_, by omega⟩
    rw [dd_small (by omega), ofNat_digit hc]
  | succ k ih =>
    intro l hl hd hh
    have hne : l ≠ [] := by intro e; rw [e] at hl; simp at hl
    obtain ⟨l', c, rfl⟩ : ∃ l' c, l = l' ++ [c] := snoc_of l hne
    simp only [List.all_append, Bool.and_eq_true] at hd
    have hc : Pu.digit c = true := by simpa using hd.2
    have hb := digit_bd hc
    have hl' : l'.length = k + 1 := by simpa using hl
    obtain ⟨h1, h2⟩ := ih l' hl' hd.1 (fun c' t e => hh c' (t ++ [c]) (by rw [e]; rfl))
    rw [val_snoc]
    refine ⟨?_, by omega⟩
    rw [dd_big (by omega)]
    rw [show (10 * val l' + (c.toNat - 48)) / 10 = val l' by omega, show (10 * val l' + (c.toNat - 48)) % 10 = c.toNat - 48 by omega, h1, ofNat_digit hc]
theorem val_lt : ∀ (k : Nat) (l : List UInt8), l.length = k → l.all Pu.digit = true → val l < 10 ^ k := by
  intro k
  induction k with
  | zero => intro l hl _; rw [List.eq_nil_of_length_eq_zero hl]; decide
  | succ k ih =>
    intro l hl hd
    have hne : l ≠ [] := by intro e; rw [e] at hl; simp at hl
    obtain ⟨l', c, rfl⟩ : ∃ l' c, l = l' ++ [c] := snoc_of l hne
    simp only [List.all_append, Bool.and_eq_true] at hd
    have hc : Pu.digit c = true := by simpa using hd.2
    have hb := digit_bd hc
    have := ih l' (by simpa using hl) hd.1
    rw [val_snoc, Nat.pow_succ]
    omega
theorem num_val (l : List UInt8) (h : l.all Pu.digit = true) : Pu.numOf l = (val l : Int) := by
  have : ∀ (l : List UInt8) (a : Nat), l.all Pu.digit = true → l.foldl (fun n c => 10 * n + ((c.toNat : Int) - 48)) (a : Int) = ((l.foldl (fun n c => 10 * n + (c.toNat - 48)) a : Nat) : Int) := by
    intro l
    induction l with
    | nil => intro a _; rfl
    | cons c l ih =>
      intro a h
      simp only [List.all_cons, Bool.and_eq_true] at h
      have hb := digit_bd h.1
      rw [List.foldl_cons, List.foldl_cons, ← ih _ h.2]
      congr 1
      omega
  exact this l 0 h
theorem number_itoa (s : List UInt8) (h : Pu.number s = true) : Lib.itoa (Pu.numOf s) = s ∧ 0 ≤ Pu.numOf s ∧ Pu.numOf s ≤ 999999 := by
  cases s with
  | nil => cases h
  | cons c t =>
    simp only [Pu.number, Bool.and_eq_true, decide_eq_true_eq, Bool.or_eq_true] at h
    obtain ⟨⟨hl, hd⟩, hz⟩ := h
    have hv := num_val (c :: t) hd
    have hlt := val_lt _ (c :: t) rfl hd
    have hle : val (c :: t) ≤ 999999 := by
      have : (10 : Nat) ^ (c :: t).length ≤ 10 ^ 6 := Nat.pow_le_pow_right (by omega) hl
      omega
    rw [hv]
    refine ⟨?_, by omega, by omega⟩
    rw [Lib.itoa_nonneg]
    by_cases hc : c = 48
    · rcases hz with hz | hz
      · have : t = [] := by cases t with | nil => rfl | cons a b => cases hz
        subst this
        subst hc
        rw [show val [48] = 0 from rfl, dd_small (by omega)]
        rfl
      · rw [hc] at hz; simp at hz
    · exact (dd_val t.length (c :: t) (by simp) hd (fun c' t' e => by injection e with e1 _; rw [← e1]; exact hc)).1
theorem dd_len : ∀ (k u : Nat), u < 10 ^ (k + 1) → (Lib.decDigits u).length ≤ k + 1 := by
  intro k
  induction k with
  | zero => intro u h; rw [dd_small (by simpa using h)]; simp
  | succ k ih =>
    intro u h
    by_cases hu : u < 10
    · rw [dd_small hu]; simp
    · rw [dd_big hu, List.length_append]
      have := ih (u / 10) (by rw [Nat.pow_succ] at h; omega)
      simp
      omega
theorem dd_all : ∀ (k u : Nat), u < 10 ^ (k + 1) → (Lib.decDigits u).all Pu.digit = true ∧ (1 ≤ u → ∃ c t, Lib.decDigits u = c :: t ∧ c ≠ 48) := by
  have hd : ∀ d : Nat, d < 10 → Pu.digit (UInt8.ofNat (48 + d)) = true ∧ (1 ≤ d → UInt8.ofNat (48 + d) ≠ 48) := by decide
  intro k
  induction k with
  | zero =>
    intro u h
    have hu : u < 10 := by simpa using h
    rw [dd_small hu]
    exact ⟨by rw [List.all_cons, (hd u hu).1]; rfl, fun h1 => ⟨_, _, rfl, (hd u hu).2 h1⟩⟩
  | succ k ih =>
    intro u h
    by_cases hu : u < 10
    · rw [dd_small hu]
      exact ⟨by rw [List.all_cons, (hd u hu).1]; rfl, fun h1 => ⟨_, _, rfl, (hd u hu).2 h1⟩⟩
    · obtain ⟨h1, h2⟩ := ih (u / 10) (by rw [Nat.pow_succ] at h; omega)
      obtain ⟨c, t, e, hc⟩ := h2 (by omega)
      rw [dd_big hu]
      refine ⟨?_, fun _ => ⟨c, t ++ [_], by rw [e]; rfl, hc⟩⟩
      rw [List.all_append, h1]
      rw [List.all_cons, (hd (u % 10) (by omega)).1]
      rfl
theorem dd_number (u : Nat) (h : u ≤ 999999) : Pu.number (Lib.decDigits u) = true := by
  obtain ⟨h1, h2⟩ := dd_all 5 u (by omega)
  have h3 := dd_len 5 u (by omega)
  rcases Nat.eq_zero_or_pos u with rfl | hu
  · rw [dd_small (by omega)]; rfl
  · obtain ⟨c, t, e, hc⟩ := h2 hu
    rw [e] at h1 h3 ⊢
    have e2 : (c != 48) = true := by simpa using hc
    simp only [Pu.number, h1, e2, Bool.or_true, Bool.and_true, decide_eq_true_eq]
    exact h3
/-- a number that is not one: how it shows -/
theorem number_no (s : List UInt8) (h : Pu.number s = false) (v : Int) (h0 : 0 ≤ v) (h1 : v ≤ 999999) : (Lib.itoa v == s) = false := by
  rw [beq_eq_false_iff_ne]
  intro e
  obtain ⟨n, rfl⟩ := Int.eq_ofNat_of_zero_le h0
  rw [show ((n : Nat) : Int) = Int.ofNat n from rfl] at e
  have e2 : Lib.itoa (n : Int) = s := e
  rw [Lib.itoa_nonneg] at e2
  rw [← e2, dd_number n (by omega)] at h
  cases h
theorem itoa_any (n : Int) (h0 : 0 ≤ n) (h1 : n ≤ 999999) (w : World) (hw : Env w) : Calls Tryz.prog 54 #[.int .i64 n] w fun e w' => e = .returned (.string ⟨(Lib.itoa n).toArray⟩) ∧ Below w.heap.size w w' := by
  refine (Tryz.strconv_Itoa n (by omega) (by omega) w hw.tab).mono ?_
  rintro e w' ⟨rfl, k, os, rfl⟩
  refine ⟨rfl, rfl, rfl, rfl, by simp [Go.Sort.grow], fun i hi => ?_⟩
  simp [Go.Sort.grow, Array.getElem?_append, hi]
/-- what number does -/
theorem number_any (s : List UInt8) (hs : s.length ≤ 1500) (w : World) (hw : Env w) :
    Calls Tryz.prog 94 #[.string ⟨s.toArray⟩] w fun e w' => e = .returned (.bool (Pu.number s)) ∧ Below w.heap.size w w' := by
  cases hn : Pu.number s with
  | true =>
    obtain ⟨hi, h0, h1⟩ := number_itoa s hn
    have ha := atoi_any s hn w
    have hi' := fun W hW => itoa_any (Pu.numOf s) h0 h1 W hW
    rw [hi] at hi'
    obtain ⟨v, hv⟩ : ∃ v, v = Pu.numOf s := ⟨_, rfl⟩
    rw [← hv] at ha hi' h0 h1
    replace hv := Lib.hid hv
    replace ha := Lib.hid ha
    replace hi' := Lib.hid hi'
    have hw' := Lib.hid hw
    clear hi hn hs hw
    go_enter Tryz.func94, Tryz.ntmps94
    go_wp2_with fail
    refine ha.out.mono ?_
    rintro e w1 ⟨rfl, hb1⟩
    go_wp2_with fail
    refine (hi'.out w1 (hw'.out.new hb1)).mono ?_
    rintro e w2 ⟨rfl, hb2⟩
    go_wp2_with fail
    go_ret
    exact ⟨rfl, hb1.trans (hb2.mono hb1.size)⟩
  | false =>
    have hsz : (⟨s.toArray⟩ : ByteArray).size = s.length := size_toArray s
    cases ha : Lib.atoiAll s with
    | ok v =>
      have hc := Tryz.strconv_Atoi_ok ⟨s.toArray⟩ (by rw [hsz]; omega) v ha w
      have hc2 : Calls Tryz.prog 109 #[.string ⟨s.toArray⟩] w fun e w' => e = .returned (.tuple #[.int .i64 v, .nilIface]) ∧ Below w.heap.size w w' := by
        refine hc.mono ?_
        rintro e w' ⟨rfl, rfl | ⟨t, rfl⟩⟩
        · exact ⟨rfl, Below.refl _ _⟩
        · exact ⟨rfl, rfl, rfl, rfl, by rw [Lib.bytesWorld_size]; omega, fun k hk => Lib.bytesWorld_at_old w _ t k hk⟩
      have hno := number_no s hn v
      replace hc2 := Lib.hid hc2
      replace hno := Lib.hid hno
      have hw' := Lib.hid hw
      clear hc hn hs hw ha hsz
      by_cases h0 : 0 ≤ v
      · by_cases h1 : v ≤ 999999
        · have hi' := fun W hW => itoa_any v h0 h1 W hW
          have hne := hno.out h0 h1
          replace hi' := Lib.hid hi'
          go_enter Tryz.func94, Tryz.ntmps94
          go_wp2_with fail
          refine hc2.out.mono ?_
          rintro e w1 ⟨rfl, hb1⟩
          go_wp2_with fail
          refine (hi'.out w1 (hw'.out.new hb1)).mono ?_
          rintro e w2 ⟨rfl, hb2⟩
          go_wp2_with fail
          go_ret
          exact ⟨rfl, hb1.trans (hb2.mono hb1.size)⟩
        · have h1' : ¬ v ≤ 999999 := h1
          go_enter Tryz.func94, Tryz.ntmps94
          go_wp2_with fail
          refine hc2.out.mono ?_
          rintro e w1 ⟨rfl, hb1⟩
          go_wp2_with fail
          go_ret
          exact ⟨rfl, hb1⟩
      · have h0' : ¬ 0 ≤ v := h0
        go_enter Tryz.func94, Tryz.ntmps94
        go_wp2_with fail
        refine hc2.out.mono ?_
        rintro e w1 ⟨rfl, hb1⟩
        go_wp2_with fail
        go_ret
        exact ⟨rfl, hb1⟩
    | range =>
      obtain ⟨tp, p, hv⟩ := hw.rng
      have hc := Tryz.strconv_Atoi_range_var ⟨s.toArray⟩ (by rw [hsz]; omega) ha tp p w hv
      replace hc := Lib.hid hc
      clear hn hs hw ha hsz hv
      go_enter Tryz.func94, Tryz.ntmps94
      go_wp2_with fail
      refine hc.out.mono ?_
      rintro e w1 ⟨N, rfl, _, _, hb1⟩
      go_wp2_with fail
      go_ret
      exact ⟨rfl, hb1⟩
    | _ =>
      obtain ⟨tp, p, hv⟩ := hw.syn
      have hc := Tryz.strconv_Atoi_syntax_var ⟨s.toArray⟩ (by rw [hsz]; omega) ha tp p w hv
      replace hc := Lib.hid hc
      clear hn hs hw ha hsz hv
      go_enter Tryz.func94, Tryz.ntmps94
      go_wp2_with fail
      refine hc.out.mono ?_
      rintro e w1 ⟨N, rfl, _, _, hb1⟩
      go_wp2_with fail
      go_ret
      exact ⟨rfl, hb1⟩
end Go.Proofs.YtpfgjiapdepdmaaGreatDoor
