/- Plain: no reader takes tokens back; the loops' fuel. -/
import Derived.Test.YtpfgjiapdepdmaaGreatDoorEList
namespace Go.Proofs.YtpfgjiapdepdmaaGreatDoor.Pu

theorem pMore_eats {pe : List Tok → PR Ex} (he : Eats pe) (fin : UInt8) : ∀ (k : Nat) (acc : List Ex) (l : List Tok) (x : List Ex) (l' : List Tok), pMore pe fin k acc l = .ok (x, l') → l' <:+ l := by
  intro k
  induction k with
  | zero =>
    intro acc l x l' h
    obtain ⟨l1, h1, h2⟩ := andThen_inv h
    injection h2 with h2; injection h2 with _ h2; subst h2
    exact must_suf h1
  | succ k ih =>
    intro acc l x l' h
    unfold pMore at h
    cases ht : take 44 l with
    | none =>
      rw [ht] at h
      obtain ⟨l1, h1, h2⟩ := andThen_inv h
      injection h2 with h2; injection h2 with _ h2; subst h2
      exact must_suf h1
    | some l1 =>
      rw [ht] at h
      obtain ⟨r, h1, h2⟩ := andThen_inv h
      exact (ih _ _ _ _ h2).trans ((he l1 r.1 r.2 h1).trans (take_suf ht))
theorem pList_eats {pe : List Tok → PR Ex} (he : Eats pe) (fin : UInt8) : Eats (pList pe fin) := by
  intro l x l' h
  obtain ⟨r, h1, h2⟩ := andThen_inv h
  exact (pMore_eats he fin _ _ _ _ _ h2).trans (he l r.1 r.2 h1)
theorem pArgs_eats {pe : List Tok → PR Ex} (he : Eats pe) (of s : Bytes) : Eats (pArgs pe of s) := by
  intro l x l' h
  unfold pArgs at h
  cases ht : take 41 l with
  | some l1 =>
    rw [ht] at h
    injection h with h; injection h with _ h; subst h
    exact take_suf ht
  | none =>
    rw [ht] at h
    obtain ⟨r, h1, h2⟩ := andThen_inv h
    injection h2 with h2; injection h2 with _ h2; subst h2
    exact pList_eats he 41 l r.1 r.2 h1
theorem pNamed_eats {pe : List Tok → PR Ex} (he : Eats pe) (s : Bytes) : Eats (pNamed pe s) := by
  intro l x l' h
  unfold pNamed at h
  cases ht : take 46 l with
  | some l1 =>
    rw [ht] at h
    obtain ⟨r, h1, h2⟩ := andThen_inv h
    obtain ⟨l3, h3, h4⟩ := andThen_inv h2
    exact (pArgs_eats he s r.1 l3 x l' h4).trans ((must_suf h3).trans ((pName_suf (s := r.1) (l1 := r.2) h1).trans (take_suf ht)))
  | none =>
    rw [ht] at h
    cases ht2 : take 40 l with
    | none =>
      rw [ht2] at h
      injection h with h; injection h with _ h; subst h
      exact List.suffix_refl _
    | some l1 =>
      rw [ht2] at h
      exact (pArgs_eats he [] s l1 x l' h).trans (take_suf ht2)
theorem pLeaf_eats {pe : List Tok → PR Ex} (he : Eats pe) : Eats (pLeaf pe) := by
  intro l x l' h
  cases l with
  | nil => cases h
  | cons t l =>
    simp only [pLeaf] at h
    split at h
    · injection h with h; injection h with _ h; subst h; exact List.suffix_cons _ _
    · split at h
      · injection h with h; injection h with _ h; subst h; exact List.suffix_cons _ _
      · split at h
        · exact (pNamed_eats he t.text l x l' h).trans (List.suffix_cons _ _)
        · cases h
theorem pAtom_eats {pe : List Tok → PR Ex} (he : Eats pe) : Eats (pAtom pe) := by
  intro l x l' h
  unfold pAtom at h
  cases ht : take 40 l with
  | some l1 =>
    rw [ht] at h
    obtain ⟨r, h1, h2⟩ := andThen_inv h
    obtain ⟨l3, h3, h4⟩ := andThen_inv h2
    injection h4 with h4; injection h4 with _ h4; subst h4
    exact (must_suf h3).trans ((he l1 r.1 r.2 h1).trans (take_suf ht))
  | none =>
    rw [ht] at h
    cases ht2 : take 91 l with
    | some l1 =>
      rw [ht2] at h
      obtain ⟨r, h1, h2⟩ := andThen_inv h
      injection h2 with h2; injection h2 with _ h2; subst h2
      exact (pList_eats he 93 l1 r.1 r.2 h1).trans (take_suf ht2)
    | none =>
      rw [ht2] at h
      exact pLeaf_eats he l x l' h
theorem pAts_eats {pe : List Tok → PR Ex} (he : Eats pe) : ∀ (k : Nat) (x0 : Ex) (l : List Tok) (x : Ex) (l' : List Tok), pAts pe k x0 l = .ok (x, l') → l' <:+ l := by
  intro k
  induction k with
  | zero =>
    intro x0 l x l' h
    injection h with h; injection h with _ h; subst h
    exact List.suffix_refl _
  | succ k ih =>
    intro x0 l x l' h
    unfold pAts at h
    cases ht : take 91 l with
    | none =>
      rw [ht] at h
      injection h with h; injection h with _ h; subst h
      exact List.suffix_refl _
    | some l1 =>
      rw [ht] at h
      obtain ⟨r, h1, h2⟩ := andThen_inv h
      obtain ⟨l3, h3, h4⟩ := andThen_inv h2
      exact (ih _ _ _ _ h4).trans ((must_suf h3).trans ((he l1 r.1 r.2 h1).trans (take_suf ht)))
theorem pPost_eats {pe : List Tok → PR Ex} (he : Eats pe) : Eats (pPost pe) := by
  intro l x l' h
  obtain ⟨r, h1, h2⟩ := andThen_inv h
  exact (pAts_eats he _ _ _ _ _ h2).trans (pAtom_eats he l r.1 r.2 h1)
theorem pSums_eats {post : List Tok → PR Ex} (he : Eats post) : ∀ (k : Nat) (x0 : Ex) (l : List Tok) (x : Ex) (l' : List Tok), pSums post k x0 l = .ok (x, l') → l' <:+ l := by
  intro k
  induction k with
  | zero =>
    intro x0 l x l' h
    injection h with h; injection h with _ h; subst h
    exact List.suffix_refl _
  | succ k ih =>
    intro x0 l x l' h
    unfold pSums at h
    cases ht : take 43 l with
    | none =>
      rw [ht] at h
      injection h with h; injection h with _ h; subst h
      exact List.suffix_refl _
    | some l1 =>
      rw [ht] at h
      obtain ⟨r, h1, h2⟩ := andThen_inv h
      exact (ih _ _ _ _ h2).trans ((he l1 r.1 r.2 h1).trans (take_suf ht))
theorem pExpr_eats : ∀ n, Eats (pExpr n)
  | 0 => fun l x l' h => by cases h
  | n + 1 => fun l x l' h => by
    obtain ⟨r, h1, h2⟩ := andThen_inv h
    exact (pSums_eats (pPost_eats (pExpr_eats n)) _ _ _ _ _ h2).trans (pPost_eats (pExpr_eats n) l r.1 r.2 h1)

theorem pAts_fuel {pe : List Tok → PR Ex} (he : Eats pe) : ∀ (k k' : Nat) (x : Ex) (l : List Tok), l.length ≤ k → l.length ≤ k' → pAts pe k x l = pAts pe k' x l := by
  intro k
  induction k with
  | zero =>
    intro k' x l h1 h2
    have hl : l = [] := List.eq_nil_of_length_eq_zero (by omega)
    subst hl
    cases k' <;> rfl
  | succ k ih =>
    intro k' x l h1 h2
    cases k' with
    | zero =>
      have hl : l = [] := List.eq_nil_of_length_eq_zero (by omega)
      subst hl
      rfl
    | succ k' =>
      unfold pAts
      cases ht : take 91 l with
      | none => rfl
      | some l1 =>
        have hl1 := take_len ht
        dsimp only
        cases hp : pe l1 with
        | error e => rfl
        | ok r =>
          have := (he l1 r.1 r.2 hp).length_le
          show andThen (must 93 r.2) _ = andThen (must 93 r.2) _
          cases hm : must 93 r.2 with
          | error e => rfl
          | ok l3 =>
            have := must_len hm
            exact ih k' _ _ (by omega) (by omega)
theorem pAts_none {pe : List Tok → PR Ex} (x : Ex) (l : List Tok) (ht : take 91 l = none) : pAts pe l.length x l = .ok (x, l) := by
  cases hl : l.length with
  | zero => rfl
  | succ k => unfold pAts; rw [ht]
theorem pAts_some {pe : List Tok → PR Ex} (he : Eats pe) (x : Ex) (l l1 : List Tok) (ht : take 91 l = some l1) :
    pAts pe l.length x l = andThen (pe l1) fun r => andThen (must 93 r.2) fun l3 => pAts pe l3.length (.mk 7 0 [] [] [x, r.1]) l3 := by
  have hl1 := take_len ht
  cases hl : l.length with
  | zero => omega
  | succ k =>
    conv => lhs; unfold pAts
    rw [ht]
    dsimp only
    cases hp : pe l1 with
    | error e => rfl
    | ok r =>
      have := (he l1 r.1 r.2 hp).length_le
      show andThen (must 93 r.2) _ = andThen (must 93 r.2) _
      cases hm : must 93 r.2 with
      | error e => rfl
      | ok l3 =>
        have := must_len hm
        exact pAts_fuel he _ _ _ _ (by omega) (Nat.le_refl _)
theorem pSums_fuel {post : List Tok → PR Ex} (he : Eats post) : ∀ (k k' : Nat) (x : Ex) (l : List Tok), l.length ≤ k → l.length ≤ k' → pSums post k x l = pSums post k' x l := by
  intro k
  induction k with
  | zero =>
    intro k' x l h1 h2
    have hl : l = [] := List.eq_nil_of_length_eq_zero (by omega)
    subst hl
    cases k' <;> rfl
  | succ k ih =>
    intro k' x l h1 h2
    cases k' with
    | zero =>
      have hl : l = [] := List.eq_nil_of_length_eq_zero (by omega)
      subst hl
      rfl
    | succ k' =>
      unfold pSums
      cases ht : take 43 l with
      | none => rfl
      | some l1 =>
        have hl1 := take_len ht
        dsimp only
        cases hp : post l1 with
        | error e => rfl
        | ok r =>
          have := (he l1 r.1 r.2 hp).length_le
          exact ih k' _ _ (by omega) (by omega)
theorem pSums_none {post : List Tok → PR Ex} (x : Ex) (l : List Tok) (ht : take 43 l = none) : pSums post l.length x l = .ok (x, l) := by
  cases hl : l.length with
  | zero => rfl
  | succ k => unfold pSums; rw [ht]
theorem pSums_some {post : List Tok → PR Ex} (he : Eats post) (x : Ex) (l l1 : List Tok) (ht : take 43 l = some l1) :
    pSums post l.length x l = andThen (post l1) fun r => pSums post r.2.length (.mk 5 0 [] [] [x, r.1]) r.2 := by
  have hl1 := take_len ht
  cases hl : l.length with
  | zero => omega
  | succ k =>
    conv => lhs; unfold pSums
    rw [ht]
    dsimp only
    cases hp : post l1 with
    | error e => rfl
    | ok r =>
      have := (he l1 r.1 r.2 hp).length_le
      exact pSums_fuel he _ _ _ _ (by omega) (Nat.le_refl _)
end Go.Proofs.YtpfgjiapdepdmaaGreatDoor.Pu
