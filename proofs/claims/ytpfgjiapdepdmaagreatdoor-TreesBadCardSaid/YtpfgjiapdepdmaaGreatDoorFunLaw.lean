/- Plain: the reader's fun takes no tokens back; its loop's fuel. -/
import Derived.Test.YtpfgjiapdepdmaaGreatDoorEats
namespace Go.Proofs.YtpfgjiapdepdmaaGreatDoor.Pu

theorem andThen_assoc {α β γ : Type} (a : Except Nat α) (f : α → Except Nat β) (g : β → Except Nat γ) : andThen (andThen a f) g = andThen a fun x => andThen (f x) g := by
  cases a <;> rfl
theorem pWord_suf {l l' : List Tok} {t : Ty} (h : pWord l = .ok (t, l')) : l' <:+ l := by
  cases l with
  | nil => cases h
  | cons k l =>
    simp only [pWord] at h
    split at h
    · cases h
    · split at h
      · injection h with h; injection h with _ h; subst h; exact List.suffix_cons _ _
      · split at h
        · injection h with h; injection h with _ h; subst h; exact List.suffix_cons _ _
        · split at h
          · cases h
          · cases ht : take 46 l with
            | some l2 =>
              rw [ht] at h
              obtain ⟨r, h1, h2⟩ := andThen_inv h
              injection h2 with h2; injection h2 with _ h2; subst h2
              exact (pName_suf (s := r.1) (l1 := r.2) h1).trans ((take_suf ht).trans (List.suffix_cons _ _))
            | none =>
              rw [ht] at h
              injection h with h; injection h with _ h; subst h
              exact List.suffix_cons _ _
theorem pKind_eats : ∀ n, Eats (pKind n)
  | 0 => fun l x l' h => by cases h
  | n + 1 => fun l x l' h => by
    unfold pKind at h
    cases ht : take 91 l with
    | some l1 =>
      rw [ht] at h
      obtain ⟨r, h1, h2⟩ := andThen_inv h
      obtain ⟨l3, h3, h4⟩ := andThen_inv h2
      injection h4 with h4; injection h4 with _ h4; subst h4
      exact (must_suf h3).trans ((pKind_eats n l1 r.1 r.2 h1).trans (take_suf ht))
    | none =>
      rw [ht] at h
      exact pWord_suf h
theorem pParam_suf {l l' : List Tok} {f : Fd} (h : pParam l = .ok (f, l')) : l' <:+ l ∧ l'.length < l.length := by
  obtain ⟨r, h1, h2⟩ := andThen_inv h
  obtain ⟨l3, h3, h4⟩ := andThen_inv h2
  obtain ⟨q, h5, h6⟩ := andThen_inv h4
  injection h6 with h6; injection h6 with _ h6; subst h6
  have e1 := pName_suf (s := r.1) (l1 := r.2) h1
  have e2 := pName_len (s := r.1) (l1 := r.2) h1
  have e3 := must_suf h3
  have e4 := pKind_eats 40 l3 q.1 q.2 h5
  refine ⟨e4.trans (e3.trans e1), ?_⟩
  have := e4.length_le
  have := e3.length_le
  omega
/-- one parameter more, or none -/
def pStep (acc : List Fd) (l : List Tok) : PR (List Fd) :=
  andThen (if acc.isEmpty then .ok l else must 44 l) fun l1 => andThen (pParam l1) fun r => .ok (acc ++ [r.1], r.2)
theorem comma_suf {acc : List Fd} {l l1 : List Tok} (h : (if acc.isEmpty then Except.ok l else must 44 l) = .ok l1) : l1 <:+ l := by
  split at h
  · injection h with h; subst h; exact List.suffix_refl _
  · exact must_suf h
theorem pParams_fuel : ∀ (k k' : Nat) (acc : List Fd) (l : List Tok), l.length < k → l.length < k' → pParams k acc l = pParams k' acc l := by
  intro k
  induction k with
  | zero => intro k' acc l h1 h2; omega
  | succ k ih =>
    intro k' acc l h1 h2
    cases k' with
    | zero => omega
    | succ k' =>
      unfold pParams
      cases ht : take 41 l with
      | some l1 => rfl
      | none =>
        show andThen (if acc.isEmpty then Except.ok l else must 44 l) _ = andThen (if acc.isEmpty then Except.ok l else must 44 l) _
        cases hc : (if acc.isEmpty then Except.ok l else must 44 l) with
        | error e => rfl
        | ok l1 =>
          show andThen (pParam l1) _ = andThen (pParam l1) _
          have e1 := (comma_suf hc).length_le
          cases hp : pParam l1 with
          | error e => rfl
          | ok r =>
            have e2 := (pParam_suf (f := r.1) (l' := r.2) hp).2
            exact ih k' _ _ (by omega) (by omega)
theorem pParams_some (acc : List Fd) (l l1 : List Tok) (ht : take 41 l = some l1) : pParams (l.length + 1) acc l = .ok (acc, l1) := by
  unfold pParams
  rw [ht]
theorem pParams_none (acc : List Fd) (l : List Tok) (ht : take 41 l = none) :
    pParams (l.length + 1) acc l = andThen (if acc.isEmpty then .ok l else must 44 l) fun l1 => andThen (pParam l1) fun r => pParams (r.2.length + 1) (acc ++ [r.1]) r.2 := by
  conv => lhs; unfold pParams
  rw [ht]
  show andThen (if acc.isEmpty then Except.ok l else must 44 l) _ = andThen (if acc.isEmpty then Except.ok l else must 44 l) _
  cases hc : (if acc.isEmpty then Except.ok l else must 44 l) with
  | error e => rfl
  | ok l1 =>
    show andThen (pParam l1) _ = andThen (pParam l1) _
    have e1 := (comma_suf hc).length_le
    cases hp : pParam l1 with
    | error e => rfl
    | ok r =>
      have e2 := (pParam_suf (f := r.1) (l' := r.2) hp).2
      exact pParams_fuel _ _ _ _ (by omega) (by omega)
theorem pVar_suf {l l' : List Tok} {s : Bytes} (h : pVar l = .ok (s, l')) : l' <:+ l := by
  unfold pVar at h
  cases ht : take 60 l with
  | some l2 =>
    rw [ht] at h
    obtain ⟨r, h1, h2⟩ := andThen_inv h
    obtain ⟨l4, h3, h4⟩ := andThen_inv h2
    injection h4 with h4; injection h4 with _ h4; subst h4
    exact (must_suf h3).trans ((pName_suf (s := r.1) (l1 := r.2) h1).trans (take_suf ht))
  | none =>
    rw [ht] at h
    injection h with h; injection h with _ h; subst h
    exact List.suffix_refl _
end Go.Proofs.YtpfgjiapdepdmaaGreatDoor.Pu
