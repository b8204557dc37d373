/- Plain: what a cut line's tokens are; no fault is 0. -/
import Derived.Test.YtpfgjiapdepdmaaGreatDoorFunLaw
namespace Go.Proofs.YtpfgjiapdepdmaaGreatDoor.Pu

/-- what a token of a cut line is -/
def Tk (t : Tok) : Prop := t.kind ≠ 0 ∧ (t.kind = 2 → number t.text = true)
theorem first_tk {s rest : Bytes} {t : Tok} (h : first s = (t, rest, true)) : Tk t := by
  cases s with
  | nil => cases h
  | cons c s =>
    simp only [first] at h
    split at h
    · injection h with h1 h2; subst h1; exact ⟨by simp, by simp⟩
    · split at h
      · injection h with h1 h2; subst h1; exact ⟨by simp, by simp⟩
      · split at h
        · injection h with h1 h2; subst h1; exact ⟨by simp, by simp⟩
        · injection h with h1 h2; injection h2 with h2 h3; subst h1; exact ⟨by simp, fun _ => h3⟩
theorem toks_tk : ∀ (k : Nat) (s : Bytes) (acc l : List Tok), toks k s acc = .ok l → (∀ t, t ∈ acc → Tk t) → ∀ t, t ∈ l → Tk t := by
  intro k
  induction k with
  | zero => intro s acc l h; cases h
  | succ k ih =>
    intro s acc l h ha
    unfold toks at h
    split at h
    · injection h with h; subst h; exact ha
    · split at h
      · rename_i tok rest hf
        refine ih _ _ _ h ?_
        intro t ht
        rcases List.mem_append.1 ht with ht | ht
        · exact ha t ht
        · simp at ht; subst ht; exact first_tk hf
      · cases h
theorem cut_tk {s : Bytes} {l : List Tok} (h : cut s = .ok l) : l.length ≤ 200 ∧ ∀ t, t ∈ l → Tk t := by
  unfold cut at h
  split at h
  · cases h
  · split at h
    · cases h
    · rename_i l' ht
      split at h
      · cases h
      · injection h with h; subst h
        exact ⟨by omega, toks_tk _ _ _ _ ht (fun t ht => by cases ht)⟩
theorem cut_fit {s : Bytes} {l : List Tok} (h : cut s = .ok l) : Fit l ∧ ∀ t, t ∈ l → t.kind ≠ 0 :=
  ⟨⟨by have := (cut_tk h).1; omega, fun t ht => ((cut_tk h).2 t ht).2⟩, fun t ht => ((cut_tk h).2 t ht).1⟩

theorem linesOf_len : ∀ s : Bytes, (linesOf s).length ≤ s.length + 1
  | [] => by simp [linesOf]
  | c :: t => by
    have ih := linesOf_len t
    unfold linesOf
    split
    · simp; omega
    · split
      · simp
      · rename_i l ls h; rw [h] at ih; simp at ih ⊢; omega
theorem linesOf_short : ∀ (s l : Bytes), l ∈ linesOf s → l.length ≤ s.length
  | [], l, h => by simp [linesOf] at h; subst h; simp
  | c :: t, l, h => by
    have ih := linesOf_short t
    unfold linesOf at h
    split at h
    · simp at h
      rcases h with rfl | h
      · simp
      · have := ih l h; simp; omega
    · split at h
      · simp at h; subst h; simp
      · rename_i l0 ls hl
        rw [hl] at ih
        simp at h
        rcases h with rfl | h
        · have := ih l0 (by simp); simp; omega
        · have := ih l (by simp [h]); simp; omega
end Go.Proofs.YtpfgjiapdepdmaaGreatDoor.Pu
