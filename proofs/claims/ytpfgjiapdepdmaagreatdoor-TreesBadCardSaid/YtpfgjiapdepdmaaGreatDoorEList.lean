/- Lists of expressions that a call makes; what the reader's list reads. -/
import Derived.Test.YtpfgjiapdepdmaaGreatDoorKind
import Derived.Test.YtpfgjiapdepdmaaGreatDoorApp
import Derived.Laws.OwnMore
namespace Go.Proofs.YtpfgjiapdepdmaaGreatDoor
open Go.RowKit Go.Shelf

/-! the plain side: fuel -/
namespace Pu
theorem take_len {c : UInt8} {l l1 : List Tok} (h : take c l = some l1) : l1.length + 1 = l.length := by
  cases l with
  | nil => simp [take] at h
  | cons t l =>
    simp only [take] at h
    split at h
    · injection h with h; subst h; rfl
    · cases h
theorem take_suf {c : UInt8} {l l1 : List Tok} (h : take c l = some l1) : l1 <:+ l := by
  cases l with
  | nil => simp [take] at h
  | cons t l =>
    simp only [take] at h
    split at h
    · injection h with h; subst h; exact List.suffix_cons _ _
    · cases h
theorem must_len {c : UInt8} {l l1 : List Tok} (h : must c l = .ok l1) : l1.length + 1 = l.length := by
  unfold must at h
  cases ht : take c l with
  | none => rw [ht] at h; cases h
  | some l' =>
    rw [ht] at h
    injection h with h
    subst h
    exact take_len ht
theorem must_suf {c : UInt8} {l l1 : List Tok} (h : must c l = .ok l1) : l1 <:+ l := by
  unfold must at h
  cases ht : take c l with
  | none => rw [ht] at h; cases h
  | some l' =>
    rw [ht] at h
    injection h with h
    subst h
    exact take_suf ht
theorem pName_suf {l l1 : List Tok} {s : Bytes} (h : pName l = .ok (s, l1)) : l1 <:+ l := by
  cases l with
  | nil => cases h
  | cons t l =>
    simp only [pName] at h
    split at h
    · injection h with h; injection h with h1 h2; subst h2; exact List.suffix_cons _ _
    · cases h
/-- tokens as they are cut: not too many; digits that are a number -/
def Fit (l : List Tok) : Prop := l.length ≤ 1000 ∧ ∀ t, t ∈ l → t.kind = 2 → number t.text = true
theorem Fit.suf {l l' : List Tok} (h : Fit l) (hs : l' <:+ l) : Fit l' := ⟨Nat.le_trans hs.length_le h.1, fun t ht => h.2 t (hs.mem ht)⟩
theorem pName_len {l l1 : List Tok} {s : Bytes} (h : pName l = .ok (s, l1)) : l1.length + 1 = l.length := by
  cases l with
  | nil => cases h
  | cons t l =>
    simp only [pName] at h
    split at h
    · injection h with h; injection h with h1 h2; subst h2; rfl
    · cases h
/-- a reader takes no tokens back -/
def Eats {α : Type} (p : List Tok → PR α) : Prop := ∀ l x l', p l = .ok (x, l') → l' <:+ l
theorem andThen_inv {α β : Type} {r : Except Nat α} {f : α → Except Nat β} {b : β} (h : andThen r f = .ok b) : ∃ a, r = .ok a ∧ f a = .ok b := by
  cases r with
  | error e => cases h
  | ok a => exact ⟨a, rfl, h⟩
theorem pMore_fuel {pe : List Tok → PR Ex} (he : Eats pe) (fin : UInt8) : ∀ (k k' : Nat) (acc : List Ex) (l : List Tok), l.length ≤ k → l.length ≤ k' → pMore pe fin k acc l = pMore pe fin k' acc l := by
  intro k
  induction k with
  | zero =>
    intro k' acc l h1 h2
    have hl : l = [] := List.eq_nil_of_length_eq_zero (by omega)
    subst hl
    cases k' <;> rfl
  | succ k ih =>
    intro k' acc l h1 h2
    cases k' with
    | zero =>
      have hl : l = [] := List.eq_nil_of_length_eq_zero (by omega)
      subst hl
      rfl
    | succ k' =>
      unfold pMore
      cases ht : take 44 l with
      | none => rfl
      | some l1 =>
        have hl1 := take_len ht
        dsimp only
        cases hp : pe l1 with
        | error e => rfl
        | ok r =>
          have := (he l1 r.1 r.2 hp).length_le
          show pMore pe fin k (acc ++ [r.1]) r.2 = pMore pe fin k' (acc ++ [r.1]) r.2
          exact ih k' _ _ (by omega) (by omega)
theorem pMore_none {pe : List Tok → PR Ex} (fin : UInt8) (acc : List Ex) (l : List Tok) (ht : take 44 l = none) : pMore pe fin l.length acc l = andThen (must fin l) fun l1 => .ok (acc, l1) := by
  cases hl : l.length with
  | zero => rfl
  | succ k =>
    unfold pMore
    rw [ht]
theorem pMore_some {pe : List Tok → PR Ex} (he : Eats pe) (fin : UInt8) (acc : List Ex) (l l1 : List Tok) (ht : take 44 l = some l1) :
    pMore pe fin l.length acc l = andThen (pe l1) fun r => pMore pe fin r.2.length (acc ++ [r.1]) r.2 := by
  have hl1 := take_len ht
  cases hl : l.length with
  | zero => omega
  | succ k =>
    conv => lhs; unfold pMore
    rw [ht]
    dsimp only
    cases hp : pe l1 with
    | error e => rfl
    | ok r =>
      have := (he l1 r.1 r.2 hp).length_le
      show pMore pe fin k (acc ++ [r.1]) r.2 = pMore pe fin r.2.length (acc ++ [r.1]) r.2
      exact pMore_fuel he fin _ _ _ _ (by omega) (Nat.le_refl _)
end Pu

/-- how many tokens are left, as the world says -/
def tokLeft (w : World) (R : Nat) : Nat := match w.cell? ⟨R, 0, none⟩ with
  | some (.slice _ n _) => n
  | _ => 0
theorem Rd.left {w : World} {R : Nat} {l : List Pu.Tok} {d : Int} (h : Rd w R l d) : tokLeft w R = l.length := by
  obtain ⟨A, c, hb, _⟩ := h
  unfold tokLeft
  rw [hb.cell 0]
  rfl

theorem info_ex : (Tryz.prog.info? 53).map (fun i => (i.zero, i.size, i.bytes)) = some (some (.agg #[.int .i64 0, .int .i64 0, .string ⟨#[]⟩, .string ⟨#[]⟩, .slice none 0 0]), 5, 72) := by kernel_rfl

/-- expressions in a row of the call's own -/
def OwnE (w : World) (B : Nat) (v : Value) (xs : List Pu.Ex) : Prop :=
  ∃ cells : List Value, w.ownsRow B 53 5 v xs.length cells ∧ ∀ i x, xs[i]? = some x → ExC w (fun b => B ≤ b ∧ some b ≠ v.ownBlock) x ((cells.drop (i * 5)).take 5)
theorem OwnE.nil (w : World) (B : Nat) : OwnE w B (.slice none 0 0) [] := ⟨[], World.ownsRow_nil _ _ _ _, fun i x h => by simp at h⟩
theorem OwnE.later {w w' : World} {B R : Nat} {v : Value} {xs : List Pu.Ex} (h : OwnE w B v xs) (hg : w.grownBy w' (some R)) (hR : R < B) : OwnE w' B v xs := by
  obtain ⟨cells, h1, h2⟩ := h
  refine ⟨cells, h1.kept hg ?_, fun i x hx => (h2 i x hx).keep hg.size fun b hs hb => ⟨hg.block b hb (fun e => by injection e; omega), hs⟩⟩
  rcases hv : v.ownBlock with _ | g
  · exact .inl rfl
  · right
    intro e
    injection e with e
    have := (h1.lt g hv).1
    omega
theorem OwnE.alloc {w : World} {B : Nat} {v : Value} {xs : List Pu.Ex} (h : OwnE w B v xs) (o : Obj) : OwnE (w.alloc o) B v xs := by
  obtain ⟨cells, h1, h2⟩ := h
  exact ⟨cells, h1.alloc o, fun i x hx => (h2 i x hx).keep (by simp) fun b hs hb => ⟨Below.heap_alloc w o b hb, hs⟩⟩
/-- the list's value, as an expression's places -/
theorem OwnE.toEx {w : World} {B : Nat} {v : Value} {xs : List Pu.Ex} (h : OwnE w B v xs) : ∃ A c, v = .slice A xs.length c ∧ ∀ (k n : Int) (of s : List UInt8), ExC w (New B) (.mk k n of s xs) [.int .i64 k, .int .i64 n, str of, str s, v] := by
  obtain ⟨cells, h1, h2⟩ := h
  have h1' := h1
  rcases h1.2 with ⟨rfl, hc⟩ | ⟨g, cap, cur, rfl, hg, hh, hnc, r⟩
  · have hx : xs = [] := by
      have := h1.1
      rw [hc] at this
      exact List.eq_nil_of_length_eq_zero (by simp at this; omega)
    subst hx
    exact ⟨none, 0, rfl, fun k n of s => ExC.leaf _ _ _ _ _ _⟩
  · refine ⟨some ⟨g, 0, none⟩, cap, rfl, fun k n of s => ?_⟩
    have hlen := h1.1
    refine .mk k n of s xs _ cap (fun i => (cells.drop (i * 5)).take 5) hnc ?_ ?_ ?_
    · intro i hi
      rw [List.length_take, List.length_drop, hlen]; omega
    · intro i x hx
      exact (h2 i x hx).keep (Nat.le_refl _) fun b hs _ => ⟨rfl, hs.1⟩
    · intro hn
      have hgl : g < w.heap.size := by
        rcases Nat.lt_or_ge g w.heap.size with h' | h'
        · exact h'
        · rw [Array.getElem?_eq_none h'] at hh; cases hh
      refine ⟨g, 0, rfl, hg, hgl, ?_⟩
      intro i hi j u hu
      rw [List.getElem?_take] at hu
      split at hu
      · rw [List.getElem?_drop] at hu
        have hc := h1'.cells (g := g) rfl (i * 5 + j) u hu
        rw [Nat.zero_add]
        unfold Addr.add at hc
        split at hc
        · rename_i h0
          rw [h0]; exact hc
        · simpa using hc
      · cases hu

theorem append_ex {ops : Array Oper} {rest : List Oper} {o : Oper} {a : Act} {Q : Exit → Act → World → Prop}
    (hgd : o.guard = none) (s x : Operand) (ho : o.op = .call { callee := .builtin .append, args := #[s, x], argTypes := #[51, 51] })
    (W : World) (B : Nat) (v : Value) (xs : List Pu.Ex) (ex : Pu.Ex) (cs : List Value) (H : Nat) (hs : a.eval s = v) (hx : a.eval x = .slice (some ⟨H, 0, none⟩) 1 1) (hH : W.heap.size = H)
    (hown : OwnE W B v xs) (hex : ExC W (fun b => B ≤ b ∧ some b ≠ v.ownBlock) ex cs) (hlen : xs.length ≤ 1000000) (hB : B ≤ W.heap.size)
    (h : ∀ v' w', OwnE w' B v' (xs ++ [ex]) → Below B W w' → W.heap.size < w'.heap.size → W.grownBy w' v.ownBlock → wpList Tryz.prog ops Q rest (a.put o.dst v') w') :
    wpList Tryz.prog ops Q (o :: rest) a (W.alloc (.cells cs.toArray 53)) := by
  obtain ⟨i0, hi, hz0, hz1, hz2⟩ := info_parts info_ex
  obtain ⟨cells, h1, h2⟩ := hown
  have hcl := h1.1
  have hcs := hex.length
  refine append_one 51 53 i0 _ 5 72 Tryz.underlying51 hi hz0 hz1 hz2 rfl (by omega) hgd s x ho W B v xs.length cells cs.toArray H hs hx hH h1 (by simp [hcs]) ?_ (by unfold maxLen; omega) (by omega) hB ?_
  · intro u hu
    obtain ⟨k, n, of, nm, A, m, c, rfl⟩ := hex.form
    simp at hu
    rcases hu with rfl | rfl | rfl | rfl | rfl <;> rfl
  intro v' w' hown' hb hsz hg hob _
  refine h v' w' ?_ hb hsz hg
  refine ⟨cells ++ cs, by simpa using hown', ?_⟩
  have keep : ∀ {y : Pu.Ex} {ys : List Value}, ExC W (fun b => B ≤ b ∧ some b ≠ v.ownBlock) y ys → ExC w' (fun b => B ≤ b ∧ some b ≠ v'.ownBlock) y ys := by
    intro y ys hy
    refine hy.keep (by omega) fun b hs hb => ⟨hg.block b hb hs.2, hs.1, ?_⟩
    rcases hob with ho | ho
    · rw [ho]; exact hs.2
    · rw [ho]; intro e; injection e; omega
  intro i y hy
  rcases Nat.lt_or_ge i xs.length with hlt | hge
  · rw [List.getElem?_append_left hlt] at hy
    have h3 : ((cells ++ cs).drop (i * 5)).take 5 = (cells.drop (i * 5)).take 5 := by
      rw [List.drop_append_of_le_length (by omega), List.take_append_of_le_length (by rw [List.length_drop]; omega)]
    rw [h3]
    exact keep (h2 i y hy)
  · rw [List.getElem?_append_right hge] at hy
    have hi0 : i = xs.length := by
      have := (List.getElem?_eq_some_iff.1 hy).1
      simp at this
      omega
    subst hi0
    simp at hy
    subst hy
    have h3 : ((cells ++ cs).drop (xs.length * 5)).take 5 = cs := by
      rw [← hcl, List.drop_left, ← hcs, List.take_length]
    rw [h3]
    exact keep hex
/-- one expression in a new row -/
theorem OwnE.one {w : World} {B : Nat} {ex : Pu.Ex} {cs : List Value} (h : ExC w (New B) ex cs) (hB : B ≤ w.heap.size) :
    OwnE (w.alloc (.cells cs.toArray 53)) B (.slice (some ⟨w.heap.size, 0, none⟩) 1 1) [ex] := by
  have hcs := h.length
  refine ⟨cs, ?_, ?_⟩
  · have := World.ownsRow_lit (base := B) (e := 53) (size := 5) w cs.toArray 1 hB (by unfold maxLen; omega) (by simp [hcs])
    simpa using this
  · intro i x hx
    have hi0 : i = 0 := by
      have := (List.getElem?_eq_some_iff.1 hx).1
      simpa using this
    subst hi0
    simp only [List.getElem?_cons_zero, Option.some.injEq] at hx
    subst hx
    have h3 : (cs.drop (0 * 5)).take 5 = cs := by simp [← hcs]
    rw [h3]
    refine h.keep (by simp) fun b hs hb => ⟨Below.heap_alloc w _ b hb, hs, ?_⟩
    intro e
    simp [Value.ownBlock] at e
    omega
end Go.Proofs.YtpfgjiapdepdmaaGreatDoor
