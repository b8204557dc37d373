/- Fields and functions in memory; rows of fields that a call makes. -/
import Derived.Test.YtpfgjiapdepdmaaGreatDoorExpr
namespace Go.Proofs.YtpfgjiapdepdmaaGreatDoor
open Go.RowKit Go.Shelf

/-- the cells of a field: its name, its type -/
def FdC (w : World) (S : Nat → Prop) (f : Pu.Fd) (cs : List Value) : Prop := ∃ ts, cs = str f.name :: ts ∧ TyC w S f.is ts
theorem FdC.length {w : World} {S : Nat → Prop} {f : Pu.Fd} {cs : List Value} (h : FdC w S f cs) : cs.length = 5 := by
  obtain ⟨ts, rfl, ht⟩ := h
  simp [ht.length]
theorem FdC.keep {w w' : World} {S S' : Nat → Prop} {f : Pu.Fd} {cs : List Value} (h : FdC w S f cs) (hw : w.heap.size ≤ w'.heap.size) (hk : ∀ b, S b → b < w.heap.size → w'.heap[b]? = w.heap[b]? ∧ S' b) : FdC w' S' f cs := by
  obtain ⟨ts, e, ht⟩ := h
  exact ⟨ts, e, ht.keep hw hk⟩
theorem FdC.form {w : World} {S : Nat → Prop} {f : Pu.Fd} {cs : List Value} (h : FdC w S f cs) : ∃ (k : Int) (of nm : ByteArray) (A : Option Addr) (n c : Nat), cs = [.string ⟨f.name.toArray⟩, .int .i64 k, .string of, .string nm, .slice A n c] := by
  obtain ⟨ts, rfl, ht⟩ := h
  obtain ⟨k, of, nm, A, n, c, rfl⟩ := ht.form
  exact ⟨k, of, nm, A, n, c, rfl⟩

/-- a slice of fields that lies in the blocks S -/
def FdsC (w : World) (S : Nat → Prop) (fs : List Pu.Fd) (v : Value) : Prop :=
  ∃ A c, v = .slice A fs.length c ∧ fs.length ≤ c ∧ (0 < fs.length → ∃ b off, A = some ⟨b, off, none⟩ ∧ S b ∧ b < w.heap.size ∧
    ∀ i f, fs[i]? = some f → ∃ cs, FdC w S f cs ∧ ∀ j u, cs[j]? = some u → w.cell? ⟨b, off + i * 5 + j, none⟩ = some u)
theorem FdsC.keep {w w' : World} {S S' : Nat → Prop} {fs : List Pu.Fd} {v : Value} (h : FdsC w S fs v) (hw : w.heap.size ≤ w'.heap.size) (hk : ∀ b, S b → b < w.heap.size → w'.heap[b]? = w.heap[b]? ∧ S' b) : FdsC w' S' fs v := by
  obtain ⟨A, c, hv, hc, h⟩ := h
  refine ⟨A, c, hv, hc, fun hn => ?_⟩
  obtain ⟨b, off, e, hs, hb, hf⟩ := h hn
  obtain ⟨k1, k2⟩ := hk b hs hb
  refine ⟨b, off, e, k2, by omega, fun i f hi => ?_⟩
  obtain ⟨cs, h1, h2⟩ := hf i f hi
  exact ⟨cs, h1.keep hw hk, fun j u hu => (World.cell?_of_block (w := w) (a := ⟨b, off + i * 5 + j, none⟩) k1).trans (h2 j u hu)⟩

theorem info_fd : (Tryz.prog.info? 63).map (fun i => (i.zero, i.size, i.bytes)) = some (some (.agg #[.string ⟨#[]⟩, .int .i64 0, .string ⟨#[]⟩, .string ⟨#[]⟩, .slice none 0 0]), 5, 80) := by kernel_rfl

/-- fields in a row of the call's own -/
def OwnF (w : World) (B : Nat) (S : Nat → Prop) (v : Value) (xs : List Pu.Fd) : Prop :=
  ∃ cells : List Value, w.ownsRow B 63 5 v xs.length cells ∧ ∀ i x, xs[i]? = some x → FdC w (fun b => S b ∧ some b ≠ v.ownBlock) x ((cells.drop (i * 5)).take 5)
theorem OwnF.nil (w : World) (B : Nat) (S : Nat → Prop) : OwnF w B S (.slice none 0 0) [] := ⟨[], World.ownsRow_nil _ _ _ _, fun i x h => by simp at h⟩
theorem OwnF.later {w w' : World} {B R : Nat} {S : Nat → Prop} {v : Value} {xs : List Pu.Fd} (h : OwnF w B S v xs) (hg : w.grownBy w' (some R)) (hR : R < B) (hS : ¬ S R) : OwnF w' B S v xs := by
  obtain ⟨cells, h1, h2⟩ := h
  refine ⟨cells, h1.kept hg ?_, fun i x hx => (h2 i x hx).keep hg.size fun b hs hb => ⟨hg.block b hb (fun e => by injection e with e; exact hS (e ▸ hs.1)), hs⟩⟩
  rcases hv : v.ownBlock with _ | g
  · exact .inl rfl
  · right
    intro e
    injection e with e
    have := (h1.lt g hv).1
    omega
theorem OwnF.alloc {w : World} {B : Nat} {S : Nat → Prop} {v : Value} {xs : List Pu.Fd} (h : OwnF w B S v xs) (o : Obj) : OwnF (w.alloc o) B S v xs := by
  obtain ⟨cells, h1, h2⟩ := h
  exact ⟨cells, h1.alloc o, fun i x hx => (h2 i x hx).keep (by simp) fun b hs hb => ⟨Below.heap_alloc w o b hb, hs⟩⟩
/-- a store into a block that is neither the row nor one of S -/
theorem OwnF.farS {w : World} {B : Nat} {S : Nat → Prop} {v : Value} {xs : List Pu.Fd} (h : OwnF w B S v xs) {p : Addr} (hv : v.ownBlock ≠ some p.block) (hS : ¬ S p.block) (u : Value) : OwnF (w.setCell p u) B S v xs := by
  obtain ⟨cells, h1, h2⟩ := h
  refine ⟨cells, h1.kept (only_setCell (only_refl w (some p.block)) (.inl rfl) u) (.inr hv), fun i x hx => (h2 i x hx).keep (by simp [World.setCell]) fun b hs _ => ⟨Below.heap_setCell w p u b (fun e => hS (e ▸ hs.1)), hs⟩⟩
theorem OwnF.toFds {w : World} {B : Nat} {S : Nat → Prop} {v : Value} {xs : List Pu.Fd} (h : OwnF w B S v xs) (hS : ∀ g, v.ownBlock = some g → S g) : FdsC w S xs v := by
  obtain ⟨cells, h1, h2⟩ := h
  have h1' := h1
  rcases h1.2 with ⟨rfl, hc⟩ | ⟨g, cap, cur, rfl, hg, hh, hnc, r⟩
  · have hx : xs = [] := by
      have := h1.1
      rw [hc] at this
      exact List.eq_nil_of_length_eq_zero (by simp at this; omega)
    subst hx
    exact ⟨none, 0, rfl, Nat.le_refl _, fun h => absurd h (by simp)⟩
  · refine ⟨some ⟨g, 0, none⟩, cap, rfl, hnc, fun hn => ?_⟩
    have hlen := h1.1
    have hgl : g < w.heap.size := by
      rcases Nat.lt_or_ge g w.heap.size with h' | h'
      · exact h'
      · rw [Array.getElem?_eq_none h'] at hh; cases hh
    refine ⟨g, 0, rfl, hS g rfl, hgl, fun i f hi => ⟨_, (h2 i f hi).keep (Nat.le_refl _) fun b hs _ => ⟨rfl, hs.1⟩, ?_⟩⟩
    intro j u hu
    rw [List.getElem?_take] at hu
    split at hu
    · rw [List.getElem?_drop] at hu
      have hc := h1'.cells (g := g) rfl (i * 5 + j) u hu
      rw [Nat.zero_add]
      unfold Addr.add at hc
      split at hc
      · rename_i h0
        rw [h0]; exact hc
      · simpa using hc
    · cases hu
theorem OwnF.len {w : World} {B : Nat} {S : Nat → Prop} {v : Value} {xs : List Pu.Fd} (h : OwnF w B S v xs) : ∃ A c, v = .slice A xs.length c := by
  obtain ⟨cells, h1, _⟩ := h
  rcases h1.2 with ⟨e, hc⟩ | ⟨g, cap, cur, e, _⟩
  · have := h1.1
    rw [hc] at this
    have : xs.length = 0 := by simp at this; omega
    exact ⟨none, 0, by rw [e, this]⟩
  · exact ⟨_, _, e⟩
theorem OwnF.lt {w : World} {B : Nat} {S : Nat → Prop} {v : Value} {xs : List Pu.Fd} (h : OwnF w B S v xs) : ∀ g, v.ownBlock = some g → B ≤ g ∧ g < w.heap.size := by
  obtain ⟨cells, h1, _⟩ := h
  exact fun g hg => h1.lt g hg

/-- append of one field, at a plain region -/
theorem append_fd {ops : Array Oper} {rest : List Oper} {o : Oper} {a : Act} {Q : Exit → Act → World → Prop}
    (hgd : o.guard = none) (s x : Operand) (ho : o.op = .call { callee := .builtin .append, args := #[s, x], argTypes := #[23, 23] })
    (W : World) (B : Nat) (S : Nat → Prop) (v : Value) (xs : List Pu.Fd) (f : Pu.Fd) (cs : List Value) (H : Nat) (hs : a.eval s = v) (hx : a.eval x = .slice (some ⟨H, 0, none⟩) 1 1) (hH : W.heap.size = H)
    (hown : OwnF W B S v xs) (hex : FdC W (fun b => S b ∧ some b ≠ v.ownBlock) f cs) (hlen : xs.length ≤ 1000000) (hB : B ≤ W.heap.size)
    (h : ∀ v' w', OwnF w' B S v' (xs ++ [f]) → Below B W w' → W.heap.size < w'.heap.size → W.grownBy w' v.ownBlock → (v'.ownBlock = v.ownBlock ∨ v'.ownBlock = some (W.heap.size + 1)) → (∃ A c, v' = .slice A (xs.length + 1) c) → wpList Tryz.prog ops Q rest (a.put o.dst v') w') :
    wpList Tryz.prog ops Q (o :: rest) a (W.alloc (.cells cs.toArray 63)) := by
  obtain ⟨i0, hi, hz0, hz1, hz2⟩ := info_parts info_fd
  obtain ⟨cells, h1, h2⟩ := hown
  have hcl := h1.1
  have hcs := hex.length
  refine append_one 23 63 i0 _ 5 80 Tryz.underlying23 hi hz0 hz1 hz2 rfl (by omega) hgd s x ho W B v xs.length cells cs.toArray H hs hx hH h1 (by simp [hcs]) ?_ (by unfold maxLen; omega) (by omega) hB ?_
  · intro u hu
    obtain ⟨k, of, nm, A, m, c, rfl⟩ := hex.form
    simp at hu
    rcases hu with rfl | rfl | rfl | rfl | rfl <;> rfl
  intro v' w' hown' hb hsz hg hob hform
  refine h v' w' ?_ hb hsz hg hob hform
  refine ⟨cells ++ cs, by simpa using hown', ?_⟩
  have keep : ∀ {y : Pu.Fd} {ys : List Value}, FdC W (fun b => S b ∧ some b ≠ v.ownBlock) y ys → FdC w' (fun b => S b ∧ some b ≠ v'.ownBlock) y ys := by
    intro y ys hy
    refine hy.keep (by omega) fun b hs hb => ⟨hg.block b hb hs.2, hs.1, ?_⟩
    rcases hob with ho | ho
    · rw [ho]; exact hs.2
    · rw [ho]; intro e; injection e; omega
  intro i y hy
  rcases Nat.lt_or_ge i xs.length with hlt | hge
  · rw [List.getElem?_append_left hlt] at hy
    have h3 : ((cells ++ cs).drop (i * 5)).take 5 = (cells.drop (i * 5)).take 5 := by
      rw [List.drop_append_of_le_length (by omega), List.take_append_of_le_length (by rw [List.length_drop]; omega)]
    rw [h3]
    exact keep (h2 i y hy)
  · rw [List.getElem?_append_right hge] at hy
    have hi0 : i = xs.length := by
      have := (List.getElem?_eq_some_iff.1 hy).1
      simp at this
      omega
    subst hi0
    simp at hy
    subst hy
    have h3 : ((cells ++ cs).drop (xs.length * 5)).take 5 = cs := by
      rw [← hcl, List.drop_left, ← hcs, List.take_length]
    rw [h3]
    exact keep hex

/-- the twelve cells of a function -/
def FnC (w : World) (S : Nat → Prop) (f : Pu.Fn) (cs : List Value) : Prop :=
  ∃ v ts xs, cs = str f.name :: str f.var :: v :: (ts ++ xs) ∧ FdsC w S f.params v ∧ TyC w S f.result ts ∧ ExC w S f.body xs
theorem FnC.keep {w w' : World} {S S' : Nat → Prop} {f : Pu.Fn} {cs : List Value} (h : FnC w S f cs) (hw : w.heap.size ≤ w'.heap.size) (hk : ∀ b, S b → b < w.heap.size → w'.heap[b]? = w.heap[b]? ∧ S' b) : FnC w' S' f cs := by
  obtain ⟨v, ts, xs, e, h1, h2, h3⟩ := h
  exact ⟨v, ts, xs, e, h1.keep hw hk, h2.keep hw hk, h3.keep hw hk⟩
theorem FnC.length {w : World} {S : Nat → Prop} {f : Pu.Fn} {cs : List Value} (h : FnC w S f cs) : cs.length = 12 := by
  obtain ⟨v, ts, xs, rfl, h1, h2, h3⟩ := h
  simp [h2.length, h3.length]
end Go.Proofs.YtpfgjiapdepdmaaGreatDoor
