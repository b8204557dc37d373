/- Modules in memory: rows of things of the call's own, kept apart; one thing more in a row. -/
import Derived.Test.YtpfgjiapdepdmaaGreatDoorFun
import Derived.RangeFuncOwn
import Derived.RangeFuncBox
namespace Go.Proofs.YtpfgjiapdepdmaaGreatDoor
open Go.RowKit Go.Shelf

/-- things in a row of the call's own: D says what cells a thing is -/
def OwnG {α : Type} (D : World → (Nat → Prop) → α → List Value → Prop) (e : TypeId) (size : Nat) (w : World) (B : Nat) (S : Nat → Prop) (v : Value) (xs : List α) : Prop :=
  ∃ cells : List Value, w.ownsRow B e size v xs.length cells ∧ ∀ i x, xs[i]? = some x → D w S x ((cells.drop (i * size)).take size)
/-- D speaks of the blocks S alone -/
def Keeps {α : Type} (D : World → (Nat → Prop) → α → List Value → Prop) : Prop :=
  ∀ (w w' : World) (S S' : Nat → Prop) (x : α) (cs : List Value), D w S x cs → w.heap.size ≤ w'.heap.size → (∀ b, S b → b < w.heap.size → w'.heap[b]? = w.heap[b]? ∧ S' b) → D w' S' x cs
theorem OwnG.kept {α : Type} {D : World → (Nat → Prop) → α → List Value → Prop} {e : TypeId} {size : Nat} {w w' : World} {B : Nat} {S S' : Nat → Prop} {v : Value} {xs : List α} {r : Option Nat} (hD : Keeps D) (h : OwnG D e size w B S v xs) (hg : w.grownBy w' r)
    (hr : ∀ g, v.ownBlock = some g → r ≠ some g) (hS : ∀ b, S b → b < w.heap.size → r ≠ some b ∧ S' b) : OwnG D e size w' B S' v xs := by
  obtain ⟨cells, h1, h2⟩ := h
  refine ⟨cells, h1.kept hg ?_, fun i x hx => hD _ _ _ _ _ _ (h2 i x hx) hg.size fun b hs hb => ⟨hg.block b hb (fun e => (hS b hs hb).1 e.symm), (hS b hs hb).2⟩⟩
  cases hv : v.ownBlock with
  | none => exact .inl rfl
  | some g => exact .inr (fun e => hr g hv e.symm)
theorem OwnG.alloc {α : Type} {D : World → (Nat → Prop) → α → List Value → Prop} {e : TypeId} {size : Nat} {w : World} {B : Nat} {S : Nat → Prop} {v : Value} {xs : List α} (hD : Keeps D) (h : OwnG D e size w B S v xs) (o : Obj) : OwnG D e size (w.alloc o) B S v xs :=
  h.kept hD (only_alloc (only_refl w none) o) (fun g _ e => by cases e) (fun b hs _ => ⟨(fun e => by cases e), hs⟩)
theorem OwnG.nil {α : Type} (D : World → (Nat → Prop) → α → List Value → Prop) (e size : Nat) (w : World) (B : Nat) (S : Nat → Prop) : OwnG D e size w B S (.slice none 0 0) ([] : List α) := ⟨[], World.ownsRow_nil _ _ _ _, fun i x h => by simp at h⟩
theorem OwnG.len {α : Type} {D : World → (Nat → Prop) → α → List Value → Prop} {e : TypeId} {size : Nat} {w : World} {B : Nat} {S : Nat → Prop} {v : Value} {xs : List α} (h : OwnG D e size w B S v xs) (hsz : 0 < size) : ∃ A c, v = .slice A xs.length c := by
  obtain ⟨cells, h1, _⟩ := h
  rcases h1.2 with ⟨e, hc⟩ | ⟨g, cap, cur, e, _⟩
  · have h0 := h1.1
    rw [hc] at h0
    have : xs.length = 0 := by
      rcases Nat.eq_zero_or_pos xs.length with h | h
      · exact h
      · have := Nat.mul_pos h hsz
        simp at h0
        omega
    exact ⟨none, 0, by rw [e, this]⟩
  · exact ⟨_, _, e⟩
/-- the row has one thing more -/
theorem OwnG.push {α : Type} {D : World → (Nat → Prop) → α → List Value → Prop} {e : TypeId} {size : Nat} {w w' : World} {B : Nat} {S S' : Nat → Prop} {v v' : Value} {xs : List α} {x : α} {cells cs : List Value} {r : Option Nat} (hD : Keeps D)
    (h1 : w.ownsRow B e size v xs.length cells) (h2 : ∀ i y, xs[i]? = some y → D w S y ((cells.drop (i * size)).take size)) (hx : D w S x cs) (hcs : cs.length = size) (hown : w'.ownsRow B e size v' (xs.length + 1) (cells ++ cs))
    (hg : w.grownBy w' r) (hS : ∀ b, S b → b < w.heap.size → r ≠ some b ∧ S' b) : OwnG D e size w' B S' v' (xs ++ [x]) := by
  have hcl := h1.1
  refine ⟨cells ++ cs, by simpa using hown, ?_⟩
  have keep : ∀ {y : α} {ys : List Value}, D w S y ys → D w' S' y ys := fun hy => hD _ _ _ _ _ _ hy hg.size fun b hs hb => ⟨hg.block b hb (fun e => (hS b hs hb).1 e.symm), (hS b hs hb).2⟩
  intro i y hy
  rcases Nat.lt_or_ge i xs.length with hlt | hge
  · rw [List.getElem?_append_left hlt] at hy
    have hm : (i + 1) * size ≤ xs.length * size := Nat.mul_le_mul_right _ hlt
    rw [Nat.add_mul, Nat.one_mul] at hm
    have h3 : ((cells ++ cs).drop (i * size)).take size = (cells.drop (i * size)).take size := by
      rw [List.drop_append_of_le_length (by omega), List.take_append_of_le_length (by rw [List.length_drop]; omega)]
    rw [h3]
    exact keep (h2 i y hy)
  · rw [List.getElem?_append_right hge] at hy
    have hi0 : i = xs.length := by
      have := (List.getElem?_eq_some_iff.1 hy).1
      simp at this
      omega
    subst hi0
    simp at hy
    subst hy
    have h3 : ((cells ++ cs).drop (xs.length * size)).take size = cs := by
      rw [← hcl, List.drop_left, ← hcs, List.take_length]
    rw [h3]
    exact keep hx

/-- the cells of a text -/
def StC (_ : World) (_ : Nat → Prop) (s : List UInt8) (cs : List Value) : Prop := cs = [str s]
theorem StC.keeps : Keeps StC := fun _ _ _ _ _ _ h _ _ => h
theorem FdC.keeps : Keeps FdC := fun _ _ _ _ _ _ h hw hk => h.keep hw hk
theorem FnC.keeps : Keeps FnC := fun _ _ _ _ _ _ h hw hk => h.keep hw hk

/-- the blocks in which what hangs on the module lies -/
def Fr (B R : Nat) (vu vt vf : Value) (b : Nat) : Prop := B ≤ b ∧ b ≠ R ∧ vu.ownBlock ≠ some b ∧ vt.ownBlock ≠ some b ∧ vf.ownBlock ≠ some b
/-- three rows, apart from each other and from the reader -/
structure Apart (R : Nat) (vu vt vf : Value) : Prop where
  u : ∀ g, vu.ownBlock = some g → g ≠ R ∧ vt.ownBlock ≠ some g ∧ vf.ownBlock ≠ some g
  t : ∀ g, vt.ownBlock = some g → g ≠ R ∧ vu.ownBlock ≠ some g ∧ vf.ownBlock ≠ some g
  f : ∀ g, vf.ownBlock = some g → g ≠ R ∧ vu.ownBlock ≠ some g ∧ vt.ownBlock ≠ some g
/-- the module m in block M; R: the reader at work -/
structure MdV (w : World) (M B R : Nat) (m : Pu.Md) (vu vt vf : Value) : Prop where
  blk : Blk w M 26 #[vu, vt, vf]
  us : OwnG StC 9 1 w B (Fr B R vu vt vf) vu m.uses
  ts : OwnG FdC 63 5 w B (Fr B R vu vt vf) vt m.types
  fs : OwnG FnC 55 12 w B (Fr B R vu vt vf) vf m.funcs
  apart : Apart R vu vt vf
  lo : M < B
def MdM (w : World) (M B R : Nat) (m : Pu.Md) : Prop := ∃ vu vt vf, MdV w M B R m vu vt vf
theorem MdV.later {w w' : World} {M B R : Nat} {m : Pu.Md} {vu vt vf : Value} (h : MdV w M B R m vu vt vf) (hg : w.grownBy w' (some R)) (hMR : M ≠ R) : MdV w' M B R m vu vt vf := by
  obtain ⟨h1, h2, h3, h4, h5, h6⟩ := h
  have hS : ∀ b, Fr B R vu vt vf b → b < w.heap.size → some R ≠ some b ∧ Fr B R vu vt vf b := fun b hb _ => ⟨fun e => hb.2.1 (by injection e with e; exact e.symm), hb⟩
  exact ⟨h1.grown hg (fun e => hMR (by injection e)), h2.kept StC.keeps hg (fun g hv e => (h5.u g hv).1 (by injection e with e; exact e.symm)) hS, h3.kept FdC.keeps hg (fun g hv e => (h5.t g hv).1 (by injection e with e; exact e.symm)) hS,
    h4.kept FnC.keeps hg (fun g hv e => (h5.f g hv).1 (by injection e with e; exact e.symm)) hS, h5, h6⟩
/-- another reader, a new one -/
theorem OwnG.owns {α : Type} {D : World → (Nat → Prop) → α → List Value → Prop} {e : TypeId} {size : Nat} {w : World} {B : Nat} {S : Nat → Prop} {v : Value} {xs : List α} (h : OwnG D e size w B S v xs) : ∀ g, v.ownBlock = some g → B ≤ g ∧ g < w.heap.size := by
  obtain ⟨cells, h1, _⟩ := h
  exact fun g hg => h1.lt g hg
theorem MdV.reader {w : World} {M B R R' : Nat} {m : Pu.Md} {vu vt vf : Value} (h : MdV w M B R m vu vt vf) (hR' : w.heap.size ≤ R') : MdV w M B R' m vu vt vf := by
  obtain ⟨h1, h2, h3, h4, h5, h6⟩ := h
  have hS : ∀ b, Fr B R vu vt vf b → b < w.heap.size → (none : Option Nat) ≠ some b ∧ Fr B R' vu vt vf b := fun b hb hl => ⟨(fun e => by cases e), hb.1, (by omega), hb.2.2⟩
  have e2 := h2.owns
  have e3 := h3.owns
  have e4 := h4.owns
  exact ⟨h1, h2.kept StC.keeps (only_refl w none) (fun g _ e => by cases e) hS, h3.kept FdC.keeps (only_refl w none) (fun g _ e => by cases e) hS, h4.kept FnC.keeps (only_refl w none) (fun g _ e => by cases e) hS,
    ⟨fun g hv => ⟨by have := e2 g hv; omega, (h5.u g hv).2⟩, fun g hv => ⟨by have := e3 g hv; omega, (h5.t g hv).2⟩, fun g hv => ⟨by have := e4 g hv; omega, (h5.f g hv).2⟩⟩, h6⟩
/-- a store into the module's own block -/
theorem OwnG.store {α : Type} {D : World → (Nat → Prop) → α → List Value → Prop} {e : TypeId} {size : Nat} {w : World} {M B : Nat} {S : Nat → Prop} {v : Value} {xs : List α} (hD : Keeps D) (h : OwnG D e size w B S v xs) (hMB : M < B) (hS : ∀ b, S b → B ≤ b) (i : Nat) (u : Value) : OwnG D e size (w.setCell ⟨M, i, none⟩ u) B S v xs :=
  h.kept hD (only_setCell (only_refl w (some M)) (.inl rfl) u) (fun g hv e => by injection e with e; have := h.owns g hv; omega) (fun b hs _ => ⟨fun e => by injection e with e; have := hS b hs; omega, hs⟩)

/-- where an appended row lies -/
def NewRow (H : Nat) (v v' : Value) : Prop := v'.ownBlock = v.ownBlock ∨ ∃ g, v'.ownBlock = some g ∧ H ≤ g
theorem Apart.turn_u {R H : Nat} {vu vt vf v' : Value} (h : Apart R vu vt vf) (hn : NewRow H vu v') (hR : R < H) (ht : ∀ g, vt.ownBlock = some g → g < H) (hf : ∀ g, vf.ownBlock = some g → g < H) : Apart R v' vt vf := by
  rcases hn with hn | ⟨k, hn, hk⟩
  · obtain ⟨a, b, c⟩ := h
    rw [← hn] at a
    exact ⟨a, fun g hv => by rw [hn]; exact b g hv, fun g hv => by rw [hn]; exact c g hv⟩
  · refine ⟨fun g hv => ?_, fun g hv => ⟨(h.t g hv).1, ?_, (h.t g hv).2.2⟩, fun g hv => ⟨(h.f g hv).1, ?_, (h.f g hv).2.2⟩⟩
    · rw [hn] at hv; injection hv with hv; subst hv
      exact ⟨by omega, fun e => by have := ht _ e; omega, fun e => by have := hf _ e; omega⟩
    · rw [hn]; intro e; injection e with e; have := ht g hv; omega
    · rw [hn]; intro e; injection e with e; have := hf g hv; omega
theorem Apart.swap_ut {R : Nat} {vu vt vf : Value} (h : Apart R vu vt vf) : Apart R vt vu vf := ⟨h.t, h.u, fun g hv => ⟨(h.f g hv).1, (h.f g hv).2.2, (h.f g hv).2.1⟩⟩
theorem Apart.swap_uf {R : Nat} {vu vt vf : Value} (h : Apart R vu vt vf) : Apart R vf vt vu := ⟨fun g hv => ⟨(h.f g hv).1, (h.f g hv).2.2, (h.f g hv).2.1⟩, fun g hv => ⟨(h.t g hv).1, (h.t g hv).2.2, (h.t g hv).2.1⟩, fun g hv => ⟨(h.u g hv).1, (h.u g hv).2.2, (h.u g hv).2.1⟩⟩
theorem Fr.lt {B R : Nat} {vu vt vf : Value} (b : Nat) (h : Fr B R vu vt vf b) : B ≤ b := h.1

/-- what an append into one of the rows did: from world w (H: its heap's size) -/
structure Appended (e : TypeId) (size : Nat) (w w' : World) (B : Nat) (v v' : Value) (n : Nat) (cells cs : List Value) : Prop where
  own : w'.ownsRow B e size v' (n + 1) (cells ++ cs)
  grown : w.grownBy w' v.ownBlock
  row : NewRow w.heap.size v v'
theorem MdV.push_u {w w' : World} {M B R : Nat} {m : Pu.Md} {vu vt vf v' : Value} {s : List UInt8} {cells : List Value} (h : MdV w M B R m vu vt vf) (hR : R < w.heap.size)
    (h1 : w.ownsRow B 9 1 vu m.uses.length cells) (h2 : ∀ i x, m.uses[i]? = some x → StC w (Fr B R vu vt vf) x ((cells.drop (i * 1)).take 1)) (ha : Appended 9 1 w w' B vu v' m.uses.length cells [str s]) :
    MdV (w'.setCell ⟨M, 0, none⟩ v') M B R { m with uses := m.uses ++ [s] } v' vt vf := by
  obtain ⟨b1, b2, b3, b4, b5, b6⟩ := h
  have hlt := b1.lt
  have hS : ∀ b, Fr B R vu vt vf b → b < w.heap.size → vu.ownBlock ≠ some b ∧ Fr B R v' vt vf b := fun b hb hl => ⟨hb.2.2.1, hb.1, hb.2.1, (by rcases ha.row with e | ⟨k, e, hk⟩ <;> rw [e]; exact hb.2.2.1; intro e2; injection e2; omega), hb.2.2.2⟩
  refine ⟨(b1.grown ha.grown (fun e => by have := b2.owns M e.symm; omega)).set_ 0 v', (OwnG.push StC.keeps h1 h2 rfl rfl ha.own ha.grown hS).store StC.keeps b6 Fr.lt 0 v', ?_, ?_, b5.turn_u ha.row hR (fun g hv => (b3.owns g hv).2) (fun g hv => (b4.owns g hv).2), b6⟩
  · exact (b3.kept FdC.keeps ha.grown (fun g hv e => (b5.t g hv).2.1 e) hS).store FdC.keeps b6 Fr.lt 0 v'
  · exact (b4.kept FnC.keeps ha.grown (fun g hv e => (b5.f g hv).2.1 e) hS).store FnC.keeps b6 Fr.lt 0 v'
theorem MdV.push_t {w w' : World} {M B R : Nat} {m : Pu.Md} {vu vt vf v' : Value} {f : Pu.Fd} {cells cs : List Value} (h : MdV w M B R m vu vt vf) (hR : R < w.heap.size)
    (h1 : w.ownsRow B 63 5 vt m.types.length cells) (h2 : ∀ i x, m.types[i]? = some x → FdC w (Fr B R vu vt vf) x ((cells.drop (i * 5)).take 5)) (hx : FdC w (Fr B R vu vt vf) f cs) (ha : Appended 63 5 w w' B vt v' m.types.length cells cs) :
    MdV (w'.setCell ⟨M, 1, none⟩ v') M B R { m with types := m.types ++ [f] } vu v' vf := by
  obtain ⟨b1, b2, b3, b4, b5, b6⟩ := h
  have hlt := b1.lt
  have hS : ∀ b, Fr B R vu vt vf b → b < w.heap.size → vt.ownBlock ≠ some b ∧ Fr B R vu v' vf b := fun b hb hl => ⟨hb.2.2.2.1, hb.1, hb.2.1, hb.2.2.1, (by rcases ha.row with e | ⟨k, e, hk⟩ <;> rw [e]; exact hb.2.2.2.1; intro e2; injection e2; omega), hb.2.2.2.2⟩
  refine ⟨(b1.grown ha.grown (fun e => by have := b3.owns M e.symm; omega)).set_ 1 v', ?_, (OwnG.push FdC.keeps h1 h2 hx hx.length ha.own ha.grown hS).store FdC.keeps b6 Fr.lt 1 v', ?_, (b5.swap_ut.turn_u ha.row hR (fun g hv => (b2.owns g hv).2) (fun g hv => (b4.owns g hv).2)).swap_ut, b6⟩
  · exact (b2.kept StC.keeps ha.grown (fun g hv e => (b5.u g hv).2.1 e) hS).store StC.keeps b6 Fr.lt 1 v'
  · exact (b4.kept FnC.keeps ha.grown (fun g hv e => (b5.f g hv).2.2 e) hS).store FnC.keeps b6 Fr.lt 1 v'
theorem MdV.push_f {w w' : World} {M B R : Nat} {m : Pu.Md} {vu vt vf v' : Value} {f : Pu.Fn} {cells cs : List Value} (h : MdV w M B R m vu vt vf) (hR : R < w.heap.size)
    (h1 : w.ownsRow B 55 12 vf m.funcs.length cells) (h2 : ∀ i x, m.funcs[i]? = some x → FnC w (Fr B R vu vt vf) x ((cells.drop (i * 12)).take 12)) (hx : FnC w (Fr B R vu vt vf) f cs) (ha : Appended 55 12 w w' B vf v' m.funcs.length cells cs) :
    MdV (w'.setCell ⟨M, 2, none⟩ v') M B R { m with funcs := m.funcs ++ [f] } vu vt v' := by
  obtain ⟨b1, b2, b3, b4, b5, b6⟩ := h
  have hlt := b1.lt
  have hS : ∀ b, Fr B R vu vt vf b → b < w.heap.size → vf.ownBlock ≠ some b ∧ Fr B R vu vt v' b := fun b hb hl => ⟨hb.2.2.2.2, hb.1, hb.2.1, hb.2.2.1, hb.2.2.2.1, (by rcases ha.row with e | ⟨k, e, hk⟩ <;> rw [e]; exact hb.2.2.2.2; intro e2; injection e2; omega)⟩
  refine ⟨(b1.grown ha.grown (fun e => by have := b4.owns M e.symm; omega)).set_ 2 v', ?_, ?_, (OwnG.push FnC.keeps h1 h2 hx hx.length ha.own ha.grown hS).store FnC.keeps b6 Fr.lt 2 v', (b5.swap_uf.turn_u ha.row hR (fun g hv => (b3.owns g hv).2) (fun g hv => (b2.owns g hv).2)).swap_uf, b6⟩
  · exact (b2.kept StC.keeps ha.grown (fun g hv e => (b5.u g hv).2.2 e) hS).store StC.keeps b6 Fr.lt 2 v'
  · exact (b3.kept FdC.keeps ha.grown (fun g hv e => (b5.t g hv).2.2 e) hS).store FdC.keeps b6 Fr.lt 2 v'

/-- the frame of one who reads a line: of what lies below B only M's block turns; whatever is no cells is as it was -/
structure LineFr (M B : Nat) (w w' : World) : Prop where
  below : Below M w w'
  others : KeepsOthers w w'
  low : ∀ k, k < B → k ≠ M → w'.heap[k]? = w.heap[k]?
theorem LineFr.refl (M B : Nat) (w : World) : LineFr M B w w := ⟨Below.refl M w, KeepsOthers.refl w, fun _ _ _ => rfl⟩
theorem LineFr.trans {M B : Nat} {a b c : World} (h : LineFr M B a b) (k : LineFr M B b c) : LineFr M B a c := ⟨h.below.trans k.below, h.others.trans k.others, fun i h1 h2 => (k.low i h1 h2).trans (h.low i h1 h2)⟩
theorem LineFr.grown {M B : Nat} {w w' : World} {r : Option Nat} (hg : w.grownBy w' r) (hMB : M < B) (hB : B ≤ w.heap.size) (hr : ∀ g, r = some g → B ≤ g ∧ ∃ o : Obj, w.heap[g]? = some o ∧ o.isCells = true) : LineFr M B w w' :=
  ⟨(Below.refl M w).grown hg (by omega) (fun g e => by have := (hr g e).1; omega), KeepsOthers.of_grownBy hg (fun j o e hj => by obtain ⟨o', h1, h2⟩ := (hr j e).2; rw [hj] at h1; cases h1; exact h2),
    fun k hk _ => hg.block k (by omega) (fun e => by have := (hr k e.symm).1; omega)⟩
theorem LineFr.setM {M B : Nat} {w : World} (i : Nat) (u : Value) : LineFr M B w (w.setCell ⟨M, i, none⟩ u) := ⟨(Below.refl M w).setCell (p := ⟨M, i, none⟩) (Nat.le_refl M) u, KeepsOthers.setCell w _ u, fun k _ hk => Below.heap_setCell w _ u k hk⟩
theorem LineFr.alloc_ {M B : Nat} {w : World} (hMB : M < B) (hB : B ≤ w.heap.size) (o : Obj) : LineFr M B w (w.alloc o) := .grown (only_alloc (only_refl w none) o) hMB hB (fun g e => by cases e)
theorem Blk.cells_ {w : World} {g : Nat} {t : TypeId} {cs : Array Value} (h : Blk w g t cs) : ∃ o : Obj, w.heap[g]? = some o ∧ o.isCells = true := ⟨_, h, rfl⟩
theorem Rd.cells_ {w : World} {R : Nat} {l : List Pu.Tok} {d : Int} (h : Rd w R l d) : ∃ o : Obj, w.heap[R]? = some o ∧ o.isCells = true := by
  obtain ⟨A, c, hb, _⟩ := h
  exact hb.cells_
theorem owns_cells {w : World} {B e size n : Nat} {v : Value} {xs : List Value} (h : w.ownsRow B e size v n xs) : ∀ g, v.ownBlock = some g → ∃ o : Obj, w.heap[g]? = some o ∧ o.isCells = true := by
  intro g hg
  rcases h.2 with ⟨rfl, hc⟩ | ⟨g', cap, cur, rfl, hb, hh, hnc, r⟩
  · cases hg
  · have : g' = g := by simpa [Value.ownBlock] using hg
    subst this
    exact ⟨_, hh, rfl⟩
end Go.Proofs.YtpfgjiapdepdmaaGreatDoor
