/- Types and expressions in memory. -/
import Derived.Test.YtpfgjiapdepdmaaGreatDoorDeep
namespace Go.Proofs.YtpfgjiapdepdmaaGreatDoor
open Go.RowKit Go.Shelf

/-- the cells of a type, what they lead to lying in the blocks S -/
inductive TyC (w : World) (S : Nat → Prop) : Pu.Ty → List Value → Prop
  | mk (k : Int) (of nm : List UInt8) (args : List Pu.Ty) (A : Option Addr) (c : Nat) (css : Nat → List Value) (hcap : args.length ≤ c)
      (hlen : ∀ i, i < args.length → (css i).length = 4)
      (ha : ∀ i t, args[i]? = some t → TyC w S t (css i))
      (hc : 0 < args.length → ∃ b off, A = some ⟨b, off, none⟩ ∧ S b ∧ b < w.heap.size ∧ ∀ i, i < args.length → ∀ j u, (css i)[j]? = some u → w.cell? ⟨b, off + i * 4 + j, none⟩ = some u) :
      TyC w S (.mk k of nm args) [.int .i64 k, str of, str nm, .slice A args.length c]
theorem TyC.length {w : World} {S : Nat → Prop} {t : Pu.Ty} {cs : List Value} (h : TyC w S t cs) : cs.length = 4 := by
  cases h; rfl
theorem TyC.keep {w w' : World} {S S' : Nat → Prop} {t : Pu.Ty} {cs : List Value} (h : TyC w S t cs) (hw : w.heap.size ≤ w'.heap.size) (hk : ∀ b, S b → b < w.heap.size → w'.heap[b]? = w.heap[b]? ∧ S' b) : TyC w' S' t cs := by
  induction h with
  | mk k of nm args A c css hcap hlen ha hc ih =>
    refine .mk k of nm args A c css hcap hlen (fun i t hi => ih i t hi) ?_
    intro hn
    obtain ⟨b, off, e, hs, hb, hcell⟩ := hc hn
    obtain ⟨k1, k2⟩ := hk b hs hb
    exact ⟨b, off, e, k2, by omega, fun i hi j u hu => (World.cell?_of_block (w := w) (a := ⟨b, off + i * 4 + j, none⟩) k1).trans (hcell i hi j u hu)⟩
inductive ExC (w : World) (S : Nat → Prop) : Pu.Ex → List Value → Prop
  | mk (k n : Int) (of s : List UInt8) (args : List Pu.Ex) (A : Option Addr) (c : Nat) (css : Nat → List Value) (hcap : args.length ≤ c)
      (hlen : ∀ i, i < args.length → (css i).length = 5)
      (ha : ∀ i t, args[i]? = some t → ExC w S t (css i))
      (hc : 0 < args.length → ∃ b off, A = some ⟨b, off, none⟩ ∧ S b ∧ b < w.heap.size ∧ ∀ i, i < args.length → ∀ j u, (css i)[j]? = some u → w.cell? ⟨b, off + i * 5 + j, none⟩ = some u) :
      ExC w S (.mk k n of s args) [.int .i64 k, .int .i64 n, str of, str s, .slice A args.length c]
theorem ExC.length {w : World} {S : Nat → Prop} {t : Pu.Ex} {cs : List Value} (h : ExC w S t cs) : cs.length = 5 := by
  cases h; rfl
theorem ExC.keep {w w' : World} {S S' : Nat → Prop} {t : Pu.Ex} {cs : List Value} (h : ExC w S t cs) (hw : w.heap.size ≤ w'.heap.size) (hk : ∀ b, S b → b < w.heap.size → w'.heap[b]? = w.heap[b]? ∧ S' b) : ExC w' S' t cs := by
  induction h with
  | mk k n of nm args A c css hcap hlen ha hc ih =>
    refine .mk k n of nm args A c css hcap hlen (fun i t hi => ih i t hi) ?_
    intro hn
    obtain ⟨b, off, e, hs, hb, hcell⟩ := hc hn
    obtain ⟨k1, k2⟩ := hk b hs hb
    exact ⟨b, off, e, k2, by omega, fun i hi j u hu => (World.cell?_of_block (w := w) (a := ⟨b, off + i * 5 + j, none⟩) k1).trans (hcell i hi j u hu)⟩

/-- the blocks that are new since a world -/
def New (B : Nat) (b : Nat) : Prop := B ≤ b
theorem TyC.later {w w' : World} {B R : Nat} {t : Pu.Ty} {cs : List Value} (h : TyC w (New B) t cs) (hg : w.grownBy w' (some R)) (hR : R < B) : TyC w' (New B) t cs :=
  h.keep hg.size fun b hs hb => ⟨hg.block b hb (fun e => by injection e; unfold New at hs; omega), hs⟩
theorem ExC.later {w w' : World} {B R : Nat} {t : Pu.Ex} {cs : List Value} (h : ExC w (New B) t cs) (hg : w.grownBy w' (some R)) (hR : R < B) : ExC w' (New B) t cs :=
  h.keep hg.size fun b hs hb => ⟨hg.block b hb (fun e => by injection e; unfold New at hs; omega), hs⟩
theorem TyC.wide {w : World} {B B' : Nat} {t : Pu.Ty} {cs : List Value} (h : TyC w (New B) t cs) (hB : B' ≤ B) : TyC w (New B') t cs :=
  h.keep (Nat.le_refl _) fun _ hs _ => ⟨rfl, Nat.le_trans hB hs⟩
theorem ExC.wide {w : World} {B B' : Nat} {t : Pu.Ex} {cs : List Value} (h : ExC w (New B) t cs) (hB : B' ≤ B) : ExC w (New B') t cs :=
  h.keep (Nat.le_refl _) fun _ hs _ => ⟨rfl, Nat.le_trans hB hs⟩

theorem TyC.form {w : World} {S : Nat → Prop} {t : Pu.Ty} {cs : List Value} (h : TyC w S t cs) : ∃ (k : Int) (of nm : ByteArray) (A : Option Addr) (n c : Nat), cs = [.int .i64 k, .string of, .string nm, .slice A n c] := by
  cases h
  exact ⟨_, _, _, _, _, _, rfl⟩
theorem ExC.form {w : World} {S : Nat → Prop} {t : Pu.Ex} {cs : List Value} (h : ExC w S t cs) : ∃ (k n : Int) (of nm : ByteArray) (A : Option Addr) (m c : Nat), cs = [.int .i64 k, .int .i64 n, .string of, .string nm, .slice A m c] := by
  cases h
  exact ⟨_, _, _, _, _, _, _, rfl⟩
/-- a cell of another block -/
theorem keepX {w w' : World} {R X o : Nat} {v : Value} (hg : w.grownBy w' (some R)) (hx : w.cell? ⟨X, o, none⟩ = some v) (hne : X ≠ R) : w'.cell? ⟨X, o, none⟩ = some v :=
  (hg.cell_far ⟨X, o, none⟩ (World.block_lt_of_cell? w _ hx) (fun e => hne (by injection e))).trans hx
/-- a store into a block that is newer than the reader -/
theorem Rd.newer {w : World} {R : Nat} {l : List Pu.Tok} {d : Int} (h : Rd w R l d) {p : Addr} (hp : R < p.block) (u : Value) : Rd (w.setCell p u) R l d := by
  obtain ⟨A, c, hb, hc, hr⟩ := h
  exact ⟨A, c, hb.far (by omega) u, hc, hr.setCell (by omega) u⟩
theorem TyC.far {w : World} {B : Nat} {t : Pu.Ty} {cs : List Value} (h : TyC w (New B) t cs) {p : Addr} (hp : p.block < B) (u : Value) : TyC (w.setCell p u) (New B) t cs :=
  h.keep (by simp [World.setCell]) fun b hs _ => ⟨Below.heap_setCell w p u b (by unfold New at hs; omega), hs⟩
theorem ExC.far {w : World} {B : Nat} {t : Pu.Ex} {cs : List Value} (h : ExC w (New B) t cs) {p : Addr} (hp : p.block < B) (u : Value) : ExC (w.setCell p u) (New B) t cs :=
  h.keep (by simp [World.setCell]) fun b hs _ => ⟨Below.heap_setCell w p u b (by unfold New at hs; omega), hs⟩
/-- the four cells of a type, stored -/
def set4 (w : World) (V : Nat) (u0 u1 u2 u3 : Value) : World := (((w.setCell ⟨V, 0, none⟩ u0).setCell ⟨V, 1, none⟩ u1).setCell ⟨V, 2, none⟩ u2).setCell ⟨V, 3, none⟩ u3
/-- Q, but at a panic whatever the slots hold -/
def AnyFrame (Q : Exit → Act → World → Prop) : Exit → Act → World → Prop
  | .panic c, a, w => ∀ tmps, Q (.panic c) { tmps := tmps, defers := a.defers } w
  | e, a, w => Q e a w
theorem AnyFrame.imp {Q : Exit → Act → World → Prop} : ∀ (e : Exit) (a : Act) (w : World), AnyFrame Q e a w → Q e a w := fun e a w h => by
  cases e <;> first | exact h | exact h a.tmps
theorem AnyFrame.normal {Q : Exit → Act → World → Prop} {a : Act} {w : World} (h : Q .normal a w) : AnyFrame Q .normal a w := h
theorem wp_region_anyFrame {P : Program} {id : Nat} {ops : Array Oper} {b : Bool} {Q : Exit → Act → World → Prop} {a : Act} {w : World} (h : (Code.region id ops b).wp P (AnyFrame Q) a w) : (Code.region id ops b).wp P Q a w :=
  Code.wp_mono AnyFrame.imp h
/-- a fault: what every reader leaves -/
def FaultP (R : Nat) (w : World) (k : Nat) (e : Ending) (w' : World) : Prop := Faulted k e ∧ (∃ l' d', Rd w' R l' d') ∧ w.grownBy w' (some R)
/-- what a reader of a type does -/
def KindPost (R : Nat) (d : Int) (w : World) (r : Pu.PR Pu.Ty) (e : Ending) (w' : World) : Prop := match r with
  | .ok (t, l') => (∃ cs, e = .returned (.agg cs.toArray) ∧ TyC w' (New w.heap.size) t cs) ∧ Rd w' R l' d ∧ w.grownBy w' (some R)
  | .error k => FaultP R w k e w'
def ExprPost (R : Nat) (d : Int) (w : World) (r : Pu.PR Pu.Ex) (e : Ending) (w' : World) : Prop := match r with
  | .ok (t, l') => (∃ cs, e = .returned (.agg cs.toArray) ∧ ExC w' (New w.heap.size) t cs) ∧ Rd w' R l' d ∧ w.grownBy w' (some R)
  | .error k => FaultP R w k e w'
/-- one type as the only element of a new list -/
theorem TyC.one {w : World} {B : Nat} {t : Pu.Ty} {cs : List Value} (h : TyC w (New B) t cs) (hB : B ≤ w.heap.size) (k : Int) (of nm : List UInt8) :
    TyC (w.alloc (.cells cs.toArray 50)) (New B) (.mk k of nm [t]) [.int .i64 k, str of, str nm, .slice (some ⟨w.heap.size, 0, none⟩) 1 1] := by
  refine .mk k of nm [t] _ 1 (fun _ => cs) (by simp) (fun _ _ => h.length) ?_ ?_
  · intro i u hi
    have hi0 : i = 0 := by
      have := (List.getElem?_eq_some_iff.1 hi).1
      simpa using this
    subst hi0
    simp only [List.getElem?_cons_zero, Option.some.injEq] at hi
    subst hi
    exact h.keep (by simp) fun b hs hb => ⟨Below.heap_alloc w _ b hb, hs⟩
  · intro _
    refine ⟨w.heap.size, 0, rfl, hB, by simp, ?_⟩
    intro i hi j u hu
    have hi0 : i = 0 := by simpa using hi
    subst hi0
    rw [show 0 + 0 * 4 + j = j by omega, cell_of_row _ _ _ _ _ _ (heap_alloc_new _ _)]
    simpa using hu
theorem TyC.leaf (w : World) (S : Nat → Prop) (k : Int) (of nm : List UInt8) : TyC w S (.mk k of nm []) [.int .i64 k, str of, str nm, .slice none 0 0] :=
  .mk k of nm [] none 0 (fun _ => []) (by simp) (fun i hi => absurd hi (by simp)) (fun i t h => by simp at h) (fun h => absurd h (by simp))
theorem ExC.leaf (w : World) (S : Nat → Prop) (k n : Int) (of nm : List UInt8) : ExC w S (.mk k n of nm []) [.int .i64 k, .int .i64 n, str of, str nm, .slice none 0 0] :=
  .mk k n of nm [] none 0 (fun _ => []) (by simp) (fun i hi => absurd hi (by simp)) (fun i t h => by simp at h) (fun h => absurd h (by simp))
end Go.Proofs.YtpfgjiapdepdmaaGreatDoor
