/- The walk of parse. -/
import Derived.Test.YtpfgjiapdepdmaaGreatDoorLine
import Derived.Test.YtpfgjiapdepdmaaGreatDoorSplit
import Derived.Test.YtpfgjiapdepdmaaGreatDoorCaught
import Derived.Test.YtpfgjiapdepdmaaGreatDoorCutLaw
import Derived.Test.YtpfgjiapdepdmaaGreatDoorEnv
namespace Go.Proofs.YtpfgjiapdepdmaaGreatDoor
open Go Go.RowKit Go.Shelf

/-- what Cut does -/
def CutPost (w : World) (r : Except Nat (List Pu.Tok)) (e : Ending) (w' : World) : Prop := match r with
  | .ok l => ∃ A c, e = .returned (.tuple #[.slice A l.length c, .int .i64 0]) ∧ l.length ≤ c ∧ Reads w' w'.heap.size 2 A l.length (tokCells l) ∧ Below w.heap.size w w'
  | .error k => e = .returned (.tuple #[.slice none 0 0, .int .i64 (k : Int)]) ∧ k ≠ 0 ∧ Below w.heap.size w w'
/-- a slice of things in the blocks S -/
def SlC {α : Type} (D : World → (Nat → Prop) → α → List Value → Prop) (size : Nat) (w : World) (S : Nat → Prop) (xs : List α) (v : Value) : Prop :=
  ∃ A c, v = .slice A xs.length c ∧ xs.length ≤ c ∧ (0 < xs.length → ∃ b off, A = some ⟨b, off, none⟩ ∧ S b ∧ b < w.heap.size ∧
    ∀ i x, xs[i]? = some x → ∃ cs, D w S x cs ∧ ∀ j u, cs[j]? = some u → w.cell? ⟨b, off + i * size + j, none⟩ = some u)
theorem SlC.keep {α : Type} {D : World → (Nat → Prop) → α → List Value → Prop} {size : Nat} (hD : Keeps D) {w w' : World} {S S' : Nat → Prop} {xs : List α} {v : Value} (h : SlC D size w S xs v) (hw : w.heap.size ≤ w'.heap.size) (hk : ∀ b, S b → b < w.heap.size → w'.heap[b]? = w.heap[b]? ∧ S' b) : SlC D size w' S' xs v := by
  obtain ⟨A, c, hv, hc, h⟩ := h
  refine ⟨A, c, hv, hc, fun hn => ?_⟩
  obtain ⟨b, off, e, hs, hb, hf⟩ := h hn
  obtain ⟨k1, k2⟩ := hk b hs hb
  refine ⟨b, off, e, k2, by omega, fun i f hi => ?_⟩
  obtain ⟨cs, h1, h2⟩ := hf i f hi
  exact ⟨cs, hD _ _ _ _ _ _ h1 hw hk, fun j u hu => (World.cell?_of_block (w := w) (a := ⟨b, off + i * size + j, none⟩) k1).trans (h2 j u hu)⟩
theorem OwnG.toSl {α : Type} {D : World → (Nat → Prop) → α → List Value → Prop} {e : TypeId} {size : Nat} {w : World} {B : Nat} {S S' : Nat → Prop} {v : Value} {xs : List α} (hD : Keeps D) (h : OwnG D e size w B S v xs) (hsz : 0 < size) (hS : ∀ b, S b → S' b) (hB : ∀ b, B ≤ b → S' b) : SlC D size w S' xs v := by
  obtain ⟨A, c, hv⟩ := h.len hsz
  obtain ⟨cells, h1, h2⟩ := h
  have h1' := h1
  rcases h1.2 with ⟨rfl, hc⟩ | ⟨g, cap, cur, rfl, hg, hh, hnc, r⟩
  · injection hv with e1 e2 e3
    subst e1; subst e3
    exact ⟨none, 0, by rw [e2], by omega, fun hn => by omega⟩
  · refine ⟨some ⟨g, 0, none⟩, cap, rfl, hnc, fun hn => ?_⟩
    have hlen := h1.1
    have hgl : g < w.heap.size := by
      rcases Nat.lt_or_ge g w.heap.size with h' | h'
      · exact h'
      · rw [Array.getElem?_eq_none h'] at hh; cases hh
    refine ⟨g, 0, rfl, hB g hg, hgl, fun i f hi => ⟨_, hD _ _ _ _ _ _ (h2 i f hi) (Nat.le_refl _) fun b hs _ => ⟨rfl, hS b hs⟩, ?_⟩⟩
    intro j u hu
    rw [List.getElem?_take] at hu
    split at hu
    · rw [List.getElem?_drop] at hu
      have hc := h1'.cells (g := g) rfl (i * size + j) u hu
      rw [Nat.zero_add]
      unfold Addr.add at hc
      split at hc
      · rename_i h0
        rw [h0]; exact hc
      · simpa using hc
    · cases hu
/-- a module by value: its three slices -/
structure MdS (w : World) (S : Nat → Prop) (m : Pu.Md) (vu vt vf : Value) : Prop where
  us : SlC StC 1 w S m.uses vu
  ts : SlC FdC 5 w S m.types vt
  fs : SlC FnC 12 w S m.funcs vf
theorem MdS.keep {w w' : World} {S S' : Nat → Prop} {m : Pu.Md} {vu vt vf : Value} (h : MdS w S m vu vt vf) (hw : w.heap.size ≤ w'.heap.size) (hk : ∀ b, S b → b < w.heap.size → w'.heap[b]? = w.heap[b]? ∧ S' b) : MdS w' S' m vu vt vf :=
  ⟨h.us.keep StC.keeps hw hk, h.ts.keep FdC.keeps hw hk, h.fs.keep FnC.keeps hw hk⟩
theorem MdV.toS {w : World} {M B R : Nat} {m : Pu.Md} {vu vt vf : Value} (h : MdV w M B R m vu vt vf) : MdS w (New B) m vu vt vf :=
  ⟨h.us.toSl StC.keeps (by omega) (fun b hb => hb.1) (fun b hb => hb), h.ts.toSl FdC.keeps (by omega) (fun b hb => hb.1) (fun b hb => hb), h.fs.toSl FnC.keeps (by omega) (fun b hb => hb.1) (fun b hb => hb)⟩
/-- what parse does -/
def ParsePost (w : World) (r : Except Nat Pu.Md) (e : Ending) (w' : World) : Prop := match r with
  | .ok m => ∃ vu vt vf, e = .returned (.tuple #[.agg #[vu, vt, vf], .int .i64 0]) ∧ MdS w' (New w.heap.size) m vu vt vf ∧ Below w.heap.size w w'
  | .error k => ∃ u0 u1 u2, e = .returned (.tuple #[.agg #[u0, u1, u2], .int .i64 (k : Int)]) ∧ One3 u0 u1 u2 ∧ Below w.heap.size w w'

/-- a turn of a block below the rows leaves the module -/
theorem MdV.low {w w' : World} {M B R l : Nat} {m : Pu.Md} {vu vt vf : Value} (h : MdV w M B R m vu vt vf) (hg : w.grownBy w' (some l)) (hl : l < B) (hM : M ≠ l) : MdV w' M B R m vu vt vf := by
  obtain ⟨h1, h2, h3, h4, h5, h6⟩ := h
  have hS : ∀ b, Fr B R vu vt vf b → b < w.heap.size → some l ≠ some b ∧ Fr B R vu vt vf b := fun b hb _ => ⟨fun e => by injection e with e; have := hb.1; omega, hb⟩
  exact ⟨h1.grown hg (fun e => hM (by injection e)), h2.kept StC.keeps hg (fun g hv e => by injection e with e; have := h2.owns g hv; omega) hS, h3.kept FdC.keeps hg (fun g hv e => by injection e with e; have := h3.owns g hv; omega) hS,
    h4.kept FnC.keeps hg (fun g hv e => by injection e with e; have := h4.owns g hv; omega) hS, h5, h6⟩
theorem MdV.new_ {w : World} {M B R : Nat} (hb : Blk w M 26 #[.slice none 0 0, .slice none 0 0, .slice none 0 0]) (hMB : M < B) : MdV w M B R ⟨[], [], []⟩ (.slice none 0 0) (.slice none 0 0) (.slice none 0 0) :=
  ⟨hb, OwnG.nil _ _ _ _ _ _, OwnG.nil _ _ _ _ _ _, OwnG.nil _ _ _ _ _ _, ⟨fun g e => (by cases e), fun g e => (by cases e), fun g e => (by cases e)⟩, hMB⟩
/-- between two lines: M: the module's block; behind it: e, the three boxes of the iterator, the deferred calls, the loop -/
structure PSt (w : World) (M : Nat) (goal : Except Nat Pu.Md) (ls : List (List UInt8)) (W : World) : Prop where
  md : ∃ R m, MdM W M (M + 7) R m ∧ goal = Pu.pLines m ls ∧ m.uses.length + m.types.length + m.funcs.length + ls.length ≤ 2000
  below : Below M w W
  e : Blk W (M + 1) 27 #[.int .i64 0]
  s : ∃ v, Blk W (M + 2) 9 #[v]
  sep : Blk W (M + 3) 9 #[.string ⟨#[10]⟩]
  sv : Blk W (M + 4) 3 #[.int .i64 0]
  len : ∀ x, x ∈ ls → x.length ≤ 1500
  top : M + 7 ≤ W.heap.size
theorem PSt.turn {w : World} {M l : Nat} {goal : Except Nat Pu.Md} {ls : List (List UInt8)} {W W' : World} (h : PSt w M goal ls W) (hg : W.grownBy W' (some l)) (h1 : l < M + 7) (h2 : M + 5 ≤ l) : PSt w M goal ls W' := by
  obtain ⟨⟨R, m, ⟨vu, vt, vf, hm⟩, e1, e2⟩, a2, a3, ⟨v, a4⟩, a5, a6, a7, a8⟩ := h
  have hne : ∀ b, b < M + 5 → some b ≠ some l := fun b hb e => by injection e; omega
  exact ⟨⟨R, m, ⟨vu, vt, vf, hm.low hg h1 (by omega)⟩, e1, e2⟩, a2.grown hg (by omega) (fun k e => by injection e; omega), a3.grown hg (hne _ (by omega)), ⟨v, a4.grown hg (hne _ (by omega))⟩, a5.grown hg (hne _ (by omega)), a6.grown hg (hne _ (by omega)), a7, Nat.le_trans a8 hg.size⟩
theorem PSt.box {w : World} {M : Nat} {goal : Except Nat Pu.Md} {ls : List (List UInt8)} {W : World} (h : PSt w M goal ls W) (v : Value) : PSt w M goal ls (W.setCell ⟨M + 2, 0, none⟩ v) := by
  obtain ⟨⟨R, m, ⟨vu, vt, vf, hm⟩, e1, e2⟩, a2, a3, ⟨v0, a4⟩, a5, a6, a7, a8⟩ := h
  exact ⟨⟨R, m, ⟨vu, vt, vf, hm.low (only_setCell (only_refl W (some (M + 2))) (.inl rfl) v) (by omega) (by omega)⟩, e1, e2⟩, a2.setCell (by simp) v, a3.far (by simp) v, ⟨v, a4.set_ 0 v⟩, a5.far (by simp) v, a6.far (by simp) v, a7, by simpa [World.setCell] using a8⟩
theorem lines_step {m : Pu.Md} {x : List UInt8} {rest : List (List UInt8)} : Pu.pLines m (x :: rest) = Pu.andThen (Pu.cut x) fun ts => Pu.andThen (Pu.pLine m ts) fun m1 => Pu.pLines m1 rest := rfl
theorem ended_size {α : Type} {r : Pu.PR α} {f : α → Pu.Md} {m' : Pu.Md} {n : Nat} (h : Pu.ended r f = .ok m') (hn : ∀ a, (f a).uses.length + (f a).types.length + (f a).funcs.length = n) : m'.uses.length + m'.types.length + m'.funcs.length = n := by
  unfold Pu.ended at h
  cases r with
  | error k => cases h
  | ok q =>
    rw [Pu.andThen_ok] at h
    split at h
    · injection h with h; rw [← h]; exact hn _
    · cases h
theorem line_size {m m' : Pu.Md} {l : List Pu.Tok} (h : Pu.pLine m l = .ok m') : m'.uses.length + m'.types.length + m'.funcs.length ≤ m.uses.length + m.types.length + m.funcs.length + 1 := by
  cases l with
  | nil => injection h with h; subst h; omega
  | cons t l =>
    have h1 : (if t.kind ≠ 1 then (.error 4 : Except Nat Pu.Md) else if t.text = Pu.wUse then Pu.ended (Pu.pName l) fun nm => { m with uses := m.uses ++ [nm] } else if t.text = Pu.wType then Pu.ended (Pu.pType l) fun f => { m with types := m.types ++ [f] }
          else if t.text = Pu.wFunc then Pu.ended (Pu.pFun l) fun f => { m with funcs := m.funcs ++ [f] } else .error 4) = .ok m' := h
    split at h1
    · cases h1
    · split at h1
      · exact Nat.le_of_eq (ended_size h1 (fun a => by simp; omega))
      · split at h1
        · exact Nat.le_of_eq (ended_size h1 (fun a => by simp; omega))
        · split at h1
          · exact Nat.le_of_eq (ended_size h1 (fun a => by simp; omega))
          · cases h1
end Go.Proofs.YtpfgjiapdepdmaaGreatDoor
