/- Lists of nodes that the call makes; the laws of appending to them. -/
import Derived.Test.YtmmanmacjgedaaaDoorOrdLaw
import Derived.Test.YtmmanmacjgedaaaDoorSortS
import Derived.Test.YtmmanmacjgedaaaDoorSortN
import Derived.Test.YtmmanmacjgedaaaDoorPick
namespace Go.Proofs.YtmmanmacjgedaaaDoor
open Go.RowKit Go.Shelf

theorem ownsRow_below {w w' : World} {B size n : Nat} {e : TypeId} {v : Value} {xs : List Value} (h : w.ownsRow B e size v n xs) (hb : Below w.heap.size w w') : w'.ownsRow B e size v n xs := by
  obtain ⟨h1, h2⟩ := h
  refine ⟨h1, ?_⟩
  rcases h2 with h2 | ⟨g, cap, cur, hv, hg, hh, r⟩
  · exact Or.inl h2
  · refine Or.inr ⟨g, cap, cur, hv, hg, ?_, r⟩
    have hlt : g < w.heap.size := by
      rcases Nat.lt_or_ge g w.heap.size with h' | h'
      · exact h'
      · rw [Array.getElem?_eq_none h'] at hh; cases hh
    rw [hb.block g hlt]; exact hh

theorem info_node : (Tryd.prog.info? 27).map (fun i => (i.zero, i.size, i.bytes)) = some (some (.agg #[.string ⟨#[]⟩, .slice none 0 0]), 2, 40) := by kernel_rfl

/-- what node i's two cells are -/
def NodeAt (w : World) (v : Value) (cells : List Value) (l : List Nd) (i : Nat) : Prop :=
  ∃ A' c, cells[i * 2]? = some (.string (nameAt l i)) ∧ cells[i * 2 + 1]? = some (.slice A' (usesAt l i).length c) ∧ Reads w w.heap.size 1 A' (usesAt l i).length (strCells (usesAt l i)) ∧
    (∀ ad, A' = some ad → 0 < (usesAt l i).length → v.ownBlock ≠ some ad.block)
/-- nodes that the call made -/
def OwnN (w : World) (B : Nat) (v : Value) (l : List Nd) : Prop :=
  ∃ cells : List Value, w.ownsRow B 27 2 v l.length cells ∧ ∀ i, i < l.length → NodeAt w v cells l i
theorem OwnN.nil (w : World) (B : Nat) : OwnN w B (.slice none 0 0) [] := ⟨[], World.ownsRow_nil _ _ _ _, fun i hi => absurd hi (by simp)⟩
theorem OwnN.below {w w' : World} {B : Nat} {v : Value} {l : List Nd} (h : OwnN w B v l) (hb : Below w.heap.size w w') : OwnN w' B v l := by
  obtain ⟨cells, h1, h2⟩ := h
  refine ⟨cells, ownsRow_below h1 hb, fun i hi => ?_⟩
  obtain ⟨A', c, e0, e1, hr, hf⟩ := h2 i hi
  exact ⟨A', c, e0, e1, (hr.below hb).more hb.size, hf⟩
theorem OwnN.nodesR {w : World} {B : Nat} {A : Option Addr} {n c : Nat} {l : List Nd} (h : OwnN w B (.slice A n c) l) : NodesR w w.heap.size A l := by
  obtain ⟨cells, h1, h2⟩ := h
  intro hn
  obtain ⟨g, cap, hv, _, hlt⟩ := h1.form hn
  have hA : A = some ⟨g, 0, none⟩ := by injection hv
  subst hA
  refine ⟨g, 0, rfl, hlt, fun i hi => ?_⟩
  obtain ⟨A', c', e0, e1, hr, hf⟩ := h2 i hi
  have key : ∀ j u, cells[j]? = some u → w.cell? ⟨g, 0 + j, none⟩ = some u := by
    intro j u hu
    have hc := h1.cells (g := g) rfl j u hu
    rw [Nat.zero_add]
    unfold Addr.add at hc
    split at hc
    · rename_i h0
      rw [h0]; exact hc
    · simpa using hc
  exact ⟨A', c', key _ _ e0, by have := key _ _ e1; rwa [← Nat.add_assoc] at this, hr⟩
theorem OwnN.len {w : World} {B : Nat} {A : Option Addr} {n c : Nat} {l : List Nd} (h : OwnN w B (.slice A n c) l) : l.length = n := by
  obtain ⟨cells, h1, h2⟩ := h
  rcases h1.2 with ⟨hv, h0⟩ | ⟨g, cap, cur, hv, _⟩
  · injection hv with _ hv _
    have := h1.1
    rw [h0] at this
    simp at this
    omega
  · injection hv with _ hv _
    exact hv.symm

theorem nameAt_snoc_lt (l : List Nd) (x : Nd) {i : Nat} (hi : i < l.length) : nameAt (l ++ [x]) i = nameAt l i := by simp [nameAt, List.getD_eq_getElem?_getD, List.getElem?_append, hi]
theorem usesAt_snoc_lt (l : List Nd) (x : Nd) {i : Nat} (hi : i < l.length) : usesAt (l ++ [x]) i = usesAt l i := by simp [usesAt, List.getD_eq_getElem?_getD, List.getElem?_append, hi]
theorem nameAt_snoc_eq (l : List Nd) (x : Nd) : nameAt (l ++ [x]) l.length = x.name := by simp [nameAt, List.getD_eq_getElem?_getD]
theorem usesAt_snoc_eq (l : List Nd) (x : Nd) : usesAt (l ++ [x]) l.length = x.uses := by simp [usesAt, List.getD_eq_getElem?_getD]

theorem append_node {ops : Array Oper} {rest : List Oper} {o : Oper} {a : Act} {Q : Exit → Act → World → Prop}
    (hgd : o.guard = none) (s x : Operand) (ho : o.op = .call { callee := .builtin .append, args := #[s, x], argTypes := #[23, 23] })
    (W : World) (B : Nat) (v : Value) (l : List Nd) (nm : ByteArray) (A' : Option Addr) (m c : Nat) (us : List ByteArray) (H : Nat) (hs : a.eval s = v) (hx : a.eval x = .slice (some ⟨H, 0, none⟩) 1 1) (hH : W.heap.size = H)
    (hown : OwnN W B v l) (hm : us.length = m) (hus : Reads W W.heap.size 1 A' m (strCells us)) (hfar : ∀ ad, A' = some ad → 0 < m → v.ownBlock ≠ some ad.block) (hlen : l.length ≤ 1000) (hB : B ≤ W.heap.size)
    (h : ∀ v' w', OwnN w' B v' (l ++ [⟨nm, us⟩]) → Below B W w' → W.heap.size < w'.heap.size → wpList Tryd.prog ops Q rest (a.put o.dst v') w') :
    wpList Tryd.prog ops Q (o :: rest) a (W.alloc (.cells #[.string nm, .slice A' m c] 27)) := by
  obtain ⟨i0, hi, hz0, hz1, hz2⟩ := info_parts info_node
  subst hm
  obtain ⟨cells, h1, h2⟩ := hown
  have hcl := h1.1
  refine append_one 23 27 i0 _ 2 40 Tryd.underlying23 hi hz0 hz1 hz2 rfl (by omega) hgd s x ho W B v l.length cells #[.string nm, .slice A' us.length c] H hs hx hH h1 rfl (by simp [Value.oneCell']) (by unfold maxLen; omega) (by omega) hB ?_
  intro v' w' hown' hb hsz hg hob _
  refine h v' w' ?_ hb hsz
  refine ⟨cells ++ [.string nm, .slice A' us.length c], by simpa using hown', ?_⟩
  have keep : ∀ {A2 : Option Addr} {n2 : Nat} {xs : List Value}, Reads W W.heap.size 1 A2 n2 xs → (∀ ad, A2 = some ad → 0 < n2 → v.ownBlock ≠ some ad.block) →
      Reads w' w'.heap.size 1 A2 n2 xs ∧ (∀ ad, A2 = some ad → 0 < n2 → v'.ownBlock ≠ some ad.block) := by
    intro A2 n2 xs hr hf
    refine ⟨⟨hr.1, fun hn2 => ?_⟩, ?_⟩
    · obtain ⟨b, off, e, hb', hc⟩ := hr.2 hn2
      refine ⟨b, off, e, by omega, fun j u hu => ?_⟩
      rw [World.cell?_of_block (hg.block b hb' (fun e' => hf _ e hn2 e'.symm))]
      exact hc j u hu
    · intro ad e hn2
      obtain ⟨b, off, e', hb', hc⟩ := hr.2 hn2
      rw [e] at e'
      injection e' with e'
      subst e'
      rcases hob with ho | ho
      · rw [ho]; exact hf _ e hn2
      · rw [ho]
        intro e2
        injection e2 with e2
        simp only at e2
        omega
  intro i hi
  simp only [List.length_append, List.length_cons, List.length_nil, Nat.zero_add] at hi
  rcases Nat.lt_or_ge i l.length with hlt | hge
  · obtain ⟨A2, c2, e0, e1, hr, hf⟩ := h2 i hlt
    obtain ⟨k1, k2⟩ := keep hr hf
    refine ⟨A2, c2, ?_, ?_, ?_, ?_⟩
    · rw [nameAt_snoc_lt _ _ hlt, List.getElem?_append_left (by omega)]; exact e0
    · rw [usesAt_snoc_lt _ _ hlt, List.getElem?_append_left (by omega)]; exact e1
    · rw [usesAt_snoc_lt _ _ hlt]; exact k1
    · rw [usesAt_snoc_lt _ _ hlt]; exact k2
  · obtain rfl : i = l.length := by omega
    obtain ⟨k1, k2⟩ := keep hus hfar
    refine ⟨A', c, ?_, ?_, ?_, ?_⟩
    · rw [nameAt_snoc_eq, List.getElem?_append_right (by omega), hcl]; simp
    · rw [usesAt_snoc_eq, List.getElem?_append_right (by omega), hcl, show l.length * 2 + 1 - l.length * 2 = 1 by omega]; rfl
    · rw [usesAt_snoc_eq]; exact k1
    · rw [usesAt_snoc_eq]; exact k2

theorem step_append_str {ops : Array Oper} {o : Oper} {a : Act} {K : Act → World → Prop} {Q : Exit → Act → World → Prop} {E : Prop}
    (hgd : o.guard = none) (s x : Operand) (ho : o.op = .call { callee := .builtin .append, args := #[s, x], argTypes := #[25, 25] })
    (w : World) (B : Nat) (v : Value) (l : List ByteArray) (nm : ByteArray) (g0 : Nat) (hs : a.eval s = v) (hx : a.eval x = .slice (some ⟨g0, 0, none⟩) 1 1)
    (hown : OwnS w B v l) (hnew : w.cell? ⟨g0, 0, none⟩ = some (.string nm)) (hlen : (l.length + 1) * 16 ≤ 140737488355328) (hB : B ≤ w.heap.size) (H : Nat) (hH : w.heap.size = H)
    (h : ∀ g cap w', OwnS w' B (.slice (some ⟨g, 0, none⟩) (l.length + 1) cap) (l ++ [nm]) → w.grownBy w' v.ownBlock → (∀ k, v.ownBlock = some k → B ≤ k) → (v.ownBlock = some g ∨ g = H) → K (a.put o.dst (.slice (some ⟨g, 0, none⟩) (l.length + 1) cap)) w') :
    if Region.wanted o (yielded ops a.tmps) = true then Oper.wp Tryd.prog o a w K Q else E := by
  obtain ⟨i0, hi, hz0, hz1, hz2⟩ := info_parts info_str
  refine step_append_lies w hgd s x 25 ho B 9 i0 _ 1 16 Tryd.underlying25 hi hz0 hz1 hz2 rfl (by omega) v l.length (strCells l) hs hown ⟨g0, 0, none⟩ 1 1 [.string nm] hx (by simp) ?_ (by simp [Value.oneCell']) (by omega) (by unfold maxLen; omega) hlen hB H hH ?_
  · intro j u hu
    rcases j with _ | j
    · simp only [List.getElem?_cons_zero, Option.some.injEq] at hu
      subst hu
      exact hnew
    · simp at hu
  · intro g cap w' hown' hg hat hlt
    refine h g cap w' ?_ hg (fun k hk => (hown.lt k hk).1) hat
    unfold OwnS
    have e : strCells (l ++ [nm]) = strCells l ++ [.string nm] := by simp [strCells]
    rw [e, List.length_append]
    exact hown'
/-- a slice that the call made, as a slice; what it reads as -/
theorem OwnS.form {w : World} {B : Nat} {v : Value} {l : List ByteArray} (h : OwnS w B v l) :
    ∃ A c, v = .slice A l.length c ∧ l.length ≤ c ∧ Reads w w.heap.size 1 A l.length (strCells l) ∧ ∀ ad, A = some ad → 0 < l.length → B ≤ ad.block := by
  obtain ⟨h1, h2⟩ := h
  rcases h2 with ⟨rfl, h3⟩ | ⟨g, cap, cur, rfl, hg, hh, hnc, r⟩
  · have hl : l = [] := by simpa [strCells] using h3
    subst hl
    exact ⟨none, 0, rfl, Nat.le_refl _, Reads.none_, fun ad e => by cases e⟩
  · exact ⟨some ⟨g, 0, none⟩, cap, rfl, hnc, Reads.of_own (e := 9) ⟨h1, .inr ⟨g, cap, cur, rfl, hg, hh, hnc, r⟩⟩, fun ad e _ => by injection e with e; subst e; exact hg⟩
theorem strCells_take (l : List ByteArray) (k : Nat) : strCells (l.take k) = (strCells l).take k := by simp [strCells, List.map_take]
theorem OwnN.lt {w : World} {B : Nat} {v : Value} {l : List Nd} (h : OwnN w B v l) : ∀ k, v.ownBlock = some k → k < w.heap.size := by
  obtain ⟨cells, h1, _⟩ := h
  exact fun k hk => (h1.lt k hk).2
/-- a store into another block -/
theorem reads_apart {w : World} {B size n : Nat} {A : Option Addr} {xs : List Value} (h : Reads w B size A n xs) {p : Addr} (u : Value) (hf : ∀ ad, A = some ad → 0 < n → p.block < ad.block) : Reads (w.setCell p u) B size A n xs :=
  ⟨h.1, fun hn => by
    obtain ⟨b, off, e, hb, hc⟩ := h.2 hn
    have hp := hf _ e hn
    exact ⟨b, off, e, hb, fun j u' hu => (World.cell?_setCell_other w p ⟨b, off + j, none⟩ u (fun e => by subst e; simp at hp)).trans (hc j u' hu)⟩⟩
theorem index_names (k : Nat) (hk : k < 6) (w : World) : (Instr.index 24 (.agg #[.string (gname 0), .string (gname 1), .string (gname 2), .string (gname 3), .string (gname 4), .string (gname 5)]) (.int .i64 (k : Int))).run Tryd.prog w = .ok (.string (gname k)) w := by
  have h : k = 0 ∨ k = 1 ∨ k = 2 ∨ k = 3 ∨ k = 4 ∨ k = 5 := by omega
  rcases h with rfl | rfl | rfl | rfl | rfl | rfl <;> simp [Instr.index, run_underlying Tryd.underlying24, go_sem, part, Tryd.isAgg9, Tryd.sizeOf9]
end Go.Proofs.YtmmanmacjgedaaaDoor
