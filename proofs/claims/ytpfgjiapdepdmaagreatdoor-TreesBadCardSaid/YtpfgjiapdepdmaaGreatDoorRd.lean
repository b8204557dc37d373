/- The walks of the reader's small methods: next, take, must, need. -/
import Derived.Test.YtpfgjiapdepdmaaGreatDoorIdent
import Derived.Test.YtpfgjiapdepdmaaGreatDoorPure
namespace Go.Proofs.YtpfgjiapdepdmaaGreatDoor
open Go.RowKit Go.Shelf

/-- a text as a value -/
def str (l : List UInt8) : Value := .string ⟨l.toArray⟩
def tokCells (l : List Pu.Tok) : List Value := l.flatMap fun t => [.int .i64 (t.kind : Int), .string ⟨t.text.toArray⟩]
theorem tokCells_cons (t : Pu.Tok) (l : List Pu.Tok) : tokCells (t :: l) = .int .i64 (t.kind : Int) :: .string ⟨t.text.toArray⟩ :: tokCells l := rfl
theorem tokCells_len (l : List Pu.Tok) : (tokCells l).length = l.length * 2 := by
  induction l with
  | nil => rfl
  | cons t l ih => rw [tokCells_cons]; simp only [List.length_cons, ih]; omega

/-- the reader's block: the tokens that are left, how deep it is -/
def Rd (w : World) (R : Nat) (l : List Pu.Tok) (d : Int) : Prop :=
  ∃ A c, Blk w R 91 #[.slice A l.length c, .int .i64 d] ∧ l.length ≤ c ∧ Reads w R 2 A l.length (tokCells l)
theorem Rd.nil_form {w : World} {R : Nat} {d : Int} (h : Rd w R [] d) : ∃ A c, Blk w R 91 #[.slice A 0 c, .int .i64 d] := by
  obtain ⟨A, c, hb, _⟩ := h
  exact ⟨A, c, hb⟩
/-- only block R has turned, and what is new -/
theorem Rd.cons_form {w : World} {R : Nat} {t : Pu.Tok} {l : List Pu.Tok} {d : Int} (h : Rd w R (t :: l) d) :
    ∃ b off c, Blk w R 91 #[.slice (some ⟨b, off, none⟩) (l.length + 1) c, .int .i64 d] ∧ l.length + 1 ≤ c ∧ b < R ∧
      w.cell? ⟨b, off, none⟩ = some (.int .i64 (t.kind : Int)) ∧ w.cell? ⟨b, off + 1, none⟩ = some (.string ⟨t.text.toArray⟩) ∧
      Reads w R 2 (some ⟨b, off, none⟩) (l.length + 1) (tokCells (t :: l)) := by
  obtain ⟨A, c, hb, hc, hr⟩ := h
  obtain ⟨b, off, rfl, hlt, hcell⟩ := hr.2 (by simp)
  exact ⟨b, off, c, hb, hc, hlt, by simpa using hcell 0 _ rfl, hcell 1 _ rfl, hr⟩
/-- the reader one token on -/
theorem Rd.next_ {w : World} {R : Nat} {t : Pu.Tok} {l : List Pu.Tok} {d : Int} {b off c : Nat} (hb : Blk w R 91 #[.slice (some ⟨b, off, none⟩) (l.length + 1) c, .int .i64 d])
    (hc : l.length + 1 ≤ c) (hr : Reads w R 2 (some ⟨b, off, none⟩) (l.length + 1) (tokCells (t :: l))) :
    Rd (w.setCell ⟨R, 0, none⟩ (.slice (if c = 1 then some ⟨b, off, none⟩ else some ⟨b, off + 2, none⟩) l.length (c - 1))) R l d := by
  refine ⟨_, c - 1, hb.set_ 0 _, by omega, ?_⟩
  have h1 := (hr.cut (k := 1) (cap := c) (by omega) hc).setCell (p := ⟨R, 0, none⟩) (Nat.le_refl _) (.slice (if c = 1 then some ⟨b, off, none⟩ else some ⟨b, off + 2, none⟩) l.length (c - 1))
  simp only [Option.map_some, Nat.one_mul, Nat.add_sub_cancel] at h1
  rw [tokCells_cons] at h1
  simpa [Addr.add] using h1

theorem Rd.lt {w : World} {R : Nat} {l : List Pu.Tok} {d : Int} (h : Rd w R l d) : R < w.heap.size := by
  obtain ⟨A, c, hb, _⟩ := h
  exact hb.lt
theorem Rd.alloc {w : World} {R : Nat} {l : List Pu.Tok} {d : Int} (h : Rd w R l d) (o : Obj) : Rd (w.alloc o) R l d := by
  obtain ⟨A, c, hb, hc, hr⟩ := h
  exact ⟨A, c, hb.alloc o, hc, hr.alloc (Nat.le_of_lt hb.lt) o⟩
theorem Rd.drew {w : World} {R : Nat} {l : List Pu.Tok} {d : Int} (h : Rd w R l d) : Rd w.drew R l d := h
theorem Rd.below {w w' : World} {R B : Nat} {l : List Pu.Tok} {d : Int} (h : Rd w R l d) (hb : Below B w w') (hB : R < B) : Rd w' R l d := by
  obtain ⟨A, c, hk, hc, hr⟩ := h
  exact ⟨A, c, hk.below hb hB, hc, hr.below (hb.mono (Nat.le_of_lt hB))⟩
/-- a store elsewhere -/
theorem Rd.far {w : World} {R : Nat} {l : List Pu.Tok} {d : Int} (h : Rd w R l d) {p : Addr} (hp : R < p.block) (u : Value) : Rd (w.setCell p u) R l d := by
  obtain ⟨A, c, hk, hc, hr⟩ := h
  exact ⟨A, c, hk.far (by omega) u, hc, hr.setCell (Nat.le_of_lt hp) u⟩
/-- another depth -/
theorem Rd.deep {w : World} {R : Nat} {l : List Pu.Tok} {d : Int} (h : Rd w R l d) (d' : Int) : Rd (w.setCell ⟨R, 1, none⟩ (.int .i64 d')) R l d' := by
  obtain ⟨A, c, hk, hc, hr⟩ := h
  exact ⟨A, c, hk.set_ 1 _, hc, hr.setCell (Nat.le_refl _) _⟩

theorem next_nil (R : Nat) (d : Int) (w : World) (h : Rd w R [] d) :
    Calls Tryz.prog 63 #[.pointer (some ⟨R, 0, none⟩)] w fun e w' => e = .returned (.agg #[.int .i64 0, str []]) ∧ Rd w' R [] d ∧ w.grownBy w' (some R) := by
  have h' := Lib.hid h
  obtain ⟨A, c, hb⟩ := h.nil_form
  have hlt := hb.lt
  have c0 := hb.cell 0
  have c1 := hb.cell 1
  simp only [List.getElem?_toArray, List.getElem?_cons_zero, List.getElem?_cons_succ] at c0 c1
  clear hb h
  go_enter Tryz.func63, Tryz.ntmps63
  go_wp2
  refine bodyPost_ret (v := .agg #[.int .i64 0, str []]) (by simp [results, Tryz.results63, go_sem, str]) rfl ⟨rfl, h'.out.alloc _, ?_⟩
  exact only_alloc (only_refl _ _) _
theorem next_cons (R : Nat) (d : Int) (t : Pu.Tok) (l : List Pu.Tok) (w : World) (h : Rd w R (t :: l) d) :
    Calls Tryz.prog 63 #[.pointer (some ⟨R, 0, none⟩)] w fun e w' => e = .returned (.agg #[.int .i64 (t.kind : Int), str t.text]) ∧ Rd w' R l d ∧ w.grownBy w' (some R) := by
  obtain ⟨b, off, c, hb, hc, hbR, hk, ht, hr⟩ := h.cons_form
  have hn := Rd.next_ hb hc hr
  have hlt := hb.lt
  have f0 := hb.frozen 0
  have c0 := hb.cell 0
  have c1 := hb.cell 1
  simp only [List.getElem?_toArray, List.getElem?_cons_zero, List.getElem?_cons_succ] at c0 c1
  clear hb h hr
  have hbw : b < w.heap.size := by omega
  have hne : b ≠ R := by omega
  have hz : (((l.length : Int) + 1) == 0) = false := by rw [beq_eq_false_iff_ne]; omega
  by_cases hc1 : c = 1
  · rw [if_pos hc1] at hn
    subst hc1
    obtain rfl : l = [] := List.eq_nil_of_length_eq_zero (by omega)
    have hn := Lib.hid hn
    go_enter Tryz.func63, Tryz.ntmps63
    go_wp2
    refine bodyPost_ret (v := .agg #[.int .i64 (t.kind : Int), str t.text]) (by simp [results, Tryz.results63, go_sem, str]) rfl ⟨rfl, ?_, ?_⟩
    · exact (hn.out.alloc _).alloc _
    · exact only_alloc (only_alloc (only_setCell (only_refl _ _) (.inl rfl) _) _) _
  · rw [if_neg hc1] at hn
    have hn := Lib.hid hn
    go_enter Tryz.func63, Tryz.ntmps63
    go_wp2
    refine bodyPost_ret (v := .agg #[.int .i64 (t.kind : Int), str t.text]) (by simp [results, Tryz.results63, go_sem, str]) rfl ⟨rfl, ?_, ?_⟩
    · exact (hn.out.alloc _).alloc _
    · exact only_alloc (only_alloc (only_setCell (only_refl _ _) (.inl rfl) _) _) _
end Go.Proofs.YtpfgjiapdepdmaaGreatDoor
