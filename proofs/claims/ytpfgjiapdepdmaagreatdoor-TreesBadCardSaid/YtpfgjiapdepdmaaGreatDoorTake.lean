/- The walks of the reader's take and need, must, name. -/
import Derived.Test.YtpfgjiapdepdmaaGreatDoorRd
namespace Go.Proofs.YtpfgjiapdepdmaaGreatDoor
open Go.RowKit Go.Shelf

/-- a fault that was found: what need panics with -/
def fault (e : Nat) : Value := .iface 120 (.agg #[.int .i64 (e : Int)])
def Faulted (k : Nat) (e : Ending) : Prop := e = .panicked [{ v := fault k, recovered := false }]

theorem need_yes (e : Int) (w : World) : Calls Tryz.prog 37 #[.bool true, .int .i64 e] w fun x w' => x = .returned (.tuple #[]) ∧ w = w' := by
  go_enter Tryz.func37, Tryz.ntmps37
  go_wp2
  go_end0
  exact ⟨rfl, rfl⟩
theorem need_no (e : Nat) (w : World) : Calls Tryz.prog 37 #[.bool false, .int .i64 (e : Int)] w fun x w' => Faulted e x ∧ w = w' := by
  go_enter Tryz.func37, Tryz.ntmps37
  go_wp2
  exact ⟨rfl, rfl, rfl⟩

theorem take_nil (R : Nat) (x : ByteArray) (d : Int) (w : World) (h : Rd w R [] d) :
    Calls Tryz.prog 95 #[.pointer (some ⟨R, 0, none⟩), .string x] w fun e w' => e = .returned (.bool false) ∧ w = w' := by
  obtain ⟨A, c, hb⟩ := h.nil_form
  have hlt := hb.lt
  have c0 := hb.cell 0
  have c1 := hb.cell 1
  simp only [List.getElem?_toArray, List.getElem?_cons_zero, List.getElem?_cons_succ] at c0 c1
  clear hb h
  go_enter Tryz.func95, Tryz.ntmps95
  go_wp2
  go_ret
  exact ⟨rfl, rfl⟩
theorem take_yes (R : Nat) (x : List UInt8) (d : Int) (l : List Pu.Tok) (w : World) (h : Rd w R (⟨4, x⟩ :: l) d) :
    Calls Tryz.prog 95 #[.pointer (some ⟨R, 0, none⟩), .string ⟨x.toArray⟩] w fun e w' => e = .returned (.bool true) ∧ Rd w' R l d ∧ w.grownBy w' (some R) := by
  obtain ⟨b, off, c, hb, hc, hbR, hk, ht, hr⟩ := h.cons_form
  have hn := Rd.next_ hb hc hr
  have hlt := hb.lt
  have f0 := hb.frozen 0
  have c0 := hb.cell 0
  have c1 := hb.cell 1
  simp only [List.getElem?_toArray, List.getElem?_cons_zero, List.getElem?_cons_succ] at c0 c1
  clear hb h hr
  have hbw : b < w.heap.size := by omega
  have hne : b ≠ R := by omega
  have hz : (((l.length : Int) + 1) == 0) = false := by rw [beq_eq_false_iff_ne]; omega
  have hk4 : ((4 : Nat) : Int) = 4 := rfl
  rw [hk4] at hk
  clear hk4
  by_cases hc1 : c = 1
  · rw [if_pos hc1] at hn
    subst hc1
    obtain rfl : l = [] := List.eq_nil_of_length_eq_zero (by omega)
    have hn := Lib.hid hn
    go_enter Tryz.func95, Tryz.ntmps95
    go_wp2
    go_ret
    exact ⟨rfl, hn.out, only_setCell (only_refl _ _) (.inl rfl) _⟩
  · rw [if_neg hc1] at hn
    have hn := Lib.hid hn
    go_enter Tryz.func95, Tryz.ntmps95
    go_wp2
    go_ret
    exact ⟨rfl, hn.out, only_setCell (only_refl _ _) (.inl rfl) _⟩
theorem take_no (R : Nat) (x : List UInt8) (d : Int) (t : Pu.Tok) (l : List Pu.Tok) (w : World) (h : Rd w R (t :: l) d) (hno : ¬ (t.kind = 4 ∧ t.text = x)) :
    Calls Tryz.prog 95 #[.pointer (some ⟨R, 0, none⟩), .string ⟨x.toArray⟩] w fun e w' => e = .returned (.bool false) ∧ w = w' := by
  obtain ⟨b, off, c, hb, hc, hbR, hk, ht, hr⟩ := h.cons_form
  have hlt := hb.lt
  have c0 := hb.cell 0
  have c1 := hb.cell 1
  simp only [List.getElem?_toArray, List.getElem?_cons_zero, List.getElem?_cons_succ] at c0 c1
  clear hb h hr
  have hbw : b < w.heap.size := by omega
  have hne : b ≠ R := by omega
  have hz : (((l.length : Int) + 1) == 0) = false := by rw [beq_eq_false_iff_ne]; omega
  by_cases h4 : t.kind = 4
  · have hx : ¬ t.text = x := fun e => hno ⟨h4, e⟩
    rw [h4] at hk
    have hk4 : ((4 : Nat) : Int) = 4 := rfl
    rw [hk4] at hk
    clear hk4 h4 hno
    have hxf : (t.text == x) = false := by simpa using hx
    go_enter Tryz.func95, Tryz.ntmps95
    go_wp2
    go_ret
    exact ⟨rfl, rfl⟩
  · clear hno
    have hz4 : (((t.kind : Int)) == 4) = false := by rw [beq_eq_false_iff_ne]; omega
    have hz4' : (((t.kind : Int)) != 4) = true := by rw [bne_iff_ne]; omega
    go_enter Tryz.func95, Tryz.ntmps95
    go_wp2
    go_ret
    exact ⟨rfl, rfl⟩

/-- what take does: the reader goes on, or nothing turns -/
def TakePost (R : Nat) (d : Int) (w : World) (r : Option (List Pu.Tok)) (e : Ending) (w' : World) : Prop := match r with
  | some l' => e = .returned (.bool true) ∧ Rd w' R l' d ∧ w.grownBy w' (some R)
  | none => e = .returned (.bool false) ∧ w = w'
theorem take_any (R : Nat) (c : UInt8) (d : Int) (l : List Pu.Tok) (w : World) (h : Rd w R l d) :
    Calls Tryz.prog 95 #[.pointer (some ⟨R, 0, none⟩), .string ⟨#[c]⟩] w (TakePost R d w (Pu.take c l)) := by
  cases l with
  | nil => exact take_nil R ⟨#[c]⟩ d w h
  | cons t l =>
    by_cases hy : t.kind = 4 ∧ t.text = [c]
    · have e1 : Pu.take c (t :: l) = some l := by simp [Pu.take, hy.1, hy.2]
      rw [e1]
      obtain ⟨k, x⟩ := t
      obtain ⟨rfl, rfl⟩ := hy
      exact take_yes R [c] d l w h
    · have e1 : Pu.take c (t :: l) = none := by show (if _ then _ else _) = none; rw [if_neg hy]
      rw [e1]
      exact take_no R [c] d t l w h hy
/-- what must does -/
def MustPost (R : Nat) (d : Int) (w : World) (r : Except Nat (List Pu.Tok)) (e : Ending) (w' : World) : Prop := match r with
  | .ok l' => e = .returned (.tuple #[]) ∧ Rd w' R l' d ∧ w.grownBy w' (some R)
  | .error k => Faulted k e ∧ w = w'
theorem must_any (R : Nat) (c : UInt8) (d : Int) (l : List Pu.Tok) (w : World) (h : Rd w R l d) :
    Calls Tryz.prog 65 #[.pointer (some ⟨R, 0, none⟩), .string ⟨#[c]⟩] w (MustPost R d w (Pu.must c l)) := by
  have ht := take_any R c d l w h
  unfold Pu.must
  cases e1 : Pu.take c l with
  | none =>
    rw [e1] at ht
    have ht := Lib.hid ht
    clear h e1
    show Calls _ _ _ _ fun e w' => Faulted 4 e ∧ w = w'
    go_enter Tryz.func65, Tryz.ntmps65
    go_wp2_with fail
    refine ht.out.mono ?_
    rintro e w1 ⟨rfl, rfl⟩
    go_wp2_with fail
    refine (need_no 4 _).mono ?_
    rintro e w1 ⟨rfl, rfl⟩
    go_wp2_with fail
    exact ⟨rfl, rfl, rfl⟩
  | some l' =>
    rw [e1] at ht
    have ht := Lib.hid ht
    clear h e1
    show Calls _ _ _ _ fun e w' => e = .returned (.tuple #[]) ∧ Rd w' R l' d ∧ w.grownBy w' (some R)
    go_enter Tryz.func65, Tryz.ntmps65
    go_wp2_with fail
    refine ht.out.mono ?_
    rintro e w1 ⟨rfl, hr, hg⟩
    go_wp2_with fail
    refine (need_yes 4 _).mono ?_
    rintro e w2 ⟨rfl, rfl⟩
    go_wp2_with fail
    go_end0
    exact ⟨rfl, hr, hg⟩
end Go.Proofs.YtpfgjiapdepdmaaGreatDoor
