/- The walk of what strings.SplitSeq hands back, at a newline. -/
import Derived.Test.YtpfgjiapdepdmaaGreatDoorRange
import Derived.Test.YtpfgjiapdepdmaaGreatDoorShelf
import Derived.Test.YtpfgjiapdepdmaaGreatDoorRd
import Derived.TacticsInMore
import Derived.LoopNIn
import Derived.LoopIn
import Derived.OwnWalkIn
namespace Go.Proofs.YtpfgjiapdepdmaaGreatDoor
open Go Go.RowKit Go.Shelf
attribute [local go_sem] Oper.semAt_some

theorem linesOf_one : ∀ (s : List UInt8), Lib.indexByte s 10 < 0 → Pu.linesOf s = [s]
  | [], _ => rfl
  | c :: t, h => by
    unfold Lib.indexByte at h
    by_cases hc : c = 10
    · subst hc; simp at h
    · have e : (c == 10) = false := by simpa using hc
      rw [e] at h
      have ht : Lib.indexByte t 10 < 0 := by
        by_cases h1 : Lib.indexByte t 10 = -1
        · omega
        · have e1 : (Lib.indexByte t 10 == -1) = false := by simpa using h1
          rw [e1] at h
          simp at h
          omega
      have := linesOf_one t ht
      unfold Pu.linesOf
      rw [if_neg hc, this]
theorem linesOf_cut : ∀ (s : List UInt8) (i : Nat), Lib.indexByte s 10 = (i : Int) → Pu.linesOf s = s.take i :: Pu.linesOf (s.drop (i + 1)) ∧ i < s.length
  | [], i, h => by unfold Lib.indexByte at h; omega
  | c :: t, i, h => by
    unfold Lib.indexByte at h
    by_cases hc : c = 10
    · subst hc
      have hi : i = 0 := by simp at h; omega
      subst hi
      refine ⟨?_, by simp⟩
      conv => lhs; unfold Pu.linesOf
      simp
    · have e : (c == 10) = false := by simpa using hc
      rw [e] at h
      by_cases h1 : Lib.indexByte t 10 = -1
      · have e1 : (Lib.indexByte t 10 == -1) = true := by simpa using h1
        rw [e1] at h
        simp at h
      · have e1 : (Lib.indexByte t 10 == -1) = false := by simpa using h1
        rw [e1] at h
        simp at h
        have hge := Lib.indexByte_ge t 10
        cases i with
        | zero => omega
        | succ i =>
          obtain ⟨h2, h3⟩ := linesOf_cut t i (by omega)
          refine ⟨?_, by simp; omega⟩
          conv => lhs; unfold Pu.linesOf
          rw [if_neg hc, h2]
          simp
/-- how long the text in a cell is -/
def lenAt (w : World) (b : Nat) : Nat := match w.cell? ⟨b, 0, none⟩ with
  | some (.string s) => s.size
  | _ => 0
theorem ext_list (s : List UInt8) (i j : Nat) : (⟨s.toArray⟩ : ByteArray).extract i j = ⟨((s.take j).drop i).toArray⟩ := by
  apply ByteArray.ext
  simp [ByteArray.data_extract, List.drop_take]
theorem lenAt_eq {w : World} {b : Nat} {s : ByteArray} (h : w.cell? ⟨b, 0, none⟩ = some (.string s)) : lenAt w b = s.size := by unfold lenAt; rw [h]
set_option maxHeartbeats 2000000 in
theorem split_any (l b1 b2 b3 : Nat) (s : List UInt8) (J : List (List UInt8) → World → Prop) (Jp : List PanicEntry → World → Prop) (Kp : World → World → Prop) (W0 : World) (hs : s.length ≤ 1500)
    (hJ : ∀ ls W, J ls W → W.cell? ⟨b1, 0, none⟩ = some (.string ⟨#[10]⟩) ∧ W.cell? ⟨b3, 0, none⟩ = some (.int .i64 0) ∧ W.frozen? ⟨b2, 0, none⟩ = false)
    (hKp : ∀ W W', Kp W W' → W'.cell? ⟨b2, 0, none⟩ = W.cell? ⟨b2, 0, none⟩)
    (hJs : ∀ ls W v, J ls W → J ls (W.setCell ⟨b2, 0, none⟩ v))
    (hY : ∀ x rest W1, J (x :: rest) W1 → YieldAt Fence.wide 0 Tryz.prog l #[.string ⟨x.toArray⟩] W1 fun e W' => (e = .returned (.bool true) ∧ J rest W' ∧ Kp W1 W') ∨ (∃ ch, e = .panicked ch ∧ Jp ch W'))
    (h2 : W0.cell? ⟨b2, 0, none⟩ = some (.string ⟨s.toArray⟩)) (h0 : J (Pu.linesOf s) W0) :
    CallsIn Fence.wide 0 Tryz.prog 82 #[.func (.yield l) #[] #[], .pointer (some ⟨b1, 0, none⟩), .pointer (some ⟨b2, 0, none⟩), .pointer (some ⟨b3, 0, none⟩)] W0 fun e W' => (∃ v, e = .returned v ∧ J [] W') ∨ (∃ ch, e = .panicked ch ∧ Jp ch W') := by
  refine callsIn_of_wp Tryz.func82 rfl trivial ?_ rfl
  simp only [Tryz.ntmps82, List.size_toArray, List.length_cons, List.length_nil, Nat.reduceAdd, Nat.reduceSub, Array.replicate_succ, Array.replicate_zero, List.push_toArray, List.append_toArray, List.nil_append, List.cons_append]
  obtain ⟨c1, c3, f2⟩ := hJ _ _ h0
  have hJ' := Lib.hid hJ
  have hKp' := Lib.hid hKp
  have hJs' := Lib.hid hJs
  have hY' := Lib.hid hY
  have h0' := Lib.hid h0
  clear hJ hKp hJs hY h0
  have hIx := fun (s' : ByteArray) W => callsIn_wide (n := 0).2 (Tryz.strings_Index_one s' 10 W)
  gi_wp2
  gi_loopw [] (fun wr => ∃ s' : List UInt8, wr.cell? ⟨b2, 0, none⟩ = some (.string ⟨s'.toArray⟩) ∧ s'.length ≤ 1500 ∧ J (Pu.linesOf s') wr) (fun wr => lenAt wr b2)
  case atStart => exact ⟨s, h2, hs, h0'.out⟩
  case round =>
    obtain ⟨s', hc2, hs', hJr⟩ := hrel
    obtain ⟨c1', c3', f2'⟩ := hJ'.out _ _ hJr
    have hlen := lenAt_eq hc2
    replace hJr := Lib.hid hJr
    replace hlen := Lib.hid hlen
    clear c1 c3 f2 h2 hs
    have hge := Lib.indexByte_ge s' 10
    by_cases hneg : Lib.indexByte s' 10 < 0
    · have hl1 := linesOf_one s' hneg
      have hJ1 := hJr.out
      rw [hl1] at hJ1
      have hd : decide (Lib.indexByte s' 10 < 0) = true := by simpa using hneg
      obtain ⟨fn, tmps, assign, body, hy, hR⟩ := hY'.out s' [] wr hJ1
      replace hl1 := Lib.hid hl1
      replace hJ1 := Lib.hid hJ1
      gi_wp2_with (refine ⟨trivial, rfl, ?_⟩; gi_at_call 84; refine (hIx _ _).mono ?_; rintro e w' ⟨rfl, hw⟩; obtain rfl := hw.symm)
      refine ⟨rfl, ?_⟩
      refine hR.mono ?_
      rintro e W3 (⟨rfl, hJ3, hk3⟩ | ⟨ch, rfl, hj3⟩)
      · gi_wp2
        go_end0
        exact .inl ⟨_, rfl, hJ3⟩
      · gi_wp2
        exact ⟨rfl, .inr ⟨ch, rfl, hj3⟩⟩
    · obtain ⟨i, hi⟩ : ∃ i : Nat, Lib.indexByte s' 10 = (i : Int) := ⟨(Lib.indexByte s' 10).toNat, by omega⟩
      obtain ⟨hl1, hil⟩ := linesOf_cut s' i hi
      have hJ1 := hJr.out
      rw [hl1] at hJ1
      have hsz : (⟨s'.toArray⟩ : ByteArray).size = s'.length := by simp [ByteArray.size]
      obtain ⟨fn, tmps, assign, body, hy, hR⟩ := hY'.out _ _ wr hJ1
      have hIx2 : ∀ W, CallsIn Fence.wide 0 Tryz.prog 84 #[.string ⟨s'.toArray⟩, .string ⟨#[10]⟩] W fun e w' => e = .returned (.int .i64 (i : Int)) ∧ w' = W := by
        intro W
        have := hIx ⟨s'.toArray⟩ W
        rw [show (⟨s'.toArray⟩ : ByteArray).data.toList = s' from rfl, hi] at this
        exact this
      have hex : (⟨s'.toArray⟩ : ByteArray).extract 0 i = ⟨(s'.take i).toArray⟩ := ext_list s' 0 i
      have hex2 : (⟨s'.toArray⟩ : ByteArray).extract (i + 1) s'.length = ⟨(s'.drop (i + 1)).toArray⟩ := by rw [ext_list, List.take_length]
      have hdn : decide ((i : Int) < 0) = false := by simp
      replace hl1 := Lib.hid hl1
      replace hJ1 := Lib.hid hJ1
      replace hi := Lib.hid hi
      replace hIx2 := Lib.hid hIx2
      clear hneg hge hIx
      gi_wp2_with (refine ⟨trivial, rfl, ?_⟩; gi_at_call 84; refine (hIx2.out _).mono ?_; rintro e w' ⟨rfl, hw⟩; obtain rfl := hw.symm)
      refine ⟨rfl, ?_⟩
      refine hR.mono ?_
      clear hy hR
      rintro e W3 (⟨rfl, hJ3, hk3⟩ | ⟨ch, rfl, hj3⟩)
      · have hc3 : W3.cell? ⟨b2, 0, none⟩ = some (.string ⟨s'.toArray⟩) := (hKp'.out _ _ hk3).trans hc2
        obtain ⟨d1, d3, g2⟩ := hJ'.out _ _ hJ3
        have hJ4 := hJs'.out _ _ (.string ⟨(s'.drop (i + 1)).toArray⟩) hJ3
        have hc4 : (W3.setCell ⟨b2, 0, none⟩ (.string ⟨(s'.drop (i + 1)).toArray⟩)).cell? ⟨b2, 0, none⟩ = some (.string ⟨(s'.drop (i + 1)).toArray⟩) := World.cell?_setCell_same' _ _ _ (by rw [hc3]; rfl)
        have hl4 := lenAt_eq hc4
        have hm : lenAt (W3.setCell ⟨b2, 0, none⟩ (.string ⟨(s'.drop (i + 1)).toArray⟩)) b2 < lenAt wr b2 := by
          rw [hl4, hlen.out]
          simp [ByteArray.size]
          omega
        have hd4 : (s'.drop (i + 1)).length ≤ 1500 := by simp; omega
        have hle : i + 1 ≤ s'.length := by omega
        replace hJ3 := Lib.hid hJ3
        replace hJ4 := Lib.hid hJ4
        replace hc4 := Lib.hid hc4
        replace hl4 := Lib.hid hl4
        replace hm := Lib.hid hm
        replace hd4 := Lib.hid hd4
        clear hc2 c1' c3' f2' hdn hex
        gi_wp2
        go_roundw
        case rel => exact ⟨_, hc4.out, hd4.out, hJ4.out⟩
        case measure => exact hm.out
      · gi_wp2
        exact ⟨rfl, .inr ⟨ch, rfl, hj3⟩⟩
end Go.Proofs.YtpfgjiapdepdmaaGreatDoor
