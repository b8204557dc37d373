/- The walk of TreesBad. -/
import Derived.Test.YtpfgjiapdepdmaaGreatDoorRead
import Derived.Test.YtpfgjiapdepdmaaGreatDoorBads
import Derived.Test.YtpfgjiapdepdmaaGreatDoorPick
import Derived.Test.YtpfgjiapdepdmaaGreatDoorShelf
namespace Go.Proofs.YtpfgjiapdepdmaaGreatDoor
open Go Go.RowKit Go.Shelf

def badCells : List Value := Pu.bads.map fun l => .string ⟨l.toArray⟩
theorem badCells_at {k : Nat} (hk : k < 24) : ∃ l, Pu.bads[k]? = some l ∧ badCells[k]? = some (.string ⟨l.toArray⟩) := by
  have h : Pu.bads[k]? = some (Pu.bads[k]'(hk : k < Pu.bads.length)) := List.getElem?_eq_getElem _
  refine ⟨_, h, ?_⟩
  unfold badCells
  rw [List.getElem?_map, h]
  rfl
theorem bads_short {k : Nat} {l : Pu.Bytes} (h : Pu.bads[k]? = some l) : l.length ≤ 100 := by
  have h0 : Pu.bads.all (fun l => decide (l.length ≤ 100)) = true := by kernel_rfl
  exact of_decide_eq_true (List.all_eq_true.mp h0 l (List.mem_of_getElem? h))
def st (l : Pu.Bytes) : ByteArray := ⟨l.toArray⟩
theorem add_st (a b : Pu.Bytes) (ha : a.length ≤ 1000) (hb : b.length ≤ 1000) (W : World) : (Op.stringOp .add (st a) (st b)).run Tryz.prog W = .ok (.string (st (a ++ b))) W :=
  run_string_add_lists W a b (by omega) (by omega)
set_option maxHeartbeats 2000000 in
theorem treesBad_any (n : Int) (h1 : -9223372036854775808 ≤ n) (h2 : n ≤ 9223372036854775807) (w : World) (hw : Env w) :
    Calls Tryz.prog 5 #[.int .i64 n] w fun e w' => e = .returned (.bool true) ∧ Below w.heap.size w w' := by
  have hpk := fun W => picked_any n 24 h1 h2 (by omega) (by omega) W
  have hl := pickedL_lt n 24 (by omega)
  obtain ⟨k, hk⟩ : ∃ k : Nat, pickedL n 24 = (k : Int) := ⟨(pickedL n 24).toNat, by omega⟩
  rw [hk] at hpk hl
  have hk24 : k < 24 := by omega
  obtain ⟨l, hbl, hcl⟩ := badCells_at hk24
  have hrd := Pu.bads_read hbl
  have hshort := bads_short hbl
  obtain ⟨mg, hmg⟩ := Pu.deep_ok
  have hmd := Pu.deep_size
  have A1 : ∀ W, (Op.stringOp .add (st l) ⟨#[10]⟩).run Tryz.prog W = .ok (.string (st (l ++ [10]))) W := add_st l [10] (by omega) (by decide)
  have A2 : ∀ W, (Op.stringOp .add (st (List.replicate 40 40)) ⟨#[49]⟩).run Tryz.prog W = .ok (.string (st (List.replicate 40 40 ++ [49]))) W := add_st _ [49] (by decide) (by decide)
  have A3 : ∀ W, (Op.stringOp .add (st (List.replicate 40 40 ++ [49])) (st (List.replicate 40 41))).run Tryz.prog W = .ok (.string (st (Pu.deep 40))) W := add_st _ _ (by decide) (by decide)
  have A4 : ∀ W, (Op.stringOp .add ⟨#[102, 117, 110, 99, 32, 97, 40, 41, 58, 32, 105, 110, 116, 32, 61, 32]⟩ (st (Pu.deep 40))).run Tryz.prog W = .ok (.string (st (Pu.pre ++ Pu.deep 40))) W := add_st Pu.pre _ (by decide) (by decide)
  have A5 : ∀ W, (Op.stringOp .add ⟨#[102, 117, 110, 99, 32, 97, 40, 41, 58, 32, 105, 110, 116, 32, 61, 32]⟩ (st (Pu.deep 39))).run Tryz.prog W = .ok (.string (st (Pu.pre ++ Pu.deep 39))) W := add_st Pu.pre _ (by decide) (by decide)
  have hR1 : ∀ W, Calls Tryz.prog 12 #[.string ⟨#[40]⟩, .int .i64 40] W fun e w' => e = .returned (.string (st (List.replicate 40 40))) ∧ Below W.heap.size W w' := fun W => Tryz.strings_Repeat ⟨#[40]⟩ 40 W (by omega) (by decide)
  have hR2 : ∀ W, Calls Tryz.prog 12 #[.string ⟨#[41]⟩, .int .i64 40] W fun e w' => e = .returned (.string (st (List.replicate 40 41))) ∧ Below W.heap.size W w' := fun W => Tryz.strings_Repeat ⟨#[41]⟩ 40 W (by omega) (by decide)
  have hsz : (st (Pu.deep 40)).size = 81 := by kernel_rfl
  have hex : (st (Pu.deep 40)).extract 1 80 = st (Pu.deep 39) := by decide +kernel
  have hd1 := fun W h => read_any (l ++ [10]) W h (by simp; omega)
  have hd2 := fun W h => read_any (Pu.pre ++ Pu.deep 40) W h (by decide)
  have hd3 := fun W h => read_any (Pu.pre ++ Pu.deep 39) W h (by decide)
  rw [hrd] at hd1
  rw [hmd] at hd2
  rw [hmg] at hd3
  replace hcl : badCells[k]? = some (.string (st l)) := hcl
  have hd1' : ∀ W, Env W → Calls Tryz.prog 6 #[.string (st (l ++ [10]))] W (ReadPost W (.error 4)) := hd1
  have hd2' : ∀ W, Env W → Calls Tryz.prog 6 #[.string (st (Pu.pre ++ Pu.deep 40))] W (ReadPost W (.error 1)) := hd2
  have hd3' : ∀ W, Env W → Calls Tryz.prog 6 #[.string (st (Pu.pre ++ Pu.deep 39))] W (ReadPost W (.ok mg)) := hd3
  clear hd1 hd2 hd3 hrd hmg hmd hk hl hbl hshort h1 h2
  generalize st (l ++ [10]) = x1 at A1 hd1'
  generalize st l = x0 at A1 hcl
  generalize st (Pu.pre ++ Pu.deep 40) = e40 at A4 hd2'
  generalize st (Pu.pre ++ Pu.deep 39) = e39 at A5 hd3'
  generalize st (Pu.deep 40) = d40 at A3 A4 hsz hex
  generalize st (Pu.deep 39) = d39 at A5 hex
  generalize st (List.replicate 40 40 ++ [49]) = p2 at A2 A3
  generalize st (List.replicate 40 40) = p1 at A2 hR1
  generalize st (List.replicate 40 41) = p3 at A3 hR2
  replace hw := Lib.hid hw
  replace hpk := Lib.hid hpk
  replace hcl := Lib.hid hcl
  replace hd1' := Lib.hid hd1'
  replace hd2' := Lib.hid hd2'
  replace hd3' := Lib.hid hd3'
  replace hR1 := Lib.hid hR1
  replace hR2 := Lib.hid hR2
  have htop := hw.out.top
  go_enter Tryz.func5, Tryz.ntmps5
  go_wp2_with fail
  refine (hpk.out _).mono ?_
  rintro e w1 ⟨rfl, hw1⟩
  have hcell : w1.cell? ⟨w.heap.size, k, none⟩ = some (.string x0) := by
    rw [← hw1, cell_of_row _ _ _ _ _ (0, 0) (World.alloc_heap_new w _), List.getElem?_toArray]
    exact hcl.out
  have hb1 : Below w.heap.size w w1 := by rw [← hw1]; exact (Below.refl _ w).alloc (Nat.le_refl _) _
  clear hw1 hcl
  have hs1 := hb1.size
  replace hb1 := Lib.hid hb1
  go_wp2_with fail
  refine (hd1'.out _ (hw.out.new hb1.out)).mono ?_
  rintro e w2 ⟨rfl, hb2⟩
  have hB2 := hb1.out.trans (hb2.mono hs1)
  have hs2 := hB2.size
  replace hB2 := Lib.hid hB2
  clear hb2
  go_wp2_with fail
  have hM := Blk.new w2 26 #[.slice none 0 0, .slice none 0 0, .slice none 0 0]
  have hB3 := hB2.out.alloc hs2 (.cells #[.slice none 0 0, .slice none 0 0, .slice none 0 0] 26)
  refine (hR1.out _).mono ?_
  rintro e w3 ⟨rfl, hb3⟩
  replace hM := hM.below hb3 hM.lt
  replace hB3 := hB3.trans (hb3.mono hB3.size)
  have hs3 := hB3.size
  clear hb3
  replace hM := Lib.hid hM
  replace hB3 := Lib.hid hB3
  go_wp2_with fail
  refine (hR2.out _).mono ?_
  rintro e w4 ⟨rfl, hb4⟩
  have hM4 := hM.out.below hb4 hM.out.lt
  have hB4 := hB3.out.trans (hb4.mono hs3)
  have hs4 := hB4.size
  clear hb4 hM hB3 hs3
  replace hM4 := Lib.hid hM4
  replace hB4 := Lib.hid hB4
  go_wp2_with fail
  refine (hd2'.out _ (hw.out.new hB4.out)).mono ?_
  rintro e w5 ⟨rfl, hb5⟩
  have hM5 := (hM4.out.below hb5 hM4.out.lt).alloc (.cells #[.slice none 0 0, .slice none 0 0, .slice none 0 0] 26)
  have hB5 := hB4.out.trans (hb5.mono hs4)
  have hs5 := hB5.size
  replace hB5 := hB5.alloc hs5 (.cells #[.slice none 0 0, .slice none 0 0, .slice none 0 0] 26)
  clear hb5 hM4 hB4 hs4
  replace hM5 := Lib.hid hM5
  replace hB5 := Lib.hid hB5
  go_wp2_with fail
  refine (hd3'.out _ (hw.out.new hB5.out)).mono ?_
  rintro e w6 ⟨vu, vt, vf, rfl, hm6, hb6⟩
  obtain ⟨uA, uc, rfl⟩ := hm6.us.form
  obtain ⟨tA, tc, rfl⟩ := hm6.ts.form
  obtain ⟨fA, fc, rfl⟩ := hm6.fs.form
  have hM6 := (hM5.out.below hb6 hM5.out.lt)
  have hB6 := hB5.out.trans (hb6.mono hB5.out.size)
  have hs6 := hB6.size
  have hl6 := hM6.lt
  clear hb6 hm6 hM5 hB5 hs5
  have c0 := hM6.cell 0
  have c1 := hM6.cell 1
  have c2 := hM6.cell 2
  simp only [List.getElem?_toArray, List.getElem?_cons_zero, List.getElem?_cons_succ] at c0 c1 c2
  replace hM6 := Lib.hid hM6
  replace hB6 := Lib.hid hB6
  go_wp2_with fail
  refine bodyPost_ret (v := .bool true) (by simp [results, Tryz.results5, go_sem]) rfl ?_
  exact ⟨rfl, hB6.out.alloc hs6 _⟩
end Go.Proofs.YtpfgjiapdepdmaaGreatDoor
