/- The walk of graph.reach: which nodes lead to which, as bits. -/
import Derived.Test.YtmmanmacjgedaaaDoorDirect
import Derived.Test.YtmmanmacjgedaaaDoorGraphLaw
import Derived.Laws.MakeOwn
import Derived.RegionTactic
import Derived.Deep.LoopGhost
namespace Go.Proofs.YtmmanmacjgedaaaDoor
open Go.RowKit Go.Shelf GraphLaw

theorem run_make_rowN {P : Program} (t e : TypeId) (i : TypeInfo) (z : Value) (ht : P.underlying t = some (.slice e)) (hi : P.info? e = some i) (hz : i.zero = some z)
    (kl kc : IntKind) (n c : Nat) (hnc : n ≤ c) (hbytes : i.bytes * c ≤ 281474976710656) (h63 : c ≤ 9223372036854775807) (w : World) :
    (Instr.makeSlice t (.int kl (n : Int)) (.int kc (c : Int))).run P w = .ok (.slice (some ⟨w.heap.size, 0, none⟩) n c) (w.alloc (.cells (madeCells z.cells (c * i.size)) e)) := by
  have hb : (i.bytes : Int) * (c : Int) ≤ 281474976710656 := by
    have h : ((i.bytes * c : Nat) : Int) ≤ 281474976710656 := by omega
    rwa [Int.natCast_mul] at h
  have hr := run_make (P := P) w t e i z ht hi hz kl kc n c (by omega) (by omega) hb (by omega)
  simp only [Int.toNat_natCast] at hr
  exact hr
theorem info_int : (Tryd.prog.info? 3).map (fun i => (i.zero, i.size, i.bytes)) = some (some (.int .i64 0), 1, 8) := by kernel_rfl

/-- numbers as cells -/
def numA (out : List Nat) : Array Value := (out.map fun x : Nat => Value.int .i64 (x : Int)).toArray
theorem numA_size (out : List Nat) : (numA out).size = out.length := by simp [numA]
theorem numA_get (out : List Nat) (i : Nat) (h : i < out.length) : (numA out)[i]? = some (.int .i64 (out.getD i 0 : Nat)) := by
  simp [numA, List.getElem?_eq_getElem h, List.getD_eq_getElem?_getD]
theorem numA_set (out : List Nat) (i x : Nat) : (numA out).setIfInBounds i (.int .i64 (x : Int)) = numA (out.set i x) := by
  unfold numA
  rw [List.setIfInBounds_toArray, List.map_set]
theorem make_ints (n : Nat) (hn : n ≤ 1000) (w : World) : (Instr.makeSlice 48 (.int .i64 (n : Int)) (.int .i64 (n : Int))).run Tryd.prog w =
    .ok (.slice (some ⟨w.heap.size, 0, none⟩) n n) (w.alloc (.cells (numA (List.replicate n 0)) 3)) := by
  obtain ⟨i0, hi, hz0, hz1, hz2⟩ := info_parts info_int
  have h := run_make_rowN (P := Tryd.prog) 48 3 i0 (.int .i64 0) Tryd.underlying48 hi hz0 .i64 .i64 n n (Nat.le_refl _) (by rw [hz2]; omega) (by omega) w
  rw [h, hz1, Nat.mul_one]
  have e : madeCells (Value.int IntKind.i64 0).cells n = numA (List.replicate n 0) := by
    apply Array.ext
    · rw [size_madeCells, numA_size, List.length_replicate]
    · intro j h1 h2
      rw [size_madeCells] at h1
      simp [madeCells, numA, Value.cells, Nat.mod_one]
  rw [e]

/-- the bits of the first k nodes -/
def phase (l : List Nd) (k : Nat) : List Nat := (List.range l.length).map fun i => if i < k then bitsOf l (usesAt l i) else 0
theorem phase_length (l : List Nd) (k : Nat) : (phase l k).length = l.length := by simp [phase]

theorem phase_zero (l : List Nd) : phase l 0 = List.replicate l.length 0 := by
  apply List.ext_getElem
  · simp [phase]
  · intro i h1 h2; simp [phase]
theorem phase_succ (l : List Nd) (k : Nat) : (phase l k).set k (bitsOf l (usesAt l k)) = phase l (k + 1) := by
  apply List.ext_getElem
  · simp [phase]
  · intro i h1 h2
    rw [List.getElem_set]
    simp only [phase, List.getElem_map, List.getElem_range]
    by_cases e : k = i
    · subst e; simp
    · rw [if_neg e]
      by_cases hi : i < k
      · rw [if_pos hi, if_pos (by omega)]
      · rw [if_neg hi, if_neg (by omega)]
theorem phase_self (l : List Nd) (k : Nat) : (phase l k).set k 0 = phase l k := by
  apply List.ext_getElem
  · simp
  · intro i h1 h2
    rw [List.getElem_set]
    split
    · rename_i e; subst e; simp [phase]
    · rfl

theorem set_getD (out : List Nat) (i x : Nat) (h : i < out.length) : (out.set i x).getD i 0 = x := by
  simp [List.getD_eq_getElem?_getD, h]

/-- all numbers are small -/
def Small (out : List Nat) : Prop := ∀ i, out.getD i 0 < 1024
theorem small_phase {l : List Nd} (h : l.length ≤ 10) (k : Nat) : Small (phase l k) := by
  intro i
  rw [List.getD_eq_getElem?_getD]
  unfold phase
  rw [List.getElem?_map]
  cases hr : (List.range l.length)[i]? with
  | none => simp
  | some j =>
    simp only [Option.map_some, Option.getD_some]
    split
    · exact bitsOf_lt h _
    · omega
theorem small_wstep {out : List Nat} (h : Small out) (k i : Nat) : Small (wstep k out i) := by
  unfold wstep
  split
  · intro j
    rw [List.getD_eq_getElem?_getD, List.getElem?_set]
    split
    · split
      · exact or_lt _ _ (h i) (h k)
      · simp
    · rw [← List.getD_eq_getElem?_getD]; exact h j
  · exact h
theorem small_winner {out : List Nat} (h : Small out) (k m : Nat) : Small (winner k m out) := by
  induction m with
  | zero => exact h
  | succ m ih => rw [winner_succ]; exact small_wstep ih k m
theorem small_warshall {out : List Nat} (h : Small out) (n m : Nat) : Small (warshall n m out) := by
  induction m with
  | zero => exact h
  | succ m ih => rw [warshall_succ]; exact small_winner ih m n

theorem reach_any (A : Option Addr) (n cap : Nat) (l : List Nd) (w : World) (hn : l.length = n) (hlim : n ≤ 10) (hs : Asc l) (hr : NodesR w w.heap.size A l) (hul : ∀ i, (usesAt l i).length ≤ 1000000) :
    Calls Tryd.prog 19 #[.slice A n cap] w fun e w' => ∃ g, e = .returned (.slice (some ⟨g, 0, none⟩) l.length l.length) ∧ w.heap.size ≤ g ∧
      Blk w' g 3 (numA (warshall l.length l.length (phase l l.length))) ∧ Below w.heap.size w w' := by
  subst hn
  have hmk := make_ints l.length (by omega)
  have hf := Lib.hid (fun x W (hb : Below w.heap.size w W) => find_any A l.length cap l x W rfl (by omega) hs ((hr.below hb).more hb.size))
  have hs' := Lib.hid hs
  clear hs
  go_enter Tryd.func19, Tryd.ntmps19
  go_wp2_with fail
  have hgs : w.heap.size < (w.alloc (.cells (numA (List.replicate l.length 0)) 3)).heap.size := by simp
  go_loopw [16] (fun i wr => ∃ k : Nat, k ≤ l.length ∧ i = .int .i64 k ∧ Blk wr w.heap.size 3 (numA (phase l k)) ∧ Below w.heap.size w wr) (fun i _ => l.length - (intOf i).toNat)
  case atStart => exact ⟨0, Nat.zero_le _, rfl, by rw [phase_zero]; exact Blk.new _ _ _, (Below.refl _ _).alloc (Nat.le_refl _) _⟩
  case round =>
    obtain ⟨k, hk, rfl, hB, hbel⟩ := hrel
    by_cases hlt : k < l.length
    · obtain ⟨b, off, A', c, rfl, hblk, c0, c1, hu⟩ := hr.at_ hlt
      have d0 := (hbel.cell (p := ⟨b, _, none⟩) hblk).trans c0
      have d1 := (hbel.cell (p := ⟨b, _, none⟩) hblk).trans c1
      clear c0 c1
      have hB' := Lib.hid hB
      have hbel' := Lib.hid hbel
      have hgw := hB.lt
      clear hB hbel
      have hbw : b < wr.heap.size := by omega
      go_wp2_with fail
      have hBo := hB'.out.alloc (.cells #[.string (nameAt l k), .slice A' (usesAt l k).length c] 27)
      have hbo := hbel'.out.alloc hbel'.out.size (.cells #[.string (nameAt l k), .slice A' (usesAt l k).length c] 27)
      generalize wr.alloc (.cells #[.string (nameAt l k), .slice A' (usesAt l k).length c] 27) = wo at hBo hbo ⊢
      clear hB' hbel' d0 d1 hgw hbw
      obtain ⟨us, hus⟩ : ∃ us, us = usesAt l k := ⟨_, rfl⟩
      have hul' := hul k
      rw [← hus] at hu hul' ⊢
      replace hus := Lib.hid hus
      go_loopw [24] (fun m wi => ∃ j : Nat, j ≤ us.length ∧ m = .int .i64 j ∧ Blk wi w.heap.size 3 (numA ((phase l k).set k (bitsOf l (us.take j)))) ∧ Below w.heap.size w wi) (fun m _ => us.length - (intOf m).toNat)
      case atStart => exact ⟨0, Nat.zero_le _, rfl, by rw [List.take_zero]; show Blk _ _ _ (numA ((phase l k).set k 0)); rw [phase_self]; exact hBo, hbo⟩
      case round =>
        obtain ⟨j, hj, rfl, hB, hbel⟩ := hrel
        by_cases hjl : j < us.length
        · obtain ⟨b2, off2, u, rfl, hb2, hu0, hc2⟩ := hu.at_ hjl
          obtain rfl := strCells_at us hu0
          clear hu0
          have hc' := (hbel.cell (p := ⟨b2, _, none⟩) hb2).trans hc2
          clear hc2
          have hstep := Lib.hid (bits_step l us j hjl)
          obtain ⟨x, hx⟩ : ∃ x, x = us.getD j ByteArray.empty := ⟨_, rfl⟩
          rw [← hx] at hc'
          have hfx := Lib.hid (hf.out x _ hbel)
          replace hx := Lib.hid hx
          have hbel' := Lib.hid hbel
          rcases findN_form l x with hfn | ⟨q, hq, hfn⟩
          · replace hfx := hfx.out
            rw [hfn] at hfx
            replace hfx := Lib.hid hfx
            replace hfn := Lib.hid hfn
            have hB' := Lib.hid hB
            clear hB hbel
            go_wp2_with fail
            refine hfx.out.mono ?_
            rintro e w1 ⟨rfl, hb1⟩
            go_wp2_with fail
            go_roundw
            case rel => exact ⟨j + 1, by omega, by go_num, by rw [hstep.out, ← hx.out]; unfold addBit; rw [hfn.out]; exact hB'.out.below hb1 hB'.out.lt, hbel'.out.trans (hb1.mono hbel'.out.size)⟩
            case measure => simp [intOf]; omega
          · replace hfx := hfx.out
            rw [hfn] at hfx
            replace hfx := Lib.hid hfx
            replace hfn := Lib.hid hfn
            have hB' := Lib.hid hB
            clear hB hbel
            go_wp2_with fail
            refine hfx.out.mono ?_
            rintro e w1 ⟨rfl, hb1⟩
            have hB1 := hB'.out.below hb1 hB'.out.lt
            have e0 := hB1.cell k
            rw [numA_get _ k (by rw [List.length_set, phase_length]; exact hlt), set_getD _ _ _ (by rw [phase_length]; exact hlt)] at e0
            obtain ⟨o, ho⟩ : ∃ o, o = bitsOf l (us.take j) := ⟨_, rfl⟩
            rw [← ho] at e0
            have hor := or_shl o q (by rw [ho]; exact bitsOf_lt hlim _) (by omega)
            replace ho := Lib.hid ho
            replace hor := Lib.hid hor
            have f0 := hB1.frozen k
            have hk10 : (k : Int) < 10 := by omega
            have hk0 : (0 : Int) ≤ k := by omega
            replace hB1 := Lib.hid hB1
            go_wp2_with fail
            go_region
            rw [hor.out]
            have hset := hB1.out.set_ k (.int .i64 ((o ||| (1 <<< q) : Nat) : Int))
            rw [numA_set, List.set_set] at hset
            replace hset := Lib.hid hset
            go_wp2_with fail
            go_roundw
            case rel => exact ⟨j + 1, by omega, by go_num, by rw [hstep.out, ← ho.out, ← hx.out]; unfold addBit; rw [hfn.out]; exact hset.out, ((hbel'.out.trans (hb1.mono hbel'.out.size)).setCell (p := ⟨w.heap.size, k, none⟩) (Nat.le_refl _) _).drew⟩
            case measure => simp [intOf]; omega
        · obtain rfl : j = us.length := by omega
          rw [List.take_length, hus.out, phase_succ] at hB
          have hB' := Lib.hid hB
          have hbel' := Lib.hid hbel
          clear hB hbel
          go_wp2_with fail
          go_roundw
          case rel => exact ⟨k + 1, by omega, by go_num, hB'.out, hbel'.out⟩
          case measure => simp [intOf]; omega
    · obtain rfl : k = l.length := by omega
      have hB' := Lib.hid hB
      have hbel' := Lib.hid hbel
      have hgw := hB.lt
      clear hB hbel
      have hsm0 : Small (phase l l.length) := small_phase hlim _
      obtain ⟨out0, ho0⟩ : ∃ out0, out0 = phase l l.length := ⟨_, rfl⟩
      have hlen0 : out0.length = l.length := by rw [ho0, phase_length]
      rw [← ho0] at hB' hsm0
      replace ho0 := Lib.hid ho0
      go_wp2_with fail
      clear hk hlt
      go_loopw [45] (fun i wi => ∃ k : Nat, k ≤ l.length ∧ i = .int .i64 k ∧ Blk wi w.heap.size 3 (numA (warshall l.length k out0)) ∧ Below w.heap.size w wi) (fun i _ => l.length - (intOf i).toNat)
      case atStart => exact ⟨0, Nat.zero_le _, rfl, hB'.out, hbel'.out⟩
      case round =>
        clear hB' hbel'
        obtain ⟨k, hk, rfl, hB, hbel⟩ := hrel
        have hsmk := small_warshall hsm0 l.length k
        have hlenk : (warshall l.length k out0).length = l.length := by rw [warshall_length, hlen0]
        by_cases hlt : k < l.length
        · have hB' := Lib.hid hB
          have hbel' := Lib.hid hbel
          clear hB hbel
          go_wp2_with fail
          obtain ⟨outk, hok⟩ : ∃ outk, outk = warshall l.length k out0 := ⟨_, rfl⟩
          rw [← hok] at hB' hsmk hlenk
          replace hok := Lib.hid hok
          go_loopw [50] (fun i wi => ∃ m : Nat, m ≤ l.length ∧ i = .int .i64 m ∧ Blk wi w.heap.size 3 (numA (winner k m outk)) ∧ Below w.heap.size w wi) (fun i _ => l.length - (intOf i).toNat)
          case atStart => exact ⟨0, Nat.zero_le _, rfl, hB'.out, hbel'.out⟩
          case round =>
            clear hB' hbel'
            obtain ⟨m, hm, rfl, hB, hbel⟩ := hrel
            by_cases hml : m < l.length
            · have hlm : (winner k m outk).length = l.length := by rw [winner_length, hlenk]
              have hsm := small_winner hsmk k m
              have em := hB.cell m
              have ek := hB.cell k
              rw [numA_get _ _ (by omega)] at em ek
              have fm := hB.frozen m
              obtain ⟨x, hx⟩ : ∃ x, x = (winner k m outk).getD m 0 := ⟨_, rfl⟩
              obtain ⟨y, hy⟩ : ∃ y, y = (winner k m outk).getD k 0 := ⟨_, rfl⟩
              rw [← hx] at em
              rw [← hy] at ek
              have hx1 : x < 1024 := by rw [hx]; exact hsm _
              have hy1 : y < 1024 := by rw [hy]; exact hsm _
              replace hx := Lib.hid hx
              replace hy := Lib.hid hy
              have hB' := Lib.hid hB
              have hbel' := Lib.hid hbel
              have hgw := hB.lt
              clear hB hbel
              have hbit := bit_test x k hx1
              by_cases hb : (x >>> k) % 2 = 1
              · rw [decide_eq_true hb] at hbit
                have hor := or_small x y hx1 hy1
                replace hor := Lib.hid hor
                have hws : winner k (m + 1) outk = (winner k m outk).set m (x ||| y) := by
                  rw [winner_succ]
                  unfold wstep
                  rw [← hx.out, ← hy.out, if_pos hb]
                replace hws := Lib.hid hws
                replace hb := Lib.hid hb
                go_wp2_with fail
                go_region
                rw [hor.out]
                have hset := hB'.out.set_ m (.int .i64 ((x ||| y : Nat) : Int))
                rw [numA_set] at hset
                replace hset := Lib.hid hset
                go_wp2_with fail
                go_roundw
                case rel => exact ⟨m + 1, by omega, by go_num, by rw [hws.out]; exact hset.out, (hbel'.out.setCell (p := ⟨w.heap.size, m, none⟩) (Nat.le_refl _) _).drew⟩
                case measure => simp [intOf]; omega
              · rw [decide_eq_false hb] at hbit
                have hws : winner k (m + 1) outk = winner k m outk := by
                  rw [winner_succ]
                  unfold wstep
                  rw [← hx.out, if_neg hb]
                replace hws := Lib.hid hws
                replace hb := Lib.hid hb
                go_wp2_with fail
                go_roundw
                case rel => exact ⟨m + 1, by omega, by go_num, by rw [hws.out]; exact hB'.out, hbel'.out⟩
                case measure => simp [intOf]; omega
            · obtain rfl : m = l.length := by omega
              have hws : winner k l.length outk = warshall l.length (k + 1) out0 := by rw [warshall_succ, hok.out]
              rw [hws] at hB
              have hB' := Lib.hid hB
              have hbel' := Lib.hid hbel
              clear hB hbel hws
              go_wp2_with fail
              go_roundw
              case rel => exact ⟨k + 1, by omega, by go_num, hB'.out, hbel'.out⟩
              case measure => simp [intOf]; omega
        · obtain rfl : k = l.length := by omega
          rw [ho0.out] at hB
          have hB' := Lib.hid hB
          have hbel' := Lib.hid hbel
          clear hB hbel
          go_wp2_with fail
          go_ret
          exact ⟨_, rfl, Nat.le_refl _, hB'.out, hbel'.out⟩
end Go.Proofs.YtmmanmacjgedaaaDoor
