/- The walk of graph.Order, where the nodes may be. -/
import Derived.Test.YtmmanmacjgedaaaDoorReach
import Derived.Test.YtmmanmacjgedaaaDoorGCheck
import Derived.Test.YtmmanmacjgedaaaDoorApp
namespace Go.Proofs.YtmmanmacjgedaaaDoor
open Go.RowKit Go.Shelf GraphLaw

def rStep (R : List Nat) (s : List Nat × Nat) (i : Nat) : List Nat × Nat := if (R.getD i 0 >>> i) % 2 = 1 then (s.1 ++ [i], s.2 ||| (1 <<< i)) else s
def rTo (R : List Nat) (k : Nat) : List Nat × Nat := (List.range k).foldl (rStep R) ([], 0)
theorem rTo_succ (R : List Nat) (k : Nat) : rTo R (k + 1) = rStep R (rTo R k) k := by simp [rTo, List.range_succ]
def names (l : List Nd) (is : List Nat) : List ByteArray := is.map (nameAt l)

def closure (l : List Nd) : List Nat := warshall l.length l.length (phase l l.length)
def rounds (l : List Nd) : List Nat × Nat := rTo (closure l) l.length
def order (l : List Nd) : List Nat × Nat := orderLoop l.length (phase l l.length) ([], (rounds l).2) l.length

/-- a slice of texts that the call made -/
def OwnS (w : World) (B : Nat) (v : Value) (l : List ByteArray) : Prop := w.ownsRow B 9 1 v l.length (strCells l)
theorem info_str : (Tryd.prog.info? 9).map (fun i => (i.zero, i.size, i.bytes)) = some (some (.string ⟨#[]⟩), 1, 16) := by kernel_rfl

theorem OwnS.alloc {w : World} {B : Nat} {v : Value} {l : List ByteArray} (h : OwnS w B v l) (o : Obj) : OwnS (w.alloc o) B v l := World.ownsRow.alloc h o
theorem OwnS.drew {w : World} {B : Nat} {v : Value} {l : List ByteArray} (h : OwnS w B v l) : OwnS w.drew B v l := h
theorem append_str {ops : Array Oper} {rest : List Oper} {o : Oper} {a : Act} {Q : Exit → Act → World → Prop}
    (hgd : o.guard = none) (s x : Operand) (ho : o.op = .call { callee := .builtin .append, args := #[s, x], argTypes := #[25, 25] })
    (W : World) (B : Nat) (v : Value) (l : List ByteArray) (nm : ByteArray) (H : Nat) (hs : a.eval s = v) (hx : a.eval x = .slice (some ⟨H, 0, none⟩) 1 1) (hH : W.heap.size = H)
    (hown : OwnS W B v l) (hlen : l.length ≤ 1000000) (hB : B ≤ W.heap.size)
    (h : ∀ v' w', OwnS w' B v' (l ++ [nm]) → Below B W w' → W.heap.size < w'.heap.size → wpList Tryd.prog ops Q rest (a.put o.dst v') w') :
    wpList Tryd.prog ops Q (o :: rest) a (W.alloc (.cells #[.string nm] 9)) := by
  obtain ⟨i0, hi, hz0, hz1, hz2⟩ := info_parts info_str
  refine append_one 25 9 i0 _ 1 16 Tryd.underlying25 hi hz0 hz1 hz2 rfl (by omega) hgd s x ho W B v l.length (strCells l) #[.string nm] H hs hx hH hown rfl (by simp [Value.oneCell']) (by unfold maxLen; omega) (by omega) hB ?_
  intro v' w' hown' hb hsz _ _ _
  refine h v' w' ?_ hb hsz
  unfold OwnS
  have e : strCells (l ++ [nm]) = strCells l ++ [.string nm] := by simp [strCells]
  rw [e]
  simpa using hown'

theorem rTo_lt (R : List Nat) (k : Nat) (hk : k ≤ 10) : (rTo R k).2 < 1024 := by
  induction k with
  | zero => simp [rTo]
  | succ k ih =>
    rw [rTo_succ]
    unfold rStep
    split
    · exact or_lt _ _ (ih (by omega)) (shl_lt _ (by omega))
    · exact ih (by omega)
theorem rTo_len (R : List Nat) (k : Nat) : (rTo R k).1.length ≤ k := by
  induction k with
  | zero => simp [rTo]
  | succ k ih =>
    rw [rTo_succ]
    unfold rStep
    split
    · simp; omega
    · omega

theorem names_snoc (l : List Nd) (is : List Nat) (k : Nat) : names l (is ++ [k]) = names l is ++ [nameAt l k] := by simp [names]

theorem andNot_test (a b : Nat) (ha : a < 1024) (hb : b < 1024) : (bits .andNot .i64 (a : Int) (b : Int) != 0) = !within a b := by
  rw [i64_andNot_nat a b ha hb, Bool.eq_iff_iff]
  simp only [bne_iff_ne, Bool.not_eq_true', ne_eq]
  rw [← Bool.not_eq_true, GraphLaw.within_iff]
  refine not_congr ?_
  have key : ∀ j, (a &&& (1023 - b)).testBit j = (a.testBit j && !b.testBit j) := by
    intro j
    rw [Nat.testBit_and]
    cases haj : a.testBit j with
    | false => rfl
    | true =>
      have hj : j < 10 := by
        rcases Nat.lt_or_ge j 10 with h | h
        · exact h
        · have : a < 2 ^ j := Nat.lt_of_lt_of_le ha (Nat.pow_le_pow_right (n := 2) (by omega) h)
          rw [Nat.testBit_lt_two_pow this] at haj
          cases haj
      have h := Nat.testBit_two_pow_sub_succ (x := b) (n := 10) (by omega) j
      simp only [show (2 : Nat) ^ 10 - (b + 1) = 1023 - b by omega] at h
      rw [h]
      simp [hj]
  constructor
  · intro h j hj
    have h0 : a &&& (1023 - b) = 0 := by omega
    have := key j
    rw [h0, hj] at this
    simp at this
    exact this
  · intro h
    have : a &&& (1023 - b) = 0 := by
      apply Nat.eq_of_testBit_eq
      intro j
      rw [key j]
      cases haj : a.testBit j with
      | false => simp
      | true => rw [h j haj]; simp
    omega

theorem OwnS.below {w w' : World} {B : Nat} {v : Value} {l : List ByteArray} (h : OwnS w B v l) (hb : Below w.heap.size w w') : OwnS w' B v l := by
  obtain ⟨h1, h2⟩ := h
  refine ⟨h1, ?_⟩
  rcases h2 with h2 | ⟨g, cap, cur, hv, hg, hh, r⟩
  · exact Or.inl h2
  · have hlt : g < w.heap.size := by
      rcases Nat.lt_or_ge g w.heap.size with hlt | hge
      · exact hlt
      · rw [Array.getElem?_eq_none hge] at hh; cases hh
    exact Or.inr ⟨g, cap, cur, hv, hg, by rw [hb.block g hlt]; exact hh, r⟩
theorem OwnS.mono {w : World} {B B' : Nat} {v : Value} {l : List ByteArray} (h : OwnS w B v l) (hB : B' ≤ B) : OwnS w B' v l := by
  obtain ⟨h1, h2⟩ := h
  refine ⟨h1, ?_⟩
  rcases h2 with h2 | ⟨g, cap, cur, hv, hg, hh, r⟩
  · exact Or.inl h2
  · exact Or.inr ⟨g, cap, cur, hv, by omega, hh, r⟩

def notReady (l : List Nd) (done j : Nat) : Prop := ∀ i, i < j → ready (phase l l.length) done i = false
theorem pick_at {l : List Nd} {done j : Nat} (hj : j < l.length) (hn : notReady l done j) (hr : ready (phase l l.length) done j = true) : pick l.length (phase l l.length) done = some j := by
  unfold pick
  rw [List.find?_range_eq_some]
  exact ⟨hr, by simpa using hj, fun i hi => by rw [hn i hi]; rfl⟩
theorem pick_none {l : List Nd} {done : Nat} (hn : notReady l done l.length) : pick l.length (phase l l.length) done = none := by
  unfold pick
  rw [List.find?_eq_none]
  intro i hi
  rw [hn i (by simpa using hi)]
  simp
theorem phase_at (l : List Nd) {j : Nat} (hj : j < l.length) : (phase l l.length).getD j 0 = bitsOf l (usesAt l j) := by
  unfold phase
  rw [List.getD_eq_getElem?_getD, List.getElem?_map]
  simp [hj]
theorem orderLoop_lt {l : List Nd} (h : l.length ≤ 10) {d0 : Nat} (hd : d0 < 1024) (m : Nat) : (orderLoop l.length (phase l l.length) ([], d0) m).2 < 1024 := by
  induction m with
  | zero => exact hd
  | succ m ih =>
    show (orderStep _ _ _).2 < 1024
    unfold orderStep
    split
    · rename_i i hi
      have : i < l.length := by
        unfold pick at hi
        simpa using List.mem_of_find?_eq_some hi
      exact or_lt _ _ ih (shl_lt _ (by omega))
    · exact ih
theorem orderLoop_len {l : List Nd} {d0 : Nat} (m : Nat) : (orderLoop l.length (phase l l.length) ([], d0) m).1.length ≤ m := by
  induction m with
  | zero => exact Nat.le_refl _
  | succ m ih =>
    show (orderStep _ _ _).1.length ≤ m + 1
    unfold orderStep
    split
    · simp; omega
    · omega

theorem order_any (A : Option Addr) (n cap : Nat) (l : List Nd) (w : World) (hn : l.length = n) (hok : NodesOk l) (hr : NodesR w w.heap.size A l) :
    Calls Tryd.prog 8 #[.slice A n cap] w fun e w' => ∃ v1 v2, e = .returned (.tuple #[v1, v2, .int .i64 0]) ∧ Below w.heap.size w w' ∧
      OwnS w' w.heap.size v1 (names l (order l).1) ∧ OwnS w' w.heap.size v2 (names l (rounds l).1) := by
  subst hn
  have hlim := hok.few
  have hck := Lib.hid (gcheck_any A l.length cap l w rfl hok hr)
  have hre := Lib.hid (fun W (hb : Below w.heap.size w W) => reach_any A l.length cap l W rfl hlim hok.asc ((hr.below hb).more hb.size) (fun i => by have := hok.uses i; omega))
  have hdi := Lib.hid (fun W (hb : Below w.heap.size w W) nm U m c us => direct_any A l.length cap l nm U m c us W rfl hlim hok.asc ((hr.below hb).more hb.size))
  have hok' := Lib.hid hok
  clear hok
  go_enter Tryd.func8, Tryd.ntmps8
  go_wp2_with fail
  refine hck.out.mono ?_
  rintro e w1 ⟨rfl, hb1⟩
  have hre1 := Lib.hid (hre.out _ hb1)
  replace hb1 := Lib.hid hb1
  go_wp2_with fail
  refine hre1.out.mono ?_
  rintro e w2 ⟨g, rfl, hg1, hBlk, hb2⟩
  have hbw2 := hb1.out.trans (hb2.mono hb1.out.size)
  have hgw2 := hBlk.lt
  replace hBlk := Lib.hid hBlk
  replace hb2 := Lib.hid hb2
  replace hbw2 := Lib.hid hbw2
  go_wp2_with fail
  have hcl : closure l = warshall l.length l.length (phase l l.length) := rfl
  rw [← hcl] at hBlk
  clear hcl
  go_loopw [8, 9, 23] (fun v d i wr => ∃ k : Nat, k ≤ l.length ∧ i = .int .i64 k ∧ d = .int .i64 ((rTo (closure l) k).2 : Nat) ∧ OwnS wr w2.heap.size v (names l (rTo (closure l) k).1) ∧ Below w2.heap.size w2 wr) (fun _ _ i _ => l.length - (intOf i).toNat)
  case atStart => exact ⟨0, Nat.zero_le _, rfl, rfl, World.ownsRow_nil _ _ _ _, Below.refl _ _⟩
  case round =>
    obtain ⟨k, hk, rfl, rfl, hown, hbel⟩ := hrel
    by_cases hlt : k < l.length
    · obtain ⟨b, off, A', c, rfl, hblk, c0, c1, hu⟩ := hr.at_ hlt
      have hbw := hbw2.out.trans (hbel.mono hbw2.out.size)
      have d0 := (hbw.cell (p := ⟨b, _, none⟩) hblk).trans c0
      have d1 := (hbw.cell (p := ⟨b, _, none⟩) hblk).trans c1
      have e0 := (hBlk.out.below hbel hgw2).cell k
      have hcll : (closure l).length = l.length := by unfold closure; rw [warshall_length, phase_length]
      rw [numA_get _ _ (by omega)] at e0
      obtain ⟨x, hx⟩ : ∃ x, x = (closure l).getD k 0 := ⟨_, rfl⟩
      have hx1 : x < 1024 := by rw [hx]; exact small_warshall (small_phase hlim _) _ _ _
      rw [← hx] at e0
      obtain ⟨nm, hnm⟩ : ∃ nm, nm = nameAt l k := ⟨_, rfl⟩
      rw [← hnm] at d0
      have hbs := hbw.size
      have hbs2 := hbel.size
      have hbwr : b < wr.heap.size := by omega
      have hgwr : g < wr.heap.size := by omega
      replace hcll := Lib.hid hcll
      replace hx := Lib.hid hx
      replace hnm := Lib.hid hnm
      replace hown := Lib.hid hown
      replace hbel := Lib.hid hbel
      replace hbw := Lib.hid hbw
      clear c0 c1 hu
      have hdone : (rTo (closure l) k).2 < 1024 := rTo_lt _ k (by omega)
      have hnl : (names l (rTo (closure l) k).1).length ≤ k := by unfold names; rw [List.length_map]; exact rTo_len _ k
      have hbit := bit_test x k hx1
      by_cases hb : (x >>> k) % 2 = 1
      · rw [decide_eq_true hb] at hbit
        have hst : rTo (closure l) (k + 1) = ((rTo (closure l) k).1 ++ [k], (rTo (closure l) k).2 ||| (1 <<< k)) := by
          rw [rTo_succ]; unfold rStep; rw [← hx.out, if_pos hb]
        replace hst := Lib.hid hst
        obtain ⟨dn, hdn⟩ : ∃ dn, dn = (rTo (closure l) k).2 := ⟨_, rfl⟩
        rw [← hdn] at hdone ⊢
        have hor := or_shl dn k hdone (by omega)
        replace hdn := Lib.hid hdn
        replace hor := Lib.hid hor
        replace hb := Lib.hid hb
        go_wp2_with (at_builtin; (refine append_str (by rfl) _ _ (by rfl) _ w2.heap.size _ (names l (rTo (closure l) k).1) nm _ (by rfl) (by rfl) (by simp) (hown.out.alloc _) (by omega) (by simp; omega) ?_); intro v' w3 hown3 hb3 hs3)
        rw [hor.out]
        go_roundw
        case rel => exact ⟨k + 1, by omega, by go_num, by rw [hst.out, ← hdn.out], by rw [hst.out, names_snoc, ← hnm.out]; exact hown3, hbel.out.trans (((Below.refl _ wr).alloc (Nat.le_refl _) _).mono hbs2 |>.trans hb3)⟩
        case measure => simp [intOf]; omega
      · rw [decide_eq_false hb] at hbit
        have hst : rTo (closure l) (k + 1) = rTo (closure l) k := by
          rw [rTo_succ]; unfold rStep; rw [← hx.out, if_neg hb]
        replace hst := Lib.hid hst
        replace hb := Lib.hid hb
        go_wp2_with fail
        go_roundw
        case rel => exact ⟨k + 1, by omega, by go_num, by rw [hst.out], by rw [hst.out]; exact hown.out.alloc _, hbel.out.trans (((Below.refl _ wr).alloc (Nat.le_refl _) _).mono hbs2)⟩
        case measure => simp [intOf]; omega
    · obtain rfl : k = l.length := by omega
      have hown' : OwnS wr w2.heap.size _ (names l (rounds l).1) := hown
      have hbw := hbw2.out.trans (hbel.mono hbw2.out.size)
      have hbs2 := hbel.size
      have hrd : (rTo (closure l) l.length).2 = (rounds l).2 := rfl
      rw [hrd]
      have hdone0 : (rounds l).2 < 1024 := rTo_lt _ _ hlim
      clear hk hlt hrd hown
      replace hown' := Lib.hid hown'
      replace hbel := Lib.hid hbel
      replace hbw := Lib.hid hbw
      go_wp2_with fail
      obtain ⟨w3, rfl⟩ : ∃ w3 : World, w3 = wr := ⟨_, rfl⟩
      go_loopw [7, 9, 48] (fun v d i wi => ∃ m : Nat, m ≤ l.length ∧ i = .int .i64 m ∧ d = .int .i64 ((orderLoop l.length (phase l l.length) ([], (rounds l).2) m).2 : Nat) ∧
          OwnS wi w3.heap.size v (names l (orderLoop l.length (phase l l.length) ([], (rounds l).2) m).1) ∧ Below w3.heap.size w3 wi) (fun _ _ i _ => l.length - (intOf i).toNat)
      case atStart => exact ⟨0, Nat.zero_le _, rfl, rfl, World.ownsRow_nil _ _ _ _, Below.refl _ _⟩
      case round =>
        obtain ⟨m, hm, rfl, rfl, hown, hbeli⟩ := hrel
        by_cases hml : m < l.length
        · obtain ⟨s, hs⟩ : ∃ s, s = orderLoop l.length (phase l l.length) ([], (rounds l).2) m := ⟨_, rfl⟩
          have hdn : s.2 < 1024 := by rw [hs]; exact orderLoop_lt hlim hdone0 m
          have hsl : s.1.length ≤ m := by rw [hs]; exact orderLoop_len m
          have hsn : orderLoop l.length (phase l l.length) ([], (rounds l).2) (m + 1) = orderStep l.length (phase l l.length) s := by rw [hs]; rfl
          rw [← hs] at hown ⊢
          replace hs := Lib.hid hs
          replace hsn := Lib.hid hsn
          replace hown := Lib.hid hown
          replace hbeli := Lib.hid hbeli
          go_wp2_with fail
          obtain ⟨wo, rfl⟩ : ∃ wo : World, wo = wr := ⟨_, rfl⟩
          go_loopw [7, 9, 52] (fun v d i wi => ∃ j : Nat, j ≤ l.length ∧ i = .int .i64 j ∧ d = .int .i64 (s.2 : Nat) ∧ OwnS wi w3.heap.size v (names l s.1) ∧ notReady l s.2 j ∧ Below w3.heap.size w3 wi) (fun _ _ i _ => l.length - (intOf i).toNat)
          case atStart => exact ⟨0, Nat.zero_le _, rfl, rfl, hown.out, fun i h => absurd h (by omega), hbeli.out⟩
          case round =>
            clear hown hbeli
            obtain ⟨j, hj, rfl, rfl, hown, hnr, hbelj⟩ := hrel
            by_cases hjl : j < l.length
            · obtain ⟨b, off, A', c, rfl, hblk, c0, c1, hu⟩ := hr.at_ hjl
              have hbwj := hbw.out.trans (hbelj.mono hbw.out.size)
              have d0 := (hbwj.cell (p := ⟨b, _, none⟩) hblk).trans c0
              have d1 := (hbwj.cell (p := ⟨b, _, none⟩) hblk).trans c1
              have huj := hu.below hbwj
              have hbs := hbwj.size
              have hbs3 := hbelj.size
              have hbwr : b < wr.heap.size := by omega
              obtain ⟨nm, hnm⟩ : ∃ nm, nm = nameAt l j := ⟨_, rfl⟩
              have hul := hok'.out.uses j
              have hdj := phase_at l hjl
              obtain ⟨us, hus⟩ : ∃ us, us = usesAt l j := ⟨_, rfl⟩
              rw [← hnm] at d0
              rw [← hus] at d1 huj hul hdj
              have hbt := bit_test s.2 j hdn
              have htb := shr_mod s.2 j
              replace hnm := Lib.hid hnm
              replace hus := Lib.hid hus
              replace hown := Lib.hid hown
              replace hbelj := Lib.hid hbelj
              clear c0 c1 hu
              by_cases hb : (s.2 >>> j) % 2 = 1
              · rw [decide_eq_true hb] at hbt
                have hnr' : notReady l s.2 (j + 1) := by
                  intro i hi
                  rcases Nat.lt_or_ge i j with h | h
                  · exact hnr i h
                  · obtain rfl : i = j := by omega
                    unfold ready
                    rw [htb.1 hb]; rfl
                replace hnr' := Lib.hid hnr'
                replace htb := Lib.hid htb
                replace hdj := Lib.hid hdj
                replace hb := Lib.hid hb
                replace hbwj := Lib.hid hbwj
                go_wp2_with fail
                go_roundw
                case rel => exact ⟨j + 1, by omega, by go_num, rfl, hown.out.alloc _, hnr'.out, hbelj.out.trans (((Below.refl _ wr).alloc (Nat.le_refl _) _).mono hbs3)⟩
                case measure => simp [intOf]; omega
              · rw [decide_eq_false hb] at hbt
                go_wp2_with fail
                have hdc := hdi.out (wr.alloc (.cells #[.string nm, .slice A' us.length c] 27)) (hbwj.alloc hbwj.size _) nm A' us.length c us rfl (by omega) ((huj.more hbwj.size).alloc (Nat.le_refl _) _ |>.more (by simp))
                refine hdc.mono ?_
                clear hdc
                rintro e w4 ⟨rfl, hb4⟩
                have hb4' := ((Below.refl wr.heap.size wr).alloc (Nat.le_refl _) (.cells #[.string nm, .slice A' us.length c] 27)).trans (hb4.mono (by simp))
                have hown4 := hown.out.below hb4'
                have hbel4 := hbelj.out.trans (hb4'.mono hbs3)
                have n0 := cell_after hb4 (i := 0) rfl
                have hs4 := hb4.size
                simp only [World.size_alloc] at hs4
                have hd4 : bitsOf l us < 1024 := bitsOf_lt hlim us
                obtain ⟨dd, hdd⟩ : ∃ dd, dd = bitsOf l us := ⟨_, rfl⟩
                rw [← hdd] at hd4 hdj ⊢
                have hat := andNot_test dd s.2 hd4 hdn
                replace hdd := Lib.hid hdd
                replace hb4 := Lib.hid hb4
                replace hb4' := Lib.hid hb4'
                replace hown4 := Lib.hid hown4
                replace hbel4 := Lib.hid hbel4
                have htf : s.2.testBit j = false := by
                  rw [← Bool.not_eq_true]; exact fun h => hb (htb.2 h)
                clear htb hbt hb
                cases hw : GraphLaw.within dd s.2
                · rw [hw] at hat
                  have hnr' : notReady l s.2 (j + 1) := by
                    intro i hi
                    rcases Nat.lt_or_ge i j with h | h
                    · exact hnr i h
                    · obtain rfl : i = j := by omega
                      unfold ready
                      rw [hdj, hw]; simp
                  replace hnr' := Lib.hid hnr'
                  replace hdj := Lib.hid hdj
                  replace htf := Lib.hid htf
                  replace hw := Lib.hid hw
                  replace hbwj := Lib.hid hbwj
                  go_wp2_with fail
                  go_roundw
                  case rel => exact ⟨j + 1, by omega, by go_num, rfl, hown4.out, hnr'.out, hbel4.out⟩
                  case measure => simp [intOf]; omega
                · rw [hw] at hat
                  have hrd : ready (phase l l.length) s.2 j = true := by unfold ready; rw [hdj, hw, htf]; rfl
                  have hpk := pick_at hjl hnr hrd
                  have hst : orderStep l.length (phase l l.length) s = (s.1 ++ [j], s.2 ||| (1 <<< j)) := by unfold orderStep; rw [hpk]
                  have hor := or_shl s.2 j hdn (by omega)
                  replace hst := Lib.hid hst
                  replace hor := Lib.hid hor
                  replace hdj := Lib.hid hdj
                  replace htf := Lib.hid htf
                  replace hw := Lib.hid hw
                  replace hbwj := Lib.hid hbwj
                  have hnl : (names l s.1).length ≤ m := by unfold names; rw [List.length_map]; exact hsl
                  clear hrd hpk hnr
                  go_wp2_with (at_builtin; (refine append_str (by rfl) _ _ (by rfl) _ w3.heap.size _ (names l s.1) nm _ (by rfl) (by rfl) (by simp) hown4.out (by omega) (by omega) ?_); intro v' w5 hown5 hb5 hs5)
                  rw [hor.out]
                  go_roundw
                  case rel => exact ⟨m + 1, by omega, by go_num, by rw [hsn.out, hst.out], by rw [hsn.out, hst.out, names_snoc, ← hnm.out]; exact hown5, hbel4.out.trans (hb5.mono (by omega))⟩
                  case measure => simp [intOf]; omega
            · obtain rfl : j = l.length := by omega
              have hpk := pick_none hnr
              have hst : orderStep l.length (phase l l.length) s = s := by unfold orderStep; rw [hpk]
              replace hst := Lib.hid hst
              replace hown := Lib.hid hown
              replace hbelj := Lib.hid hbelj
              clear hpk hnr
              go_wp2_with fail
              go_roundw
              case rel => exact ⟨m + 1, by omega, by go_num, by rw [hsn.out, hst.out], by rw [hsn.out, hst.out]; exact hown.out, hbelj.out⟩
              case measure => simp [intOf]; omega
        · obtain rfl : m = l.length := by omega
          have hown1 : OwnS wr w3.heap.size _ (names l (order l).1) := hown
          have hs3 := hbw.out.size
          have hs2 : w2.heap.size ≤ w3.heap.size := hbel.out.size
          have hs1 : w.heap.size ≤ w2.heap.size := hbw2.out.size
          have hownr := hown'.out.below hbeli
          have hbwe := hbw.out.trans (hbeli.mono hs3)
          replace hown1 := Lib.hid hown1
          replace hownr := Lib.hid hownr
          replace hbwe := Lib.hid hbwe
          clear hown hbeli
          go_wp2_with fail
          go_ret3
          exact ⟨_, _, rfl, hbwe.out, hown1.out.mono (by omega), hownr.out.mono (by omega)⟩
end Go.Proofs.YtmmanmacjgedaaaDoor
