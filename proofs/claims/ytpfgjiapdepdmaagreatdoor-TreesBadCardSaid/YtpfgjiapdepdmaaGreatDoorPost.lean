/- The walk of the reader's post. -/
import Derived.Test.YtpfgjiapdepdmaaGreatDoorAtom
import Derived.Test.YtpfgjiapdepdmaaGreatDoorEats
import Derived.RegionDies
import Derived.Deep.DrawnRows
namespace Go.Proofs.YtpfgjiapdepdmaaGreatDoor
open Go.RowKit Go.Shelf
attribute [local go_sem ↓] Go.wp_at_zero Go.wp_at_succ

/-- new blocks, but one -/
def NewBut (B X : Nat) (b : Nat) : Prop := B ≤ b ∧ b ≠ X
theorem ExC.farS {w : World} {S : Nat → Prop} {t : Pu.Ex} {cs : List Value} (h : ExC w S t cs) {p : Addr} (hp : ¬ S p.block) (u : Value) : ExC (w.setCell p u) S t cs :=
  h.keep (by simp [World.setCell]) fun b hs _ => ⟨Below.heap_setCell w p u b (fun e => hp (e ▸ hs)), hs⟩
theorem ExC.laterS {w w' : World} {S : Nat → Prop} {R : Nat} {t : Pu.Ex} {cs : List Value} (h : ExC w S t cs) (hg : w.grownBy w' (some R)) (hR : ¬ S R) : ExC w' S t cs :=
  h.keep hg.size fun b hs hb => ⟨hg.block b hb (fun e => hR (by injection e with e; exact e ▸ hs)), hs⟩
/-- two expressions in a new row -/
theorem ExC.two {w : World} {S : Nat → Prop} {x y : Pu.Ex} {cs cs2 : List Value} (h : ExC w S x cs) (h2 : ExC w S y cs2) (hS : S w.heap.size) (k n : Int) (of s : List UInt8) :
    ExC (w.alloc (.cells (cs ++ cs2).toArray 53)) S (.mk k n of s [x, y]) [.int .i64 k, .int .i64 n, str of, str s, .slice (some ⟨w.heap.size, 0, none⟩) 2 2] := by
  have l1 := h.length
  have l2 := h2.length
  have key : ∀ {t : Pu.Ex} {u : List Value}, ExC w S t u → ExC (w.alloc (.cells (cs ++ cs2).toArray 53)) S t u := fun ht => ht.keep (by simp) fun b hs hb => ⟨Below.heap_alloc w _ b hb, hs⟩
  refine .mk k n of s [x, y] _ 2 (fun i => if i = 0 then cs else cs2) (by simp) ?_ ?_ ?_
  · intro i hi
    show (if i = 0 then cs else cs2).length = 5
    split <;> assumption
  · intro i t hi
    rcases i with _ | _ | i
    · simp at hi; subst hi; exact key h
    · simp at hi; subst hi; exact key h2
    · simp at hi
  · intro _
    refine ⟨w.heap.size, 0, rfl, hS, by simp, ?_⟩
    intro i hi j u hu
    rw [cell_of_row _ _ _ _ _ _ (heap_alloc_new _ _)]
    have hi2 : i = 0 ∨ i = 1 := by simp at hi; omega
    rcases hi2 with rfl | rfl
    · simp only [if_true] at hu
      have hj := (List.getElem?_eq_some_iff.1 hu).1
      simp only [List.getElem?_toArray]
      rw [show 0 + 0 * 5 + j = j by omega, List.getElem?_append_left hj]
      exact hu
    · simp only [Nat.one_ne_zero, if_false] at hu
      simp only [List.getElem?_toArray]
      rw [List.getElem?_append_right (by omega), show 0 + 1 * 5 + j - cs.length = j by omega]
      exact hu

/-- the loop's state: an expression in the variable's block -/
structure Acc (R : Nat) (d : Int) (w : World) (X : Nat) (x : Pu.Ex) (l' : List Pu.Tok) (W : World) : Prop where
  rd : Rd W R l' d
  grown : w.grownBy W (some R)
  res : Blk W w.heap.size 53 zeroEx
  var : ∃ (k n : Int) (of s : ByteArray) (A : Option Addr) (m c : Nat), Blk W X 53 #[.int .i64 k, .int .i64 n, .string of, .string s, .slice A m c] ∧ ExC W (NewBut (w.heap.size + 1) X) x [.int .i64 k, .int .i64 n, .string of, .string s, .slice A m c]

theorem acc_store {R : Nat} {d : Int} {w W : World} {X : Nat} {x y : Pu.Ex} {l' : List Pu.Tok} {k n k2 n2 : Int} {of s of2 s2 : ByteArray} {A A2 : Option Addr} {m c m2 c2 : Nat} (hR : R < w.heap.size) (hX : w.heap.size < X) (hs : w.heap.size < W.heap.size)
    (hr : Rd W R l' d) (hg : w.grownBy W (some R)) (hres : Blk W w.heap.size 53 zeroEx) (hb : Blk W X 53 #[.int .i64 k, .int .i64 n, .string of, .string s, .slice A m c])
    (hx : ExC W (NewBut (w.heap.size + 1) X) x [.int .i64 k, .int .i64 n, .string of, .string s, .slice A m c])
    (hy : ExC W (NewBut (w.heap.size + 1) X) y [.int .i64 k2, .int .i64 n2, .string of2, .string s2, .slice A2 m2 c2]) (kk : Int) :
    Acc R d w X (.mk kk 0 [] [] [x, y]) l' ((set5 W X (.int .i64 kk) (.int .i64 0) (.string ⟨#[]⟩) (.string ⟨#[]⟩) (.slice (some ⟨W.heap.size, 0, none⟩) 2 2)).alloc
      (.cells #[.int .i64 k, .int .i64 n, .string of, .string s, .slice A m c, .int .i64 k2, .int .i64 n2, .string of2, .string s2, .slice A2 m2 c2] 53)) := by
  have hXlt := hb.lt
  have hXR : R < X := by omega
  have hXn : ¬ NewBut (w.heap.size + 1) X X := fun h => h.2 rfl
  have hXw : w.heap.size ≤ X := by omega
  have hne : w.heap.size ≠ X := by omega
  obtain ⟨V, hV⟩ : ∃ V, V = set5 W X (.int .i64 kk) (.int .i64 0) (.string ⟨#[]⟩) (.string ⟨#[]⟩) (.slice (some ⟨W.heap.size, 0, none⟩) 2 2) := ⟨_, rfl⟩
  have hVs : V.heap.size = W.heap.size := by rw [hV]; simp [set5, World.setCell]
  have e1 : Rd V R l' d := by rw [hV]; exact ((((hr.newer (p := ⟨X, 0, none⟩) hXR _).newer (p := ⟨X, 1, none⟩) hXR _).newer (p := ⟨X, 2, none⟩) hXR _).newer (p := ⟨X, 3, none⟩) hXR _).newer (p := ⟨X, 4, none⟩) hXR _
  have e2 : w.grownBy V (some R) := by rw [hV]; exact only_setCell (only_setCell (only_setCell (only_setCell (only_setCell hg (.inr hXw) _) (.inr hXw) _) (.inr hXw) _) (.inr hXw) _) (.inr hXw) _
  have e3 : Blk V w.heap.size 53 zeroEx := by rw [hV]; exact ((((hres.far (p := ⟨X, 0, none⟩) hne _).far (p := ⟨X, 1, none⟩) hne _).far (p := ⟨X, 2, none⟩) hne _).far (p := ⟨X, 3, none⟩) hne _).far (p := ⟨X, 4, none⟩) hne _
  have e4 : Blk V X 53 #[.int .i64 kk, .int .i64 0, .string ⟨#[]⟩, .string ⟨#[]⟩, .slice (some ⟨W.heap.size, 0, none⟩) 2 2] := by rw [hV]; exact ((((hb.set_ 0 _).set_ 1 _).set_ 2 _).set_ 3 _).set_ 4 _
  have key : ∀ {t : Pu.Ex} {u : List Value}, ExC W (NewBut (w.heap.size + 1) X) t u → ExC V (NewBut (w.heap.size + 1) X) t u := fun h2 => by
    rw [hV]
    exact ((((h2.farS (p := ⟨X, 0, none⟩) hXn _).farS (p := ⟨X, 1, none⟩) hXn _).farS (p := ⟨X, 2, none⟩) hXn _).farS (p := ⟨X, 3, none⟩) hXn _).farS (p := ⟨X, 4, none⟩) hXn _
  have h2 := ExC.two (key hx) (key hy) (by rw [hVs]; exact ⟨by omega, by omega⟩) kk 0 [] []
  rw [hVs] at h2
  rw [← hV]
  exact ⟨e1.alloc _, only_alloc e2 _, e3.alloc _, kk, 0, ⟨#[]⟩, ⟨#[]⟩, some ⟨W.heap.size, 0, none⟩, 2, 2, e4.alloc _, h2⟩
theorem Acc.later {R : Nat} {d : Int} {w W W' : World} {X : Nat} {x : Pu.Ex} {l' l2 : List Pu.Tok} (h : Acc R d w X x l' W) (hR : R < w.heap.size) (hX : w.heap.size < X) (hg : W.grownBy W' (some R)) (hr : Rd W' R l2 d) : Acc R d w X x l2 W' := by
  obtain ⟨_, h2, h3, k, n, of, s, A, m, c, h4, h5⟩ := h
  refine ⟨hr, only_trans h2 hg, h3.grown hg (by intro e; injection e; omega), k, n, of, s, A, m, c, h4.grown hg (by intro e; injection e; omega), h5.laterS hg (fun h => by unfold NewBut at h; omega)⟩

set_option maxHeartbeats 4000000 in
theorem post_any {d : Int} {pe : List Pu.Tok → Pu.PR Pu.Ex} (hE : EC d pe) (he : Pu.Eats pe) (R : Nat) (l : List Pu.Tok) (w : World) (hl : Pu.Fit l) (h : Rd w R l d) :
    Calls Tryz.prog 111 #[.pointer (some ⟨R, 0, none⟩)] w (ExprPost R d w (Pu.pPost pe l)) := by
  have hlt := h.lt
  obtain ⟨w1, hw1⟩ : ∃ w1, w1 = w.alloc (.cells zeroEx 53) := ⟨_, rfl⟩
  have hr1 : Rd w1 R l d := by rw [hw1]; exact h.alloc _
  have hg1 : w.grownBy w1 (some R) := by rw [hw1]; exact only_alloc (only_refl _ _) _
  have hv1 : Blk w1 w.heap.size 53 zeroEx := by rw [hw1]; exact Blk.new w _ _
  have hs1 : w1.heap.size = w.heap.size + 1 := by rw [hw1]; simp
  have hE' := Lib.hid hE
  have he' := Lib.hid he
  have ha := atom_any hE he R l w1 hl hr1
  replace ha := Lib.hid ha
  replace hg1 := Lib.hid hg1
  replace hv1 := Lib.hid hv1
  replace hw1 := Lib.hid hw1
  clear hE he h hr1
  cases hp : Pu.pAtom pe l with
  | error k =>
    have hpp : Pu.pPost pe l = .error k := by unfold Pu.pPost; rw [hp]; rfl
    rw [hpp]
    rw [hp] at ha
    clear hpp
    go_enter Tryz.func111, Tryz.ntmps111
    go_wp2_with fail
    rw [← hw1.out]
    refine ha.out.mono ?_
    rintro e w2 ⟨rfl, hr2, hg2⟩
    go_wp2_with fail
    exact ⟨rfl, rfl, hr2, only_trans hg1.out hg2⟩
  | ok r =>
    obtain ⟨x0, l0⟩ := r
    have hl0 := Pu.pAtom_eats he'.out l x0 l0 hp
    have hpp : Pu.pPost pe l = Pu.pAts pe l0.length x0 l0 := by unfold Pu.pPost; rw [hp]; rfl
    rw [hpp]
    rw [hp] at ha
    obtain ⟨goal, hgoal⟩ : ∃ g, g = Pu.pAts pe l0.length x0 l0 := ⟨_, rfl⟩
    rw [← hgoal]
    replace hgoal := Lib.hid hgoal
    clear hpp hp
    go_enter Tryz.func111, Tryz.ntmps111
    go_wp2_with fail
    rw [← hw1.out]
    refine ha.out.mono ?_
    rintro e w2 ⟨⟨cs, rfl, hex⟩, hr2, hg2⟩
    obtain ⟨k', n', of', nm', A', m', c', rfl⟩ := hex.form
    have hs2 := hg2.size
    obtain ⟨X, hX⟩ : ∃ X, X = w2.heap.size := ⟨_, rfl⟩
    have hacc : Acc R d w X x0 l0 (w2.alloc (.cells #[.int .i64 k', .int .i64 n', .string of', .string nm', .slice A' m' c'] 53)) := by
      refine ⟨hr2.alloc _, only_alloc (only_trans hg1.out hg2) _, (hv1.out.grown hg2 (by intro e; injection e; omega)).alloc _, k', n', of', nm', A', m', c', by rw [hX]; exact Blk.new _ _ _, ?_⟩
      exact hex.keep (by simp) fun b hs hb => ⟨Below.heap_alloc _ _ b hb, by unfold New at hs; omega, by omega⟩
    replace hacc := Lib.hid hacc
    clear hex hr2
    go_wp2_with fail
    rw [← hX]
    have hXw : w.heap.size < X := by omega
    clear hs2
    replace hX := Lib.hid hX
    go_loopw [] (fun wi => ∃ (x : Pu.Ex) (l' : List Pu.Tok), Acc R d w X x l' wi ∧ l' <:+ l ∧ goal = Pu.pAts pe l'.length x l') (fun wi => tokLeft wi R)
    case atStart => exact ⟨x0, l0, hacc.out, hl0, hgoal.out⟩
    case round =>
      obtain ⟨x, l', hA, hsf, heq⟩ := hrel
      have hA0 := hA
      obtain ⟨hr, hg, hres, k, n, of, s, A, m, c, hvar, hex⟩ := hA
      have htl := hr.left
      have hts := take_any R 91 d l' wr hr
      replace hts := Lib.hid hts
      cases ht : Pu.take 91 l' with
      | none =>
        rw [ht] at hts
        rw [Pu.pAts_none x l' ht] at heq
        have z0 := hres.frozen 0
        have z1 := hres.frozen 1
        have z2 := hres.frozen 2
        have z3 := hres.frozen 3
        have z4 := hres.frozen 4
        have v0 := hres.cell 0
        have v1 := hres.cell 1
        have v2 := hres.cell 2
        have v3 := hres.cell 3
        have v4 := hres.cell 4
        have y0 := hvar.cell 0
        have y1 := hvar.cell 1
        have y2 := hvar.cell 2
        have y3 := hvar.cell 3
        have y4 := hvar.cell 4
        have hltv := hres.lt
        have hltx := hvar.lt
        replace heq := Lib.hid heq
        replace hr := Lib.hid hr
        replace hg := Lib.hid hg
        replace hres := Lib.hid hres
        replace hvar := Lib.hid hvar
        replace hex := Lib.hid hex
        replace hA0 := Lib.hid hA0
        go_wp2_with fail
        refine hts.out.mono ?_
        rintro e w3 ⟨rfl, rfl⟩
        go_wp2_with fail
        rw [heq.out]
        exact ex_ret Tryz.results111 (by rfl) hlt hr.out hg.out hres.out (hex.out.keep (Nat.le_refl _) fun b hs _ => ⟨rfl, hs.1⟩)
      | some l1 =>
        rw [ht] at hts
        rw [Pu.pAts_some he'.out x l' l1 ht] at heq
        have hl1 := Pu.take_len ht
        have hsf1 := (Pu.take_suf ht).trans hsf
        replace hr := Lib.hid hr
        replace hg := Lib.hid hg
        replace hres := Lib.hid hres
        replace hvar := Lib.hid hvar
        replace hex := Lib.hid hex
        go_wp2_with fail
        refine hts.out.mono ?_
        rintro e w3 ⟨rfl, hr3, hg3⟩
        have hA3 := hA0.later hlt hXw hg3 hr3
        clear hA0
        have hg03 := hA3.grown
        have hvar3 := hvar.out.grown hg3 (by intro e; injection e; omega)
        have hex3 := hex.out.laterS hg3 (fun h => by unfold NewBut at h; omega)
        have hres3 := hA3.res
        have hXR : X ≠ R := by omega
        have y0 : w3.drew.cell? ⟨X, 0, none⟩ = some (.int .i64 k) := hvar3.cell 0
        have y1 : w3.drew.cell? ⟨X, 1, none⟩ = some (.int .i64 n) := hvar3.cell 1
        have y2 : w3.drew.cell? ⟨X, 2, none⟩ = some (.string of) := hvar3.cell 2
        have y3 : w3.drew.cell? ⟨X, 3, none⟩ = some (.string s) := hvar3.cell 3
        have y4 : w3.drew.cell? ⟨X, 4, none⟩ = some (.slice A m c) := hvar3.cell 4
        have x0' : w3.cell? ⟨X, 0, none⟩ = some (.int .i64 k) := hvar3.cell 0
        have x1' : w3.cell? ⟨X, 1, none⟩ = some (.int .i64 n) := hvar3.cell 1
        have x2' : w3.cell? ⟨X, 2, none⟩ = some (.string of) := hvar3.cell 2
        have x3' : w3.cell? ⟨X, 3, none⟩ = some (.string s) := hvar3.cell 3
        have x4' : w3.cell? ⟨X, 4, none⟩ = some (.slice A m c) := hvar3.cell 4
        have hcx := hE'.out R l1 w3.drew (hl.suf hsf1) hr3.drew
        have hs3 := hg03.size
        have hg03d := Lib.hid (only_drew hg03)
        have hvar3d := Lib.hid hvar3.drew
        have hex3d : Hid (ExC w3.drew (NewBut (w.heap.size + 1) X) x [.int .i64 k, .int .i64 n, .string of, .string s, .slice A m c]) := Lib.hid (hex3.keep (Nat.le_refl _) fun b hs _ => ⟨rfl, hs⟩)
        have hres3d := Lib.hid hres3.drew
        have hltx3 := hvar3.lt
        replace hcx := Lib.hid hcx
        replace hA3 := Lib.hid hA3
        replace hg03 := Lib.hid hg03
        replace hvar3 := Lib.hid hvar3
        replace hex3 := Lib.hid hex3
        replace hres3 := Lib.hid hres3
        replace hr3 := Lib.hid hr3
        go_wp2_with fail
        cases hp1 : pe l1 with
        | error kk =>
          rw [hp1] at hcx heq
          obtain rfl : goal = .error kk := heq
          refine wp_region_anyFrame ?_
          go_region_dies
          all_goals
            go_at_call 97
            refine hcx.out.mono ?_
            rintro e w4 ⟨rfl, hr4, hg4⟩
            exact fun tmps => ⟨rfl, rfl, hr4, only_trans hg03d.out hg4⟩
        | ok r =>
          obtain ⟨y, l2⟩ := r
          have hl2 := he'.out l1 y l2 hp1
          rw [hp1] at hcx heq
          obtain ⟨goal2, hgoal2⟩ : ∃ g, g = Pu.must 93 l2 := ⟨_, rfl⟩
          have heq2 : goal = Pu.andThen goal2 fun l3 => Pu.pAts pe l3.length (.mk 7 0 [] [] [x, y]) l3 := by rw [hgoal2]; exact heq
          clear heq
          replace heq2 := Lib.hid heq2
          replace hgoal2 := Lib.hid hgoal2
          refine wp_region_anyFrame ?_
          go_region_with ((go_at_call 97; refine hcx.out.mono ?_; rintro e w4 ⟨⟨cs2, rfl, hy⟩, hr4, hg4⟩; obtain ⟨ky, ny, ofy, sy, Ay, my, cy, rfl⟩ := hy.form; have hb4 := Lib.hid (hvar3d.out.grown hg4 (fun e => hXR (by injection e))); have q0 := hb4.out.cell 0; have q1 := hb4.out.cell 1; have q2 := hb4.out.cell 2; have q3 := hb4.out.cell 3; have q4 := hb4.out.cell 4; have p0 := hb4.out.frozen 0; have p1 := hb4.out.frozen 1; have p2 := hb4.out.frozen 2; have p3 := hb4.out.frozen 3; have p4 := hb4.out.frozen 4; have hlt4 := hb4.out.lt; replace hy := Lib.hid hy; replace hr4 := Lib.hid hr4))
          all_goals
            refine AnyFrame.normal ?_
            have hs34 := hg4.size
            have hs3' : w3.drew.heap.size = w3.heap.size := rfl
            have hy4 : ExC w4 (NewBut (w.heap.size + 1) X) y [.int .i64 ky, .int .i64 ny, .string ofy, .string sy, .slice Ay my cy] := hy.out.keep (Nat.le_refl _) fun b hs _ => ⟨rfl, by unfold New at hs; exact ⟨by omega, by omega⟩⟩
            have hA5 := acc_store hlt hXw (by omega) hr4.out (only_trans hg03d.out hg4) (hres3d.out.grown hg4 (by intro e; injection e; omega)) hb4.out (hex3d.out.laterS hg4 (fun h => by unfold NewBut at h; omega)) hy4 7
            obtain ⟨w5, hw5⟩ : ∃ w5, w5 = (set5 w4 X (.int .i64 7) (.int .i64 0) (.string ⟨#[]⟩) (.string ⟨#[]⟩) (.slice (some ⟨w4.heap.size, 0, none⟩) 2 2)).alloc
              (.cells #[.int .i64 k, .int .i64 n, .string of, .string s, .slice A m c, .int .i64 ky, .int .i64 ny, .string ofy, .string sy, .slice Ay my cy] 53) := ⟨_, rfl⟩
            rw [← hw5] at hA5
            unfold set5 at hw5
            have hm5 := must_any R 93 d l2 w5 hA5.rd
            rw [← hgoal2.out] at hm5
            replace hm5 := Lib.hid hm5
            replace hA5 := Lib.hid hA5
            replace hw5 := Lib.hid hw5
            clear q0 q1 q2 q3 q4 p0 p1 p2 p3 p4 y0 y1 y2 y3 y4 x0' x1' x2' x3' x4' hy4
            go_wp2_with fail
            rw [← hw5.out]
            refine hm5.out.mono ?_
            cases goal2 with
            | error kk =>
              rintro e w6 ⟨rfl, rfl⟩
              go_wp2_with fail
              rw [heq2.out]
              exact ⟨rfl, rfl, ⟨_, _, hA5.out.rd⟩, hA5.out.grown⟩
            | ok l3 =>
              rintro e w6 ⟨rfl, hr6, hg6⟩
              have hl3 := Pu.must_len hgoal2.out.symm
              have hsf3 := (Pu.must_suf hgoal2.out.symm).trans (hl2.trans hsf1)
              have hl2' := hl2.length_le
              have hA6 := hA5.out.later hlt hXw hg6 hr6
              go_wp2_with fail
              refine ⟨⟨_, l3, hA6, hsf3, heq2.out⟩, ?_⟩
              rw [htl, hr6.left]
              omega
end Go.Proofs.YtpfgjiapdepdmaaGreatDoor
