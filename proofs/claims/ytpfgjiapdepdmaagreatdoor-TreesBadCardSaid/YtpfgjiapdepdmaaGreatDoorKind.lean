/- The walk of the reader's kind. -/
import Derived.Test.YtpfgjiapdepdmaaGreatDoorTree
import Derived.RegionDies
import Derived.Deep.RegionHeld3
import Derived.Deep.DrawnRows
namespace Go.Proofs.YtpfgjiapdepdmaaGreatDoor
open Go.RowKit Go.Shelf
attribute [local go_sem ↓] Go.wp_at_zero Go.wp_at_succ

theorem kind_none (R : Nat) (l : List Pu.Tok) (w : World) (h : Rd w R l 40) :
    Calls Tryz.prog 66 #[.pointer (some ⟨R, 0, none⟩)] w (FaultP R w 1) := by
  have hlt := h.lt
  have hc := deeper_no R 40 l (w.alloc (.cells #[.int .i64 0, .string ⟨#[]⟩, .string ⟨#[]⟩, .slice none 0 0] 50)) (h.alloc _) rfl
  replace hc := Lib.hid hc
  clear h
  go_enter_defers Tryz.func66, Tryz.ntmps66
  go_wp2_with fail
  refine hc.out.mono ?_
  rintro e w1 ⟨rfl, hr, hg⟩
  go_wp2_with fail
  exact ⟨rfl, hr, only_trans (only_alloc (only_refl _ _) _) hg⟩

/-- the result's block, as it begins -/
abbrev V0 (w : World) : World := w.alloc (.cells #[.int .i64 0, .string ⟨#[]⟩, .string ⟨#[]⟩, .slice none 0 0] 50)

/-- through the door with a fault -/
theorem door_fault {R k : Nat} {w W : World} {tmps : Array Value} (hr : ∃ l' d', Rd W R l' d') (hg : w.grownBy W (some R)) (hx : W.cell? ⟨w.heap.size + 1, 0, none⟩ = some (.pointer (some ⟨R, 0, none⟩))) :
    bodyPostD Tryz.prog Tryz.f66 (FaultP R w k) (Exit.panic [{ v := fault k, recovered := false }])
      { tmps := tmps, defers := [{ target := .fn (.func 110) #[.pointer (some ⟨w.heap.size + 1, 0, none⟩)], args := #[] }] } W := by
  obtain ⟨l', d', hr⟩ := hr
  refine leaves_cons (f := 110) (args := #[.pointer (some ⟨w.heap.size + 1, 0, none⟩)]) (by simp) (by simp [go_sem]) ?_
  refine (back_fault (w.heap.size + 1) R d' l' _ W hr hx).mono ?_
  rintro e u' w'' ⟨rfl, rfl, d'', rfl⟩
  exact ⟨rfl, ⟨_, _, hr.setDepth d''⟩, only_setCell hg (.inl rfl) _⟩

/-- through the door with a type in the result's block -/
theorem door_ok {R : Nat} {d : Int} {w W : World} {tmps : Array Value} {t : Pu.Ty} {l' : List Pu.Tok} {u0 u1 u2 u3 z0 z1 z2 z3 : Value} (htmp : tmps.getD 2 undef = .pointer (some ⟨w.heap.size, 0, none⟩)) (hR : R < w.heap.size) (h0 : 0 ≤ d) (h1 : d < 40)
    (hr : Rd W R l' (d + 1)) (hg : w.grownBy W (some R)) (hx : W.cell? ⟨w.heap.size + 1, 0, none⟩ = some (.pointer (some ⟨R, 0, none⟩)))
    (hb : Blk W w.heap.size 50 #[z0, z1, z2, z3]) (hty : TyC W (New (w.heap.size + 1)) t [u0, u1, u2, u3]) :
    bodyPostD Tryz.prog Tryz.f66 (KindPost R d w (.ok (t, l'))) Exit.ret
      { tmps := tmps, defers := [{ target := .fn (.func 110) #[.pointer (some ⟨w.heap.size + 1, 0, none⟩)], args := #[] }] } (set4 W w.heap.size u0 u1 u2 u3) := by
  have hlt := hb.lt
  have hrd : Rd (set4 W w.heap.size u0 u1 u2 u3) R l' (d + 1) := (((hr.newer (p := ⟨w.heap.size, 0, none⟩) hR u0).newer (p := ⟨w.heap.size, 1, none⟩) hR u1).newer (p := ⟨w.heap.size, 2, none⟩) hR u2).newer (p := ⟨w.heap.size, 3, none⟩) hR u3
  have hgg : w.grownBy (set4 W w.heap.size u0 u1 u2 u3) (some R) := only_setCell (only_setCell (only_setCell (only_setCell hg (.inr (Nat.le_refl _)) _) (.inr (Nat.le_refl _)) _) (.inr (Nat.le_refl _)) _) (.inr (Nat.le_refl _)) _
  have hbb : Blk (set4 W w.heap.size u0 u1 u2 u3) w.heap.size 50 #[u0, u1, u2, u3] := (((hb.set_ 0 u0).set_ 1 u1).set_ 2 u2).set_ 3 u3
  have htt : TyC (set4 W w.heap.size u0 u1 u2 u3) (New (w.heap.size + 1)) t [u0, u1, u2, u3] :=
    (((hty.far (p := ⟨w.heap.size, 0, none⟩) (by simp) u0).far (p := ⟨w.heap.size, 1, none⟩) (by simp) u1).far (p := ⟨w.heap.size, 2, none⟩) (by simp) u2).far (p := ⟨w.heap.size, 3, none⟩) (by simp) u3
  have hxx : (set4 W w.heap.size u0 u1 u2 u3).cell? ⟨w.heap.size + 1, 0, none⟩ = some (.pointer (some ⟨R, 0, none⟩)) := by
    unfold set4
    rw [World.cell?_setCell_other _ _ _ _ (by simp), World.cell?_setCell_other _ _ _ _ (by simp), World.cell?_setCell_other _ _ _ _ (by simp), World.cell?_setCell_other _ _ _ _ (by simp)]
    exact hx
  generalize set4 W w.heap.size u0 u1 u2 u3 = V at hrd hgg hbb htt hxx
  refine leaves_cons (f := 110) (args := #[.pointer (some ⟨w.heap.size + 1, 0, none⟩)]) (by simp) (by simp [go_sem]) ?_
  refine (back_any (w.heap.size + 1) R d l' _ V hrd hxx h0 (by omega)).mono ?_
  rintro e u' w'' ⟨rfl, rfl, rfl⟩
  have hb2 := hbb.far (p := ⟨R, 1, none⟩) (by simp; omega) (.int .i64 d)
  have ht2 := htt.far (p := ⟨R, 1, none⟩) (by simp; omega) (.int .i64 d)
  refine ⟨_, results_cell_row Tryz.results66 _ _ w.heap.size 50 _ (0, 0) _ htmp hb2 Tryz.underlying50 rfl (by kernel_rfl), ?_⟩
  exact ⟨⟨_, rfl, ht2.wide (by omega)⟩, hrd.setDepth d, only_setCell hgg (.inl rfl) _⟩

theorem door_fault_any {R k : Nat} {d : Int} {w W : World} {tmps : Array Value} {K1 K2 : Act → World → Prop} (hr : ∃ l' d', Rd W R l' d') (hg : w.grownBy W (some R)) (hx : W.cell? ⟨w.heap.size + 1, 0, none⟩ = some (.pointer (some ⟨R, 0, none⟩))) :
    AnyFrame (Exit.then K1 (Exit.then K2 (bodyPostD Tryz.prog Tryz.f66 (KindPost R d w (.error k))))) (Exit.panic [{ v := fault k, recovered := false }])
      { tmps := tmps, defers := [{ target := .fn (.func 110) #[.pointer (some ⟨w.heap.size + 1, 0, none⟩)], args := #[] }] } W := fun _ => door_fault hr hg hx

theorem kind_list (n : Nat) (hn : n < 40) (IH : ∀ R l w, Rd w R l (40 - (n : Int)) → Calls Tryz.prog 66 #[.pointer (some ⟨R, 0, none⟩)] w (KindPost R (40 - (n : Int)) w (Pu.pKind n l)))
    (R : Nat) (l l1 : List Pu.Tok) (w : World) (h : Rd w R l (40 - ((n + 1 : Nat) : Int))) (ht : Pu.take 91 l = some l1) :
    Calls Tryz.prog 66 #[.pointer (some ⟨R, 0, none⟩)] w (KindPost R (40 - ((n + 1 : Nat) : Int)) w (Pu.pKind (n + 1) l)) := by
  have hlt := h.lt
  obtain ⟨d, hd⟩ : ∃ d, d = (40 : Int) - ((n + 1 : Nat) : Int) := ⟨_, rfl⟩
  have hd1 : (40 : Int) - (n : Int) = d + 1 := by omega
  have hd0 : 0 ≤ d := by omega
  have hd2 : d < 40 := by omega
  rw [← hd] at h ⊢
  rw [hd1] at IH
  have hc := deeper_yes R d l (V0 w) (h.alloc _) hd0 hd2
  have hpk : Pu.pKind (n + 1) l = Pu.andThen (Pu.pKind n l1) fun r => Pu.andThen (Pu.must 93 r.2) fun l3 => .ok (.mk 3 [] [] [r.1], l3) := by
    show (match Pu.take 91 l with | some l1 => _ | none => _) = _
    rw [ht]
  rw [hpk]
  have htk := fun W (hr : Rd W R l (d + 1)) => take_any R 91 (d + 1) l W hr
  rw [ht] at htk
  have ihl := fun W (hr : Rd W R l1 (d + 1)) => IH R l1 W hr
  replace hc := Lib.hid hc
  replace htk := Lib.hid htk
  replace ihl := Lib.hid ihl
  replace hd1 := Lib.hid hd1
  replace hd := Lib.hid hd
  clear h IH hpk ht
  go_enter_defers Tryz.func66, Tryz.ntmps66
  go_wp2_with fail
  refine hc.out.mono ?_
  rintro e w1 ⟨rfl, hr1, hg1, hx1⟩
  have hxs : (V0 w).heap.size = w.heap.size + 1 := by simp
  rw [hxs] at hx1 ⊢
  have hg01 : w.grownBy w1 (some R) := only_trans (only_alloc (only_refl _ _) _) hg1
  replace hr1 := Lib.hid hr1
  clear hc
  go_wp2_with fail
  refine (htk.out _ hr1.out).mono ?_
  rintro e w2 ⟨rfl, hr2, hg2⟩
  go_wp2_with fail
  refine (ihl.out _ hr2).mono ?_
  cases hp : Pu.pKind n l1 with
  | error k =>
    rintro e w3 ⟨rfl, hr3, hg3⟩
    go_wp2_with fail
    rw [hp]
    exact door_fault hr3 (only_trans hg01 (only_trans hg2 hg3)) (keepX hg3 (keepX hg2 hx1 (by omega)) (by omega))
  | ok r =>
    obtain ⟨t, l2⟩ := r
    rintro e w3 ⟨⟨cs, rfl, hty⟩, hr3, hg3⟩
    obtain ⟨k', of', nm', A', n', c', rfl⟩ := hty.form
    have hs3 := hg3.size
    have hx3 := keepX hg3 (keepX hg2 hx1 (by omega)) (by omega)
    have hg03 := only_trans hg01 (only_trans hg2 hg3)
    have hs03 := hg03.size
    have hone := hty.one hs3 3 [] []
    have hr3' := (hr3.alloc (.cells #[.int .i64 k', .string of', .string nm', .slice A' n' c'] 50)).alloc (.cells #[.int .i64 3, .string ⟨#[]⟩, .string ⟨#[]⟩, .slice (some ⟨w3.heap.size, 0, none⟩) 1 1] 50)
    have hm := must_any R 93 (d + 1) l2 _ hr3'
    replace hone := Lib.hid hone
    replace hm := Lib.hid hm
    replace hg03 := Lib.hid hg03
    replace hr3' := Lib.hid hr3'
    have hr3'' := hr3'
    clear hty hr3
    go_wp2_with fail
    have hgw : w3.grownBy ((w3.alloc (.cells #[.int .i64 k', .string of', .string nm', .slice A' n' c'] 50)).alloc (.cells #[.int .i64 3, .string ⟨#[]⟩, .string ⟨#[]⟩, .slice (some ⟨w3.heap.size, 0, none⟩) 1 1] 50)) (some R) := only_alloc (only_alloc (only_refl _ _) _) _
    have hxw := keepX hgw hx3 (by omega)
    obtain ⟨w4, hw4⟩ : ∃ w4, w4 = (w3.alloc (.cells #[.int .i64 k', .string of', .string nm', .slice A' n' c'] 50)).alloc (.cells #[.int .i64 3, .string ⟨#[]⟩, .string ⟨#[]⟩, .slice (some ⟨w3.heap.size, 0, none⟩) 1 1] 50) := ⟨_, rfl⟩
    have hb4 : Blk w4 (w3.heap.size + 1) 50 #[.int .i64 3, .string ⟨#[]⟩, .string ⟨#[]⟩, .slice (some ⟨w3.heap.size, 0, none⟩) 1 1] := by
      rw [hw4]
      have := Blk.new (w3.alloc (.cells #[.int .i64 k', .string of', .string nm', .slice A' n' c'] 50)) 50 #[.int .i64 3, .string ⟨#[]⟩, .string ⟨#[]⟩, .slice (some ⟨w3.heap.size, 0, none⟩) 1 1]
      simpa using this
    have hs4 : w4.heap.size = w3.heap.size + 2 := by rw [hw4]; simp
    have hone4 : TyC w4 (New w2.heap.size) (.mk 3 [] [] [t]) [.int .i64 3, str [], str [], .slice (some ⟨w3.heap.size, 0, none⟩) 1 1] := by
      rw [hw4]
      exact hone.out.keep (by simp) fun b hs hb => ⟨Below.heap_alloc _ _ b hb, hs⟩
    rw [← hw4] at hm hxw hgw hr3'' ⊢
    have hg04 := only_trans hg03.out hgw
    have hgv := Lib.hid hgw
    replace hw4 := Lib.hid hw4
    replace hone4 := Lib.hid hone4
    replace hg04 := Lib.hid hg04
    clear hone hr3' hgw hg03
    cases hmm : Pu.must 93 l2 with
    | error k =>
      rw [hmm] at hm
      refine hm.out.mono ?_
      rintro e w5 ⟨rfl, rfl⟩
      go_wp2_with fail
      rw [hp]
      show bodyPostD _ _ (KindPost R d w (Pu.andThen (Pu.must 93 l2) _)) _ _ _
      rw [hmm]
      exact door_fault ⟨_, _, hr3''.out⟩ hg04.out hxw
    | ok l3 =>
      rw [hmm] at hm
      refine hm.out.mono ?_
      rintro e w5 ⟨rfl, hr5, hg5⟩
      have hb5 := hb4.grown hg5 (by intro e; injection e; omega)
      have hx5 := keepX hg5 hxw (by omega)
      have hone5 := hone4.out.later hg5 (by have := hg2.size; have := hg1.size; omega)
      have hg05 := only_trans hg04.out hg5
      have hs5 := hg5.size
      replace hone5 := Lib.hid hone5
      replace hg05 := Lib.hid hg05
      replace hr5 := Lib.hid hr5
      have c0 := hb5.cell 0
      have c1 := hb5.cell 1
      have c2 := hb5.cell 2
      have c3 := hb5.cell 3
      have hv5 := ((Blk.new w 50 #[.int .i64 0, .string ⟨#[]⟩, .string ⟨#[]⟩, .slice none 0 0]).grown (only_trans hg1 (only_trans hg2 (only_trans hg3 (only_trans (hgv.out) hg5)))) (by intro e; injection e; omega))
      have z0 := hv5.frozen 0
      have z1 := hv5.frozen 1
      have z2 := hv5.frozen 2
      have z3 := hv5.frozen 3
      have y0 := hv5.cell 0
      have y1 := hv5.cell 1
      have y2 := hv5.cell 2
      have y3 := hv5.cell 3
      have hvlt := hv5.lt
      have hne1 : w.heap.size ≠ R := by omega
      replace hv5 := Lib.hid hv5
      clear hm hone4 hg04 hb4 hb5
      go_wp2_with fail
      rw [hp]
      show bodyPostD _ _ (KindPost R d w (Pu.andThen (Pu.must 93 l2) _)) _ _ _
      rw [hmm]
      exact door_ok (by rfl) hlt hd0 hd2 hr5.out hg05.out hx5 hv5.out (hone5.out.wide (by have := hg2.size; have := hg1.size; omega))

/-- a new block's cell, behind what turned only R -/
theorem new_after {w w' : World} {R : Nat} {cs : Array Value} {t : TypeId} (hg : (w.alloc (.cells cs t)).grownBy w' (some R)) (hR : R < w.heap.size) : Blk w' w.heap.size t cs :=
  (Blk.new w t cs).grown hg (by intro e; injection e; omega)

theorem kind_word_nil (R : Nat) (d : Int) (w : World) (h : Rd w R [] d) (hd0 : 0 ≤ d) (hd2 : d < 40) :
    Calls Tryz.prog 66 #[.pointer (some ⟨R, 0, none⟩)] w (FaultP R w 4) := by
  have hlt := h.lt
  have hc := deeper_yes R d [] (V0 w) (h.alloc _) hd0 hd2
  have htk := fun W (hr : Rd W R [] (d + 1)) => take_any R 91 (d + 1) [] W hr
  have hnx := fun W (hr : Rd W R [] (d + 1)) => next_nil R (d + 1) W hr
  replace hc := Lib.hid hc
  replace htk := Lib.hid htk
  replace hnx := Lib.hid hnx
  clear h
  go_enter_defers Tryz.func66, Tryz.ntmps66
  go_wp2_with fail
  refine hc.out.mono ?_
  rintro e w1 ⟨rfl, hr1, hg1, hx1⟩
  have hxs : (V0 w).heap.size = w.heap.size + 1 := by simp
  rw [hxs] at hx1 ⊢
  have hg01 : w.grownBy w1 (some R) := only_trans (only_alloc (only_refl _ _) _) hg1
  replace hr1 := Lib.hid hr1
  clear hc
  go_wp2_with fail
  refine (htk.out _ hr1.out).mono ?_
  rintro e w2 ⟨rfl, rfl⟩
  go_wp2_with fail
  refine (hnx.out _ hr1.out).mono ?_
  rintro e w3 ⟨rfl, hr3, hg3⟩
  unfold str
  have hx3 := keepX hg3 hx1 (by omega)
  replace hr3 := Lib.hid hr3
  go_wp2_with fail
  refine (need_no 4 _).mono ?_
  rintro e w4 ⟨rfl, rfl⟩
  go_wp2_with fail
  refine door_fault ⟨_, _, hr3.out.alloc _⟩ (only_alloc (only_trans hg01 hg3) _) ?_
  exact keepX (only_alloc (only_refl w3 (some R)) _) hx3 (by omega)

theorem kind_word_cons (R : Nat) (d : Int) (t : Pu.Tok) (l : List Pu.Tok) (w : World) (h : Rd w R (t :: l) d) (hd0 : 0 ≤ d) (hd2 : d < 40) (ht : Pu.take 91 (t :: l) = none) :
    Calls Tryz.prog 66 #[.pointer (some ⟨R, 0, none⟩)] w (KindPost R d w (Pu.pWord (t :: l))) := by
  have hlt := h.lt
  have hc := deeper_yes R d (t :: l) (V0 w) (h.alloc _) hd0 hd2
  have htk := fun W (hr : Rd W R (t :: l) (d + 1)) => take_any R 91 (d + 1) (t :: l) W hr
  rw [ht] at htk
  have hnx := fun W (hr : Rd W R (t :: l) (d + 1)) => next_cons R (d + 1) t l W hr
  have htd := fun W (hr : Rd W R l (d + 1)) => take_any R 46 (d + 1) l W hr
  have hid := identB_eq t.text
  have hic := fun W => ident_any ⟨t.text.toArray⟩ W
  rw [hid] at hic
  obtain ⟨tk, tx⟩ := t
  replace hc := Lib.hid hc
  replace htk := Lib.hid htk
  replace hnx := Lib.hid hnx
  replace htd := Lib.hid htd
  replace hic := Lib.hid hic
  clear h ht hid
  go_enter_defers Tryz.func66, Tryz.ntmps66
  go_wp2_with fail
  refine hc.out.mono ?_
  rintro e w1 ⟨rfl, hr1, hg1, hx1⟩
  have hxs : (V0 w).heap.size = w.heap.size + 1 := by simp
  rw [hxs] at hx1 ⊢
  have hg01 : w.grownBy w1 (some R) := only_trans (only_alloc (only_refl _ _) _) hg1
  replace hr1 := Lib.hid hr1
  clear hc
  go_wp2_with fail
  refine (htk.out _ hr1.out).mono ?_
  rintro e w2 ⟨rfl, rfl⟩
  go_wp2_with fail
  refine (hnx.out _ hr1.out).mono ?_
  rintro e w3 ⟨rfl, hr3, hg3⟩
  unfold str
  have hx3 := keepX hg3 hx1 (by omega)
  have hs3 := hg3.size
  have hs1 := hg1.size
  have hv3 := new_after (only_trans hg1 hg3) hlt
  obtain ⟨w4, hw4⟩ : ∃ w4, w4 = w3.alloc (.cells #[.int .i64 (tk : Int), .string ⟨tx.toArray⟩] 96) := ⟨_, rfl⟩
  have hr4 := hr3.alloc (.cells #[.int .i64 (tk : Int), .string ⟨tx.toArray⟩] 96)
  have hx4 := keepX (only_alloc (only_refl w3 (some R)) (.cells #[.int .i64 (tk : Int), .string ⟨tx.toArray⟩] 96)) hx3 (by omega)
  have hg4 := only_alloc (only_trans hg01 hg3) (.cells #[.int .i64 (tk : Int), .string ⟨tx.toArray⟩] 96)
  have hv4 := hv3.alloc (.cells #[.int .i64 (tk : Int), .string ⟨tx.toArray⟩] 96)
  have ht4 := Blk.new w3 96 #[.int .i64 (tk : Int), .string ⟨tx.toArray⟩]
  rw [← hw4] at hr4 hx4 hg4 hv4 ht4
  replace hr4 := Lib.hid hr4
  replace hg4 := Lib.hid hg4
  replace hw4 := Lib.hid hw4
  by_cases hk : tk = 1
  · subst hk
    have hk1 : ((1 : Nat) : Int) = 1 := rfl
    rw [hk1] at ht4 hw4
    have hp1 : Pu.pWord (⟨1, tx⟩ :: l) = if tx = Pu.wInt then .ok (.mk 1 [] [] [], l) else if tx = Pu.wText then .ok (.mk 2 [] [] [], l) else if Pu.ident tx = false then .error 4 else
        match Pu.take 46 l with
        | some l2 => Pu.andThen (Pu.pName l2) fun r => .ok (.mk 4 tx r.1 [], r.2)
        | none => .ok (.mk 4 [] tx [], l) := rfl
    have y1 := ht4.cell 1
    have z0 := hv4.frozen 0
    have z1 := hv4.frozen 1
    have z2 := hv4.frozen 2
    have z3 := hv4.frozen 3
    have v0 := hv4.cell 0
    have v1 := hv4.cell 1
    have v2 := hv4.cell 2
    have v3 := hv4.cell 3
    have hv4' := Lib.hid hv4
    have hltv := hv4.lt
    replace hp1 := Lib.hid hp1
    by_cases hi : tx = Pu.wInt
    · have e1 : (tx == [105, 110, 116]) = true := by rw [hi]; rfl
      have hp : Pu.pWord (⟨1, tx⟩ :: l) = .ok (.mk 1 [] [] [], l) := by rw [hp1.out, if_pos hi]
      replace hp := Lib.hid hp
      clear ht4 hv4 hv3 hi
      go_wp2_with fail
      refine (need_yes 4 _).mono ?_
      rintro e w5 ⟨rfl, rfl⟩
      rw [← hw4.out]
      go_wp2_with fail
      rw [hp.out]
      exact door_ok (t := .mk 1 [] [] []) (u0 := .int .i64 1) (u1 := str []) (u2 := str []) (u3 := .slice none 0 0) (by rfl) hlt hd0 hd2 hr4.out hg4.out hx4 hv4'.out (TyC.leaf _ _ 1 [] [])
    · have e1 : (tx == [105, 110, 116]) = false := by
        rw [beq_eq_false_iff_ne]; exact hi
      by_cases hi2 : tx = Pu.wText
      · have e2 : (tx == [116, 101, 120, 116]) = true := by rw [hi2]; rfl
        have hp : Pu.pWord (⟨1, tx⟩ :: l) = .ok (.mk 2 [] [] [], l) := by rw [hp1.out, if_neg hi, if_pos hi2]
        replace hp := Lib.hid hp
        clear ht4 hv4 hv3 hi hi2
        go_wp2_with fail
        refine (need_yes 4 _).mono ?_
        rintro e w5 ⟨rfl, rfl⟩
        rw [← hw4.out]
        go_wp2_with fail
        rw [hp.out]
        exact door_ok (t := .mk 2 [] [] []) (u0 := .int .i64 2) (u1 := str []) (u2 := str []) (u3 := .slice none 0 0) (by rfl) hlt hd0 hd2 hr4.out hg4.out hx4 hv4'.out (TyC.leaf _ _ 2 [] [])
      · have e2 : (tx == [116, 101, 120, 116]) = false := by
          rw [beq_eq_false_iff_ne]; exact hi2
        clear hv3
        cases hid : Pu.ident tx with
        | false =>
          have hp : Pu.pWord (⟨1, tx⟩ :: l) = .error 4 := by rw [hp1.out, if_neg hi, if_neg hi2, if_pos hid]
          replace hp := Lib.hid hp
          rw [hid] at hic
          clear ht4 hv4 hi hi2
          go_wp2_with fail
          refine (need_yes 4 _).mono ?_
          rintro e w5 ⟨rfl, rfl⟩
          rw [← hw4.out]
          go_wp2_with fail
          refine (hic.out _).mono ?_
          rintro e w6 ⟨rfl, hb6⟩
          go_wp2_with fail
          refine (need_no 4 _).mono ?_
          rintro e w7 ⟨rfl, rfl⟩
          go_wp2_with fail
          rw [hp.out]
          exact door_fault ⟨_, _, hr4.out.below hb6 hr4.out.lt⟩ (only_trans hg4.out (only_of_below hb6 _)) (keepX (only_of_below hb6 (some R)) hx4 (by omega))
        | true => 
          rw [hid] at hic
          have hp : Pu.pWord (⟨1, tx⟩ :: l) = match Pu.take 46 l with
              | some l2 => Pu.andThen (Pu.pName l2) fun r => .ok (.mk 4 tx r.1 [], r.2)
              | none => .ok (.mk 4 [] tx [], l) := by rw [hp1.out, if_neg hi, if_neg hi2, if_neg (by rw [hid]; simp)]
          replace hp := Lib.hid hp
          clear hi hi2
          go_wp2_with fail
          refine (need_yes 4 _).mono ?_
          rintro e w5 ⟨rfl, rfl⟩
          rw [← hw4.out]
          go_wp2_with fail
          refine (hic.out _).mono ?_
          rintro e w6 ⟨rfl, hb6⟩
          have hr6 := hr4.out.below hb6 hr4.out.lt
          have hg6 := only_trans hg4.out (only_of_below hb6 (some R))
          have hx6 := keepX (only_of_below hb6 (some R)) hx4 (by omega)
          have hv6 := hv4.below hb6 hv4.lt
          have ht6 := ht4.below hb6 ht4.lt
          have hs6 := hb6.size
          have hs4 : w4.heap.size = w3.heap.size + 1 := by rw [hw4.out]; simp
          have y6 := ht6.cell 1
          clear y1 v0 v1 v2 v3 z0 z1 z2 z3 hv4 ht4
          replace hr6 := Lib.hid hr6
          replace hg6 := Lib.hid hg6
          replace hv6 := Lib.hid hv6
          replace ht6 := Lib.hid ht6
          replace hb6 := Lib.hid hb6
          go_wp2_with fail
          refine (need_yes 4 _).mono ?_
          rintro e w7 ⟨rfl, rfl⟩
          go_wp2_with fail
          have htd6 := htd.out _ hr6.out
          cases htk2 : Pu.take 46 l with
          | none =>
            rw [htk2] at htd6 hp
            refine htd6.mono ?_
            rintro e w7 ⟨rfl, rfl⟩
            have z0 := hv6.out.frozen 0
            have z1 := hv6.out.frozen 1
            have z2 := hv6.out.frozen 2
            have z3 := hv6.out.frozen 3
            have v0 := hv6.out.cell 0
            have v1 := hv6.out.cell 1
            have v2 := hv6.out.cell 2
            have v3 := hv6.out.cell 3
            clear htd6
            go_wp2_with fail
            rw [hp.out]
            exact door_ok (t := .mk 4 [] tx []) (u0 := .int .i64 4) (u1 := str []) (u2 := str tx) (u3 := .slice none 0 0) (by rfl) hlt hd0 hd2 hr6.out hg6.out hx6 hv6.out (TyC.leaf _ _ 4 [] tx)
          | some l2 =>
            rw [htk2] at htd6 hp
            refine htd6.mono ?_
            rintro e w7 ⟨rfl, hr7, hg7⟩
            have hx7 := keepX hg7 hx6 (by omega)
            have hg67 := only_trans hg6.out hg7
            have hv7 := hv6.out.grown hg7 (by intro e; injection e; omega)
            have ht7 := ht6.out.grown hg7 (by intro e; injection e; omega)
            have y7 : w7.drew.cell? ⟨w3.heap.size, 1, none⟩ = some (.string ⟨tx.toArray⟩) := ht7.cell 1
            have y7' : w7.cell? ⟨w3.heap.size, 1, none⟩ = some (.string ⟨tx.toArray⟩) := ht7.cell 1
            have hxR : w.heap.size + 1 ≠ R := by omega
            have hx7d : w7.drew.cell? ⟨w.heap.size + 1, 0, none⟩ = some (.pointer (some ⟨R, 0, none⟩)) := hx7
            have hnm := fun W (hr : Rd W R l2 (d + 1)) => name_any R (d + 1) l2 W hr
            replace hr7 := Lib.hid hr7
            replace hg67 := Lib.hid hg67
            replace hv7 := Lib.hid hv7
            replace ht7 := Lib.hid ht7
            clear htd6 y6
            replace hp := Lib.hid (show Pu.pWord (⟨1, tx⟩ :: l) = Pu.andThen (Pu.pName l2) (fun r => .ok (.mk 4 tx r.1 [], r.2)) from hp.out)
            cases hpn : Pu.pName l2 with
            | error k =>
              rw [hpn] at hnm hp
              replace hnm := Lib.hid hnm
              have hne3 : w3.heap.size ≠ R := by omega
              go_wp2_with fail
              refine wp_region_anyFrame ?_
              go_region_dies
              all_goals (go_at_call 64; refine (hnm.out _ (by exact hr7.out)).mono ?_; rintro e w8 ⟨rfl, hr8, hg8⟩; rw [hp.out]; exact door_fault_any hr8 (only_trans (only_drew hg67.out) hg8) (keepX hg8 hx7d hxR))
            | ok r =>
              obtain ⟨s, l3⟩ := r
              rw [hpn] at hnm hp
              replace hnm := Lib.hid hnm
              have hne3 : w3.heap.size ≠ R := by omega
              have hnev : w.heap.size ≠ R := by omega
              go_wp2_with fail
              refine wp_region_anyFrame ?_
              go_region_with ((go_at_call 64; refine (hnm.out _ (by exact hr7.out)).mono ?_; rintro e w8 ⟨rfl, hr8, hg8⟩; unfold str; have y8 := keepX hg8 y7 hne3; have hv8 := Lib.hid (hv7.out.drew.grown hg8 (fun e => hnev (by injection e))); have z0 := hv8.out.frozen 0; have z1 := hv8.out.frozen 1; have z2 := hv8.out.frozen 2; have z3 := hv8.out.frozen 3; have v0 := hv8.out.cell 0; have v1 := hv8.out.cell 1; have v2 := hv8.out.cell 2; have v3 := hv8.out.cell 3))
              all_goals
                refine AnyFrame.normal ?_
                go_wp2_with fail
                rw [hp.out]
                have hg68 := only_trans (only_drew hg67.out) hg8
                exact door_ok (t := .mk 4 tx s []) (u0 := .int .i64 4) (u1 := str tx) (u2 := str s) (u3 := .slice none 0 0) (by rfl) hlt hd0 hd2 hr8 hg68 (keepX hg8 hx7d hxR) hv8.out (TyC.leaf _ _ 4 tx s)
  · have hp : Pu.pWord (⟨tk, tx⟩ :: l) = .error 4 := by
      show (if tk ≠ 1 then _ else _) = _
      rw [if_pos hk]
    have hz : ((tk : Int) == 1) = false := by rw [beq_eq_false_iff_ne]; omega
    replace hp := Lib.hid hp
    clear ht4 hv4 hv3
    go_wp2_with fail
    refine (need_no 4 _).mono ?_
    rintro e w5 ⟨rfl, rfl⟩
    go_wp2_with fail
    rw [hp.out]
    rw [← hw4.out]
    exact door_fault ⟨_, _, hr4.out⟩ hg4.out hx4

/-- what the reader's kind does -/
theorem kind_any : ∀ (n : Nat), n ≤ 40 → ∀ (R : Nat) (l : List Pu.Tok) (w : World), Rd w R l (40 - (n : Int)) →
    Calls Tryz.prog 66 #[.pointer (some ⟨R, 0, none⟩)] w (KindPost R (40 - (n : Int)) w (Pu.pKind n l))
  | 0, _, R, l, w, h => kind_none R l w h
  | n + 1, hn, R, l, w, h => by
    cases ht : Pu.take 91 l with
    | some l1 => exact kind_list n (by omega) (fun R l w h => kind_any n (by omega) R l w h) R l l1 w h ht
    | none =>
      have hp : Pu.pKind (n + 1) l = Pu.pWord l := by
        show (match Pu.take 91 l with | some l1 => _ | none => _) = _
        rw [ht]
      rw [hp]
      cases l with
      | nil => exact kind_word_nil R _ w h (by omega) (by omega)
      | cons t l => exact kind_word_cons R _ t l w h (by omega) (by omega) ht
end Go.Proofs.YtpfgjiapdepdmaaGreatDoor
