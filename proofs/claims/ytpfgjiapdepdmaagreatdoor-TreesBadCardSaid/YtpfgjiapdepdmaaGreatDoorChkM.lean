/- The walk of tree.Check. -/
import Derived.Test.YtpfgjiapdepdmaaGreatDoorChkF
namespace Go.Proofs.YtpfgjiapdepdmaaGreatDoor
open Go.RowKit Go.Shelf

/-- what Check does -/
def CheckPost (w : World) (r : Nat) (e : Ending) (w' : World) : Prop := e = .returned (.int .i64 (r : Int)) ∧ Below w.heap.size w w'
theorem chk_bad {w W : World} {k : Nat} {tmps : Array Value} (htmp : tmps.getD 2 undef = .pointer (some ⟨w.heap.size + 1, 0, none⟩)) (hE : Blk W (w.heap.size + 1) 27 #[.int .i64 0]) (hb : Below w.heap.size w W) :
    bodyPostD Tryz.prog Tryz.f14 (CheckPost w k) (Exit.panic [{ v := fault k, recovered := false }]) { tmps := tmps, defers := [{ target := .fn (.func 34) #[], args := #[.pointer (some ⟨w.heap.size + 1, 0, none⟩)] }] } W := by
  refine leaves_cons (f := 34) (args := #[.pointer (some ⟨w.heap.size + 1, 0, none⟩)]) (by simp) (by simp [go_sem]) ?_
  refine (caught_fault k (w.heap.size + 1) (.int .i64 0) _ (hE.cell 0) (hE.frozen 0)).mono ?_
  rintro e u' w'' ⟨rfl, rfl, rfl⟩
  have hs := hb.size
  have jE := (hE.set_ 0 (.int .i64 (k : Int))).alloc (.cells #[.int .i64 (k : Int)] 120)
  have jb := (hb.setCell (p := ⟨w.heap.size + 1, 0, none⟩) (by simp) (.int .i64 (k : Int))).alloc (by simp [World.setCell]; omega) (.cells #[.int .i64 (k : Int)] 120)
  have k3 := jE.cell 0
  simp only [List.setIfInBounds_toArray, List.set_cons_zero, List.getElem?_toArray, List.getElem?_cons_zero] at k3
  rw [Array.getD_eq_getD_getElem?] at htmp
  show Leaves _ _ _ _ [] FrameMode.returning _
  exact ⟨.int .i64 (k : Int), by simp [results, Tryz.results14, go_sem, htmp, k3], rfl, jb⟩
theorem chk_ok {w W : World} {tmps : Array Value} (htmp : tmps.getD 2 undef = .pointer (some ⟨w.heap.size + 1, 0, none⟩)) (hE : Blk W (w.heap.size + 1) 27 #[.int .i64 0]) (hb : Below w.heap.size w W) :
    bodyPostD Tryz.prog Tryz.f14 (CheckPost w 0) Exit.ret { tmps := tmps, defers := [{ target := .fn (.func 34) #[], args := #[.pointer (some ⟨w.heap.size + 1, 0, none⟩)] }] } W := by
  refine leaves_cons (f := 34) (args := #[.pointer (some ⟨w.heap.size + 1, 0, none⟩)]) (by simp) (by simp [go_sem]) ?_
  refine (caught_idle (w.heap.size + 1) W).mono ?_
  rintro e u' w'' ⟨rfl, rfl, rfl⟩
  have k3 := hE.cell 0
  simp only [List.getElem?_toArray, List.getElem?_cons_zero] at k3
  rw [Array.getD_eq_getD_getElem?] at htmp
  show Leaves _ _ _ _ [] FrameMode.returning _
  exact ⟨.int .i64 0, by simp [results, Tryz.results14, go_sem, htmp, k3], rfl, hb⟩
theorem seq_end (a : Nat) : Pu.seq a 0 = a := by unfold Pu.seq; split <;> simp_all
theorem SlC.at_ {α : Type} {D : World → (Nat → Prop) → α → List Value → Prop} {size : Nat} {w : World} {S : Nat → Prop} {xs : List α} {A : Option Addr} {n c : Nat} (h : SlC D size w S xs (.slice A n c)) : xs.length = n ∧ ∀ j a, j < n → xs[j]? = some a → ∃ b off cs, A = some ⟨b, off, none⟩ ∧ b < w.heap.size ∧ D w S a cs ∧ ∀ i u, cs[i]? = some u → w.cell? ⟨b, off + j * size + i, none⟩ = some u := by
  obtain ⟨A', c', hv, hc, h⟩ := h
  injection hv with e1 e2 e3
  subst e1
  subst e2
  refine ⟨rfl, fun j a hj haj => ?_⟩
  obtain ⟨b, off, e, _, hb, hf⟩ := h (by omega)
  obtain ⟨cs, h1, h2⟩ := hf j a haj
  exact ⟨b, off, cs, e, hb, h1, h2⟩
theorem SlC.form {α : Type} {D : World → (Nat → Prop) → α → List Value → Prop} {size : Nat} {w : World} {S : Nat → Prop} {xs : List α} {v : Value} (h : SlC D size w S xs v) : ∃ A c, v = .slice A xs.length c := by
  obtain ⟨A, c, hv, _⟩ := h
  exact ⟨A, c, hv⟩
set_option maxHeartbeats 4000000 in
theorem check_any (m : Pu.Md) (vu vt vf : Value) (w : World) (h : MdS w (fun _ => True) m vu vt vf) (hsz : m.uses.length + m.types.length + m.funcs.length ≤ 1000000) : Calls Tryz.prog 14 #[.agg #[vu, vt, vf]] w (CheckPost w (Pu.mdFault m)) := by
  obtain ⟨h1, h2, h3⟩ := h
  obtain ⟨uA, uc, rfl⟩ := h1.form
  obtain ⟨tA, tc, rfl⟩ := h2.form
  obtain ⟨fA, fc, rfl⟩ := h3.form
  obtain ⟨nu, hnu⟩ : ∃ n, m.uses.length = n := ⟨_, rfl⟩
  obtain ⟨nt, hnt⟩ : ∃ n, m.types.length = n := ⟨_, rfl⟩
  obtain ⟨nf, hnf⟩ : ∃ n, m.funcs.length = n := ⟨_, rfl⟩
  rw [hnu] at h1 hsz
  rw [hnt] at h2 hsz
  rw [hnf] at h3 hsz
  have hel1 := h1.at_.2
  have hel2 := h2.at_.2
  have hel3 := h3.at_.2
  obtain ⟨tl2, htl2⟩ : ∃ t, t = Pu.firstFault Pu.fnFault m.funcs := ⟨_, rfl⟩
  obtain ⟨tl1, htl1⟩ : ∃ t, t = Pu.seq (Pu.firstFault Pu.fdFault m.types) tl2 := ⟨_, rfl⟩
  obtain ⟨goal, hgoal⟩ : ∃ g, g = Pu.mdFault m := ⟨_, rfl⟩
  have hgf : goal = Pu.seq (Pu.need (decide (nu + nt + nf ≤ 24)) 1) (Pu.seq (Pu.firstFault (fun u => Pu.need (Pu.ident u) 4) m.uses) tl1) := by
    rw [hgoal, htl1, htl2, ← hnu, ← hnt, ← hnf]
    rfl
  rw [← hgoal, hnu, hnt, hnf]
  have hn1 := Lib.hid hnu
  have hn2 := Lib.hid hnt
  have hn3 := Lib.hid hnf
  replace hel1 := Lib.hid hel1
  replace hel2 := Lib.hid hel2
  replace hel3 := Lib.hid hel3
  replace htl1 := Lib.hid htl1
  replace htl2 := Lib.hid htl2
  clear hgoal hnu hnt hnf h1 h2 h3
  have hB0 := ((Below.refl w.heap.size w).alloc (Nat.le_refl _) (.cells #[.slice uA nu uc, .slice tA nt tc, .slice fA nf fc] 26)).alloc (by simp) (.cells #[.int .i64 0] 27)
  have hM0 := (Blk.new w 26 #[.slice uA nu uc, .slice tA nt tc, .slice fA nf fc]).alloc (.cells #[.int .i64 0] 27)
  have hE0 : Blk ((w.alloc (.cells #[.slice uA nu uc, .slice tA nt tc, .slice fA nf fc] 26)).alloc (.cells #[.int .i64 0] 27)) (w.heap.size + 1) 27 #[.int .i64 0] := by
    have := Blk.new (w.alloc (.cells #[.slice uA nu uc, .slice tA nt tc, .slice fA nf fc] 26)) 27 #[.int .i64 0]
    simpa using this
  replace hB0 := Lib.hid hB0
  replace hM0 := Lib.hid hM0
  replace hE0 := Lib.hid hE0
  rcases Nat.lt_or_ge 24 (nu + nt + nf) with h24 | h24
  · have e1 : decide (nu + nt + nf ≤ 24) = false := by rw [decide_eq_false_iff_not]; omega
    have e2 : decide ((nu : Int) + (nt : Int) + (nf : Int) ≤ 24) = false := by rw [decide_eq_false_iff_not]; omega
    rw [e1] at hgf
    have hg4 : goal = 1 := hgf
    replace hg4 := Lib.hid hg4
    clear hgf h24
    go_enter_defers Tryz.func14, Tryz.ntmps14
    go_wp2_with fail
    refine (need_no 1 _).mono ?_
    rintro e wn ⟨rfl, rfl⟩
    go_wp2_with fail
    rw [hg4.out]
    exact chk_bad (k := 1) (by rfl) hE0.out hB0.out
  · have e1 : decide (nu + nt + nf ≤ 24) = true := by rw [decide_eq_true_iff]; exact h24
    have e2 : decide ((nu : Int) + (nt : Int) + (nf : Int) ≤ 24) = true := by rw [decide_eq_true_iff]; omega
    have h24' : nu + nt + nf ≤ 24 := h24
    rw [e1] at hgf
    have hg1 : goal = Pu.seq (Pu.firstFault (fun u => Pu.need (Pu.ident u) 4) (m.uses.drop 0)) tl1 := by rw [List.drop_zero]; exact hgf
    replace hg1 := Lib.hid hg1
    clear hgf h24
    go_enter_defers Tryz.func14, Tryz.ntmps14
    go_wp2_with fail
    refine (need_yes 1 _).mono ?_
    rintro e wn ⟨rfl, rfl⟩
    have hM1 := hM0
    have hE1 := hE0
    have hB1 := hB0
    go_wp2_with fail
    go_loopw [25] (fun i wr => ∃ j : Nat, j ≤ nu ∧ i = .int .i64 j ∧ goal = Pu.seq (Pu.firstFault (fun u => Pu.need (Pu.ident u) 4) (m.uses.drop j)) tl1 ∧ Blk wr w.heap.size 26 #[.slice uA nu uc, .slice tA nt tc, .slice fA nf fc] ∧ Blk wr (w.heap.size + 1) 27 #[.int .i64 0] ∧ Below w.heap.size w wr) (fun i _ => nu - (intOf i).toNat)
    case atStart => exact ⟨0, Nat.zero_le _, rfl, hg1.out, hM1.out, hE1.out, hB1.out⟩
    case round =>
      clear hg1
      obtain ⟨j, hj, rfl, hgj, hmk, hek, hbj⟩ := hrel
      replace hgj := Lib.hid hgj
      by_cases hlt : j < nu
      · obtain ⟨a, haj⟩ : ∃ a, m.uses[j]? = some a := ⟨m.uses[j]'(by rw [hn1.out]; exact hlt), List.getElem?_eq_getElem _⟩
        obtain ⟨b, off, pcs, hA, hbl, hfa, hcj⟩ := hel1.out j a hlt haj
        have hdrop : m.uses.drop j = a :: m.uses.drop (j + 1) := by
          have hlj : j < m.uses.length := by rw [hn1.out]; exact hlt
          rw [List.drop_eq_getElem_cons hlj]
          rw [List.getElem?_eq_getElem hlj] at haj
          injection haj with haj
          rw [haj]
        have hbb : ∀ o u, w.cell? ⟨b, o, none⟩ = some u → wr.cell? ⟨b, o, none⟩ = some u := fun o u hu => (hbj.cell (p := ⟨b, o, none⟩) hbl).trans hu
        have hgj2 := hgj.out
        rw [hdrop] at hgj2
        have hlte := hek.lt
        have hmk' := Lib.hid hmk
        have hek' := Lib.hid hek
        have hbj' := Lib.hid hbj
        have hs0 := hbj.size
        have hne0 : w.heap.size < wr.heap.size := by omega
        replace hdrop := Lib.hid hdrop
        clear haj hbj hmk hek
        obtain rfl := hfa
        subst hA
        have v0 := hbb _ _ (hcj 0 _ rfl)
        simp only [Nat.add_zero, Nat.mul_one] at v0
        unfold str at v0
        have hid := fun W => isIdentL a W
        have hgj3 : goal = Pu.seq (Pu.need (Pu.ident a) 4) (Pu.seq (Pu.firstFault (fun u => Pu.need (Pu.ident u) 4) (m.uses.drop (j + 1))) tl1) := by
          rw [hgj2]
          show Pu.seq (Pu.seq _ _) _ = _
          rw [seq_assoc]
        clear hbb hcj hgj2 hgj
        cases hidn : Pu.ident a with
        | false =>
          rw [hidn] at hid hgj3
          have hg4 : goal = 4 := hgj3
          replace hg4 := Lib.hid hg4
          replace hid := Lib.hid hid
          clear hgj3
          go_wp2_with fail
          refine (hid.out _).mono ?_
          rintro e w2 ⟨rfl, hb2⟩
          have hek2 := Lib.hid (hek'.out.below hb2 hlte)
          have hbel2 := Lib.hid (hbj'.out.trans (hb2.mono hs0))
          go_wp2_with fail
          refine (need_no 4 _).mono ?_
          rintro e wn ⟨rfl, rfl⟩
          go_wp2_with fail
          rw [hg4.out]
          exact chk_bad (k := 4) (by rfl) hek2.out hbel2.out
        | true =>
          rw [hidn] at hid hgj3
          have hg5 : goal = Pu.seq (Pu.firstFault (fun u => Pu.need (Pu.ident u) 4) (m.uses.drop (j + 1))) tl1 := hgj3
          replace hg5 := Lib.hid hg5
          replace hid := Lib.hid hid
          clear hgj3
          go_wp2_with fail
          refine (hid.out _).mono ?_
          rintro e w2 ⟨rfl, hb2⟩
          have hek2 := Lib.hid (hek'.out.below hb2 hlte)
          have hmk2 := Lib.hid (hmk'.out.below hb2 hne0)
          have hbel2 := Lib.hid (hbj'.out.trans (hb2.mono hs0))
          go_wp2_with fail
          refine (need_yes 4 _).mono ?_
          rintro e wn ⟨rfl, rfl⟩
          go_wp2_with fail
          go_roundw
          case rel => exact ⟨j + 1, by omega, by go_num, hg5.out, hmk2.out, hek2.out, hbel2.out⟩
          case measure => simp [intOf]; omega
      · have hje : m.uses.drop j = [] := List.drop_eq_nil_of_le (by rw [hn1.out]; omega)
        have hgn : goal = tl1 := by rw [hgj.out, hje]; rfl
        have hlte := hek.lt
        have hgn' := Lib.hid hgn
        have hmk' := Lib.hid hmk
        have hek' := Lib.hid hek
        have hbj' := Lib.hid hbj
        replace hje := Lib.hid hje
        clear hgn hmk hek hbj
        have hgn0 : goal = Pu.seq (Pu.firstFault Pu.fdFault (m.types.drop 0)) tl2 := by rw [hgn'.out, htl1.out, List.drop_zero]
        replace hgn' := Lib.hid hgn0
        clear hgn0

        have mc := hmk'.out.cell 1
        simp only [List.getElem?_toArray, List.getElem?_cons_zero, List.getElem?_cons_succ] at mc
        have hltm := hmk'.out.lt
        have hg2 := hgn'
        have hM2 := hmk'
        have hE2 := hek'
        have hB2 := hbj'
        go_wp2_with fail

        go_loopw [36] (fun i wr => ∃ j : Nat, j ≤ nt ∧ i = .int .i64 j ∧ goal = Pu.seq (Pu.firstFault Pu.fdFault (m.types.drop j)) tl2 ∧ Blk wr w.heap.size 26 #[.slice uA nu uc, .slice tA nt tc, .slice fA nf fc] ∧ Blk wr (w.heap.size + 1) 27 #[.int .i64 0] ∧ Below w.heap.size w wr) (fun i _ => nt - (intOf i).toNat)
        case atStart => exact ⟨0, Nat.zero_le _, rfl, hg2.out, hM2.out, hE2.out, hB2.out⟩
        case round =>
          clear hg2
          obtain ⟨j, hj, rfl, hgj, hmk, hek, hbj⟩ := hrel
          replace hgj := Lib.hid hgj
          by_cases hlt : j < nt
          · obtain ⟨a, haj⟩ : ∃ a, m.types[j]? = some a := ⟨m.types[j]'(by rw [hn2.out]; exact hlt), List.getElem?_eq_getElem _⟩
            obtain ⟨b, off, pcs, hA, hbl, hfa, hcj⟩ := hel2.out j a hlt haj
            have hdrop : m.types.drop j = a :: m.types.drop (j + 1) := by
              have hlj : j < m.types.length := by rw [hn2.out]; exact hlt
              rw [List.drop_eq_getElem_cons hlj]
              rw [List.getElem?_eq_getElem hlj] at haj
              injection haj with haj
              rw [haj]
            have hbb : ∀ o u, w.cell? ⟨b, o, none⟩ = some u → wr.cell? ⟨b, o, none⟩ = some u := fun o u hu => (hbj.cell (p := ⟨b, o, none⟩) hbl).trans hu
            have hgj2 := hgj.out
            rw [hdrop] at hgj2
            have hlte := hek.lt
            have hmk' := Lib.hid hmk
            have hek' := Lib.hid hek
            have hbj' := Lib.hid hbj
            have hs0 := hbj.size
            have hne0 : w.heap.size < wr.heap.size := by omega
            replace hdrop := Lib.hid hdrop
            clear haj hbj hmk hek
            obtain ⟨pts, rfl, hty⟩ := hfa
            obtain ⟨pk, pof, pnm, pA, pn, pc, rfl⟩ := hty.form
            subst hA
            have v0 := hbb _ _ (hcj 0 _ rfl)
            have v1 := hbb _ _ (hcj 1 _ rfl)
            have v2 := hbb _ _ (hcj 2 _ rfl)
            have v3 := hbb _ _ (hcj 3 _ rfl)
            have v4 := hbb _ _ (hcj 4 _ rfl)
            simp only [Nat.add_zero] at v0
            unfold str at v0
            have hid := fun W => isIdentL a.name W
            have hgj3 : goal = Pu.seq (Pu.need (Pu.ident a.name) 4) (Pu.seq (Pu.tyFault 10 a.is) (Pu.seq (Pu.firstFault Pu.fdFault (m.types.drop (j + 1))) tl2)) := by
              rw [hgj2]
              show Pu.seq (Pu.seq (Pu.seq _ _) _) _ = _
              rw [seq_assoc, seq_assoc]
            have hty' := Lib.hid hty
            clear hbb hcj hty hgj2 hgj
            cases hidn : Pu.ident a.name with
            | false =>
              rw [hidn] at hid hgj3
              have hg4 : goal = 4 := hgj3
              replace hg4 := Lib.hid hg4
              replace hid := Lib.hid hid
              clear hgj3
              go_wp2_with fail
              refine (hid.out _).mono ?_
              rintro e w2 ⟨rfl, hb2⟩
              have hek2 := Lib.hid ((hek'.out.alloc (.cells #[.string ⟨a.name.toArray⟩, .int .i64 pk, .string pof, .string pnm, .slice pA pn pc] 63)).below hb2 (by simp; omega))
              have hbel2 := Lib.hid ((hbj'.out.alloc hs0 (.cells #[.string ⟨a.name.toArray⟩, .int .i64 pk, .string pof, .string pnm, .slice pA pn pc] 63)).trans (hb2.mono (by simp; omega)))
              go_wp2_with fail
              refine (need_no 4 _).mono ?_
              rintro e wn ⟨rfl, rfl⟩
              go_wp2_with fail
              rw [hg4.out]
              exact chk_bad (k := 4) (by rfl) hek2.out hbel2.out
            | true =>
              rw [hidn] at hid hgj3
              have hg5 : goal = Pu.seq (Pu.tyFault 10 a.is) (Pu.seq (Pu.firstFault Pu.fdFault (m.types.drop (j + 1))) tl2) := hgj3
              replace hg5 := Lib.hid hg5
              replace hid := Lib.hid hid
              clear hgj3
              go_wp2_with fail
              refine (hid.out _).mono ?_
              rintro e w2 ⟨rfl, hb2⟩
              have pk2 := (Blk.new wr 63 #[.string ⟨a.name.toArray⟩, .int .i64 pk, .string pof, .string pnm, .slice pA pn pc]).below hb2 (by simp)
              have p1 := pk2.cell 1
              have p2 := pk2.cell 2
              have p3 := pk2.cell 3
              have p4 := pk2.cell 4
              have plt := pk2.lt
              simp only [List.getElem?_toArray, List.getElem?_cons_zero, List.getElem?_cons_succ] at p1 p2 p3 p4
              have hek2 := Lib.hid ((hek'.out.alloc (.cells #[.string ⟨a.name.toArray⟩, .int .i64 pk, .string pof, .string pnm, .slice pA pn pc] 63)).below hb2 (by simp; omega))
              have hmk2 := Lib.hid ((hmk'.out.alloc (.cells #[.string ⟨a.name.toArray⟩, .int .i64 pk, .string pof, .string pnm, .slice pA pn pc] 63)).below hb2 (by simp; omega))
              have hbel2 := Lib.hid ((hbj'.out.alloc hs0 (.cells #[.string ⟨a.name.toArray⟩, .int .i64 pk, .string pof, .string pnm, .slice pA pn pc] 63)).trans (hb2.mono (by simp; omega)))
              have hk2 := Lib.hid (kind_one a.is _ w2 (hty'.out.laterA hbel2.out))
              replace pk2 := Lib.hid pk2
              go_wp2_with fail
              refine (need_yes 4 _).mono ?_
              rintro e wn ⟨rfl, rfl⟩
              go_wp2_with fail
              refine hk2.out.mono ?_
              rintro e w3 hck
              clear p1 p2 p3 p4 v0 v1 v2 v3 v4
              rcases hck.cases_ with ⟨hr, rfl, hb3⟩ | ⟨hr, rfl, hb3⟩
              · have hg6 : goal = Pu.seq (Pu.firstFault Pu.fdFault (m.types.drop (j + 1))) tl2 := by rw [hg5.out, hr]; rfl
                replace hg6 := Lib.hid hg6
                have hbel3 := Lib.hid (hbel2.out.trans (hb3.mono hbel2.out.size))
                have hmk3 := Lib.hid (hmk2.out.below hb3 hmk2.out.lt)
                have hek3 := Lib.hid (hek2.out.below hb3 hek2.out.lt)
                replace hr := Lib.hid hr
                clear hck
                go_wp2_with fail
                go_roundw
                case rel => exact ⟨j + 1, by omega, by go_num, hg6.out, hmk3.out, hek3.out, hbel3.out⟩
                case measure => simp [intOf]; omega
              · have hg6 : goal = Pu.tyFault 10 a.is := by rw [hg5.out, seq_pos hr]
                have hbel3 := Lib.hid (hbel2.out.trans (hb3.mono hbel2.out.size))
                have hek3 := Lib.hid (hek2.out.below hb3 hek2.out.lt)
                replace hg6 := Lib.hid hg6
                replace hr := Lib.hid hr
                clear hck
                go_wp2_with fail
                rw [hg6.out]
                exact chk_bad (by rfl) hek3.out hbel3.out
          · have hje : m.types.drop j = [] := List.drop_eq_nil_of_le (by rw [hn2.out]; omega)
            have hgn : goal = tl2 := by rw [hgj.out, hje]; rfl
            have hlte := hek.lt
            have hgn' := Lib.hid hgn
            have hmk' := Lib.hid hmk
            have hek' := Lib.hid hek
            have hbj' := Lib.hid hbj
            replace hje := Lib.hid hje
            clear hgn hmk hek hbj
            have hgn0 : goal = Pu.seq (Pu.firstFault Pu.fnFault (m.funcs.drop 0)) 0 := by rw [hgn'.out, htl2.out, List.drop_zero, seq_end]
            replace hgn' := Lib.hid hgn0
            clear hgn0

            have mc := hmk'.out.cell 2
            simp only [List.getElem?_toArray, List.getElem?_cons_zero, List.getElem?_cons_succ] at mc
            have hltm := hmk'.out.lt
            have hg3 := hgn'
            have hM3 := hmk'
            have hE3 := hek'
            have hB3 := hbj'
            go_wp2_with fail

            go_loopw [51] (fun i wr => ∃ j : Nat, j ≤ nf ∧ i = .int .i64 j ∧ goal = Pu.seq (Pu.firstFault Pu.fnFault (m.funcs.drop j)) 0 ∧ Blk wr w.heap.size 26 #[.slice uA nu uc, .slice tA nt tc, .slice fA nf fc] ∧ Blk wr (w.heap.size + 1) 27 #[.int .i64 0] ∧ Below w.heap.size w wr) (fun i _ => nf - (intOf i).toNat)
            case atStart => exact ⟨0, Nat.zero_le _, rfl, hg3.out, hM3.out, hE3.out, hB3.out⟩
            case round =>
              clear hg3
              obtain ⟨j, hj, rfl, hgj, hmk, hek, hbj⟩ := hrel
              replace hgj := Lib.hid hgj
              by_cases hlt : j < nf
              · obtain ⟨a, haj⟩ : ∃ a, m.funcs[j]? = some a := ⟨m.funcs[j]'(by rw [hn3.out]; exact hlt), List.getElem?_eq_getElem _⟩
                obtain ⟨b, off, pcs, hA, hbl, hfa, hcj⟩ := hel3.out j a hlt haj
                have hdrop : m.funcs.drop j = a :: m.funcs.drop (j + 1) := by
                  have hlj : j < m.funcs.length := by rw [hn3.out]; exact hlt
                  rw [List.drop_eq_getElem_cons hlj]
                  rw [List.getElem?_eq_getElem hlj] at haj
                  injection haj with haj
                  rw [haj]
                have hbb : ∀ o u, w.cell? ⟨b, o, none⟩ = some u → wr.cell? ⟨b, o, none⟩ = some u := fun o u hu => (hbj.cell (p := ⟨b, o, none⟩) hbl).trans hu
                have hgj2 := hgj.out
                rw [hdrop] at hgj2
                have hlte := hek.lt
                have hmk' := Lib.hid hmk
                have hek' := Lib.hid hek
                have hbj' := Lib.hid hbj
                have hs0 := hbj.size
                have hne0 : w.heap.size < wr.heap.size := by omega
                replace hdrop := Lib.hid hdrop
                clear haj hbj hmk hek
                obtain ⟨qA, qn, qc, qk1, qof1, qnm1, qA1, qn1, qc1, qk2, qn2, qof2, qs2, qA2, qm2, qc2, hpe⟩ := hfa.form
                have hfr : FnC w (fun _ => True) a pcs := hfa
                subst hpe
                subst hA
                have v0 := hbb _ _ (hcj 0 _ rfl)
                have v1 := hbb _ _ (hcj 1 _ rfl)
                have v2 := hbb _ _ (hcj 2 _ rfl)
                have v3 := hbb _ _ (hcj 3 _ rfl)
                have v4 := hbb _ _ (hcj 4 _ rfl)
                have v5 := hbb _ _ (hcj 5 _ rfl)
                have v6 := hbb _ _ (hcj 6 _ rfl)
                have v7 := hbb _ _ (hcj 7 _ rfl)
                have v8 := hbb _ _ (hcj 8 _ rfl)
                have v9 := hbb _ _ (hcj 9 _ rfl)
                have v10 := hbb _ _ (hcj 10 _ rfl)
                have v11 := hbb _ _ (hcj 11 _ rfl)
                simp only [Nat.add_zero] at v0
                have hgj3 : goal = Pu.seq (Pu.fnFault a) (Pu.firstFault Pu.fnFault (m.funcs.drop (j + 1))) := by
                  rw [hgj2]
                  show Pu.seq (Pu.seq _ _) 0 = _
                  rw [seq_assoc, seq_end]
                have hk2 := fun W (hW : Below w.heap.size w W) => fun_chk a _ W (hfr.laterA hW)
                replace hfr := Lib.hid hfr
                replace hgj3 := Lib.hid hgj3
                replace hk2 := Lib.hid hk2
                clear hbb hcj hgj2 hgj hfa
                go_wp2_with fail
                refine (hk2.out _ (hbj'.out.alloc hs0 _)).mono ?_
                rintro e w3 hck
                clear v0 v1 v2 v3 v4 v5 v6 v7 v8 v9 v10 v11
                have hek2 := Lib.hid (hek'.out.alloc (.cells #[.string ⟨a.name.toArray⟩, .string ⟨a.var.toArray⟩, .slice qA qn qc, .int .i64 qk1, .string qof1, .string qnm1, .slice qA1 qn1 qc1, .int .i64 qk2, .int .i64 qn2, .string qof2, .string qs2, .slice qA2 qm2 qc2] 55))
                have hmk2 := Lib.hid (hmk'.out.alloc (.cells #[.string ⟨a.name.toArray⟩, .string ⟨a.var.toArray⟩, .slice qA qn qc, .int .i64 qk1, .string qof1, .string qnm1, .slice qA1 qn1 qc1, .int .i64 qk2, .int .i64 qn2, .string qof2, .string qs2, .slice qA2 qm2 qc2] 55))
                have hbel2 := Lib.hid (hbj'.out.alloc hs0 (.cells #[.string ⟨a.name.toArray⟩, .string ⟨a.var.toArray⟩, .slice qA qn qc, .int .i64 qk1, .string qof1, .string qnm1, .slice qA1 qn1 qc1, .int .i64 qk2, .int .i64 qn2, .string qof2, .string qs2, .slice qA2 qm2 qc2] 55))

                rcases hck.cases_ with ⟨hr, rfl, hb3⟩ | ⟨hr, rfl, hb3⟩
                · have hg6 : goal = Pu.seq (Pu.firstFault Pu.fnFault (m.funcs.drop (j + 1))) 0 := by rw [hgj3.out, hr, seq_end]; rfl
                  replace hg6 := Lib.hid hg6
                  have hbel3 := Lib.hid (hbel2.out.trans (hb3.mono hbel2.out.size))
                  have hmk3 := Lib.hid (hmk2.out.below hb3 hmk2.out.lt)
                  have hek3 := Lib.hid (hek2.out.below hb3 hek2.out.lt)
                  replace hr := Lib.hid hr
                  clear hck
                  go_wp2_with fail
                  go_roundw
                  case rel => exact ⟨j + 1, by omega, by go_num, hg6.out, hmk3.out, hek3.out, hbel3.out⟩
                  case measure => simp [intOf]; omega
                · have hg6 : goal = Pu.fnFault a := by rw [hgj3.out, seq_pos hr]
                  have hbel3 := Lib.hid (hbel2.out.trans (hb3.mono hbel2.out.size))
                  have hek3 := Lib.hid (hek2.out.below hb3 hek2.out.lt)
                  replace hg6 := Lib.hid hg6
                  replace hr := Lib.hid hr
                  clear hck
                  go_wp2_with fail
                  rw [hg6.out]
                  exact chk_bad (by rfl) hek3.out hbel3.out
              · have hje : m.funcs.drop j = [] := List.drop_eq_nil_of_le (by rw [hn3.out]; omega)
                have hgn : goal = 0 := by rw [hgj.out, hje]; rfl
                have hlte := hek.lt
                have hgn' := Lib.hid hgn
                have hmk' := Lib.hid hmk
                have hek' := Lib.hid hek
                have hbj' := Lib.hid hbj
                replace hje := Lib.hid hje
                clear hgn hmk hek hbj
                have ez := hek'.out.frozen 0
                have ec := hek'.out.cell 0
                simp only [List.getElem?_toArray, List.getElem?_cons_zero] at ec
                have hE9 := Lib.hid (hek'.out.set_ 0 (.int .i64 0))
                have hB9 := Lib.hid (hbj'.out.setCell (p := ⟨w.heap.size + 1, 0, none⟩) (by simp) (.int .i64 0))
                go_wp2_with fail
                rw [hgn'.out]
                exact chk_ok (by rfl) hE9.out hB9.out
end Go.Proofs.YtpfgjiapdepdmaaGreatDoor
