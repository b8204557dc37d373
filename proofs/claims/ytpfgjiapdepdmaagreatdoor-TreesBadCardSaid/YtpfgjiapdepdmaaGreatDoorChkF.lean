/- The walk of tree.fun: what may be. -/
import Derived.Test.YtpfgjiapdepdmaaGreatDoorChkEA
namespace Go.Proofs.YtpfgjiapdepdmaaGreatDoor
open Go.RowKit Go.Shelf

theorem FdC.anyS {w : World} {S : Nat → Prop} {f : Pu.Fd} {cs : List Value} (h : FdC w S f cs) : FdC w (fun _ => True) f cs := h.keep (Nat.le_refl _) fun _ _ _ => ⟨rfl, trivial⟩
theorem FnC.laterA {w w' : World} {f : Pu.Fn} {cs : List Value} (h : FnC w (fun _ => True) f cs) (hb : Below w.heap.size w w') : FnC w' (fun _ => True) f cs := h.keep hb.size fun b _ hl => ⟨hb.block b hl, trivial⟩
theorem kind_one (t : Pu.Ty) (cs : List Value) (w : World) (h : TyC w (fun _ => True) t cs) : Calls Tryz.prog 40 #[.agg cs.toArray, .int .i64 1] w (ChkPost w (Pu.tyFault 10 t)) := kind_chk 10 (by omega) t cs w h
theorem expr_one (t : Pu.Ex) (cs : List Value) (w : World) (h : ExC w (fun _ => True) t cs) : Calls Tryz.prog 70 #[.agg cs.toArray, .int .i64 1] w (ChkPost w (Pu.exFault 10 t)) := expr_chk 10 (by omega) t cs w h
theorem isIdentL (l : List UInt8) (W : World) : Calls Tryz.prog 39 #[.string ⟨l.toArray⟩] W fun e w' => e = .returned (.bool (Pu.ident l)) ∧ Below W.heap.size W w' := isIdent _ _ (identB_eq l) W
theorem seq_assoc (a b c : Nat) : Pu.seq (Pu.seq a b) c = Pu.seq a (Pu.seq b c) := by unfold Pu.seq; split <;> simp_all
theorem ChkPost.cases_ {w w' : World} {r : Nat} {e : Ending} (h : ChkPost w r e w') : (r = 0 ∧ e = .returned (.tuple #[]) ∧ Below w.heap.size w w') ∨ (r ≠ 0 ∧ e = .panicked [{ v := fault r, recovered := false }] ∧ Below w.heap.size w w') := by
  obtain ⟨h1, h2⟩ := h
  split at h1
  · exact .inl ⟨by assumption, h1, h2⟩
  · exact .inr ⟨by assumption, h1, h2⟩

set_option maxHeartbeats 4000000 in
theorem fun_chk (f : Pu.Fn) (cs : List Value) (w : World) (h : FnC w (fun _ => True) f cs) : Calls Tryz.prog 41 #[.agg cs.toArray] w (ChkPost w (Pu.fnFault f)) := by
  obtain ⟨v, ts, xs, rfl, hps, hres, hbody⟩ := h
  obtain ⟨A, c, rfl, hcap, hel⟩ := hps
  obtain ⟨k1, of1, nm1, A1, n1, c1, rfl⟩ := hres.form
  obtain ⟨k2, n2, of2, s2, A2, m2, c2, rfl⟩ := hbody.form
  obtain ⟨n, hn⟩ : ∃ n, f.params.length = n := ⟨_, rfl⟩
  have helem : ∀ j a, j < n → f.params[j]? = some a → ∃ b off cs, A = some ⟨b, off, none⟩ ∧ b < w.heap.size ∧ FdC w (fun _ => True) a cs ∧ ∀ i u, cs[i]? = some u → w.cell? ⟨b, off + j * 5 + i, none⟩ = some u := by
    intro j a hj haj
    obtain ⟨b, off, e, _, hb, hf⟩ := hel (by omega)
    obtain ⟨cs, h1, h2⟩ := hf j a haj
    exact ⟨b, off, cs, e, hb, h1, h2⟩
  obtain ⟨fnm, hfnm⟩ : ∃ b, b = (⟨f.name.toArray⟩ : ByteArray) := ⟨_, rfl⟩
  obtain ⟨fvr, hfvr⟩ : ∃ b, b = (⟨f.var.toArray⟩ : ByteArray) := ⟨_, rfl⟩
  have hin := fun W => isIdentL f.name W
  have hiv := fun W => isIdentL f.var W
  have hve : fvr.toList.isEmpty = f.var.isEmpty := by rw [hfvr]; exact emp_of f.var
  rw [← hfnm] at hin
  rw [← hfvr] at hiv
  obtain ⟨tl, htl⟩ : ∃ t, t = Pu.seq (Pu.tyFault 10 f.result) (Pu.exFault 10 f.body) := ⟨_, rfl⟩
  obtain ⟨goal, hgoal⟩ : ∃ g, g = Pu.fnFault f := ⟨_, rfl⟩
  rw [← hgoal]
  have hgf : goal = Pu.seq (Pu.need (Pu.ident f.name && (f.var.isEmpty || Pu.ident f.var)) 4) (Pu.seq (Pu.need (decide (f.params.length ≤ 8)) 1) (Pu.seq (Pu.firstFault Pu.fdFault f.params) tl)) := by rw [hgoal, htl]; rfl
  clear hgoal
  rw [hn]
  unfold str
  rw [← hfnm, ← hfvr]
  dsimp only [List.cons_append, List.nil_append]
  replace hn := Lib.hid hn
  replace helem := Lib.hid helem
  replace hfnm := Lib.hid hfnm
  replace hfvr := Lib.hid hfvr
  replace htl := Lib.hid htl
  replace hres := Lib.hid hres
  replace hbody := Lib.hid hbody
  clear hel hcap
  cases h1 : Pu.ident f.name with
  | false =>
    rw [h1] at hin hgf
    have hg4 : goal = 4 := hgf
    replace hg4 := Lib.hid hg4
    replace hin := Lib.hid hin
    clear hgf hiv hve
    go_enter Tryz.func41, Tryz.ntmps41
    go_wp2_with fail
    refine (hin.out _).mono ?_
    rintro e wi1 ⟨rfl, hb1⟩
    have bk1 := (Blk.new w 55 #[.string fnm, .string fvr, .slice A n c, .int .i64 k1, .string of1, .string nm1, .slice A1 n1 c1, .int .i64 k2, .int .i64 n2, .string of2, .string s2, .slice A2 m2 c2]).below hb1 (by first | (simp; done) | exact (Blk.new w 55 #[.string fnm, .string fvr, .slice A n c, .int .i64 k1, .string of1, .string nm1, .slice A1 n1 c1, .int .i64 k2, .int .i64 n2, .string of2, .string s2, .slice A2 m2 c2]).lt)
    have q1_0 := bk1.cell 0
    have q1_1 := bk1.cell 1
    have q1_2 := bk1.cell 2
    have q1_3 := bk1.cell 3
    have q1_4 := bk1.cell 4
    have q1_5 := bk1.cell 5
    have q1_6 := bk1.cell 6
    have q1_7 := bk1.cell 7
    have q1_8 := bk1.cell 8
    have q1_9 := bk1.cell 9
    have q1_10 := bk1.cell 10
    have q1_11 := bk1.cell 11
    simp only [List.getElem?_toArray, List.getElem?_cons_zero, List.getElem?_cons_succ] at q1_0 q1_1 q1_2 q1_3 q1_4 q1_5 q1_6 q1_7 q1_8 q1_9 q1_10 q1_11
    have lt1 := bk1.lt
    replace bk1 := Lib.hid bk1
    have hbel1 := Lib.hid (((Below.refl w.heap.size w).alloc (Nat.le_refl _) (.cells #[.string fnm, .string fvr, .slice A n c, .int .i64 k1, .string of1, .string nm1, .slice A1 n1 c1, .int .i64 k2, .int .i64 n2, .string of2, .string s2, .slice A2 m2 c2] 55)).trans (hb1.mono (by simp)))
    go_wp2_with fail
    refine (need_no 4 _).mono ?_
    rintro e wn ⟨rfl, rfl⟩
    go_wp2_with fail
    rw [hg4.out]
    exact ⟨rfl, ChkPost.bad (by omega) rfl hbel1.out⟩
  | true =>
    rw [h1] at hin hgf
    replace hin := Lib.hid hin
    cases h2 : f.var.isEmpty with
    | true =>
      rw [h2] at hgf hve
      have hgoal : goal = Pu.seq (Pu.need (decide (f.params.length ≤ 8)) 1) (Pu.seq (Pu.firstFault Pu.fdFault f.params) tl) := hgf
      replace hgoal := Lib.hid hgoal
      have e2 : fvr.toList = [] := by simpa using hve
      clear hgf hiv
      go_enter Tryz.func41, Tryz.ntmps41
      go_wp2_with fail
      refine (hin.out _).mono ?_
      rintro e wi1 ⟨rfl, hb1⟩
      have bk1 := (Blk.new w 55 #[.string fnm, .string fvr, .slice A n c, .int .i64 k1, .string of1, .string nm1, .slice A1 n1 c1, .int .i64 k2, .int .i64 n2, .string of2, .string s2, .slice A2 m2 c2]).below hb1 (by first | (simp; done) | exact (Blk.new w 55 #[.string fnm, .string fvr, .slice A n c, .int .i64 k1, .string of1, .string nm1, .slice A1 n1 c1, .int .i64 k2, .int .i64 n2, .string of2, .string s2, .slice A2 m2 c2]).lt)
      have q1_0 := bk1.cell 0
      have q1_1 := bk1.cell 1
      have q1_2 := bk1.cell 2
      have q1_3 := bk1.cell 3
      have q1_4 := bk1.cell 4
      have q1_5 := bk1.cell 5
      have q1_6 := bk1.cell 6
      have q1_7 := bk1.cell 7
      have q1_8 := bk1.cell 8
      have q1_9 := bk1.cell 9
      have q1_10 := bk1.cell 10
      have q1_11 := bk1.cell 11
      simp only [List.getElem?_toArray, List.getElem?_cons_zero, List.getElem?_cons_succ] at q1_0 q1_1 q1_2 q1_3 q1_4 q1_5 q1_6 q1_7 q1_8 q1_9 q1_10 q1_11
      have lt1 := bk1.lt
      replace bk1 := Lib.hid bk1
      have hbel1 := Lib.hid (((Below.refl w.heap.size w).alloc (Nat.le_refl _) (.cells #[.string fnm, .string fvr, .slice A n c, .int .i64 k1, .string of1, .string nm1, .slice A1 n1 c1, .int .i64 k2, .int .i64 n2, .string of2, .string s2, .slice A2 m2 c2] 55)).trans (hb1.mono (by simp)))
      go_wp2_with fail
      refine (need_yes 4 _).mono ?_
      rintro e wn ⟨rfl, rfl⟩
      rcases Nat.lt_or_ge 8 n with hn8 | hn8
      · have hn8a : decide ((n : Int) ≤ 8) = false := by rw [decide_eq_false_iff_not]; omega
        have hn8b : decide (n ≤ 8) = false := by rw [decide_eq_false_iff_not]; omega
        have hg1 : goal = 1 := by rw [hgoal.out, hn.out, hn8b]; rfl
        replace hg1 := Lib.hid hg1
        replace hn8 := Lib.hid hn8
        go_wp2_with fail
        refine (need_no 1 _).mono ?_
        rintro e wn ⟨rfl, rfl⟩
        go_wp2_with fail
        rw [hg1.out]
        exact ⟨rfl, ChkPost.bad (by omega) rfl hbel1.out⟩
      · have hn8b : decide (n ≤ 8) = true := by rw [decide_eq_true_iff]; exact hn8
        have hg1 : goal = Pu.seq (Pu.firstFault Pu.fdFault f.params) tl := by rw [hgoal.out, hn.out, hn8b]; rfl
        replace hg1 := Lib.hid hg1
        replace hn8b := Lib.hid hn8b
        have hn8c : n ≤ 8 := hn8
        have hn8d : (n : Int) ≤ 8 := by omega
        clear hn8
        go_wp2_with fail
        refine (need_yes 1 _).mono ?_
        rintro e wn ⟨rfl, rfl⟩
        go_wp2_with fail
        go_loopw [26] (fun i wr => ∃ j : Nat, j ≤ n ∧ i = .int .i64 j ∧ goal = Pu.seq (Pu.firstFault Pu.fdFault (f.params.drop j)) tl ∧ Blk wr w.heap.size 55 #[.string fnm, .string fvr, .slice A n c, .int .i64 k1, .string of1, .string nm1, .slice A1 n1 c1, .int .i64 k2, .int .i64 n2, .string of2, .string s2, .slice A2 m2 c2] ∧ Below w.heap.size w wr) (fun i _ => n - (intOf i).toNat)
        case atStart => exact ⟨0, Nat.zero_le _, rfl, hg1.out, bk1.out, hbel1.out⟩
        case round =>
          clear q1_0 q1_1 q1_2 q1_3 q1_4 q1_5 q1_6 q1_7 q1_8 q1_9 q1_10 q1_11
          obtain ⟨j, hj, rfl, hgj, hbk, hbj⟩ := hrel
          replace hgj := Lib.hid hgj
          by_cases hlt : j < n
          · obtain ⟨a, haj⟩ : ∃ a, f.params[j]? = some a := ⟨f.params[j]'(by rw [hn.out]; exact hlt), List.getElem?_eq_getElem _⟩
            obtain ⟨b, off, pcs, hA, hbl, hfa, hcj⟩ := helem.out j a hlt haj
            obtain ⟨pts, rfl, hty⟩ := hfa
            obtain ⟨pk, pof, pnm, pA, pn, pc, rfl⟩ := hty.form
            subst hA
            have hdrop : f.params.drop j = a :: f.params.drop (j + 1) := by
              have hlj : j < f.params.length := by rw [hn.out]; exact hlt
              rw [List.drop_eq_getElem_cons hlj]
              rw [List.getElem?_eq_getElem hlj] at haj
              injection haj with haj
              rw [haj]
            have hbb : ∀ o u, w.cell? ⟨b, o, none⟩ = some u → wr.cell? ⟨b, o, none⟩ = some u := fun o u hu => (hbj.cell (p := ⟨b, o, none⟩) hbl).trans hu
            have v0 := hbb _ _ (hcj 0 _ rfl)
            have v1 := hbb _ _ (hcj 1 _ rfl)
            have v2 := hbb _ _ (hcj 2 _ rfl)
            have v3 := hbb _ _ (hcj 3 _ rfl)
            have v4 := hbb _ _ (hcj 4 _ rfl)
            simp only [Nat.add_zero] at v0
            unfold str at v0
            have hltk := hbk.lt
            have hid := fun W => isIdentL a.name W
            have hgj2 := hgj.out
            rw [hdrop] at hgj2
            have hgj3 : goal = Pu.seq (Pu.need (Pu.ident a.name) 4) (Pu.seq (Pu.tyFault 10 a.is) (Pu.seq (Pu.firstFault Pu.fdFault (f.params.drop (j + 1))) tl)) := by
              rw [hgj2]
              show Pu.seq (Pu.seq (Pu.seq _ _) _) _ = _
              rw [seq_assoc, seq_assoc]
            have hty' := Lib.hid hty
            have hbj' := Lib.hid hbj
            have hbk' := Lib.hid hbk
            have hs0 := hbj.size
            replace hdrop := Lib.hid hdrop
            clear hbb hcj haj hty hbj hbk hgj2 hgj
            cases hidn : Pu.ident a.name with
            | false =>
              rw [hidn] at hid hgj3
              have hg4 : goal = 4 := hgj3
              replace hg4 := Lib.hid hg4
              replace hid := Lib.hid hid
              clear hgj3
              go_wp2_with fail
              refine (hid.out _).mono ?_
              rintro e w2 ⟨rfl, hb2⟩
              go_wp2_with fail
              refine (need_no 4 _).mono ?_
              rintro e wn ⟨rfl, rfl⟩
              go_wp2_with fail
              rw [hg4.out]
              exact ⟨rfl, ChkPost.bad (by omega) rfl ((hbj'.out.alloc hs0 _).trans (hb2.mono (by simp; omega)))⟩
            | true =>
              rw [hidn] at hid hgj3
              have hg5 : goal = Pu.seq (Pu.tyFault 10 a.is) (Pu.seq (Pu.firstFault Pu.fdFault (f.params.drop (j + 1))) tl) := hgj3
              replace hg5 := Lib.hid hg5
              replace hid := Lib.hid hid
              clear hgj3
              go_wp2_with fail
              refine (hid.out _).mono ?_
              rintro e w2 ⟨rfl, hb2⟩
              have pk2 := (Blk.new wr 63 #[.string ⟨a.name.toArray⟩, .int .i64 pk, .string pof, .string pnm, .slice pA pn pc]).below hb2 (by simp)
              have p1 := pk2.cell 1
              have p2 := pk2.cell 2
              have p3 := pk2.cell 3
              have p4 := pk2.cell 4
              have plt := pk2.lt
              simp only [List.getElem?_toArray, List.getElem?_cons_zero, List.getElem?_cons_succ] at p1 p2 p3 p4
              have hbel2 := Lib.hid ((hbj'.out.alloc hs0 (.cells #[.string ⟨a.name.toArray⟩, .int .i64 pk, .string pof, .string pnm, .slice pA pn pc] 63)).trans (hb2.mono (by simp; omega)))
              have hbk2 := Lib.hid ((hbk'.out.alloc (.cells #[.string ⟨a.name.toArray⟩, .int .i64 pk, .string pof, .string pnm, .slice pA pn pc] 63)).below hb2 (by simp; omega))
              have hk2 := Lib.hid (kind_one a.is _ w2 (hty'.out.laterA hbel2.out))
              replace pk2 := Lib.hid pk2
              go_wp2_with fail
              refine (need_yes 4 _).mono ?_
              rintro e wn ⟨rfl, rfl⟩
              go_wp2_with fail
              refine hk2.out.mono ?_
              rintro e w3 hck
              rcases hck.cases_ with ⟨hr, rfl, hb3⟩ | ⟨hr, rfl, hb3⟩
              · have hg6 : goal = Pu.seq (Pu.firstFault Pu.fdFault (f.params.drop (j + 1))) tl := by rw [hg5.out, hr]; rfl
                replace hg6 := Lib.hid hg6
                have hbel3 := Lib.hid (hbel2.out.trans (hb3.mono hbel2.out.size))
                have hbk3 := Lib.hid (hbk2.out.below hb3 hbk2.out.lt)
                replace hr := Lib.hid hr
                clear p1 p2 p3 p4 v0 v1 v2 v3 v4 hck
                go_wp2_with fail
                go_roundw
                case rel => exact ⟨j + 1, by omega, by go_num, hg6.out, hbk3.out, hbel3.out⟩
                case measure => simp [intOf]; omega
              · have hg6 : goal = Pu.tyFault 10 a.is := by rw [hg5.out, seq_pos hr]
                replace hg6 := Lib.hid hg6
                replace hr := Lib.hid hr
                clear hck
                go_wp2_with fail
                rw [hg6.out]
                exact ⟨rfl, ChkPost.bad hr.out rfl (hbel2.out.trans (hb3.mono hbel2.out.size))⟩
          · have hje : f.params.drop j = [] := List.drop_eq_nil_of_le (by rw [hn.out]; omega)
            have hg2 : goal = Pu.seq (Pu.tyFault 10 f.result) (Pu.exFault 10 f.body) := by rw [hgj.out, hje, htl.out]; rfl
            have z3 := hbk.cell 3
            have z4 := hbk.cell 4
            have z5 := hbk.cell 5
            have z6 := hbk.cell 6
            have hltk := hbk.lt
            simp only [List.getElem?_toArray, List.getElem?_cons_zero, List.getElem?_cons_succ] at z3 z4 z5 z6
            have hk2 := Lib.hid (kind_one f.result _ wr (hres.out.laterA hbj))
            have hbj' := Lib.hid hbj
            have hbk' := Lib.hid hbk
            replace hje := Lib.hid hje
            replace hg2 := Lib.hid hg2
            clear hbj hbk
            go_wp2_with fail
            refine hk2.out.mono ?_
            rintro e w3 hck
            rcases hck.cases_ with ⟨hr, rfl, hb3⟩ | ⟨hr, rfl, hb3⟩
            · have hg6 : goal = Pu.exFault 10 f.body := by rw [hg2.out, hr]; rfl
              have hbel3 := hbj'.out.trans (hb3.mono hbj'.out.size)
              have hbk3 := hbk'.out.below hb3 hbk'.out.lt
              have y7 := hbk3.cell 7
              have y8 := hbk3.cell 8
              have y9 := hbk3.cell 9
              have y10 := hbk3.cell 10
              have y11 := hbk3.cell 11
              have hlt3 := hbk3.lt
              simp only [List.getElem?_toArray, List.getElem?_cons_zero, List.getElem?_cons_succ] at y7 y8 y9 y10 y11
              have hx3 := Lib.hid (expr_one f.body _ w3 (hbody.out.laterA hbel3))
              replace hg6 := Lib.hid hg6
              replace hbel3 := Lib.hid hbel3
              replace hbk3 := Lib.hid hbk3
              replace hr := Lib.hid hr
              clear z3 z4 z5 z6 hck
              go_wp2_with fail
              refine hx3.out.mono ?_
              rintro e w4 hck4
              rcases hck4.cases_ with ⟨hr4, rfl, hb4⟩ | ⟨hr4, rfl, hb4⟩
              · replace hr4 := Lib.hid hr4
                clear hck4
                go_wp2_with fail
                go_end0
                rw [hg6.out, hr4.out]
                exact ChkPost.ok rfl (hbel3.out.trans (hb4.mono hbel3.out.size))
              · replace hr4 := Lib.hid hr4
                clear hck4
                go_wp2_with fail
                rw [hg6.out]
                exact ⟨rfl, ChkPost.bad hr4.out rfl (hbel3.out.trans (hb4.mono hbel3.out.size))⟩
            · have hg6 : goal = Pu.tyFault 10 f.result := by rw [hg2.out, seq_pos hr]
              replace hg6 := Lib.hid hg6
              replace hr := Lib.hid hr
              clear hck
              go_wp2_with fail
              rw [hg6.out]
              exact ⟨rfl, ChkPost.bad hr.out rfl (hbj'.out.trans (hb3.mono hbj'.out.size))⟩
    | false =>
      rw [h2] at hgf hve
      have e2 : ¬ fvr.toList = [] := by intro e; rw [e] at hve; cases hve
      cases h3 : Pu.ident f.var with
      | false =>
        rw [h3] at hiv hgf
        have hg4 : goal = 4 := hgf
        replace hg4 := Lib.hid hg4
        replace hiv := Lib.hid hiv
        clear hgf
        go_enter Tryz.func41, Tryz.ntmps41
        go_wp2_with fail
        refine (hin.out _).mono ?_
        rintro e wi1 ⟨rfl, hb1⟩
        have bk1 := (Blk.new w 55 #[.string fnm, .string fvr, .slice A n c, .int .i64 k1, .string of1, .string nm1, .slice A1 n1 c1, .int .i64 k2, .int .i64 n2, .string of2, .string s2, .slice A2 m2 c2]).below hb1 (by first | (simp; done) | exact (Blk.new w 55 #[.string fnm, .string fvr, .slice A n c, .int .i64 k1, .string of1, .string nm1, .slice A1 n1 c1, .int .i64 k2, .int .i64 n2, .string of2, .string s2, .slice A2 m2 c2]).lt)
        have q1_0 := bk1.cell 0
        have q1_1 := bk1.cell 1
        have q1_2 := bk1.cell 2
        have q1_3 := bk1.cell 3
        have q1_4 := bk1.cell 4
        have q1_5 := bk1.cell 5
        have q1_6 := bk1.cell 6
        have q1_7 := bk1.cell 7
        have q1_8 := bk1.cell 8
        have q1_9 := bk1.cell 9
        have q1_10 := bk1.cell 10
        have q1_11 := bk1.cell 11
        simp only [List.getElem?_toArray, List.getElem?_cons_zero, List.getElem?_cons_succ] at q1_0 q1_1 q1_2 q1_3 q1_4 q1_5 q1_6 q1_7 q1_8 q1_9 q1_10 q1_11
        have lt1 := bk1.lt
        replace bk1 := Lib.hid bk1
        have hbel1 := Lib.hid (((Below.refl w.heap.size w).alloc (Nat.le_refl _) (.cells #[.string fnm, .string fvr, .slice A n c, .int .i64 k1, .string of1, .string nm1, .slice A1 n1 c1, .int .i64 k2, .int .i64 n2, .string of2, .string s2, .slice A2 m2 c2] 55)).trans (hb1.mono (by simp)))
        go_wp2_with fail
        refine (hiv.out _).mono ?_
        rintro e wi2 ⟨rfl, hb2⟩
        have bk2 := (bk1.out).below hb2 (by first | (simp; done) | exact (bk1.out).lt)
        have q2_0 := bk2.cell 0
        have q2_1 := bk2.cell 1
        have q2_2 := bk2.cell 2
        have q2_3 := bk2.cell 3
        have q2_4 := bk2.cell 4
        have q2_5 := bk2.cell 5
        have q2_6 := bk2.cell 6
        have q2_7 := bk2.cell 7
        have q2_8 := bk2.cell 8
        have q2_9 := bk2.cell 9
        have q2_10 := bk2.cell 10
        have q2_11 := bk2.cell 11
        simp only [List.getElem?_toArray, List.getElem?_cons_zero, List.getElem?_cons_succ] at q2_0 q2_1 q2_2 q2_3 q2_4 q2_5 q2_6 q2_7 q2_8 q2_9 q2_10 q2_11
        have lt2 := bk2.lt
        replace bk2 := Lib.hid bk2
        have hbel2 := Lib.hid (hbel1.out.trans (hb2.mono hbel1.out.size))
        go_wp2_with fail
        refine (need_no 4 _).mono ?_
        rintro e wn ⟨rfl, rfl⟩
        go_wp2_with fail
        rw [hg4.out]
        exact ⟨rfl, ChkPost.bad (by omega) rfl hbel2.out⟩
      | true =>
        rw [h3] at hiv hgf
        have hgoal : goal = Pu.seq (Pu.need (decide (f.params.length ≤ 8)) 1) (Pu.seq (Pu.firstFault Pu.fdFault f.params) tl) := hgf
        replace hgoal := Lib.hid hgoal
        replace hiv := Lib.hid hiv
        clear hgf
        go_enter Tryz.func41, Tryz.ntmps41
        go_wp2_with fail
        refine (hin.out _).mono ?_
        rintro e wi1 ⟨rfl, hb1⟩
        have bk1 := (Blk.new w 55 #[.string fnm, .string fvr, .slice A n c, .int .i64 k1, .string of1, .string nm1, .slice A1 n1 c1, .int .i64 k2, .int .i64 n2, .string of2, .string s2, .slice A2 m2 c2]).below hb1 (by first | (simp; done) | exact (Blk.new w 55 #[.string fnm, .string fvr, .slice A n c, .int .i64 k1, .string of1, .string nm1, .slice A1 n1 c1, .int .i64 k2, .int .i64 n2, .string of2, .string s2, .slice A2 m2 c2]).lt)
        have q1_0 := bk1.cell 0
        have q1_1 := bk1.cell 1
        have q1_2 := bk1.cell 2
        have q1_3 := bk1.cell 3
        have q1_4 := bk1.cell 4
        have q1_5 := bk1.cell 5
        have q1_6 := bk1.cell 6
        have q1_7 := bk1.cell 7
        have q1_8 := bk1.cell 8
        have q1_9 := bk1.cell 9
        have q1_10 := bk1.cell 10
        have q1_11 := bk1.cell 11
        simp only [List.getElem?_toArray, List.getElem?_cons_zero, List.getElem?_cons_succ] at q1_0 q1_1 q1_2 q1_3 q1_4 q1_5 q1_6 q1_7 q1_8 q1_9 q1_10 q1_11
        have lt1 := bk1.lt
        replace bk1 := Lib.hid bk1
        have hbel1 := Lib.hid (((Below.refl w.heap.size w).alloc (Nat.le_refl _) (.cells #[.string fnm, .string fvr, .slice A n c, .int .i64 k1, .string of1, .string nm1, .slice A1 n1 c1, .int .i64 k2, .int .i64 n2, .string of2, .string s2, .slice A2 m2 c2] 55)).trans (hb1.mono (by simp)))
        go_wp2_with fail
        refine (hiv.out _).mono ?_
        rintro e wi2 ⟨rfl, hb2⟩
        have bk2 := (bk1.out).below hb2 (by first | (simp; done) | exact (bk1.out).lt)
        have q2_0 := bk2.cell 0
        have q2_1 := bk2.cell 1
        have q2_2 := bk2.cell 2
        have q2_3 := bk2.cell 3
        have q2_4 := bk2.cell 4
        have q2_5 := bk2.cell 5
        have q2_6 := bk2.cell 6
        have q2_7 := bk2.cell 7
        have q2_8 := bk2.cell 8
        have q2_9 := bk2.cell 9
        have q2_10 := bk2.cell 10
        have q2_11 := bk2.cell 11
        simp only [List.getElem?_toArray, List.getElem?_cons_zero, List.getElem?_cons_succ] at q2_0 q2_1 q2_2 q2_3 q2_4 q2_5 q2_6 q2_7 q2_8 q2_9 q2_10 q2_11
        have lt2 := bk2.lt
        replace bk2 := Lib.hid bk2
        have hbel2 := Lib.hid (hbel1.out.trans (hb2.mono hbel1.out.size))
        go_wp2_with fail
        refine (need_yes 4 _).mono ?_
        rintro e wn ⟨rfl, rfl⟩
        clear q1_0 q1_1 q1_2 q1_3 q1_4 q1_5 q1_6 q1_7 q1_8 q1_9 q1_10 q1_11
        rcases Nat.lt_or_ge 8 n with hn8 | hn8
        · have hn8a : decide ((n : Int) ≤ 8) = false := by rw [decide_eq_false_iff_not]; omega
          have hn8b : decide (n ≤ 8) = false := by rw [decide_eq_false_iff_not]; omega
          have hg1 : goal = 1 := by rw [hgoal.out, hn.out, hn8b]; rfl
          replace hg1 := Lib.hid hg1
          replace hn8 := Lib.hid hn8
          go_wp2_with fail
          refine (need_no 1 _).mono ?_
          rintro e wn ⟨rfl, rfl⟩
          go_wp2_with fail
          rw [hg1.out]
          exact ⟨rfl, ChkPost.bad (by omega) rfl hbel2.out⟩
        · have hn8b : decide (n ≤ 8) = true := by rw [decide_eq_true_iff]; exact hn8
          have hg1 : goal = Pu.seq (Pu.firstFault Pu.fdFault f.params) tl := by rw [hgoal.out, hn.out, hn8b]; rfl
          replace hg1 := Lib.hid hg1
          replace hn8b := Lib.hid hn8b
          have hn8c : n ≤ 8 := hn8
          have hn8d : (n : Int) ≤ 8 := by omega
          clear hn8
          go_wp2_with fail
          refine (need_yes 1 _).mono ?_
          rintro e wn ⟨rfl, rfl⟩
          go_wp2_with fail
          go_loopw [26] (fun i wr => ∃ j : Nat, j ≤ n ∧ i = .int .i64 j ∧ goal = Pu.seq (Pu.firstFault Pu.fdFault (f.params.drop j)) tl ∧ Blk wr w.heap.size 55 #[.string fnm, .string fvr, .slice A n c, .int .i64 k1, .string of1, .string nm1, .slice A1 n1 c1, .int .i64 k2, .int .i64 n2, .string of2, .string s2, .slice A2 m2 c2] ∧ Below w.heap.size w wr) (fun i _ => n - (intOf i).toNat)
          case atStart => exact ⟨0, Nat.zero_le _, rfl, hg1.out, bk2.out, hbel2.out⟩
          case round =>
            clear q2_0 q2_1 q2_2 q2_3 q2_4 q2_5 q2_6 q2_7 q2_8 q2_9 q2_10 q2_11
            obtain ⟨j, hj, rfl, hgj, hbk, hbj⟩ := hrel
            replace hgj := Lib.hid hgj
            by_cases hlt : j < n
            · obtain ⟨a, haj⟩ : ∃ a, f.params[j]? = some a := ⟨f.params[j]'(by rw [hn.out]; exact hlt), List.getElem?_eq_getElem _⟩
              obtain ⟨b, off, pcs, hA, hbl, hfa, hcj⟩ := helem.out j a hlt haj
              obtain ⟨pts, rfl, hty⟩ := hfa
              obtain ⟨pk, pof, pnm, pA, pn, pc, rfl⟩ := hty.form
              subst hA
              have hdrop : f.params.drop j = a :: f.params.drop (j + 1) := by
                have hlj : j < f.params.length := by rw [hn.out]; exact hlt
                rw [List.drop_eq_getElem_cons hlj]
                rw [List.getElem?_eq_getElem hlj] at haj
                injection haj with haj
                rw [haj]
              have hbb : ∀ o u, w.cell? ⟨b, o, none⟩ = some u → wr.cell? ⟨b, o, none⟩ = some u := fun o u hu => (hbj.cell (p := ⟨b, o, none⟩) hbl).trans hu
              have v0 := hbb _ _ (hcj 0 _ rfl)
              have v1 := hbb _ _ (hcj 1 _ rfl)
              have v2 := hbb _ _ (hcj 2 _ rfl)
              have v3 := hbb _ _ (hcj 3 _ rfl)
              have v4 := hbb _ _ (hcj 4 _ rfl)
              simp only [Nat.add_zero] at v0
              unfold str at v0
              have hltk := hbk.lt
              have hid := fun W => isIdentL a.name W
              have hgj2 := hgj.out
              rw [hdrop] at hgj2
              have hgj3 : goal = Pu.seq (Pu.need (Pu.ident a.name) 4) (Pu.seq (Pu.tyFault 10 a.is) (Pu.seq (Pu.firstFault Pu.fdFault (f.params.drop (j + 1))) tl)) := by
                rw [hgj2]
                show Pu.seq (Pu.seq (Pu.seq _ _) _) _ = _
                rw [seq_assoc, seq_assoc]
              have hty' := Lib.hid hty
              have hbj' := Lib.hid hbj
              have hbk' := Lib.hid hbk
              have hs0 := hbj.size
              replace hdrop := Lib.hid hdrop
              clear hbb hcj haj hty hbj hbk hgj2 hgj
              cases hidn : Pu.ident a.name with
              | false =>
                rw [hidn] at hid hgj3
                have hg4 : goal = 4 := hgj3
                replace hg4 := Lib.hid hg4
                replace hid := Lib.hid hid
                clear hgj3
                go_wp2_with fail
                refine (hid.out _).mono ?_
                rintro e w2 ⟨rfl, hb2⟩
                go_wp2_with fail
                refine (need_no 4 _).mono ?_
                rintro e wn ⟨rfl, rfl⟩
                go_wp2_with fail
                rw [hg4.out]
                exact ⟨rfl, ChkPost.bad (by omega) rfl ((hbj'.out.alloc hs0 _).trans (hb2.mono (by simp; omega)))⟩
              | true =>
                rw [hidn] at hid hgj3
                have hg5 : goal = Pu.seq (Pu.tyFault 10 a.is) (Pu.seq (Pu.firstFault Pu.fdFault (f.params.drop (j + 1))) tl) := hgj3
                replace hg5 := Lib.hid hg5
                replace hid := Lib.hid hid
                clear hgj3
                go_wp2_with fail
                refine (hid.out _).mono ?_
                rintro e w2 ⟨rfl, hb2⟩
                have pk2 := (Blk.new wr 63 #[.string ⟨a.name.toArray⟩, .int .i64 pk, .string pof, .string pnm, .slice pA pn pc]).below hb2 (by simp)
                have p1 := pk2.cell 1
                have p2 := pk2.cell 2
                have p3 := pk2.cell 3
                have p4 := pk2.cell 4
                have plt := pk2.lt
                simp only [List.getElem?_toArray, List.getElem?_cons_zero, List.getElem?_cons_succ] at p1 p2 p3 p4
                have hbel2 := Lib.hid ((hbj'.out.alloc hs0 (.cells #[.string ⟨a.name.toArray⟩, .int .i64 pk, .string pof, .string pnm, .slice pA pn pc] 63)).trans (hb2.mono (by simp; omega)))
                have hbk2 := Lib.hid ((hbk'.out.alloc (.cells #[.string ⟨a.name.toArray⟩, .int .i64 pk, .string pof, .string pnm, .slice pA pn pc] 63)).below hb2 (by simp; omega))
                have hk2 := Lib.hid (kind_one a.is _ w2 (hty'.out.laterA hbel2.out))
                replace pk2 := Lib.hid pk2
                go_wp2_with fail
                refine (need_yes 4 _).mono ?_
                rintro e wn ⟨rfl, rfl⟩
                go_wp2_with fail
                refine hk2.out.mono ?_
                rintro e w3 hck
                rcases hck.cases_ with ⟨hr, rfl, hb3⟩ | ⟨hr, rfl, hb3⟩
                · have hg6 : goal = Pu.seq (Pu.firstFault Pu.fdFault (f.params.drop (j + 1))) tl := by rw [hg5.out, hr]; rfl
                  replace hg6 := Lib.hid hg6
                  have hbel3 := Lib.hid (hbel2.out.trans (hb3.mono hbel2.out.size))
                  have hbk3 := Lib.hid (hbk2.out.below hb3 hbk2.out.lt)
                  replace hr := Lib.hid hr
                  clear p1 p2 p3 p4 v0 v1 v2 v3 v4 hck
                  go_wp2_with fail
                  go_roundw
                  case rel => exact ⟨j + 1, by omega, by go_num, hg6.out, hbk3.out, hbel3.out⟩
                  case measure => simp [intOf]; omega
                · have hg6 : goal = Pu.tyFault 10 a.is := by rw [hg5.out, seq_pos hr]
                  replace hg6 := Lib.hid hg6
                  replace hr := Lib.hid hr
                  clear hck
                  go_wp2_with fail
                  rw [hg6.out]
                  exact ⟨rfl, ChkPost.bad hr.out rfl (hbel2.out.trans (hb3.mono hbel2.out.size))⟩
            · have hje : f.params.drop j = [] := List.drop_eq_nil_of_le (by rw [hn.out]; omega)
              have hg2 : goal = Pu.seq (Pu.tyFault 10 f.result) (Pu.exFault 10 f.body) := by rw [hgj.out, hje, htl.out]; rfl
              have z3 := hbk.cell 3
              have z4 := hbk.cell 4
              have z5 := hbk.cell 5
              have z6 := hbk.cell 6
              have hltk := hbk.lt
              simp only [List.getElem?_toArray, List.getElem?_cons_zero, List.getElem?_cons_succ] at z3 z4 z5 z6
              have hk2 := Lib.hid (kind_one f.result _ wr (hres.out.laterA hbj))
              have hbj' := Lib.hid hbj
              have hbk' := Lib.hid hbk
              replace hje := Lib.hid hje
              replace hg2 := Lib.hid hg2
              clear hbj hbk
              go_wp2_with fail
              refine hk2.out.mono ?_
              rintro e w3 hck
              rcases hck.cases_ with ⟨hr, rfl, hb3⟩ | ⟨hr, rfl, hb3⟩
              · have hg6 : goal = Pu.exFault 10 f.body := by rw [hg2.out, hr]; rfl
                have hbel3 := hbj'.out.trans (hb3.mono hbj'.out.size)
                have hbk3 := hbk'.out.below hb3 hbk'.out.lt
                have y7 := hbk3.cell 7
                have y8 := hbk3.cell 8
                have y9 := hbk3.cell 9
                have y10 := hbk3.cell 10
                have y11 := hbk3.cell 11
                have hlt3 := hbk3.lt
                simp only [List.getElem?_toArray, List.getElem?_cons_zero, List.getElem?_cons_succ] at y7 y8 y9 y10 y11
                have hx3 := Lib.hid (expr_one f.body _ w3 (hbody.out.laterA hbel3))
                replace hg6 := Lib.hid hg6
                replace hbel3 := Lib.hid hbel3
                replace hbk3 := Lib.hid hbk3
                replace hr := Lib.hid hr
                clear z3 z4 z5 z6 hck
                go_wp2_with fail
                refine hx3.out.mono ?_
                rintro e w4 hck4
                rcases hck4.cases_ with ⟨hr4, rfl, hb4⟩ | ⟨hr4, rfl, hb4⟩
                · replace hr4 := Lib.hid hr4
                  clear hck4
                  go_wp2_with fail
                  go_end0
                  rw [hg6.out, hr4.out]
                  exact ChkPost.ok rfl (hbel3.out.trans (hb4.mono hbel3.out.size))
                · replace hr4 := Lib.hid hr4
                  clear hck4
                  go_wp2_with fail
                  rw [hg6.out]
                  exact ⟨rfl, ChkPost.bad hr4.out rfl (hbel3.out.trans (hb4.mono hbel3.out.size))⟩
              · have hg6 : goal = Pu.tyFault 10 f.result := by rw [hg2.out, seq_pos hr]
                replace hg6 := Lib.hid hg6
                replace hr := Lib.hid hr
                clear hck
                go_wp2_with fail
                rw [hg6.out]
                exact ⟨rfl, ChkPost.bad hr.out rfl (hbj'.out.trans (hb3.mono hbj'.out.size))⟩
end Go.Proofs.YtpfgjiapdepdmaaGreatDoor
