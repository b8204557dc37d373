/- The walk of the reader's line. -/
import Derived.Test.YtpfgjiapdepdmaaGreatDoorMod
import Derived.Deep.RegionLaw
namespace Go.Proofs.YtpfgjiapdepdmaaGreatDoor
open Go.RowKit Go.Shelf

theorem info_st : (Tryz.prog.info? 9).map (fun i => (i.zero, i.size, i.bytes)) = some (some (.string ⟨#[]⟩), 1, 16) := by kernel_rfl
theorem info_fn : (Tryz.prog.info? 55).map (fun i => (i.zero, i.size, i.bytes)) = some (some (.agg #[.string ⟨#[]⟩, .string ⟨#[]⟩, .slice none 0 0, .int .i64 0, .string ⟨#[]⟩, .string ⟨#[]⟩, .slice none 0 0, .int .i64 0, .int .i64 0, .string ⟨#[]⟩, .string ⟨#[]⟩, .slice none 0 0]), 12, 192) := by kernel_rfl
/-- an append into a row of the call's own, at a step of a region that draws its order -/
theorem step_append_raw {ops : Array Oper} {o : Oper} {a : Act} {K : Act → World → Prop} {Q : Exit → Act → World → Prop} {E : Prop} {t e : TypeId} {z : Value} {size bytes : Nat}
    (hinfo : (Tryz.prog.info? e).map (fun i => (i.zero, i.size, i.bytes)) = some (some z, size, bytes)) (ht : Tryz.prog.underlying t = some (.slice e)) (hzs : z.cells.size = size) (hsz : 0 < size) (hby : bytes ≤ 1000)
    (hgd : o.guard = none) (s x : Operand) (ho : o.op = .call { callee := .builtin .append, args := #[s, x], argTypes := #[t, t] })
    (w : World) (B : Nat) (v : Value) (n : Nat) (cells cs : List Value) (g0 : Nat) (hs : a.eval s = v) (hx : a.eval x = .slice (some ⟨g0, 0, none⟩) 1 1)
    (hown : w.ownsRow B e size v n cells) (hnew : ∀ j u, cs[j]? = some u → w.cell? ⟨g0, j, none⟩ = some u) (hcs : cs.length = size) (h1 : ∀ u ∈ cs, u.oneCell' = true) (hlen : n ≤ 1000000) (hB : B ≤ w.heap.size)
    (h : ∀ g cap w', Appended e size w w' B v (.slice (some ⟨g, 0, none⟩) (n + 1) cap) n cells cs → (∀ k, v.ownBlock = some k → B ≤ k) → K (a.put o.dst (.slice (some ⟨g, 0, none⟩) (n + 1) cap)) w') :
    if Region.wanted o (yielded ops a.tmps) = true then Oper.wp Tryz.prog o a w K Q else E := by
  obtain ⟨i0, hi, hz0, hz1, hz2⟩ := info_parts hinfo
  have hb : (n + 1) * bytes ≤ 140737488355328 := by
    have : (n + 1) * bytes ≤ 1000001 * 1000 := Nat.mul_le_mul (by omega) hby
    omega
  refine step_append_lies w hgd s x t ho B e i0 z size bytes ht hi hz0 hz1 hz2 hzs hsz v n cells hs hown ⟨g0, 0, none⟩ 1 1 cs hx (by omega) ?_ h1 (by omega) (by unfold maxLen; omega) hb hB w.heap.size rfl ?_
  · intro j u hu
    have e0 : (⟨g0, 0, none⟩ : Addr).add j = ⟨g0, j, none⟩ := by
      unfold Addr.add
      split
      · rename_i h0; rw [h0]
      · simp
    rw [e0]
    exact hnew j u hu
  · intro g cap w' hown' hg hat hlt
    refine h g cap w' ⟨hown', hg, ?_⟩ (fun k hk => (hown.lt k hk).1)
    rcases hat with h' | h'
    · exact .inl h'.symm
    · exact .inr ⟨g, rfl, by omega⟩
/-- what line does -/
def One3 (a b c : Value) : Prop := a.oneCell' = true ∧ b.oneCell' = true ∧ c.oneCell' = true
theorem MdV.one {w : World} {M B R : Nat} {m : Pu.Md} {vu vt vf : Value} (h : MdV w M B R m vu vt vf) : One3 vu vt vf := by
  obtain ⟨_, _, e1⟩ := h.us.len (by omega)
  obtain ⟨_, _, e2⟩ := h.ts.len (by omega)
  obtain ⟨_, _, e3⟩ := h.fs.len (by omega)
  rw [e1, e2, e3]
  exact ⟨rfl, rfl, rfl⟩
def LinePost (M B R : Nat) (w : World) (r : Except Nat Pu.Md) (e : Ending) (w' : World) : Prop := match r with
  | .ok m' => e = .returned (.tuple #[]) ∧ MdM w' M B R m' ∧ LineFr M B w w'
  | .error k => Faulted k e ∧ (∃ u0 u1 u2, Blk w' M 26 #[u0, u1, u2] ∧ One3 u0 u1 u2) ∧ LineFr M B w w'
theorem LinePost.fault {M B R k : Nat} {w w' : World} {m : Pu.Md} {e : Ending} (he : Faulted k e) (hM : MdM w' M B R m) (hf : LineFr M B w w') : LinePost M B R w (.error k) e w' := by
  obtain ⟨vu, vt, vf, h⟩ := hM
  exact ⟨he, ⟨_, _, _, h.blk, h.one⟩, hf⟩
theorem MdM.lo {w : World} {M B R : Nat} {m : Pu.Md} (h : MdM w M B R m) : M < B := by
  obtain ⟨vu, vt, vf, h⟩ := h
  exact h.lo
theorem MdM.later {w w' : World} {M B R : Nat} {m : Pu.Md} (h : MdM w M B R m) (hg : w.grownBy w' (some R)) (hMR : M < R) : MdM w' M B R m := by
  obtain ⟨vu, vt, vf, h⟩ := h
  exact ⟨vu, vt, vf, h.later hg (Nat.ne_of_lt hMR)⟩
theorem LineFr.of_reader {w w' : World} {M B R : Nat} {l : List Pu.Tok} {d : Int} (h : Rd w R l d) (hMB : M < B) (hBR : B ≤ R) (hg : w.grownBy w' (some R)) : LineFr M B w w' :=
  .grown hg hMB (by have := h.lt; omega) (fun g e => by injection e with e; subst e; exact ⟨hBR, h.cells_⟩)
theorem fr_new {w : World} {M B R : Nat} {m : Pu.Md} {vu vt vf : Value} (h : MdV w M B R m vu vt vf) (hBR : B ≤ R) (hR : R < w.heap.size) (b : Nat) (hb : New w.heap.size b) : Fr B R vu vt vf b := by
  unfold New at hb
  exact ⟨by omega, by omega, fun e => by have := h.us.owns b e; omega, fun e => by have := h.ts.owns b e; omega, fun e => by have := h.fs.owns b e; omega⟩
theorem FnC.form {w : World} {S : Nat → Prop} {f : Pu.Fn} {cs : List Value} (h : FnC w S f cs) : ∃ (A : Option Addr) (n c : Nat) (k : Int) (of nm : ByteArray) (A1 : Option Addr) (n1 c1 : Nat) (k2 n2 : Int) (of2 s2 : ByteArray) (A2 : Option Addr) (m2 c2 : Nat),
    cs = [.string ⟨f.name.toArray⟩, .string ⟨f.var.toArray⟩, .slice A n c, .int .i64 k, .string of, .string nm, .slice A1 n1 c1, .int .i64 k2, .int .i64 n2, .string of2, .string s2, .slice A2 m2 c2] := by
  obtain ⟨v, ts, xs, rfl, ⟨A, c, rfl, _⟩, h2, h3⟩ := h
  obtain ⟨k, of, nm, A1, n1, c1, rfl⟩ := h2.form
  obtain ⟨k2, n2, of2, s2, A2, m2, c2, rfl⟩ := h3.form
  exact ⟨_, _, _, _, _, _, _, _, _, _, _, _, _, _, _, _, rfl⟩
theorem kinds_ne {l : List Pu.Tok} {t : Pu.Tok} (h : ∀ u, u ∈ t :: l → u.kind ≠ 0) : ((t.kind : Int) == 0) = false := by
  have := h t (by simp)
  rw [beq_eq_false_iff_ne]
  omega

theorem line_nil (R M B : Nat) (m : Pu.Md) (w : World) (h : Rd w R [] 0) (hM : MdM w M B R m) (hBR : B ≤ R) : Calls Tryz.prog 38 #[.pointer (some ⟨R, 0, none⟩), .pointer (some ⟨M, 0, none⟩)] w (LinePost M B R w (.ok m)) := by
  have hMB := hM.lo
  have hMR : M < R := by omega
  have hn := next_nil R 0 w h
  have hRl := h.lt
  have hlf : ∀ w', w.grownBy w' (some R) → LineFr M B w w' := fun w' hg => LineFr.of_reader h hMB hBR hg
  replace hn := Lib.hid hn
  replace hlf := Lib.hid hlf
  replace hM := Lib.hid hM
  clear h
  go_enter Tryz.func38, Tryz.ntmps38
  go_wp2_with fail
  refine hn.out.mono ?_
  rintro e w1 ⟨rfl, hr1, hg1⟩
  unfold str
  obtain ⟨A9, c9, hb9⟩ := hr1.nil_form
  have q9 := (hb9.alloc (.cells #[.int .i64 0, .string ⟨#[]⟩] 96)).cell 0
  have q9' := hb9.cell 0
  have lt9 := hb9.lt
  simp only [List.getElem?_toArray, List.getElem?_cons_zero] at q9 q9'
  replace hb9 := Lib.hid hb9
  go_wp2_with fail
  refine (need_yes 4 _).mono ?_
  rintro e w2 ⟨rfl, rfl⟩
  go_wp2_with fail
  go_end0
  exact ⟨rfl, hM.out.later (only_alloc hg1 _) hMR, hlf.out _ (only_alloc hg1 _)⟩

theorem line_kind (R M B : Nat) (m : Pu.Md) (tk : Nat) (tx : List UInt8) (l : List Pu.Tok) (w : World) (h : Rd w R (⟨tk, tx⟩ :: l) 0) (hM : MdM w M B R m) (hBR : B ≤ R) (h0 : tk ≠ 0) (h1 : tk ≠ 1) : Calls Tryz.prog 38 #[.pointer (some ⟨R, 0, none⟩), .pointer (some ⟨M, 0, none⟩)] w (LinePost M B R w (.error 4)) := by
  have hMB := hM.lo
  have hMR : M < R := by omega
  have hn := next_cons R 0 ⟨tk, tx⟩ l w h
  have hRl := h.lt
  have hlf : ∀ w', w.grownBy w' (some R) → LineFr M B w w' := fun w' hg => LineFr.of_reader h hMB hBR hg
  have hz0 : ((tk : Int) == 0) = false := by rw [beq_eq_false_iff_ne]; omega
  have hz1 : ((tk : Int) != 1) = true := by rw [bne_iff_ne]; omega
  replace hn := Lib.hid hn
  replace hlf := Lib.hid hlf
  replace hM := Lib.hid hM
  clear h
  go_enter Tryz.func38, Tryz.ntmps38
  go_wp2_with fail
  refine hn.out.mono ?_
  rintro e w1 ⟨rfl, hr1, hg1⟩
  unfold str
  obtain ⟨T, hT⟩ : ∃ T, T = w1.heap.size := ⟨_, rfl⟩
  obtain ⟨w2, hw2⟩ : ∃ w2, w2 = w1.alloc (.cells #[.int .i64 tk, .string ⟨tx.toArray⟩] 96) := ⟨_, rfl⟩
  have hg2 : w.grownBy w2 (some R) := by rw [hw2]; exact only_alloc hg1 _
  have hr2 : Rd w2 R l 0 := by rw [hw2]; exact hr1.alloc _
  have hM2 := hM.out.later hg2 hMR
  have hT2 : Blk w2 T 96 #[.int .i64 tk, .string ⟨tx.toArray⟩] := by rw [hw2, hT]; exact Blk.new _ _ _
  have hs1 := hg1.size
  have hRT : R < T := by omega
  replace hM2 := Lib.hid hM2
  replace hw2 := Lib.hid hw2
  clear hr1 hr2 hT2
  replace hT := Lib.hid hT
  go_wp2_with fail
  rw [← hw2.out]
  refine (need_no 4 _).mono ?_
  rintro e w3 ⟨rfl, rfl⟩
  go_wp2_with fail
  exact ⟨rfl, LinePost.fault (k := 4) rfl hM2.out (hlf.out _ hg2)⟩
theorem line_other (R M B : Nat) (m : Pu.Md) (tk : Nat) (tx : List UInt8) (l : List Pu.Tok) (w : World) (h : Rd w R (⟨tk, tx⟩ :: l) 0) (hM : MdM w M B R m) (hBR : B ≤ R) (h1 : tk = 1) (hu : tx ≠ Pu.wUse) (ht : tx ≠ Pu.wType) (hf : tx ≠ Pu.wFunc) : Calls Tryz.prog 38 #[.pointer (some ⟨R, 0, none⟩), .pointer (some ⟨M, 0, none⟩)] w (LinePost M B R w (.error 4)) := by
  have h0 : tk ≠ 0 := by omega
  have hMB := hM.lo
  have hMR : M < R := by omega
  have hn := next_cons R 0 ⟨tk, tx⟩ l w h
  have hRl := h.lt
  have hlf : ∀ w', w.grownBy w' (some R) → LineFr M B w w' := fun w' hg => LineFr.of_reader h hMB hBR hg
  have hz0 : ((tk : Int) == 0) = false := by rw [beq_eq_false_iff_ne]; omega
  have hz1 : ((tk : Int) != 1) = false := by subst h1; rfl
  have e1 : (tx == [117, 115, 101]) = false := by rw [beq_eq_false_iff_ne]; exact hu
  have e2 : (tx == [116, 121, 112, 101]) = false := by rw [beq_eq_false_iff_ne]; exact ht
  have e3 : (tx == [102, 117, 110, 99]) = false := by rw [beq_eq_false_iff_ne]; exact hf
  replace h1 := Lib.hid h1
  replace hn := Lib.hid hn
  replace hlf := Lib.hid hlf
  replace hM := Lib.hid hM
  clear h
  go_enter Tryz.func38, Tryz.ntmps38
  go_wp2_with fail
  refine hn.out.mono ?_
  rintro e w1 ⟨rfl, hr1, hg1⟩
  unfold str
  obtain ⟨T, hT⟩ : ∃ T, T = w1.heap.size := ⟨_, rfl⟩
  obtain ⟨w2, hw2⟩ : ∃ w2, w2 = w1.alloc (.cells #[.int .i64 tk, .string ⟨tx.toArray⟩] 96) := ⟨_, rfl⟩
  have hg2 : w.grownBy w2 (some R) := by rw [hw2]; exact only_alloc hg1 _
  have hr2 : Rd w2 R l 0 := by rw [hw2]; exact hr1.alloc _
  have hM2 := hM.out.later hg2 hMR
  have hT2 : Blk w2 T 96 #[.int .i64 tk, .string ⟨tx.toArray⟩] := by rw [hw2, hT]; exact Blk.new _ _ _
  have hs1 := hg1.size
  have hRT : R < T := by omega
  replace hM2 := Lib.hid hM2
  replace hw2 := Lib.hid hw2
  clear hr1 hr2 hT2
  replace hT := Lib.hid hT
  go_wp2_with fail
  rw [← hw2.out]
  refine (need_no 4 _).mono ?_
  rintro e w3 ⟨rfl, rfl⟩
  go_wp2_with fail
  exact ⟨rfl, LinePost.fault (k := 4) rfl hM2.out (hlf.out _ hg2)⟩

set_option maxRecDepth 100000 in
set_option maxHeartbeats 8000000 in
theorem line_use (R M B : Nat) (m : Pu.Md) (tk : Nat) (tx : List UInt8) (l : List Pu.Tok) (w : World) (h : Rd w R (⟨tk, tx⟩ :: l) 0) (hM : MdM w M B R m) (hBR : B ≤ R) (hl : Pu.Fit l) (h1 : tk = 1) (hw : tx = Pu.wUse) (hln : m.uses.length ≤ 1000000) : Calls Tryz.prog 38 #[.pointer (some ⟨R, 0, none⟩), .pointer (some ⟨M, 0, none⟩)] w (LinePost M B R w (Pu.ended (Pu.pName l) fun nm => { m with uses := m.uses ++ [nm] })) := by
  obtain ⟨goal, heq⟩ : ∃ g, g = Pu.ended (Pu.pName l) fun nm => { m with uses := m.uses ++ [nm] } := ⟨_, rfl⟩
  rw [← heq]
  have h0 : tk ≠ 0 := by omega
  have hMB := hM.lo
  have hMR : M < R := by omega
  have hn := next_cons R 0 ⟨tk, tx⟩ l w h
  have hRl := h.lt
  have hlf : ∀ w', w.grownBy w' (some R) → LineFr M B w w' := fun w' hg => LineFr.of_reader h hMB hBR hg
  have hz0 : ((tk : Int) == 0) = false := by rw [beq_eq_false_iff_ne]; omega
  have hz1 : ((tk : Int) != 1) = false := by subst h1; rfl
  replace heq := Lib.hid heq
  have e1 : (tx == [117, 115, 101]) = true := by rw [hw]; rfl
  replace h1 := Lib.hid h1
  replace hw := Lib.hid hw
  replace hn := Lib.hid hn
  replace hlf := Lib.hid hlf
  replace hM := Lib.hid hM
  clear h
  go_enter Tryz.func38, Tryz.ntmps38
  go_wp2_with fail
  refine hn.out.mono ?_
  rintro e w1 ⟨rfl, hr1, hg1⟩
  unfold str
  obtain ⟨T, hT⟩ : ∃ T, T = w1.heap.size := ⟨_, rfl⟩
  obtain ⟨w2, hw2⟩ : ∃ w2, w2 = w1.alloc (.cells #[.int .i64 tk, .string ⟨tx.toArray⟩] 96) := ⟨_, rfl⟩
  have hg2 : w.grownBy w2 (some R) := by rw [hw2]; exact only_alloc hg1 _
  have hr2 : Rd w2 R l 0 := by rw [hw2]; exact hr1.alloc _
  have hM2 := hM.out.later hg2 hMR
  have hT2 : Blk w2 T 96 #[.int .i64 tk, .string ⟨tx.toArray⟩] := by rw [hw2, hT]; exact Blk.new _ _ _
  have hs1 := hg1.size
  have hRT : R < T := by omega
  obtain ⟨vu, vt, vf, hV2⟩ := hM2
  obtain ⟨rA, rc, hvr⟩ := hV2.us.len (by omega)
  have hc2 : w2.drew.cell? ⟨M, 0, none⟩ = some vu := hV2.blk.cell 0
  have hM2l : M < w2.heap.size := hV2.blk.lt
  have hnm := name_any R 0 l w2.drew hr2.drew
  have hg2d := only_drew hg2
  have hV2d : MdV w2.drew M B R m vu vt vf := hV2.later (only_drew (only_refl _ _)) (Nat.ne_of_lt hMR)
  replace hV2 := Lib.hid hV2
  replace hV2d := Lib.hid hV2d
  replace hw2 := Lib.hid hw2
  replace hg2d := Lib.hid hg2d
  replace hvr := Lib.hid hvr
  clear hr1 hT2
  replace hT := Lib.hid hT
  go_wp2_with fail
  rw [← hw2.out]
  cases hp : Pu.pName l with
  | error k =>
    rw [hp] at hnm
    have heq2 := heq.out
    rw [hp] at heq2
    obtain rfl : goal = .error k := heq2
    refine wp_region_anyFrame ?_
    go_region_dies
    all_goals
      go_at_call 64
      refine hnm.mono ?_
      rintro e w4 ⟨rfl, hr4, hg4⟩
      exact fun tmps => ⟨rfl, LinePost.fault (k := k) rfl ⟨_, _, _, hV2d.out.later hg4 (Nat.ne_of_lt hMR)⟩ (hlf.out _ (only_trans hg2d.out hg4))⟩
  | ok r =>
    obtain ⟨x, l2⟩ := r
    have heq2 := heq.out
    rw [hp] at hnm heq2
    replace heq2 := Lib.hid heq2
    clear heq
    replace hnm := Lib.hid hnm
    have hM2l' : M < w2.drew.heap.size := hM2l
    have hR2d : R < w2.drew.heap.size := hr2.lt
    refine wp_region_anyFrame ?_
    go_region_law (first
        | (refine step_append_raw (z := .string ⟨#[]⟩) info_st Tryz.underlying22 rfl (by omega) (by omega) (by rfl) _ _ (by rfl) _ B vu m.uses.length cl4 [.string ⟨x.toArray⟩] w4.heap.size (by rfl) (by rfl) ho4 (fun j u hu => (cell_of_row _ _ _ _ _ _ (heap_alloc_new _ _)).trans (by simpa using hu)) (by rfl) (by simp [Value.oneCell']) hln (by exact hB4) ?_; (intro g5 c5 w5 ha5 hrow5; have hb5 := hV4.out.blk.grown ha5.grown (fun e => by have := hrow5 _ e.symm; omega); have e5 : w5.cell? ⟨M, 0, none⟩ = some vu := hb5.cell 0; have f5 := hb5.frozen 0; have lt5 := hb5.lt; have hp5 := Lib.hid (hV4.out.push_u hR4 ho4 hh4.out ha5); replace ha5 := Lib.hid ha5; replace hrow5 := Lib.hid hrow5; replace hb5 := Lib.hid hb5))
        | (go_simp; go_at_call 64; refine hnm.out.mono ?_; rintro e w4 ⟨rfl, hr4, hg4⟩; unfold str; have hV3 := hV2d.out.later hg4 (Nat.ne_of_lt hMR); have hc4 : w4.cell? ⟨M, 0, none⟩ = some vu := hV3.blk.cell 0; have hs4 := hg4.size; have hM4' := hV3.blk.lt; have hV4 := hV3.later (only_alloc (only_refl w4 (some R)) (.cells #[.string ⟨x.toArray⟩] 9)) (Nat.ne_of_lt hMR); have hM4 := hV4.blk.lt; have hR4 : R < (w4.alloc (.cells #[.string ⟨x.toArray⟩] 9)).heap.size := (hr4.alloc _).lt; have hB4 : B ≤ (w4.alloc (.cells #[.string ⟨x.toArray⟩] 9)).heap.size := (by omega); obtain ⟨cl4, ho4, hh4⟩ := hV4.us; replace hV4 := Lib.hid hV4; replace hV3 := Lib.hid hV3; replace hh4 := Lib.hid hh4; replace hr4 := Lib.hid hr4))
    all_goals
      refine AnyFrame.normal ?_
      have hfr6 : LineFr M B w (w5.setCell ⟨M, 0, none⟩ (.slice (some ⟨g5, 0, none⟩) (m.uses.length + 1) c5)) := ((hlf.out w4 (only_trans hg2d.out hg4)).trans (LineFr.alloc_ hMB (Nat.le_trans hBR (Nat.le_of_lt hr4.out.lt)) _)).trans ((LineFr.grown ha5.out.grown hMB hB4 (fun g hg => ⟨hrow5.out g hg, owns_cells ho4 g hg⟩)).trans (LineFr.setM 0 _))
      have hb9x : ∃ A9 c9, Blk (w5.setCell ⟨M, 0, none⟩ (.slice (some ⟨g5, 0, none⟩) (m.uses.length + 1) c5)) R 91 #[.slice A9 l2.length c9, .int .i64 0] := by
        obtain ⟨A9, c9, hb9, _, _⟩ := hr4.out
        exact ⟨A9, c9, ((hb9.alloc _).grown ha5.out.grown (fun e => (hV4.out.apart.u R e.symm).1 rfl)).far (p := ⟨M, 0, none⟩) (Nat.ne_of_gt hMR) _⟩
      obtain ⟨w6, hw6⟩ : ∃ w6, w6 = w5.setCell ⟨M, 0, none⟩ (.slice (some ⟨g5, 0, none⟩) (m.uses.length + 1) c5) := ⟨_, rfl⟩
      replace hp5 := hp5.out
      rw [← hw6] at hfr6 hb9x hp5 ⊢
      replace hw6 := Lib.hid hw6
      replace hfr6 := Lib.hid hfr6
      replace hp5 := Lib.hid hp5
      replace ho4 := Lib.hid ho4
      replace heq2 := Lib.hid (show goal = if l2.isEmpty then .ok { m with uses := m.uses ++ [x] } else .error 4 from heq2.out)
      clear e5 f5 lt5 hc4 hc2
      obtain ⟨A9, c9, hb9⟩ := hb9x
      have q9 := hb9.cell 0
      have lt9 := hb9.lt
      simp only [List.getElem?_toArray, List.getElem?_cons_zero] at q9
      replace hb9 := Lib.hid hb9
      rcases Nat.eq_zero_or_pos (l2).length with h9 | h9
      · have hz9 : (((l2).length : Int) == 0) = true := by rw [h9]; rfl
        have he9 : (l2).isEmpty = true := by rw [List.eq_nil_of_length_eq_zero h9]; rfl
        replace h9 := Lib.hid h9
        replace he9 := Lib.hid he9
        go_wp2_with fail
        refine (need_yes 4 _).mono ?_
        rintro e wz ⟨rfl, rfl⟩
        go_wp2_with fail
        go_end0
        have heq3 := heq2.out
        rw [he9.out, if_pos rfl] at heq3
        rw [heq3]
        exact ⟨rfl, ⟨_, _, _, hp5.out⟩, hfr6.out⟩
      · have hz9 : (((l2).length : Int) == 0) = false := by rw [beq_eq_false_iff_ne]; omega
        have he9 : (l2).isEmpty = false := by cases h : l2 with | nil => rw [h] at h9; exact absurd h9 (by simp) | cons a b => rfl
        replace h9 := Lib.hid h9
        replace he9 := Lib.hid he9
        go_wp2_with fail
        refine (need_no 4 _).mono ?_
        rintro e wz ⟨rfl, rfl⟩
        go_wp2_with fail
        have heq3 := heq2.out
        rw [he9.out, if_neg (by simp)] at heq3
        rw [heq3]
        exact ⟨rfl, LinePost.fault (k := 4) rfl ⟨_, _, _, hp5.out⟩ hfr6.out⟩

set_option maxRecDepth 100000 in
set_option maxHeartbeats 8000000 in
theorem line_func (R M B : Nat) (m : Pu.Md) (tk : Nat) (tx : List UInt8) (l : List Pu.Tok) (w : World) (h : Rd w R (⟨tk, tx⟩ :: l) 0) (hM : MdM w M B R m) (hBR : B ≤ R) (hl : Pu.Fit l) (h1 : tk = 1) (hw : tx = Pu.wFunc) (hln : m.funcs.length ≤ 1000000) : Calls Tryz.prog 38 #[.pointer (some ⟨R, 0, none⟩), .pointer (some ⟨M, 0, none⟩)] w (LinePost M B R w (Pu.ended (Pu.pFun l) fun nm => { m with funcs := m.funcs ++ [nm] })) := by
  obtain ⟨goal, heq⟩ : ∃ g, g = Pu.ended (Pu.pFun l) fun nm => { m with funcs := m.funcs ++ [nm] } := ⟨_, rfl⟩
  rw [← heq]
  have h0 : tk ≠ 0 := by omega
  have hMB := hM.lo
  have hMR : M < R := by omega
  have hn := next_cons R 0 ⟨tk, tx⟩ l w h
  have hRl := h.lt
  have hlf : ∀ w', w.grownBy w' (some R) → LineFr M B w w' := fun w' hg => LineFr.of_reader h hMB hBR hg
  have hz0 : ((tk : Int) == 0) = false := by rw [beq_eq_false_iff_ne]; omega
  have hz1 : ((tk : Int) != 1) = false := by subst h1; rfl
  replace heq := Lib.hid heq
  have e1 : (tx == [117, 115, 101]) = false := by rw [hw]; rfl
  have e2 : (tx == [116, 121, 112, 101]) = false := by rw [hw]; rfl
  have e3 : (tx == [102, 117, 110, 99]) = true := by rw [hw]; rfl
  replace h1 := Lib.hid h1
  replace hw := Lib.hid hw
  replace hn := Lib.hid hn
  replace hlf := Lib.hid hlf
  replace hM := Lib.hid hM
  clear h
  go_enter Tryz.func38, Tryz.ntmps38
  go_wp2_with fail
  refine hn.out.mono ?_
  rintro e w1 ⟨rfl, hr1, hg1⟩
  unfold str
  obtain ⟨T, hT⟩ : ∃ T, T = w1.heap.size := ⟨_, rfl⟩
  obtain ⟨w2, hw2⟩ : ∃ w2, w2 = w1.alloc (.cells #[.int .i64 tk, .string ⟨tx.toArray⟩] 96) := ⟨_, rfl⟩
  have hg2 : w.grownBy w2 (some R) := by rw [hw2]; exact only_alloc hg1 _
  have hr2 : Rd w2 R l 0 := by rw [hw2]; exact hr1.alloc _
  have hM2 := hM.out.later hg2 hMR
  have hT2 : Blk w2 T 96 #[.int .i64 tk, .string ⟨tx.toArray⟩] := by rw [hw2, hT]; exact Blk.new _ _ _
  have hs1 := hg1.size
  have hRT : R < T := by omega
  obtain ⟨vu, vt, vf, hV2⟩ := hM2
  obtain ⟨rA, rc, hvr⟩ := hV2.fs.len (by omega)
  have hc2 : w2.drew.cell? ⟨M, 2, none⟩ = some vf := hV2.blk.cell 2
  have hM2l : M < w2.heap.size := hV2.blk.lt
  have hnm := fun_any R l w2.drew hl hr2.drew
  have hg2d := only_drew hg2
  have hV2d : MdV w2.drew M B R m vu vt vf := hV2.later (only_drew (only_refl _ _)) (Nat.ne_of_lt hMR)
  replace hV2 := Lib.hid hV2
  replace hV2d := Lib.hid hV2d
  replace hw2 := Lib.hid hw2
  replace hg2d := Lib.hid hg2d
  replace hvr := Lib.hid hvr
  clear hr1 hT2
  replace hT := Lib.hid hT
  go_wp2_with fail
  rw [← hw2.out]
  cases hp : Pu.pFun l with
  | error k =>
    rw [hp] at hnm
    have heq2 := heq.out
    rw [hp] at heq2
    obtain rfl : goal = .error k := heq2
    refine wp_region_anyFrame ?_
    go_region_dies
    all_goals
      go_at_call 67
      refine hnm.mono ?_
      rintro e w4 ⟨rfl, hr4, hg4⟩
      exact fun tmps => ⟨rfl, LinePost.fault (k := k) rfl ⟨_, _, _, hV2d.out.later hg4 (Nat.ne_of_lt hMR)⟩ (hlf.out _ (only_trans hg2d.out hg4))⟩
  | ok r =>
    obtain ⟨x, l2⟩ := r
    have heq2 := heq.out
    rw [hp] at hnm heq2
    replace heq2 := Lib.hid heq2
    clear heq
    replace hnm := Lib.hid hnm
    have hM2l' : M < w2.drew.heap.size := hM2l
    have hR2d : R < w2.drew.heap.size := hr2.lt
    refine wp_region_anyFrame ?_
    go_region_law (first
        | (refine step_append_raw (z := .agg #[.string ⟨#[]⟩, .string ⟨#[]⟩, .slice none 0 0, .int .i64 0, .string ⟨#[]⟩, .string ⟨#[]⟩, .slice none 0 0, .int .i64 0, .int .i64 0, .string ⟨#[]⟩, .string ⟨#[]⟩, .slice none 0 0]) info_fn Tryz.underlying24 rfl (by omega) (by omega) (by rfl) _ _ (by rfl) _ B vf m.funcs.length cl4 [.string ⟨x.name.toArray⟩, .string ⟨x.var.toArray⟩, .slice fA fn fc, .int .i64 fk, .string fof, .string fnm, .slice fA1 fn1 fc1, .int .i64 fk2, .int .i64 fn2, .string fof2, .string fs2, .slice fA2 fm2 fc2] w4.heap.size (by rfl) (by rfl) ho4 (fun j u hu => (cell_of_row _ _ _ _ _ _ (heap_alloc_new _ _)).trans (by simpa using hu)) (by rfl) (by simp [Value.oneCell']) hln (by exact hB4) ?_; (intro g5 c5 w5 ha5 hrow5; have hb5 := hV4.out.blk.grown ha5.grown (fun e => by have := hrow5 _ e.symm; omega); have e5 : w5.cell? ⟨M, 2, none⟩ = some vf := hb5.cell 2; have f5 := hb5.frozen 2; have lt5 := hb5.lt; have hp5 := Lib.hid (hV4.out.push_f hR4 ho4 hh4.out hfx.out ha5); replace ha5 := Lib.hid ha5; replace hrow5 := Lib.hid hrow5; replace hb5 := Lib.hid hb5))
        | (go_simp; go_at_call 67; refine hnm.out.mono ?_; rintro e w4 ⟨⟨cs, rfl, hfn⟩, hr4, hg4⟩; obtain ⟨fA, fn, fc, fk, fof, fnm, fA1, fn1, fc1, fk2, fn2, fof2, fs2, fA2, fm2, fc2, rfl⟩ := hfn.form; have hV3 := hV2d.out.later hg4 (Nat.ne_of_lt hMR); have hc4 : w4.cell? ⟨M, 2, none⟩ = some vf := hV3.blk.cell 2; have hs4 := hg4.size; have hM4' := hV3.blk.lt; have hV4 := hV3.later (only_alloc (only_refl w4 (some R)) (.cells #[.string ⟨x.name.toArray⟩, .string ⟨x.var.toArray⟩, .slice fA fn fc, .int .i64 fk, .string fof, .string fnm, .slice fA1 fn1 fc1, .int .i64 fk2, .int .i64 fn2, .string fof2, .string fs2, .slice fA2 fm2 fc2] 55)) (Nat.ne_of_lt hMR); have hM4 := hV4.blk.lt; have hR4 : R < (w4.alloc (.cells #[.string ⟨x.name.toArray⟩, .string ⟨x.var.toArray⟩, .slice fA fn fc, .int .i64 fk, .string fof, .string fnm, .slice fA1 fn1 fc1, .int .i64 fk2, .int .i64 fn2, .string fof2, .string fs2, .slice fA2 fm2 fc2] 55)).heap.size := (hr4.alloc _).lt; have hB4 : B ≤ (w4.alloc (.cells #[.string ⟨x.name.toArray⟩, .string ⟨x.var.toArray⟩, .slice fA fn fc, .int .i64 fk, .string fof, .string fnm, .slice fA1 fn1 fc1, .int .i64 fk2, .int .i64 fn2, .string fof2, .string fs2, .slice fA2 fm2 fc2] 55)).heap.size := (by omega); obtain ⟨cl4, ho4, hh4⟩ := hV4.fs; replace hV4 := Lib.hid hV4; replace hV3 := Lib.hid hV3; replace hh4 := Lib.hid hh4; replace hr4 := Lib.hid hr4; have hfx := Lib.hid (FnC.keep (w' := w4.alloc (.cells #[.string ⟨x.name.toArray⟩, .string ⟨x.var.toArray⟩, .slice fA fn fc, .int .i64 fk, .string fof, .string fnm, .slice fA1 fn1 fc1, .int .i64 fk2, .int .i64 fn2, .string fof2, .string fs2, .slice fA2 fm2 fc2] 55)) (S' := Fr B R vu vt vf) hfn (by simp) (fun b hs hb => ⟨Below.heap_alloc _ _ b hb, fr_new hV2d.out hBR hR2d b hs⟩)); replace hfn := Lib.hid hfn))
    all_goals
      refine AnyFrame.normal ?_
      have hfr6 : LineFr M B w (w5.setCell ⟨M, 2, none⟩ (.slice (some ⟨g5, 0, none⟩) (m.funcs.length + 1) c5)) := ((hlf.out w4 (only_trans hg2d.out hg4)).trans (LineFr.alloc_ hMB (Nat.le_trans hBR (Nat.le_of_lt hr4.out.lt)) _)).trans ((LineFr.grown ha5.out.grown hMB hB4 (fun g hg => ⟨hrow5.out g hg, owns_cells ho4 g hg⟩)).trans (LineFr.setM 2 _))
      have hb9x : ∃ A9 c9, Blk (w5.setCell ⟨M, 2, none⟩ (.slice (some ⟨g5, 0, none⟩) (m.funcs.length + 1) c5)) R 91 #[.slice A9 l2.length c9, .int .i64 0] := by
        obtain ⟨A9, c9, hb9, _, _⟩ := hr4.out
        exact ⟨A9, c9, ((hb9.alloc _).grown ha5.out.grown (fun e => (hV4.out.apart.f R e.symm).1 rfl)).far (p := ⟨M, 2, none⟩) (Nat.ne_of_gt hMR) _⟩
      obtain ⟨w6, hw6⟩ : ∃ w6, w6 = w5.setCell ⟨M, 2, none⟩ (.slice (some ⟨g5, 0, none⟩) (m.funcs.length + 1) c5) := ⟨_, rfl⟩
      replace hp5 := hp5.out
      rw [← hw6] at hfr6 hb9x hp5 ⊢
      replace hw6 := Lib.hid hw6
      replace hfr6 := Lib.hid hfr6
      replace hp5 := Lib.hid hp5
      replace ho4 := Lib.hid ho4
      replace heq2 := Lib.hid (show goal = if l2.isEmpty then .ok { m with funcs := m.funcs ++ [x] } else .error 4 from heq2.out)
      clear e5 f5 lt5 hc4 hc2
      obtain ⟨A9, c9, hb9⟩ := hb9x
      have q9 := hb9.cell 0
      have lt9 := hb9.lt
      simp only [List.getElem?_toArray, List.getElem?_cons_zero] at q9
      replace hb9 := Lib.hid hb9
      rcases Nat.eq_zero_or_pos (l2).length with h9 | h9
      · have hz9 : (((l2).length : Int) == 0) = true := by rw [h9]; rfl
        have he9 : (l2).isEmpty = true := by rw [List.eq_nil_of_length_eq_zero h9]; rfl
        replace h9 := Lib.hid h9
        replace he9 := Lib.hid he9
        go_wp2_with fail
        refine (need_yes 4 _).mono ?_
        rintro e wz ⟨rfl, rfl⟩
        go_wp2_with fail
        go_end0
        have heq3 := heq2.out
        rw [he9.out, if_pos rfl] at heq3
        rw [heq3]
        exact ⟨rfl, ⟨_, _, _, hp5.out⟩, hfr6.out⟩
      · have hz9 : (((l2).length : Int) == 0) = false := by rw [beq_eq_false_iff_ne]; omega
        have he9 : (l2).isEmpty = false := by cases h : l2 with | nil => rw [h] at h9; exact absurd h9 (by simp) | cons a b => rfl
        replace h9 := Lib.hid h9
        replace he9 := Lib.hid he9
        go_wp2_with fail
        refine (need_no 4 _).mono ?_
        rintro e wz ⟨rfl, rfl⟩
        go_wp2_with fail
        have heq3 := heq2.out
        rw [he9.out, if_neg (by simp)] at heq3
        rw [heq3]
        exact ⟨rfl, LinePost.fault (k := 4) rfl ⟨_, _, _, hp5.out⟩ hfr6.out⟩

set_option maxRecDepth 100000 in
set_option maxHeartbeats 8000000 in
theorem line_type (R M B : Nat) (m : Pu.Md) (tk : Nat) (tx : List UInt8) (l : List Pu.Tok) (w : World) (h : Rd w R (⟨tk, tx⟩ :: l) 0) (hM : MdM w M B R m) (hBR : B ≤ R) (h1 : tk = 1) (hw : tx = Pu.wType) (hln : m.types.length ≤ 1000000) : Calls Tryz.prog 38 #[.pointer (some ⟨R, 0, none⟩), .pointer (some ⟨M, 0, none⟩)] w (LinePost M B R w (Pu.ended (Pu.pType l) fun f => { m with types := m.types ++ [f] })) := by
  obtain ⟨goal, heq⟩ : ∃ g, g = Pu.ended (Pu.pType l) fun f => { m with types := m.types ++ [f] } := ⟨_, rfl⟩
  rw [← heq]
  have hK : ∀ (l : List Pu.Tok) (W : World), Rd W R l 0 → Calls Tryz.prog 66 #[.pointer (some ⟨R, 0, none⟩)] W (KindPost R 0 W (Pu.pKind 40 l)) := fun l W hr => kind_any 40 (by omega) R l W hr
  replace hK := Lib.hid hK
  have h0 : tk ≠ 0 := by omega
  have hMB := hM.lo
  have hMR : M < R := by omega
  have hn := next_cons R 0 ⟨tk, tx⟩ l w h
  have hRl := h.lt
  have hlf : ∀ w', w.grownBy w' (some R) → LineFr M B w w' := fun w' hg => LineFr.of_reader h hMB hBR hg
  have hz0 : ((tk : Int) == 0) = false := by rw [beq_eq_false_iff_ne]; omega
  have hz1 : ((tk : Int) != 1) = false := by subst h1; rfl
  have e1 : (tx == [117, 115, 101]) = false := by rw [hw]; rfl
  have e2 : (tx == [116, 121, 112, 101]) = true := by rw [hw]; rfl
  unfold Pu.ended Pu.pType at heq
  rw [Pu.andThen_assoc] at heq
  replace heq := Lib.hid heq
  replace h1 := Lib.hid h1
  replace hw := Lib.hid hw
  replace hn := Lib.hid hn
  replace hlf := Lib.hid hlf
  replace hM := Lib.hid hM
  clear h
  go_enter Tryz.func38, Tryz.ntmps38
  go_wp2_with fail
  refine hn.out.mono ?_
  rintro e w1 ⟨rfl, hr1, hg1⟩
  unfold str
  obtain ⟨T, hT⟩ : ∃ T, T = w1.heap.size := ⟨_, rfl⟩
  obtain ⟨w2, hw2⟩ : ∃ w2, w2 = w1.alloc (.cells #[.int .i64 tk, .string ⟨tx.toArray⟩] 96) := ⟨_, rfl⟩
  have hg2 : w.grownBy w2 (some R) := by rw [hw2]; exact only_alloc hg1 _
  have hr2 : Rd w2 R l 0 := by rw [hw2]; exact hr1.alloc _
  have hM2 := hM.out.later hg2 hMR
  have hT2 : Blk w2 T 96 #[.int .i64 tk, .string ⟨tx.toArray⟩] := by rw [hw2, hT]; exact Blk.new _ _ _
  have hs1 := hg1.size
  have hRT : R < T := by omega
  obtain ⟨vu, vt, vf, hV2⟩ := hM2
  have hnm := name_any R 0 l w2 hr2
  have hs2 := hg2.size
  replace hV2 := Lib.hid hV2
  replace hw2 := Lib.hid hw2
  clear hr1 hT2 hr2
  replace hT := Lib.hid hT
  go_wp2_with fail
  rw [← hw2.out]
  cases hp : Pu.pName l with
  | error k =>
    rw [hp] at hnm
    have heq2 := heq.out
    rw [hp] at heq2
    obtain rfl : goal = .error k := heq2
    refine hnm.mono ?_
    rintro e w4 ⟨rfl, hr4, hg4⟩
    go_wp2_with fail
    exact ⟨rfl, LinePost.fault (k := k) rfl ⟨_, _, _, hV2.out.later hg4 (Nat.ne_of_lt hMR)⟩ (hlf.out _ (only_trans hg2 hg4))⟩
  | ok r =>
    obtain ⟨pn, lc⟩ := r
    have heq2 := heq.out
    rw [hp] at hnm heq2
    rw [Pu.andThen_ok, Pu.andThen_assoc] at heq2
    dsimp only at heq2
    replace heq2 := Lib.hid heq2
    replace hnm := Lib.hid hnm
    clear heq
    refine hnm.out.mono ?_
    rintro e wc ⟨rfl, hrc, hgc⟩
    unfold str
    have hVc := hV2.out.later hgc (Nat.ne_of_lt hMR)
    have hgwc := only_trans hg2 hgc
    obtain ⟨P, hP⟩ : ∃ P, P = wc.heap.size := ⟨_, rfl⟩
    obtain ⟨wd, hwd⟩ : ∃ wd, wd = wc.alloc (.cells #[.string ⟨pn.toArray⟩, .int .i64 0, .string ⟨#[]⟩, .string ⟨#[]⟩, .slice none 0 0] 63) := ⟨_, rfl⟩
    have hgd : wc.grownBy wd (some R) := by rw [hwd]; exact only_alloc (only_refl _ _) _
    have hrd : Rd wd R lc 0 := by rw [hwd]; exact hrc.alloc _
    have hVd := hVc.later hgd (Nat.ne_of_lt hMR)
    have hPd : Blk wd P 63 #[.string ⟨pn.toArray⟩, .int .i64 0, .string ⟨#[]⟩, .string ⟨#[]⟩, .slice none 0 0] := by rw [hwd, hP]; exact Blk.new _ _ _
    have hsc := hgc.size
    have hMP : M < P := by rw [hP]; exact hVc.blk.lt
    have hRP : R < P := by rw [hP]; exact hrc.lt
    have hPu : ∀ g, vu.ownBlock = some g → g < P := fun g hg => by rw [hP]; exact (hVc.us.owns g hg).2
    have hPt : ∀ g, vt.ownBlock = some g → g < P := fun g hg => by rw [hP]; exact (hVc.ts.owns g hg).2
    have hPf : ∀ g, vf.ownBlock = some g → g < P := fun g hg => by rw [hP]; exact (hVc.fs.owns g hg).2
    have hm61 := must_any R 61 0 lc wd hrd
    replace hwd := Lib.hid hwd
    replace hVd := Lib.hid hVd
    replace hVc := Lib.hid hVc
    replace hPd := Lib.hid hPd
    replace hPu := Lib.hid hPu
    replace hPt := Lib.hid hPt
    replace hPf := Lib.hid hPf
    replace hgwc := Lib.hid hgwc
    clear hrc hrd
    go_wp2_with fail
    rw [← hwd.out, ← hP]
    replace hP := Lib.hid hP
    cases hM61 : Pu.must 61 lc with
    | error k =>
      rw [hM61] at hm61
      have heq3 := heq2.out
      rw [hM61] at heq3
      obtain rfl : goal = .error k := heq3
      refine hm61.mono ?_
      rintro e we ⟨rfl, rfl⟩
      go_wp2_with fail
      exact ⟨rfl, LinePost.fault (k := k) rfl ⟨_, _, _, hVd.out⟩ (hlf.out _ (only_trans hgwc.out hgd))⟩
    | ok ld =>
      rw [hM61] at hm61
      have heq3 := heq2.out
      rw [hM61, Pu.andThen_ok, Pu.andThen_assoc] at heq3
      replace heq3 := Lib.hid heq3
      replace hm61 := Lib.hid hm61
      clear heq2
      refine hm61.out.mono ?_
      rintro e we ⟨rfl, hre, hge⟩
      have hVe := hVd.out.later hge (Nat.ne_of_lt hMR)
      have hPe := hPd.out.grown hge (by intro e; injection e; omega)
      have hkd := hK.out ld we hre
      have hgwe := only_trans hgwc.out (only_trans hgd hge)
      have hPwe := hPe.lt
      replace hVe := Lib.hid hVe
      replace hPe := Lib.hid hPe
      replace hgwe := Lib.hid hgwe
      clear hre
      go_wp2_with fail
      cases hk1 : Pu.pKind 40 ld with
      | error k =>
        rw [hk1] at hkd
        have heq4 := heq3.out
        rw [hk1] at heq4
        obtain rfl : goal = .error k := heq4
        refine hkd.mono ?_
        rintro e wf ⟨rfl, hrf, hgf⟩
        go_wp2_with fail
        exact ⟨rfl, LinePost.fault (k := k) rfl ⟨_, _, _, hVe.out.later hgf (Nat.ne_of_lt hMR)⟩ (hlf.out _ (only_trans hgwe.out hgf))⟩
      | ok rk =>
        obtain ⟨ty, lf⟩ := rk
        rw [hk1] at hkd
        have heq4 := heq3.out
        rw [hk1, Pu.andThen_ok, Pu.andThen_ok] at heq4
        dsimp only at heq4
        replace heq4 := Lib.hid heq4
        replace hkd := Lib.hid hkd
        clear heq3
        refine hkd.out.mono ?_
        rintro e wf ⟨⟨tcs, rfl, hty⟩, hrf, hgf⟩
        obtain ⟨k0, of0, nm0, A0, m0, c0, rfl⟩ := hty.form
        have hPf' := hPf
        have hPf := hPe.out.grown hgf (by intro e; injection e; omega)
        have hse := hge.size
        have hsf := hgf.size
        have hVf := hVe.out.later hgf (Nat.ne_of_lt hMR)
        obtain ⟨wg, hwg⟩ : ∃ wg, wg = (((wf.setCell ⟨P, 1, none⟩ (.int .i64 k0)).setCell ⟨P, 2, none⟩ (.string of0)).setCell ⟨P, 3, none⟩ (.string nm0)).setCell ⟨P, 4, none⟩ (.slice A0 m0 c0) := ⟨_, rfl⟩
        have hgg : wc.grownBy wg (some R) := by
          rw [hwg]
          have hwcP : wc.heap.size ≤ P := by rw [hP.out]; exact Nat.le_refl _
          exact only_setCell (only_setCell (only_setCell (only_setCell (only_trans hgd (only_trans hge hgf)) (.inr hwcP) _) (.inr hwcP) _) (.inr hwcP) _) (.inr hwcP) _
        have hVg := hVc.out.later hgg (Nat.ne_of_lt hMR)
        have hrg : ∃ A9 c9, Blk wg R 91 #[.slice A9 lf.length c9, .int .i64 0] := by
          obtain ⟨A9, c9, hb9, _, _⟩ := hrf
          refine ⟨A9, c9, ?_⟩
          rw [hwg]
          exact (((hb9.far (p := ⟨P, 1, none⟩) (Nat.ne_of_lt hRP) _).far (p := ⟨P, 2, none⟩) (Nat.ne_of_lt hRP) _).far (p := ⟨P, 3, none⟩) (Nat.ne_of_lt hRP) _).far (p := ⟨P, 4, none⟩) (Nat.ne_of_lt hRP) _
        have hPg : Blk wg P 63 #[.string ⟨pn.toArray⟩, .int .i64 k0, .string of0, .string nm0, .slice A0 m0 c0] := by
          rw [hwg]
          exact (((hPf.set_ 1 _).set_ 2 _).set_ 3 _).set_ 4 _
        have htyg : TyC wg (New we.heap.size) ty [.int .i64 k0, .string of0, .string nm0, .slice A0 m0 c0] := by
          rw [hwg]
          exact (((hty.far (p := ⟨P, 1, none⟩) hPwe _).far (p := ⟨P, 2, none⟩) hPwe _).far (p := ⟨P, 3, none⟩) hPwe _).far (p := ⟨P, 4, none⟩) hPwe _
        have hfd : FdC wg (Fr B R vu vt vf) ⟨pn, ty⟩ [.string ⟨pn.toArray⟩, .int .i64 k0, .string of0, .string nm0, .slice A0 m0 c0] :=
          ⟨_, rfl, htyg.keep (Nat.le_refl _) fun b hs _ => ⟨rfl, by unfold New at hs; exact ⟨by omega, by omega, fun e => by have := hPu.out b e; omega, fun e => by have := hPt.out b e; omega, fun e => by have := hPf'.out b e; omega⟩⟩⟩
        have hgw : LineFr M B w wg := hlf.out _ (only_trans hgwc.out hgg)
        have g1 := hPf.frozen 1
        have g2 := hPf.frozen 2
        have g3 := hPf.frozen 3
        have g4 := hPf.frozen 4
        have b1 := hPf.cell 1
        have b2 := hPf.cell 2
        have b3 := hPf.cell 3
        have b4 := hPf.cell 4
        have hPltf := hPf.lt
        simp only [List.getElem?_toArray, List.getElem?_cons_zero, List.getElem?_cons_succ] at b1 b2 b3 b4
        replace hwg := Lib.hid hwg
        replace hgg := Lib.hid hgg
        replace hVg := Lib.hid hVg
        replace hrg := Lib.hid hrg
        replace hPg := Lib.hid hPg
        replace htyg := Lib.hid htyg
        replace hfd := Lib.hid hfd
        replace hgw := Lib.hid hgw
        replace hPf := Lib.hid hPf
        replace hVf := Lib.hid hVf
        replace hty := Lib.hid hty
        clear hrf
        go_wp2_with fail
        rw [← hwg.out]
        clear g1 g2 g3 g4 b1 b2 b3 b4
        have b0 : wg.drew.cell? ⟨P, 0, none⟩ = some (.string ⟨pn.toArray⟩) := hPg.out.cell 0
        have b1 : wg.drew.cell? ⟨P, 1, none⟩ = some (.int .i64 k0) := hPg.out.cell 1
        have b2 : wg.drew.cell? ⟨P, 2, none⟩ = some (.string of0) := hPg.out.cell 2
        have b3 : wg.drew.cell? ⟨P, 3, none⟩ = some (.string nm0) := hPg.out.cell 3
        have b4 : wg.drew.cell? ⟨P, 4, none⟩ = some (.slice A0 m0 c0) := hPg.out.cell 4
        have hcg : wg.drew.cell? ⟨M, 1, none⟩ = some vt := hVg.out.blk.cell 1
        have a0 : wg.cell? ⟨P, 0, none⟩ = some (.string ⟨pn.toArray⟩) := hPg.out.cell 0
        have a1 : wg.cell? ⟨P, 1, none⟩ = some (.int .i64 k0) := hPg.out.cell 1
        have a2 : wg.cell? ⟨P, 2, none⟩ = some (.string of0) := hPg.out.cell 2
        have a3 : wg.cell? ⟨P, 3, none⟩ = some (.string nm0) := hPg.out.cell 3
        have a4 : wg.cell? ⟨P, 4, none⟩ = some (.slice A0 m0 c0) := hPg.out.cell 4
        have hcg' : wg.cell? ⟨M, 1, none⟩ = some vt := hVg.out.blk.cell 1
        have hMg : M < wg.heap.size := hVg.out.blk.lt
        have hPlg : P < wg.heap.size := hPg.out.lt
        have hMg' : M < wg.drew.heap.size := hMg
        have hPlg' : P < wg.drew.heap.size := hPlg
        obtain ⟨A9, c9, hR9⟩ := hrg.out
        have hRg := hR9.lt
        have hBg : B ≤ wg.heap.size := by omega
        have hV4 := (hVg.out.later (only_alloc (only_refl wg (some R)) (.cells #[.string ⟨pn.toArray⟩, .int .i64 k0, .string of0, .string nm0, .slice A0 m0 c0] 63)) (Nat.ne_of_lt hMR)).later (only_drew (only_refl _ _)) (Nat.ne_of_lt hMR)
        obtain ⟨cl4, ho4, hh4⟩ := hV4.ts
        have hM4 := hV4.blk.lt
        have hB4 : B ≤ ((wg.alloc (.cells #[.string ⟨pn.toArray⟩, .int .i64 k0, .string of0, .string nm0, .slice A0 m0 c0] 63)).drew).heap.size := by simp [World.drew]; omega
        have hR4 : R < ((wg.alloc (.cells #[.string ⟨pn.toArray⟩, .int .i64 k0, .string of0, .string nm0, .slice A0 m0 c0] 63)).drew).heap.size := ((hR9.alloc _).drew).lt
        have hfx : FdC ((wg.alloc (.cells #[.string ⟨pn.toArray⟩, .int .i64 k0, .string of0, .string nm0, .slice A0 m0 c0] 63)).drew) (Fr B R vu vt vf) ⟨pn, ty⟩ [.string ⟨pn.toArray⟩, .int .i64 k0, .string of0, .string nm0, .slice A0 m0 c0] := hfd.out.keep (by simp [World.drew]) (fun b hs hb => ⟨Below.heap_alloc _ _ b hb, hs⟩)
        replace hR9 := Lib.hid hR9
        replace hV4 := Lib.hid hV4
        replace hh4 := Lib.hid hh4
        replace hfx := Lib.hid hfx
        go_region_law (refine step_append_raw (z := .agg #[.string ⟨#[]⟩, .int .i64 0, .string ⟨#[]⟩, .string ⟨#[]⟩, .slice none 0 0]) info_fd Tryz.underlying23 rfl (by omega) (by omega) (by rfl) _ _ (by rfl) _ B vt m.types.length cl4 [.string ⟨pn.toArray⟩, .int .i64 k0, .string of0, .string nm0, .slice A0 m0 c0] wg.heap.size (by rfl) (by rfl) ho4 (fun j u hu => (cell_of_row _ _ _ _ _ _ (heap_alloc_new wg _)).trans (by simpa using hu)) (by rfl) (by simp [Value.oneCell']) hln (by exact hB4) ?_; (intro g5 c5 w5 ha5 hrow5; have hb5 := hV4.out.blk.grown ha5.grown (fun e => by have := hrow5 _ e.symm; omega); have e5 : w5.cell? ⟨M, 1, none⟩ = some vt := hb5.cell 1; have f5 := hb5.frozen 1; have lt5 := hb5.lt; have hp5 := Lib.hid (hV4.out.push_t hR4 ho4 hh4.out hfx.out ha5); replace ha5 := Lib.hid ha5; replace hrow5 := Lib.hid hrow5; replace hb5 := Lib.hid hb5))
        all_goals
          have hfr6 : LineFr M B w (w5.setCell ⟨M, 1, none⟩ (.slice (some ⟨g5, 0, none⟩) (m.types.length + 1) c5)) := (hgw.out.trans (LineFr.grown (only_drew (only_alloc (only_refl wg none) _)) hMB hBg (fun g e => by cases e))).trans ((LineFr.grown ha5.out.grown hMB hB4 (fun g hg => ⟨hrow5.out g hg, owns_cells ho4 g hg⟩)).trans (LineFr.setM 1 _))
          have hb9x : ∃ A9 c9, Blk (w5.setCell ⟨M, 1, none⟩ (.slice (some ⟨g5, 0, none⟩) (m.types.length + 1) c5)) R 91 #[.slice A9 lf.length c9, .int .i64 0] :=
            ⟨A9, c9, (((hR9.out.alloc _).drew).grown ha5.out.grown (fun e => (hV4.out.apart.t R e.symm).1 rfl)).far (p := ⟨M, 1, none⟩) (Nat.ne_of_gt hMR) _⟩
          obtain ⟨w6, hw6⟩ : ∃ w6, w6 = w5.setCell ⟨M, 1, none⟩ (.slice (some ⟨g5, 0, none⟩) (m.types.length + 1) c5) := ⟨_, rfl⟩
          replace hp5 := hp5.out
          rw [← hw6] at hfr6 hb9x hp5 ⊢
          replace hw6 := Lib.hid hw6
          replace hfr6 := Lib.hid hfr6
          replace hp5 := Lib.hid hp5
          replace ho4 := Lib.hid ho4
          replace heq4 := Lib.hid (show goal = if lf.isEmpty then .ok { m with types := m.types ++ [⟨pn, ty⟩] } else .error 4 from heq4.out)
          have heq2 := heq4
          clear e5 f5 lt5 a0 a1 a2 a3 a4 b0 b1 b2 b3 b4 hcg hcg'
          obtain ⟨A9, c9, hb9⟩ := hb9x
          have q9 := hb9.cell 0
          have lt9 := hb9.lt
          simp only [List.getElem?_toArray, List.getElem?_cons_zero] at q9
          replace hb9 := Lib.hid hb9
          rcases Nat.eq_zero_or_pos (lf).length with h9 | h9
          · have hz9 : (((lf).length : Int) == 0) = true := by rw [h9]; rfl
            have he9 : (lf).isEmpty = true := by rw [List.eq_nil_of_length_eq_zero h9]; rfl
            replace h9 := Lib.hid h9
            replace he9 := Lib.hid he9
            go_wp2_with fail
            refine (need_yes 4 _).mono ?_
            rintro e wz ⟨rfl, rfl⟩
            go_wp2_with fail
            go_end0
            have heq3 := heq2.out
            rw [he9.out, if_pos rfl] at heq3
            rw [heq3]
            exact ⟨rfl, ⟨_, _, _, hp5.out⟩, hfr6.out⟩
          · have hz9 : (((lf).length : Int) == 0) = false := by rw [beq_eq_false_iff_ne]; omega
            have he9 : (lf).isEmpty = false := by cases h : lf with | nil => rw [h] at h9; exact absurd h9 (by simp) | cons a b => rfl
            replace h9 := Lib.hid h9
            replace he9 := Lib.hid he9
            go_wp2_with fail
            refine (need_no 4 _).mono ?_
            rintro e wz ⟨rfl, rfl⟩
            go_wp2_with fail
            have heq3 := heq2.out
            rw [he9.out, if_neg (by simp)] at heq3
            rw [heq3]
            exact ⟨rfl, LinePost.fault (k := 4) rfl ⟨_, _, _, hp5.out⟩ hfr6.out⟩

/-- what the reader's line does -/
theorem line_any (R M B : Nat) (m : Pu.Md) (l : List Pu.Tok) (w : World) (h : Rd w R l 0) (hM : MdM w M B R m) (hBR : B ≤ R) (hl : Pu.Fit l) (hk : ∀ t, t ∈ l → t.kind ≠ 0) (hu : m.uses.length ≤ 1000000) (ht : m.types.length ≤ 1000000) (hf : m.funcs.length ≤ 1000000) :
    Calls Tryz.prog 38 #[.pointer (some ⟨R, 0, none⟩), .pointer (some ⟨M, 0, none⟩)] w (LinePost M B R w (Pu.pLine m l)) := by
  cases l with
  | nil => exact line_nil R M B m w h hM hBR
  | cons t l =>
    obtain ⟨tk, tx⟩ := t
    have h0 : tk ≠ 0 := hk ⟨tk, tx⟩ (by simp)
    have hl' : Pu.Fit l := hl.suf (List.suffix_cons _ _)
    by_cases h1 : tk = 1
    · have e : Pu.pLine m (⟨tk, tx⟩ :: l) = if tx = Pu.wUse then Pu.ended (Pu.pName l) fun nm => { m with uses := m.uses ++ [nm] } else if tx = Pu.wType then Pu.ended (Pu.pType l) fun f => { m with types := m.types ++ [f] }
          else if tx = Pu.wFunc then Pu.ended (Pu.pFun l) fun f => { m with funcs := m.funcs ++ [f] } else .error 4 := by
        show (if tk ≠ 1 then _ else _) = _
        rw [if_neg (by simpa using h1)]
      rw [e]
      by_cases h2 : tx = Pu.wUse
      · rw [if_pos h2]; exact line_use R M B m tk tx l w h hM hBR hl' h1 h2 hu
      · rw [if_neg h2]
        by_cases h3 : tx = Pu.wType
        · rw [if_pos h3]; exact line_type R M B m tk tx l w h hM hBR h1 h3 ht
        · rw [if_neg h3]
          by_cases h4 : tx = Pu.wFunc
          · rw [if_pos h4]; exact line_func R M B m tk tx l w h hM hBR hl' h1 h4 hf
          · rw [if_neg h4]; exact line_other R M B m tk tx l w h hM hBR h1 h2 h3 h4
    · have e : Pu.pLine m (⟨tk, tx⟩ :: l) = .error 4 := by
        show (if tk ≠ 1 then _ else _) = _
        rw [if_pos h1]
      rw [e]
      exact line_kind R M B m tk tx l w h hM hBR h0 h1
end Go.Proofs.YtpfgjiapdepdmaaGreatDoor
