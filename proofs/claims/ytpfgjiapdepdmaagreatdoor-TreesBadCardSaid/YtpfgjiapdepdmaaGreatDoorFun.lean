/- The walk of the reader's fun. -/
import Derived.Test.YtpfgjiapdepdmaaGreatDoorFields
import Derived.Test.YtpfgjiapdepdmaaGreatDoorFunLaw
namespace Go.Proofs.YtpfgjiapdepdmaaGreatDoor
open Go.RowKit Go.Shelf

abbrev zeroFn : Array Value := #[.string ⟨#[]⟩, .string ⟨#[]⟩, .slice none 0 0, .int .i64 0, .string ⟨#[]⟩, .string ⟨#[]⟩, .slice none 0 0, .int .i64 0, .int .i64 0, .string ⟨#[]⟩, .string ⟨#[]⟩, .slice none 0 0]
abbrev openFn (nm vr : List UInt8) (v : Value) : Array Value := #[.string ⟨nm.toArray⟩, .string ⟨vr.toArray⟩, v, .int .i64 0, .string ⟨#[]⟩, .string ⟨#[]⟩, .slice none 0 0, .int .i64 0, .int .i64 0, .string ⟨#[]⟩, .string ⟨#[]⟩, .slice none 0 0]
/-- the state behind the head: the function's block -/
structure FunSt (R : Nat) (d : Int) (w : World) (X : Nat) (nm vr : List UInt8) (l' : List Pu.Tok) (W : World) : Prop where
  rd : Rd W R l' d
  grown : w.grownBy W (some R)
  res : Blk W w.heap.size 55 zeroFn
  fn : Blk W X 55 (openFn nm vr (.slice none 0 0))
  lt : w.heap.size < X
theorem FunSt.later {R : Nat} {d : Int} {w W W' : World} {X : Nat} {nm vr : List UInt8} {l' l2 : List Pu.Tok} (h : FunSt R d w X nm vr l' W) (hR : R < w.heap.size) (hg : W.grownBy W' (some R)) (hr : Rd W' R l2 d) : FunSt R d w X nm vr l2 W' := by
  obtain ⟨_, h2, h3, h4, h5⟩ := h
  exact ⟨hr, only_trans h2 hg, h3.grown hg (by intro e; injection e; omega), h4.grown hg (by intro e; injection e; omega), h5⟩
theorem FunSt.setVar {R : Nat} {d : Int} {w W : World} {X : Nat} {nm : List UInt8} {l' : List Pu.Tok} (h : FunSt R d w X nm [] l' W) (hR : R < w.heap.size) (vr : List UInt8) : FunSt R d w X nm vr l' (W.setCell ⟨X, 1, none⟩ (.string ⟨vr.toArray⟩)) := by
  obtain ⟨h1, h2, h3, h4, h5⟩ := h
  exact ⟨h1.newer (p := ⟨X, 1, none⟩) (by simp; omega) _, only_setCell h2 (.inr (by simp; omega)) _, h3.far (p := ⟨X, 1, none⟩) (by simp; omega) _, h4.set_ 1 _, h5⟩
/-- what a reader of a function does -/
def FunPost (R : Nat) (d : Int) (w : World) (r : Pu.PR Pu.Fn) (e : Ending) (w' : World) : Prop := match r with
  | .ok (f, l') => (∃ cs, e = .returned (.agg cs.toArray) ∧ FnC w' (New w.heap.size) f cs) ∧ Rd w' R l' d ∧ w.grownBy w' (some R)
  | .error k => FaultP R w k e w'
/-- the loop's state -/
structure FunLo (R : Nat) (d : Int) (w : World) (X : Nat) (nm vr : List UInt8) (ps : List Pu.Fd) (l' : List Pu.Tok) (W : World) : Prop where
  rd : Rd W R l' d
  grown : w.grownBy W (some R)
  res : Blk W w.heap.size 55 zeroFn
  lt : w.heap.size < X
  fn : ∃ v, Blk W X 55 (openFn nm vr v) ∧ OwnF W (X + 1) (NewBut (w.heap.size + 1) X) v ps
/-- stores, one behind the other -/
def puts (w : World) (ps : List (Addr × Value)) : World := ps.foldl (fun w p => w.setCell p.1 p.2) w
theorem Rd.puts {R : Nat} {l : List Pu.Tok} {d : Int} : ∀ (ps : List (Addr × Value)) {w : World}, Rd w R l d → (∀ p, p ∈ ps → R < p.1.block) → Rd (puts w ps) R l d
  | [], _, h, _ => h
  | p :: ps, _, h, hp => Rd.puts ps (h.newer (hp p (by simp)) p.2) (fun q hq => hp q (by simp [hq]))
theorem grown_puts {a : World} {R : Nat} : ∀ (ps : List (Addr × Value)) {w : World}, a.grownBy w (some R) → (∀ p, p ∈ ps → a.heap.size ≤ p.1.block) → a.grownBy (puts w ps) (some R)
  | [], _, h, _ => h
  | p :: ps, _, h, hp => grown_puts ps (only_setCell h (.inr (hp p (by simp))) p.2) (fun q hq => hp q (by simp [hq]))
theorem size_puts : ∀ (ps : List (Addr × Value)) (w : World), (puts w ps).heap.size = w.heap.size
  | [], _ => rfl
  | p :: ps, w => (size_puts ps (w.setCell p.1 p.2)).trans (by simp [World.setCell])
theorem heap_puts (b : Nat) : ∀ (ps : List (Addr × Value)) (w : World), (∀ p, p ∈ ps → p.1.block ≠ b) → (puts w ps).heap[b]? = w.heap[b]?
  | [], _, _ => rfl
  | p :: ps, w, hp => (heap_puts b ps (w.setCell p.1 p.2) (fun q hq => hp q (by simp [hq]))).trans (Below.heap_setCell w p.1 p.2 b (fun e => hp p (by simp) e.symm))
/-- a return with the function in the result's block -/
theorem fn_ret {R : Nat} {w W : World} {X wcs wfs : Nat} {nm vr : List UInt8} {ps : List Pu.Fd} {ty : Pu.Ty} {ex : Pu.Ex} {l' : List Pu.Tok} {tmps : Array Value} {v : Value} {k0 k1 n1 : Int} {of0 nm0 of1 s1 : ByteArray} {A0 A1 : Option Addr} {m0 c0 m1 c1 : Nat}
    (htmp : tmps.getD 2 undef = .pointer (some ⟨w.heap.size, 0, none⟩)) (hR : R < w.heap.size) (hXw : w.heap.size < X) (hwc : X < wcs) (hwf : X < wfs)
    (hr : Rd W R l' 0) (hg : w.grownBy W (some R)) (hres : Blk W w.heap.size 55 zeroFn) (hown : OwnF W (X + 1) (NewBut (w.heap.size + 1) X) v ps)
    (hty : TyC W (New wcs) ty [.int .i64 k0, .string of0, .string nm0, .slice A0 m0 c0]) (hex : ExC W (New wfs) ex [.int .i64 k1, .int .i64 n1, .string of1, .string s1, .slice A1 m1 c1]) :
    bodyPost Tryz.prog Tryz.f67 (FunPost R 0 w (.ok (⟨nm, vr, ps, ty, ex⟩, l'))) Exit.ret { tmps := tmps, defers := [] }
      (puts W [(⟨X, 7, none⟩, .int .i64 k1), (⟨X, 8, none⟩, .int .i64 n1), (⟨X, 9, none⟩, .string of1), (⟨X, 10, none⟩, .string s1), (⟨X, 11, none⟩, .slice A1 m1 c1),
        (⟨w.heap.size, 0, none⟩, .string ⟨nm.toArray⟩), (⟨w.heap.size, 1, none⟩, .string ⟨vr.toArray⟩), (⟨w.heap.size, 2, none⟩, v), (⟨w.heap.size, 3, none⟩, .int .i64 k0), (⟨w.heap.size, 4, none⟩, .string of0), (⟨w.heap.size, 5, none⟩, .string nm0), (⟨w.heap.size, 6, none⟩, .slice A0 m0 c0),
        (⟨w.heap.size, 7, none⟩, .int .i64 k1), (⟨w.heap.size, 8, none⟩, .int .i64 n1), (⟨w.heap.size, 9, none⟩, .string of1), (⟨w.heap.size, 10, none⟩, .string s1), (⟨w.heap.size, 11, none⟩, .slice A1 m1 c1)]) := by
  obtain ⟨l, hl⟩ : ∃ l : List (Addr × Value), l = [(⟨X, 7, none⟩, .int .i64 k1), (⟨X, 8, none⟩, .int .i64 n1), (⟨X, 9, none⟩, .string of1), (⟨X, 10, none⟩, .string s1), (⟨X, 11, none⟩, .slice A1 m1 c1),
        (⟨w.heap.size, 0, none⟩, .string ⟨nm.toArray⟩), (⟨w.heap.size, 1, none⟩, .string ⟨vr.toArray⟩), (⟨w.heap.size, 2, none⟩, v), (⟨w.heap.size, 3, none⟩, .int .i64 k0), (⟨w.heap.size, 4, none⟩, .string of0), (⟨w.heap.size, 5, none⟩, .string nm0), (⟨w.heap.size, 6, none⟩, .slice A0 m0 c0),
        (⟨w.heap.size, 7, none⟩, .int .i64 k1), (⟨w.heap.size, 8, none⟩, .int .i64 n1), (⟨w.heap.size, 9, none⟩, .string of1), (⟨w.heap.size, 10, none⟩, .string s1), (⟨w.heap.size, 11, none⟩, .slice A1 m1 c1)] := ⟨_, rfl⟩
  have hb : ∀ p, p ∈ l → p.1.block = X ∨ p.1.block = w.heap.size := by
    intro p hp
    rw [hl] at hp
    simp only [List.mem_cons, List.not_mem_nil, or_false] at hp
    rcases hp with rfl | rfl | rfl | rfl | rfl | rfl | rfl | rfl | rfl | rfl | rfl | rfl | rfl | rfl | rfl | rfl | rfl <;> simp
  have hne : w.heap.size ≠ X := by omega
  have hblk : Blk (puts W l) w.heap.size 55 #[.string ⟨nm.toArray⟩, .string ⟨vr.toArray⟩, v, .int .i64 k0, .string of0, .string nm0, .slice A0 m0 c0, .int .i64 k1, .int .i64 n1, .string of1, .string s1, .slice A1 m1 c1] := by
    rw [hl]
    have h0 := ((((hres.far (p := ⟨X, 7, none⟩) hne (.int .i64 k1)).far (p := ⟨X, 8, none⟩) hne (.int .i64 n1)).far (p := ⟨X, 9, none⟩) hne (.string of1)).far (p := ⟨X, 10, none⟩) hne (.string s1)).far (p := ⟨X, 11, none⟩) hne (.slice A1 m1 c1)
    have h1 := (((((((((((h0.set_ 0 (.string ⟨nm.toArray⟩)).set_ 1 (.string ⟨vr.toArray⟩)).set_ 2 v).set_ 3 (.int .i64 k0)).set_ 4 (.string of0)).set_ 5 (.string nm0)).set_ 6 (.slice A0 m0 c0)).set_ 7 (.int .i64 k1)).set_ 8 (.int .i64 n1)).set_ 9 (.string of1)).set_ 10 (.string s1)).set_ 11 (.slice A1 m1 c1)
    simp only [List.setIfInBounds_toArray, List.set_cons_zero, List.set_cons_succ] at h1
    exact h1
  rw [← hl]
  have hh : ∀ b, b ≠ X → b ≠ w.heap.size → (puts W l).heap[b]? = W.heap[b]? := fun b h1 h2 => heap_puts b l W (fun p hp e => by rcases hb p hp with h | h <;> omega)
  have hsz := size_puts l W
  have e1 : Rd (puts W l) R l' 0 := hr.puts l (fun p hp => by rcases hb p hp with h | h <;> omega)
  have e2 := grown_puts l hg (fun p hp => by rcases hb p hp with h | h <;> omega)
  have e3 := (hown.toFds (fun g hgo => by have := hown.lt g hgo; exact ⟨by omega, by omega⟩)).keep (w' := puts W l) (S' := New w.heap.size) (by omega) (fun b hs _ => ⟨hh b hs.2 (by have := hs.1; omega), by unfold New; have := hs.1; omega⟩)
  have e4 := hty.keep (w' := puts W l) (S' := New w.heap.size) (by omega) (fun b hs _ => by unfold New at hs ⊢; exact ⟨hh b (by omega) (by omega), by omega⟩)
  have e5 := hex.keep (w' := puts W l) (S' := New w.heap.size) (by omega) (fun b hs _ => by unfold New at hs ⊢; exact ⟨hh b (by omega) (by omega), by omega⟩)
  refine bodyPost_ret (v := .agg _) (results_cell_row Tryz.results67 _ _ w.heap.size 55 _ (0, 0) _ htmp hblk Tryz.underlying55 rfl (by kernel_rfl)) rfl ?_
  exact ⟨⟨_, rfl, v, _, _, rfl, e3, e4, e5⟩, e1, e2⟩
theorem FunSt.loop {R : Nat} {d : Int} {w W : World} {X : Nat} {nm vr : List UInt8} {l' : List Pu.Tok} (h : FunSt R d w X nm vr l' W) : FunLo R d w X nm vr [] l' W := by
  obtain ⟨h1, h2, h3, h4, h5⟩ := h
  exact ⟨h1, h2, h3, h5, _, h4, OwnF.nil _ _ _⟩
theorem FunLo.later {R : Nat} {d : Int} {w W W' : World} {X : Nat} {nm vr : List UInt8} {ps : List Pu.Fd} {l' l2 : List Pu.Tok} (h : FunLo R d w X nm vr ps l' W) (hR : R < w.heap.size) (hg : W.grownBy W' (some R)) (hr : Rd W' R l2 d) : FunLo R d w X nm vr ps l2 W' := by
  obtain ⟨_, h2, h3, h5, v, h4, h6⟩ := h
  exact ⟨hr, only_trans h2 hg, h3.grown hg (by intro e; injection e; omega), h5, v, h4.grown hg (by intro e; injection e; omega), h6.later hg (by omega) (fun h => by unfold NewBut at h; omega)⟩

theorem grown_own {a b c : World} {row r : Option Nat} (h : a.grownBy b row) (k : b.grownBy c r) (hr : ∀ g, r = some g → a.heap.size ≤ g) : a.grownBy c row := by
  cases r with
  | none => exact only_trans h (only_widen k row)
  | some g => exact only_new h k (hr g rfl)
/-- a parameter more: the row has it, the function's block has the row -/
theorem FunLo.push {R : Nat} {w : World} {X : Nat} {nm vr : List UInt8} {ps : List Pu.Fd} {f : Pu.Fd} {lf : List Pu.Tok} {wg w' : World} {v v' : Value} (hR : R < w.heap.size) (hX : w.heap.size < X) (hrg : Rd wg R lf 0) (hgrg : w.grownBy wg (some R))
    (hresg : Blk wg w.heap.size 55 zeroFn) (hFg : Blk wg X 55 (openFn nm vr v)) (hXv : ∀ g, v.ownBlock = some g → X < g) (hown' : OwnF w' (X + 1) (NewBut (w.heap.size + 1) X) v' (ps ++ [f])) (hb' : Below (X + 1) wg w')
    (hgb' : wg.grownBy w' v.ownBlock) (hob' : v'.ownBlock = v.ownBlock ∨ v'.ownBlock = some (wg.heap.size + 1)) : FunLo R 0 w X nm vr (ps ++ [f]) lf (w'.setCell ⟨X, 2, none⟩ v') := by
  have hlt := hFg.lt
  refine ⟨(hrg.below hb' (by omega)).newer (p := ⟨X, 2, none⟩) (by show R < X; omega) _, only_setCell (grown_own hgrg hgb' (fun g hg => by have := hXv g hg; omega)) (.inr (by simp; omega)) _,
    (hresg.grown hgb' (fun e => by have := hXv _ e.symm; omega)).far (p := ⟨X, 2, none⟩) (Nat.ne_of_lt hX) _, hX, v', ?_, ?_⟩
  · exact (hFg.grown hgb' (fun e => by have := hXv _ e.symm; omega)).set_ 2 v'
  · refine hown'.farS (p := ⟨X, 2, none⟩) ?_ (fun h => h.2 rfl) _
    intro e
    rcases hob' with h | h
    · have := hXv X (h ▸ e); omega
    · have e : v'.ownBlock = some X := e
      rw [h] at e
      have := Option.some.inj e
      omega


set_option maxHeartbeats 8000000 in
theorem fun_any (R : Nat) (l : List Pu.Tok) (w : World) (hl : Pu.Fit l) (h : Rd w R l 0) :
    Calls Tryz.prog 67 #[.pointer (some ⟨R, 0, none⟩)] w (FunPost R 0 w (Pu.pFun l)) := by
  have hlt := h.lt
  have hK : ∀ (l : List Pu.Tok) (W : World), Rd W R l 0 → Calls Tryz.prog 66 #[.pointer (some ⟨R, 0, none⟩)] W (KindPost R 0 W (Pu.pKind 40 l)) := fun l W hr => kind_any 40 (by omega) R l W hr
  have hX : ∀ (l : List Pu.Tok) (W : World), Pu.Fit l → Rd W R l 0 → Calls Tryz.prog 97 #[.pointer (some ⟨R, 0, none⟩)] W (ExprPost R 0 W (Pu.pExpr 40 l)) := fun l W hl hr => expr_any 40 (by omega) R l W hl hr
  obtain ⟨goal, heq⟩ : ∃ g, g = Pu.pFun l := ⟨_, rfl⟩
  rw [← heq]
  unfold Pu.pFun at heq
  obtain ⟨w1, hw1⟩ : ∃ w1, w1 = w.alloc (.cells zeroFn 55) := ⟨_, rfl⟩
  have hr1 : Rd w1 R l 0 := by rw [hw1]; exact h.alloc _
  have hg1 : w.grownBy w1 (some R) := by rw [hw1]; exact only_alloc (only_refl _ _) _
  have hv1 : Blk w1 w.heap.size 55 zeroFn := by rw [hw1]; exact Blk.new w _ _
  have hs1 : w1.heap.size = w.heap.size + 1 := by rw [hw1]; simp
  have hn := name_any R 0 l w1 hr1
  replace hK := Lib.hid hK
  replace hX := Lib.hid hX
  replace hw1 := Lib.hid hw1
  replace hg1 := Lib.hid hg1
  replace hv1 := Lib.hid hv1
  clear h hr1
  cases hp1 : Pu.pName l with
  | error k =>
    rw [hp1] at hn heq
    obtain rfl : goal = .error k := heq
    replace hn := Lib.hid hn
    go_enter Tryz.func67, Tryz.ntmps67
    go_wp2_with fail
    rw [← hw1.out]
    refine hn.out.mono ?_
    rintro e w2 ⟨rfl, hr2, hg2⟩
    go_wp2_with fail
    exact ⟨rfl, rfl, hr2, only_trans hg1.out hg2⟩
  | ok r =>
    obtain ⟨nm, l1⟩ := r
    have hsf1 := Pu.pName_suf hp1
    rw [hp1] at hn
    rw [hp1, Pu.andThen_ok] at heq
    dsimp only at heq
    replace hn := Lib.hid hn
    replace heq := Lib.hid heq
    have hnot : ∀ (x : Bool) (w : World), (Op.unary .not (.bool x)).run Tryz.prog w = .ok (.bool (!x)) w := fun _ _ => rfl
    go_enter Tryz.func67, Tryz.ntmps67
    go_wp2_with fail
    rw [← hw1.out]
    refine hn.out.mono ?_
    rintro e w2 ⟨rfl, hr2, hg2⟩
    unfold str
    have hs2 := hg2.size
    obtain ⟨X, hXe⟩ : ∃ X, X = w2.heap.size := ⟨_, rfl⟩
    obtain ⟨w3, hw3⟩ : ∃ w3, w3 = w2.alloc (.cells (openFn nm [] (.slice none 0 0)) 55) := ⟨_, rfl⟩
    have hst : FunSt R 0 w X nm [] l1 w3 := by
      rw [hw3]
      refine ⟨hr2.alloc _, only_alloc (only_trans hg1.out hg2) _, (hv1.out.grown hg2 (by intro e; injection e; omega)).alloc _, by rw [hXe]; exact Blk.new _ _ _, by omega⟩
    have hXw : w.heap.size < X := by omega
    have ht60 := take_any R 60 0 l1 w3 hst.rd
    replace hst := Lib.hid hst
    replace ht60 := Lib.hid ht60
    replace hw3 := Lib.hid hw3
    clear hn hr2
    go_wp2_with fail
    rw [← hw3.out, ← hXe]
    clear hs2
    replace hXe := Lib.hid hXe
    refine ht60.out.mono ?_
    cases htk : Pu.take 60 l1 with
    | none =>
      rintro e w4 ⟨rfl, rfl⟩
      have heq2 := heq.out
      rw [show Pu.pVar l1 = .ok ([], l1) by unfold Pu.pVar; rw [htk], Pu.andThen_ok] at heq2
      dsimp only at heq2
      clear heq
      replace heq2 := Lib.hid heq2
      have hsufT : l1 <:+ l := hsf1
      have hm40 := must_any R 40 0 l1 w3 hst.out.rd
      go_wp2_with fail
      cases hM40 : Pu.must 40 l1 with
      | error k =>
        rw [hM40] at hm40
        have heq3 := heq2.out
        rw [hM40] at heq3
        obtain rfl : goal = .error k := heq3
        refine hm40.mono ?_
        rintro e wa ⟨rfl, rfl⟩
        go_wp2_with fail
        exact ⟨rfl, rfl, ⟨_, _, hst.out.rd⟩, hst.out.grown⟩
      | ok la =>
        rw [hM40] at hm40
        have heq3 := heq2.out
        rw [hM40, Pu.andThen_ok] at heq3
        obtain ⟨cont, hcont⟩ : ∃ c, c = fun ps : List Pu.Fd × List Pu.Tok => Pu.andThen (Pu.must 58 ps.2) fun l5 => Pu.andThen (Pu.pKind 40 l5) fun t => Pu.andThen (Pu.must 61 t.2) fun l7 =>
          Pu.andThen (Pu.pExpr 40 l7) fun x => (.ok (⟨nm, [], ps.1, t.1, x.1⟩, x.2) : Pu.PR Pu.Fn) := ⟨_, rfl⟩
        rw [← hcont] at heq3
        replace heq3 := Lib.hid heq3
        replace hcont := Lib.hid hcont
        have hsfa := (Pu.must_suf hM40).trans hsufT
        replace hm40 := Lib.hid hm40
        clear heq2
        refine hm40.out.mono ?_
        rintro e wa ⟨rfl, hra, hga⟩
        have hlo := (hst.out.later hlt hga hra).loop
        have hlna : la.length ≤ 1000 := Nat.le_trans hsfa.length_le hl.1
        replace hlo := Lib.hid hlo
        clear hra hm40
        go_wp2_with fail
        go_loopw [] (fun wi => ∃ (ps : List Pu.Fd) (l' : List Pu.Tok), FunLo R 0 w X nm [] ps l' wi ∧ l' <:+ l ∧ ps.length + l'.length ≤ 1000 ∧ goal = Pu.andThen (Pu.pParams (l'.length + 1) ps l') cont) (fun wi => tokLeft wi R)
        case atStart => exact ⟨[], la, hlo.out, hsfa, by simpa using hlna, heq3.out⟩
        case round =>
          obtain ⟨ps, l', hL, hsf, hln, heq⟩ := hrel
          have htl := hL.rd.left
          have ht41 := take_any R 41 0 l' wr hL.rd
          replace ht41 := Lib.hid ht41
          cases htk41 : Pu.take 41 l' with
          | some lb =>
            rw [htk41] at ht41
            rw [Pu.pParams_some ps l' lb htk41, Pu.andThen_ok, hcont.out] at heq
            dsimp only at heq
            replace heq := Lib.hid heq
            replace hL := Lib.hid hL
            go_wp2_with fail
            refine ht41.out.mono ?_
            rintro e wb ⟨rfl, hrb, hgb⟩
            have hLb := hL.out.later hlt hgb hrb
            have hsfb := (Pu.take_suf htk41).trans hsf
            have hm58 := must_any R 58 0 lb wb hrb
            replace hLb := Lib.hid hLb
            clear hrb
            go_wp2_with fail
            cases hM58 : Pu.must 58 lb with
            | error k =>
              rw [hM58] at hm58
              have heq3 := heq.out
              rw [hM58] at heq3
              obtain rfl : goal = .error k := heq3
              refine hm58.mono ?_
              rintro e wc ⟨rfl, rfl⟩
              go_wp2_with fail
              exact ⟨rfl, rfl, ⟨_, _, hLb.out.rd⟩, hLb.out.grown⟩
            | ok lc =>
              rw [hM58] at hm58
              have heq3 := heq.out
              rw [hM58, Pu.andThen_ok] at heq3
              have hsfc := (Pu.must_suf hM58).trans hsfb
              replace heq3 := Lib.hid heq3
              replace hm58 := Lib.hid hm58
              clear heq hL
              refine hm58.out.mono ?_
              rintro e wc ⟨rfl, hrc, hgc⟩
              have hLc := hLb.out.later hlt hgc hrc
              have hkd := hK.out lc wc hrc
              replace hLc := Lib.hid hLc
              clear hrc
              go_wp2_with fail
              cases hk1 : Pu.pKind 40 lc with
              | error k =>
                rw [hk1] at hkd
                have heq4 := heq3.out
                rw [hk1] at heq4
                obtain rfl : goal = .error k := heq4
                refine hkd.mono ?_
                rintro e wd ⟨rfl, hrd, hgd⟩
                go_wp2_with fail
                exact ⟨rfl, rfl, hrd, only_trans hLc.out.grown hgd⟩
              | ok rk =>
                obtain ⟨ty, ld⟩ := rk
                rw [hk1] at hkd
                have heq4 := heq3.out
                rw [hk1, Pu.andThen_ok] at heq4
                dsimp only at heq4
                have hsfd := (Pu.pKind_eats 40 lc ty ld hk1).trans hsfc
                replace heq4 := Lib.hid heq4
                replace hkd := Lib.hid hkd
                clear heq3
                refine hkd.out.mono ?_
                rintro e wd ⟨⟨tcs, rfl, hty⟩, hrd, hgd⟩
                have hLd := hLc.out.later hlt hgd hrd
                have hsc := hLc.out.grown.size
                have hsd := hgd.size
                obtain ⟨_, hgrd, hresd, _, v, hFd, hownd⟩ := hLd
                obtain ⟨vA, vc, hv⟩ := hownd.len
                obtain ⟨k0, of0, nm0, A0, m0, c0, rfl⟩ := hty.form
                have hownlt := hownd.lt
                have hXn : ¬ NewBut (w.heap.size + 1) X X := fun h => h.2 rfl
                have hXv : v.ownBlock ≠ some X := fun e => by have := hownlt X e; omega
                have hXc : X < wc.heap.size := by
                  obtain ⟨_, _, _, _, v2, hF2, _⟩ := hLc.out
                  exact hF2.lt
                have f3 := hFd.frozen 3
                have f4 := hFd.frozen 4
                have f5 := hFd.frozen 5
                have f6 := hFd.frozen 6
                have q3 := hFd.cell 3
                have q4 := hFd.cell 4
                have q5 := hFd.cell 5
                have q6 := hFd.cell 6
                have hltF := hFd.lt
                obtain ⟨we, hwe⟩ : ∃ we, we = (((wd.setCell ⟨X, 3, none⟩ (.int .i64 k0)).setCell ⟨X, 4, none⟩ (.string of0)).setCell ⟨X, 5, none⟩ (.string nm0)).setCell ⟨X, 6, none⟩ (.slice A0 m0 c0) := ⟨_, rfl⟩
                have hre : Rd we R ld 0 := by
                  rw [hwe]
                  exact (((hrd.newer (p := ⟨X, 3, none⟩) (by simp; omega) _).newer (p := ⟨X, 4, none⟩) (by simp; omega) _).newer (p := ⟨X, 5, none⟩) (by simp; omega) _).newer (p := ⟨X, 6, none⟩) (by simp; omega) _
                have hge : w.grownBy we (some R) := by
                  rw [hwe]
                  exact only_setCell (only_setCell (only_setCell (only_setCell hgrd (.inr (by simp; omega)) _) (.inr (by simp; omega)) _) (.inr (by simp; omega)) _) (.inr (by simp; omega)) _
                have hrese : Blk we w.heap.size 55 zeroFn := by
                  rw [hwe]
                  exact (((hresd.far (p := ⟨X, 3, none⟩) (by simp; omega) _).far (p := ⟨X, 4, none⟩) (by simp; omega) _).far (p := ⟨X, 5, none⟩) (by simp; omega) _).far (p := ⟨X, 6, none⟩) (by simp; omega) _
                have hFe : Blk we X 55 #[.string ⟨nm.toArray⟩, .string ⟨([] : List UInt8).toArray⟩, v, .int .i64 k0, .string of0, .string nm0, .slice A0 m0 c0, .int .i64 0, .int .i64 0, .string ⟨#[]⟩, .string ⟨#[]⟩, .slice none 0 0] := by
                  rw [hwe]
                  exact (((hFd.set_ 3 _).set_ 4 _).set_ 5 _).set_ 6 _
                have howne : OwnF we (X + 1) (NewBut (w.heap.size + 1) X) v ps := by
                  rw [hwe]
                  exact (((hownd.farS (p := ⟨X, 3, none⟩) hXv hXn _).farS (p := ⟨X, 4, none⟩) hXv hXn _).farS (p := ⟨X, 5, none⟩) hXv hXn _).farS (p := ⟨X, 6, none⟩) hXv hXn _
                have htye : TyC we (New wc.heap.size) ty [.int .i64 k0, .string of0, .string nm0, .slice A0 m0 c0] := by
                  rw [hwe]
                  exact (((hty.far (p := ⟨X, 3, none⟩) hXc _).far (p := ⟨X, 4, none⟩) hXc _).far (p := ⟨X, 5, none⟩) hXc _).far (p := ⟨X, 6, none⟩) hXc _
                have hm61 := must_any R 61 0 ld we hre
                replace hre := Lib.hid hre
                replace hge := Lib.hid hge
                replace hrese := Lib.hid hrese
                replace hFe := Lib.hid hFe
                replace howne := Lib.hid howne
                replace htye := Lib.hid htye
                replace hwe := Lib.hid hwe
                replace hFd := Lib.hid hFd
                replace hresd := Lib.hid hresd
                replace hownd := Lib.hid hownd
                replace hty := Lib.hid hty
                subst hv
                clear hrd hLc
                go_wp2_with fail
                rw [← hwe.out]
                clear f3 f4 f5 f6 q3 q4 q5 q6
                cases hM61 : Pu.must 61 ld with
                | error k =>
                  rw [hM61] at hm61
                  have heq5 := heq4.out
                  rw [hM61] at heq5
                  obtain rfl : goal = .error k := heq5
                  refine hm61.mono ?_
                  rintro e wf ⟨rfl, rfl⟩
                  go_wp2_with fail
                  exact ⟨rfl, rfl, ⟨_, _, hre.out⟩, hge.out⟩
                | ok le =>
                  rw [hM61] at hm61
                  have heq5 := heq4.out
                  rw [hM61, Pu.andThen_ok] at heq5
                  have hsfe := (Pu.must_suf hM61).trans hsfd
                  replace heq5 := Lib.hid heq5
                  replace hm61 := Lib.hid hm61
                  clear heq4
                  refine hm61.out.mono ?_
                  rintro e wf ⟨rfl, hrf, hgf⟩
                  have hxf := hX.out le wf (hl.suf hsfe) hrf
                  have hgf0 := only_trans hge.out hgf
                  have hresf := hrese.out.grown hgf (by intro e; injection e; omega)
                  have hFf := hFe.out.grown hgf (by intro e; injection e; omega)
                  have hownf := howne.out.later hgf (by omega) (fun h => by unfold NewBut at h; omega)
                  have htyf := htye.out.later hgf (by have := hgd.size; omega)
                  have hRX : R < X := by omega
                  have hXf := hFf.lt
                  replace hgf0 := Lib.hid hgf0
                  replace hresf := Lib.hid hresf
                  replace hFf := Lib.hid hFf
                  replace hownf := Lib.hid hownf
                  replace htyf := Lib.hid htyf
                  replace hownlt := Lib.hid hownlt
                  clear hrf
                  go_wp2_with fail
                  cases hx1 : Pu.pExpr 40 le with
                  | error k =>
                    rw [hx1] at hxf
                    have heq6 := heq5.out
                    rw [hx1] at heq6
                    obtain rfl : goal = .error k := heq6
                    refine hxf.mono ?_
                    rintro e wg ⟨rfl, hrg, hgg⟩
                    go_wp2_with fail
                    exact ⟨rfl, rfl, hrg, only_trans hgf0.out hgg⟩
                  | ok rx =>
                    obtain ⟨ex, lf⟩ := rx
                    rw [hx1] at hxf
                    have heq6 := heq5.out
                    rw [hx1, Pu.andThen_ok] at heq6
                    dsimp only at heq6
                    replace heq6 := Lib.hid heq6
                    replace hxf := Lib.hid hxf
                    clear heq5
                    refine hxf.out.mono ?_
                    rintro e wg ⟨⟨xcs, rfl, hex⟩, hrg, hgg⟩
                    obtain ⟨k1, n1, of1, s1, A1, m1, c1, rfl⟩ := hex.form
                    have hgg0 := only_trans hgf0.out hgg
                    have hresg := hresf.out.grown hgg (by intro e; injection e; omega)
                    have hFg := hFf.out.grown hgg (by intro e; injection e; omega)
                    have howng := hownf.out.later hgg (by omega) (fun h => by unfold NewBut at h; omega)
                    have htyg := htyf.out.later hgg (by omega)
                    have f7 := hFg.frozen 7
                    have f8 := hFg.frozen 8
                    have f9 := hFg.frozen 9
                    have f10 := hFg.frozen 10
                    have f11 := hFg.frozen 11
                    have q0 := hFg.cell 0
                    have q1 := hFg.cell 1
                    have q2 := hFg.cell 2
                    have q3 := hFg.cell 3
                    have q4 := hFg.cell 4
                    have q5 := hFg.cell 5
                    have q6 := hFg.cell 6
                    have q7 := hFg.cell 7
                    have q8 := hFg.cell 8
                    have q9 := hFg.cell 9
                    have q10 := hFg.cell 10
                    have q11 := hFg.cell 11
                    have hltFg := hFg.lt
                    have hltVg := hresg.lt
                    have hVX : w.heap.size ≠ X := by omega
                    have p0 := hresg.frozen 0
                    have p1 := hresg.frozen 1
                    have p2 := hresg.frozen 2
                    have p3 := hresg.frozen 3
                    have p4 := hresg.frozen 4
                    have p5 := hresg.frozen 5
                    have p6 := hresg.frozen 6
                    have p7 := hresg.frozen 7
                    have p8 := hresg.frozen 8
                    have p9 := hresg.frozen 9
                    have p10 := hresg.frozen 10
                    have p11 := hresg.frozen 11
                    have r0 := hresg.cell 0
                    have r1 := hresg.cell 1
                    have r2 := hresg.cell 2
                    have r3 := hresg.cell 3
                    have r4 := hresg.cell 4
                    have r5 := hresg.cell 5
                    have r6 := hresg.cell 6
                    have r7 := hresg.cell 7
                    have r8 := hresg.cell 8
                    have r9 := hresg.cell 9
                    have r10 := hresg.cell 10
                    have r11 := hresg.cell 11
                    replace hgg0 := Lib.hid hgg0
                    replace hresg := Lib.hid hresg
                    replace hFg := Lib.hid hFg
                    replace howng := Lib.hid howng
                    replace htyg := Lib.hid htyg
                    replace hex := Lib.hid hex
                    replace hrg := Lib.hid hrg
                    go_wp2_with fail
                    rw [heq6.out]
                    exact fn_ret (by rfl) hlt hXw hXc hXf hrg.out hgg0.out hresg.out howng.out htyg.out hex.out
          | none =>
            rw [htk41] at ht41
            rw [Pu.pParams_none ps l' htk41, Pu.andThen_assoc] at heq
            replace heq := Lib.hid heq
            obtain ⟨_, hgrL, _, _, v, hFL, hownL⟩ := hL
            obtain ⟨vA, vc, hv⟩ := hownL.len
            have qv := hFL.cell 2
            have hltF := hFL.lt
            rw [hv] at qv
            have hL2 : FunLo R 0 w X nm [] ps l' wr := ⟨‹_›, hgrL, ‹_›, ‹_›, v, hFL, hownL⟩
            replace hL2 := Lib.hid hL2
            replace hFL := Lib.hid hFL
            replace hownL := Lib.hid hownL
            replace hv := Lib.hid hv
            go_wp2_with fail
            refine ht41.out.mono ?_
            rintro e wb ⟨rfl, rfl⟩
            rcases Nat.eq_zero_or_pos ps.length with hps | hps
            · obtain rfl : ps = [] := List.eq_nil_of_length_eq_zero hps
              have heq2 := heq.out
              rw [show (if ([] : List Pu.Fd).isEmpty then (.ok l' : Except Nat (List Pu.Tok)) else Pu.must 44 l') = .ok l' from rfl, Pu.andThen_ok] at heq2
              replace heq2 := Lib.hid heq2
              clear heq
              have hLx := hL2
              have hsfx := hsf
              have hlx := hln
              go_wp2_with fail
              have hnp := name_any R 0 l' wr hLx.out.rd
              have heq3 := heq2.out
              rw [Pu.andThen_assoc] at heq3
              unfold Pu.pParam at heq3
              rw [Pu.andThen_assoc] at heq3
              cases hpn : Pu.pName l' with
              | error k =>
                rw [hpn] at hnp heq3
                obtain rfl : goal = .error k := heq3
                refine hnp.mono ?_
                rintro e wc ⟨rfl, hrc, hgc⟩
                go_wp2_with fail
                exact ⟨rfl, rfl, hrc, only_trans hLx.out.grown hgc⟩
              | ok rn =>
                obtain ⟨pn, lc⟩ := rn
                rw [hpn] at hnp
                rw [hpn, Pu.andThen_ok, Pu.andThen_assoc] at heq3
                dsimp only at heq3
                have hsfc := (Pu.pName_suf hpn).trans hsfx
                have hlc := Pu.pName_len hpn
                replace heq3 := Lib.hid heq3
                replace hnp := Lib.hid hnp
                clear heq2
                refine hnp.out.mono ?_
                rintro e wc ⟨rfl, hrc, hgc⟩
                unfold str
                have hLc := hLx.out.later hlt hgc hrc
                have hXc : X < wc.heap.size := by
                  obtain ⟨_, _, _, _, v2, hF2, _⟩ := hLc
                  exact hF2.lt
                obtain ⟨P, hP⟩ : ∃ P, P = wc.heap.size := ⟨_, rfl⟩
                obtain ⟨wd, hwd⟩ : ∃ wd, wd = wc.alloc (.cells #[.string ⟨pn.toArray⟩, .int .i64 0, .string ⟨#[]⟩, .string ⟨#[]⟩, .slice none 0 0] 63) := ⟨_, rfl⟩
                have hgd : wc.grownBy wd (some R) := by rw [hwd]; exact only_alloc (only_refl _ _) _
                have hrd : Rd wd R lc 0 := by rw [hwd]; exact hrc.alloc _
                have hLd := hLc.later hlt hgd hrd
                have hPd : Blk wd P 63 #[.string ⟨pn.toArray⟩, .int .i64 0, .string ⟨#[]⟩, .string ⟨#[]⟩, .slice none 0 0] := by rw [hwd, hP]; exact Blk.new _ _ _
                have hXP : X < P := by omega
                have hm58 := must_any R 58 0 lc wd hrd
                replace hwd := Lib.hid hwd
                replace hLd := Lib.hid hLd
                replace hLc := Lib.hid hLc
                replace hPd := Lib.hid hPd
                clear hrc hrd
                go_wp2_with fail
                rw [← hwd.out, ← hP]
                replace hP := Lib.hid hP
                cases hM58 : Pu.must 58 lc with
                | error k =>
                  rw [hM58] at hm58
                  have heq4 := heq3.out
                  rw [hM58] at heq4
                  obtain rfl : goal = .error k := heq4
                  refine hm58.mono ?_
                  rintro e we ⟨rfl, rfl⟩
                  go_wp2_with fail
                  exact ⟨rfl, rfl, ⟨_, _, hLd.out.rd⟩, hLd.out.grown⟩
                | ok ld =>
                  rw [hM58] at hm58
                  have heq4 := heq3.out
                  rw [hM58, Pu.andThen_ok, Pu.andThen_assoc] at heq4
                  have hsfd := (Pu.must_suf hM58).trans hsfc
                  have hld := Pu.must_len hM58
                  replace heq4 := Lib.hid heq4
                  replace hm58 := Lib.hid hm58
                  clear heq3
                  refine hm58.out.mono ?_
                  rintro e we ⟨rfl, hre, hge⟩
                  have hLe := hLd.out.later hlt hge hre
                  have hPe := hPd.out.grown hge (by intro e; injection e; omega)
                  have hkd := hK.out ld we hre
                  replace hLe := Lib.hid hLe
                  replace hPe := Lib.hid hPe
                  clear hre
                  go_wp2_with fail
                  cases hk1 : Pu.pKind 40 ld with
                  | error k =>
                    rw [hk1] at hkd
                    have heq5 := heq4.out
                    rw [hk1] at heq5
                    obtain rfl : goal = .error k := heq5
                    refine hkd.mono ?_
                    rintro e wf ⟨rfl, hrf, hgf⟩
                    go_wp2_with fail
                    exact ⟨rfl, rfl, hrf, only_trans hLe.out.grown hgf⟩
                  | ok rk =>
                    obtain ⟨ty, lf⟩ := rk
                    rw [hk1] at hkd
                    have heq5 := heq4.out
                    rw [hk1, Pu.andThen_ok, Pu.andThen_ok] at heq5
                    dsimp only at heq5
                    have hsff := (Pu.pKind_eats 40 ld ty lf hk1)
                    have hlf := hsff.length_le
                    replace heq5 := Lib.hid heq5
                    replace hkd := Lib.hid hkd
                    clear heq4
                    refine hkd.out.mono ?_
                    rintro e wf ⟨⟨tcs, rfl, hty⟩, hrf, hgf⟩
                    obtain ⟨k0, of0, nm0, A0, m0, c0, rfl⟩ := hty.form
                    obtain ⟨_, hgrc, hresc, _, v2, hFc, hownc⟩ := hLc.out
                    obtain ⟨vA2, vc2, rfl⟩ := hownc.len
                    have hPf := hPe.out.grown hgf (by intro e; injection e; omega)
                    have hse := hge.size
                    have hsf2 := hgf.size
                    have hPlt := hPd.out.lt
                    have hsw := hgrc.size
                    have hwcP : wc.heap.size ≤ P := by rw [hP.out]; exact Nat.le_refl _
                    have hlv := hownc.lt
                    obtain ⟨wg, hwg⟩ : ∃ wg, wg = (((wf.setCell ⟨P, 1, none⟩ (.int .i64 k0)).setCell ⟨P, 2, none⟩ (.string of0)).setCell ⟨P, 3, none⟩ (.string nm0)).setCell ⟨P, 4, none⟩ (.slice A0 m0 c0) := ⟨_, rfl⟩
                    have hcomp : wc.grownBy wg (some R) := by
                      rw [hwg]
                      exact only_setCell (only_setCell (only_setCell (only_setCell (only_trans hgd (only_trans hge hgf)) (.inr hwcP) _) (.inr hwcP) _) (.inr hwcP) _) (.inr hwcP) _
                    have hrg : Rd wg R lf 0 := by
                      rw [hwg]
                      exact (((hrf.newer (p := ⟨P, 1, none⟩) (by simp; omega) _).newer (p := ⟨P, 2, none⟩) (by simp; omega) _).newer (p := ⟨P, 3, none⟩) (by simp; omega) _).newer (p := ⟨P, 4, none⟩) (by simp; omega) _
                    have hgrg := only_trans hgrc hcomp
                    have hresg := hresc.grown hcomp (by intro e; injection e; omega)
                    have hFg := hFc.grown hcomp (by intro e; injection e; omega)
                    have howng := hownc.later hcomp (by omega) (fun h => by unfold NewBut at h; omega)
                    have htyg : TyC wg (New we.heap.size) ty [.int .i64 k0, .string of0, .string nm0, .slice A0 m0 c0] := by
                      rw [hwg]
                      exact (((hty.far (p := ⟨P, 1, none⟩) (by simp; omega) _).far (p := ⟨P, 2, none⟩) (by simp; omega) _).far (p := ⟨P, 3, none⟩) (by simp; omega) _).far (p := ⟨P, 4, none⟩) (by simp; omega) _
                    have hfd : FdC wg (fun b => NewBut (w.heap.size + 1) X b ∧ some b ≠ (Value.slice vA2 ([] : List Pu.Fd).length vc2).ownBlock) ⟨pn, ty⟩ [.string ⟨pn.toArray⟩, .int .i64 k0, .string of0, .string nm0, .slice A0 m0 c0] :=
                      ⟨_, rfl, htyg.keep (Nat.le_refl _) fun b hs _ => ⟨rfl, by unfold New at hs; exact ⟨⟨by omega, by omega⟩, fun e => by have := hlv b e.symm; omega⟩⟩⟩
                    have hsg : wg.heap.size = wf.heap.size := by rw [hwg]; simp [World.setCell]
                    have g1 := hPf.frozen 1
                    have g2 := hPf.frozen 2
                    have g3 := hPf.frozen 3
                    have g4 := hPf.frozen 4
                    have b0 := hPf.cell 0
                    have b1 := hPf.cell 1
                    have b2 := hPf.cell 2
                    have b3 := hPf.cell 3
                    have b4 := hPf.cell 4
                    have hFf := hFc.grown (only_trans hgd (only_trans hge hgf)) (by intro e; injection e; omega)
                    have qf2 := hFf.cell 2
                    have hPltf := hPf.lt
                    have hXltf := hFf.lt
                    have hXPne : X ≠ P := by omega
                    replace hwg := Lib.hid hwg
                    replace hcomp := Lib.hid hcomp
                    replace hrg := Lib.hid hrg
                    replace hgrg := Lib.hid hgrg
                    replace hresg := Lib.hid hresg
                    replace hFg := Lib.hid hFg
                    replace howng := Lib.hid howng
                    replace htyg := Lib.hid htyg
                    replace hfd := Lib.hid hfd
                    replace hFf := Lib.hid hFf
                    replace hPf := Lib.hid hPf
                    replace hownc := Lib.hid hownc
                    replace hFc := Lib.hid hFc
                    replace hresc := Lib.hid hresc
                    replace hty := Lib.hid hty
                    replace hlv := Lib.hid hlv
                    clear hrf
                    have hwgs : (wg.alloc (.cells [.string ⟨pn.toArray⟩, .int .i64 k0, .string of0, .string nm0, .slice A0 m0 c0].toArray 63)) = ((((wf.setCell ⟨P, 1, none⟩ (.int .i64 k0)).setCell ⟨P, 2, none⟩ (.string of0)).setCell ⟨P, 3, none⟩ (.string nm0)).setCell ⟨P, 4, none⟩ (.slice A0 m0 c0)).alloc (.cells #[.string ⟨pn.toArray⟩, .int .i64 k0, .string of0, .string nm0, .slice A0 m0 c0] 63) := by rw [hwg.out]
                    replace hwgs := Lib.hid hwgs
                    have hPg : Blk wg P 63 #[.string ⟨pn.toArray⟩, .int .i64 k0, .string of0, .string nm0, .slice A0 m0 c0] := by
                      rw [hwg.out]
                      exact (((hPf.out.set_ 1 _).set_ 2 _).set_ 3 _).set_ 4 _
                    go_upto_region 12 with (fail)
                    rw [← hwg.out]
                    clear g1 g2 g3 g4 b0 b1 b2 b3 b4 qf2
                    have b0 := hPg.cell 0
                    have b1 := hPg.cell 1
                    have b2 := hPg.cell 2
                    have b3 := hPg.cell 3
                    have b4 := hPg.cell 4
                    have x2 := hFg.out.cell 2
                    simp only [List.getElem?_toArray, List.getElem?_cons_zero, List.getElem?_cons_succ] at b0 b1 b2 b3 b4 x2
                    have hXg := hFg.out.lt
                    have hln1 : ([] : List Pu.Fd).length ≤ 1000000 := by omega
                    have hBg : X + 1 ≤ wg.heap.size := by omega
                    have hXv2 : ∀ g, (Value.slice vA2 ([] : List Pu.Fd).length vc2).ownBlock = some g → X < g := fun g hg => by have := hlv.out g hg; omega
                    replace hPg := Lib.hid hPg
                    replace hsg := Lib.hid hsg
                    replace hXv2 := Lib.hid hXv2
                    go_wp2_with (at_builtin; refine append_fd (by rfl) _ _ (by rfl) wg (X + 1) (NewBut (w.heap.size + 1) X) (Value.slice vA2 ([] : List Pu.Fd).length vc2) [] ⟨pn, ty⟩ _ wg.heap.size (by rfl) (by rfl) rfl howng.out hfd.out hln1 hBg ?_; intro v' w' hown' hb' hsz' hgb' hob' hform'; obtain ⟨vA3, vc3, rfl⟩ := hform'; have hFv := hFg.out.grown hgb' (fun e => by have := hXv2.out X e.symm; omega); have x3 : w'.cell? ⟨X, 2, none⟩ = some (Value.slice vA2 ([] : List Pu.Fd).length vc2) := hFv.cell 2; have f3 := hFv.frozen 2; have hXw' := hFv.lt; have hpush := Lib.hid (FunLo.push hlt hXw hrg.out hgrg.out hresg.out hFg.out hXv2.out hown' hb' hgb' hob'); clear hFv; replace hown' := Lib.hid hown'; replace hob' := Lib.hid hob')
                    go_roundw
                    case rel => exact ⟨_, lf, hpush.out, List.IsSuffix.trans hsff hsfd, by simp at hlx ⊢; omega, heq5.out⟩
                    case measure => exact Nat.lt_of_le_of_lt (Nat.le_of_eq hpush.out.rd.left) (by rw [htl]; omega)

            · have heq2 := heq.out
              have hpi : ps.isEmpty = false := by cases ps with | nil => exact absurd hps (by simp) | cons a b => rfl
              rw [hpi] at heq2
              rw [show (if false = true then (.ok l' : Except Nat (List Pu.Tok)) else Pu.must 44 l') = Pu.must 44 l' from rfl] at heq2
              have hpd : decide ((0 : Int) < (ps.length : Int)) = true := by simpa using hps
              have hm44 := must_any R 44 0 l' wr hL2.out.rd
              replace heq2 := Lib.hid heq2
              clear heq hpi
              go_wp2_with fail
              cases hM44 : Pu.must 44 l' with
              | error k =>
                rw [hM44] at hm44
                have heq3 := heq2.out
                rw [hM44] at heq3
                obtain rfl : goal = .error k := heq3
                refine hm44.mono ?_
                rintro e wc ⟨rfl, rfl⟩
                go_wp2_with fail
                exact ⟨rfl, rfl, ⟨_, _, hL2.out.rd⟩, hL2.out.grown⟩
              | ok lx =>
                rw [hM44] at hm44
                have heq3 := heq2.out
                rw [hM44, Pu.andThen_ok] at heq3
                have hsfx := (Pu.must_suf hM44).trans hsf
                have hlx0 := Pu.must_len hM44
                have hlx : ps.length + lx.length ≤ 1000 := by omega
                clear heq2
                have heq2 := Lib.hid heq3
                clear heq3
                replace hm44 := Lib.hid hm44
                refine hm44.out.mono ?_
                rintro e wx ⟨rfl, hrx, hgx⟩
                have hLx := hL2.out.later hlt hgx hrx
                replace hLx := Lib.hid hLx
                clear hrx hpd
                go_wp2_with fail
                have hnp := name_any R 0 lx wx hLx.out.rd
                have heq3 := heq2.out
                rw [Pu.andThen_assoc] at heq3
                unfold Pu.pParam at heq3
                rw [Pu.andThen_assoc] at heq3
                cases hpn : Pu.pName lx with
                | error k =>
                  rw [hpn] at hnp heq3
                  obtain rfl : goal = .error k := heq3
                  refine hnp.mono ?_
                  rintro e wc ⟨rfl, hrc, hgc⟩
                  go_wp2_with fail
                  exact ⟨rfl, rfl, hrc, only_trans hLx.out.grown hgc⟩
                | ok rn =>
                  obtain ⟨pn, lc⟩ := rn
                  rw [hpn] at hnp
                  rw [hpn, Pu.andThen_ok, Pu.andThen_assoc] at heq3
                  dsimp only at heq3
                  have hsfc := (Pu.pName_suf hpn).trans hsfx
                  have hlc := Pu.pName_len hpn
                  replace heq3 := Lib.hid heq3
                  replace hnp := Lib.hid hnp
                  clear heq2
                  refine hnp.out.mono ?_
                  rintro e wc ⟨rfl, hrc, hgc⟩
                  unfold str
                  have hLc := hLx.out.later hlt hgc hrc
                  have hXc : X < wc.heap.size := by
                    obtain ⟨_, _, _, _, v2, hF2, _⟩ := hLc
                    exact hF2.lt
                  obtain ⟨P, hP⟩ : ∃ P, P = wc.heap.size := ⟨_, rfl⟩
                  obtain ⟨wd, hwd⟩ : ∃ wd, wd = wc.alloc (.cells #[.string ⟨pn.toArray⟩, .int .i64 0, .string ⟨#[]⟩, .string ⟨#[]⟩, .slice none 0 0] 63) := ⟨_, rfl⟩
                  have hgd : wc.grownBy wd (some R) := by rw [hwd]; exact only_alloc (only_refl _ _) _
                  have hrd : Rd wd R lc 0 := by rw [hwd]; exact hrc.alloc _
                  have hLd := hLc.later hlt hgd hrd
                  have hPd : Blk wd P 63 #[.string ⟨pn.toArray⟩, .int .i64 0, .string ⟨#[]⟩, .string ⟨#[]⟩, .slice none 0 0] := by rw [hwd, hP]; exact Blk.new _ _ _
                  have hXP : X < P := by omega
                  have hm58 := must_any R 58 0 lc wd hrd
                  replace hwd := Lib.hid hwd
                  replace hLd := Lib.hid hLd
                  replace hLc := Lib.hid hLc
                  replace hPd := Lib.hid hPd
                  clear hrc hrd
                  go_wp2_with fail
                  rw [← hwd.out, ← hP]
                  replace hP := Lib.hid hP
                  cases hM58 : Pu.must 58 lc with
                  | error k =>
                    rw [hM58] at hm58
                    have heq4 := heq3.out
                    rw [hM58] at heq4
                    obtain rfl : goal = .error k := heq4
                    refine hm58.mono ?_
                    rintro e we ⟨rfl, rfl⟩
                    go_wp2_with fail
                    exact ⟨rfl, rfl, ⟨_, _, hLd.out.rd⟩, hLd.out.grown⟩
                  | ok ld =>
                    rw [hM58] at hm58
                    have heq4 := heq3.out
                    rw [hM58, Pu.andThen_ok, Pu.andThen_assoc] at heq4
                    have hsfd := (Pu.must_suf hM58).trans hsfc
                    have hld := Pu.must_len hM58
                    replace heq4 := Lib.hid heq4
                    replace hm58 := Lib.hid hm58
                    clear heq3
                    refine hm58.out.mono ?_
                    rintro e we ⟨rfl, hre, hge⟩
                    have hLe := hLd.out.later hlt hge hre
                    have hPe := hPd.out.grown hge (by intro e; injection e; omega)
                    have hkd := hK.out ld we hre
                    replace hLe := Lib.hid hLe
                    replace hPe := Lib.hid hPe
                    clear hre
                    go_wp2_with fail
                    cases hk1 : Pu.pKind 40 ld with
                    | error k =>
                      rw [hk1] at hkd
                      have heq5 := heq4.out
                      rw [hk1] at heq5
                      obtain rfl : goal = .error k := heq5
                      refine hkd.mono ?_
                      rintro e wf ⟨rfl, hrf, hgf⟩
                      go_wp2_with fail
                      exact ⟨rfl, rfl, hrf, only_trans hLe.out.grown hgf⟩
                    | ok rk =>
                      obtain ⟨ty, lf⟩ := rk
                      rw [hk1] at hkd
                      have heq5 := heq4.out
                      rw [hk1, Pu.andThen_ok, Pu.andThen_ok] at heq5
                      dsimp only at heq5
                      have hsff := (Pu.pKind_eats 40 ld ty lf hk1)
                      have hlf := hsff.length_le
                      replace heq5 := Lib.hid heq5
                      replace hkd := Lib.hid hkd
                      clear heq4
                      refine hkd.out.mono ?_
                      rintro e wf ⟨⟨tcs, rfl, hty⟩, hrf, hgf⟩
                      obtain ⟨k0, of0, nm0, A0, m0, c0, rfl⟩ := hty.form
                      obtain ⟨_, hgrc, hresc, _, v2, hFc, hownc⟩ := hLc.out
                      obtain ⟨vA2, vc2, rfl⟩ := hownc.len
                      have hPf := hPe.out.grown hgf (by intro e; injection e; omega)
                      have hse := hge.size
                      have hsf2 := hgf.size
                      have hPlt := hPd.out.lt
                      have hsw := hgrc.size
                      have hwcP : wc.heap.size ≤ P := by rw [hP.out]; exact Nat.le_refl _
                      have hlv := hownc.lt
                      obtain ⟨wg, hwg⟩ : ∃ wg, wg = (((wf.setCell ⟨P, 1, none⟩ (.int .i64 k0)).setCell ⟨P, 2, none⟩ (.string of0)).setCell ⟨P, 3, none⟩ (.string nm0)).setCell ⟨P, 4, none⟩ (.slice A0 m0 c0) := ⟨_, rfl⟩
                      have hcomp : wc.grownBy wg (some R) := by
                        rw [hwg]
                        exact only_setCell (only_setCell (only_setCell (only_setCell (only_trans hgd (only_trans hge hgf)) (.inr hwcP) _) (.inr hwcP) _) (.inr hwcP) _) (.inr hwcP) _
                      have hrg : Rd wg R lf 0 := by
                        rw [hwg]
                        exact (((hrf.newer (p := ⟨P, 1, none⟩) (by simp; omega) _).newer (p := ⟨P, 2, none⟩) (by simp; omega) _).newer (p := ⟨P, 3, none⟩) (by simp; omega) _).newer (p := ⟨P, 4, none⟩) (by simp; omega) _
                      have hgrg := only_trans hgrc hcomp
                      have hresg := hresc.grown hcomp (by intro e; injection e; omega)
                      have hFg := hFc.grown hcomp (by intro e; injection e; omega)
                      have howng := hownc.later hcomp (by omega) (fun h => by unfold NewBut at h; omega)
                      have htyg : TyC wg (New we.heap.size) ty [.int .i64 k0, .string of0, .string nm0, .slice A0 m0 c0] := by
                        rw [hwg]
                        exact (((hty.far (p := ⟨P, 1, none⟩) (by simp; omega) _).far (p := ⟨P, 2, none⟩) (by simp; omega) _).far (p := ⟨P, 3, none⟩) (by simp; omega) _).far (p := ⟨P, 4, none⟩) (by simp; omega) _
                      have hfd : FdC wg (fun b => NewBut (w.heap.size + 1) X b ∧ some b ≠ (Value.slice vA2 (ps : List Pu.Fd).length vc2).ownBlock) ⟨pn, ty⟩ [.string ⟨pn.toArray⟩, .int .i64 k0, .string of0, .string nm0, .slice A0 m0 c0] :=
                        ⟨_, rfl, htyg.keep (Nat.le_refl _) fun b hs _ => ⟨rfl, by unfold New at hs; exact ⟨⟨by omega, by omega⟩, fun e => by have := hlv b e.symm; omega⟩⟩⟩
                      have hsg : wg.heap.size = wf.heap.size := by rw [hwg]; simp [World.setCell]
                      have g1 := hPf.frozen 1
                      have g2 := hPf.frozen 2
                      have g3 := hPf.frozen 3
                      have g4 := hPf.frozen 4
                      have b0 := hPf.cell 0
                      have b1 := hPf.cell 1
                      have b2 := hPf.cell 2
                      have b3 := hPf.cell 3
                      have b4 := hPf.cell 4
                      have hFf := hFc.grown (only_trans hgd (only_trans hge hgf)) (by intro e; injection e; omega)
                      have qf2 := hFf.cell 2
                      have hPltf := hPf.lt
                      have hXltf := hFf.lt
                      have hXPne : X ≠ P := by omega
                      replace hwg := Lib.hid hwg
                      replace hcomp := Lib.hid hcomp
                      replace hrg := Lib.hid hrg
                      replace hgrg := Lib.hid hgrg
                      replace hresg := Lib.hid hresg
                      replace hFg := Lib.hid hFg
                      replace howng := Lib.hid howng
                      replace htyg := Lib.hid htyg
                      replace hfd := Lib.hid hfd
                      replace hFf := Lib.hid hFf
                      replace hPf := Lib.hid hPf
                      replace hownc := Lib.hid hownc
                      replace hFc := Lib.hid hFc
                      replace hresc := Lib.hid hresc
                      replace hty := Lib.hid hty
                      replace hlv := Lib.hid hlv
                      clear hrf
                      have hwgs : (wg.alloc (.cells [.string ⟨pn.toArray⟩, .int .i64 k0, .string of0, .string nm0, .slice A0 m0 c0].toArray 63)) = ((((wf.setCell ⟨P, 1, none⟩ (.int .i64 k0)).setCell ⟨P, 2, none⟩ (.string of0)).setCell ⟨P, 3, none⟩ (.string nm0)).setCell ⟨P, 4, none⟩ (.slice A0 m0 c0)).alloc (.cells #[.string ⟨pn.toArray⟩, .int .i64 k0, .string of0, .string nm0, .slice A0 m0 c0] 63) := by rw [hwg.out]
                      replace hwgs := Lib.hid hwgs
                      have hPg : Blk wg P 63 #[.string ⟨pn.toArray⟩, .int .i64 k0, .string of0, .string nm0, .slice A0 m0 c0] := by
                        rw [hwg.out]
                        exact (((hPf.out.set_ 1 _).set_ 2 _).set_ 3 _).set_ 4 _
                      go_upto_region 12 with (fail)
                      rw [← hwg.out]
                      clear g1 g2 g3 g4 b0 b1 b2 b3 b4 qf2
                      have b0 := hPg.cell 0
                      have b1 := hPg.cell 1
                      have b2 := hPg.cell 2
                      have b3 := hPg.cell 3
                      have b4 := hPg.cell 4
                      have x2 := hFg.out.cell 2
                      simp only [List.getElem?_toArray, List.getElem?_cons_zero, List.getElem?_cons_succ] at b0 b1 b2 b3 b4 x2
                      have hXg := hFg.out.lt
                      have hln1 : (ps : List Pu.Fd).length ≤ 1000000 := by omega
                      have hBg : X + 1 ≤ wg.heap.size := by omega
                      have hXv2 : ∀ g, (Value.slice vA2 (ps : List Pu.Fd).length vc2).ownBlock = some g → X < g := fun g hg => by have := hlv.out g hg; omega
                      replace hPg := Lib.hid hPg
                      replace hsg := Lib.hid hsg
                      replace hXv2 := Lib.hid hXv2
                      go_wp2_with (at_builtin; refine append_fd (by rfl) _ _ (by rfl) wg (X + 1) (NewBut (w.heap.size + 1) X) (Value.slice vA2 (ps : List Pu.Fd).length vc2) ps ⟨pn, ty⟩ _ wg.heap.size (by rfl) (by rfl) rfl howng.out hfd.out hln1 hBg ?_; intro v' w' hown' hb' hsz' hgb' hob' hform'; obtain ⟨vA3, vc3, rfl⟩ := hform'; have hFv := hFg.out.grown hgb' (fun e => by have := hXv2.out X e.symm; omega); have x3 : w'.cell? ⟨X, 2, none⟩ = some (Value.slice vA2 (ps : List Pu.Fd).length vc2) := hFv.cell 2; have f3 := hFv.frozen 2; have hXw' := hFv.lt; have hpush := Lib.hid (FunLo.push hlt hXw hrg.out hgrg.out hresg.out hFg.out hXv2.out hown' hb' hgb' hob'); clear hFv; replace hown' := Lib.hid hown'; replace hob' := Lib.hid hob')
                      go_roundw
                      case rel => exact ⟨_, lf, hpush.out, List.IsSuffix.trans hsff hsfd, by simp at hlx ⊢; omega, heq5.out⟩
                      case measure => exact Nat.lt_of_le_of_lt (Nat.le_of_eq hpush.out.rd.left) (by rw [htl]; omega)

    | some l2 =>
      rintro e w4 ⟨rfl, hr4, hg4⟩
      have hst4 := hst.out.later hlt hg4 hr4
      have hnv := name_any R 0 l2 w4 hr4
      have heq2 := heq.out
      rw [show Pu.pVar l1 = Pu.andThen (Pu.pName l2) fun r => Pu.andThen (Pu.must 62 r.2) fun l4 => .ok (r.1, l4) by unfold Pu.pVar; rw [htk], Pu.andThen_assoc] at heq2
      have hsf2 := (Pu.take_suf htk).trans hsf1
      clear heq hr4 hst ht60
      go_wp2_with fail
      cases hp2 : Pu.pName l2 with
      | error k =>
        rw [hp2] at hnv heq2
        obtain rfl : goal = .error k := heq2
        refine hnv.mono ?_
        rintro e w5 ⟨rfl, hr5, hg5⟩
        go_wp2_with fail
        exact ⟨rfl, rfl, hr5, only_trans hst4.grown hg5⟩
      | ok rv =>
        obtain ⟨vr, l3⟩ := rv
        rw [hp2] at hnv
        rw [hp2, Pu.andThen_ok, Pu.andThen_assoc] at heq2
        dsimp only at heq2
        have hsf3 := (Pu.pName_suf hp2).trans hsf2
        replace heq2 := Lib.hid heq2
        replace hnv := Lib.hid hnv
        replace hst4 := Lib.hid hst4
        refine hnv.out.mono ?_
        rintro e w5 ⟨rfl, hr5, hg5⟩
        unfold str
        have hst5 := hst4.out.later hlt hg5 hr5
        have q1 := hst5.fn.cell 1
        have f1 := hst5.fn.frozen 1
        have hX5 := hst5.fn.lt
        obtain ⟨w6, hw6⟩ : ∃ w6, w6 = w5.setCell ⟨X, 1, none⟩ (.string ⟨vr.toArray⟩) := ⟨_, rfl⟩
        have hst6 : FunSt R 0 w X nm vr l3 w6 := by rw [hw6]; exact hst5.setVar hlt vr
        have hm62 := must_any R 62 0 l3 w6 hst6.rd
        replace hw6 := Lib.hid hw6
        replace hst5 := Lib.hid hst5
        replace hst6 := Lib.hid hst6
        clear hr5
        go_wp2_with fail
        rw [← hw6.out]
        clear q1 f1 hX5
        cases hM62 : Pu.must 62 l3 with
        | error k =>
          rw [hM62] at hm62
          have heq3 := heq2.out
          rw [hM62] at heq3
          obtain rfl : goal = .error k := heq3
          refine hm62.mono ?_
          rintro e w7 ⟨rfl, rfl⟩
          go_wp2_with fail
          exact ⟨rfl, rfl, ⟨_, _, hst6.out.rd⟩, hst6.out.grown⟩
        | ok l4 =>
          rw [hM62] at hm62
          have heq3 := heq2.out
          rw [hM62, Pu.andThen_ok, Pu.andThen_ok] at heq3
          dsimp only at heq3
          have hsf4 := (Pu.must_suf hM62).trans hsf3
          replace hm62 := Lib.hid hm62
          clear heq2
          have heq2 := Lib.hid heq3
          clear heq3
          refine hm62.out.mono ?_
          rintro e w7 ⟨rfl, hr7, hg7⟩
          have hst := Lib.hid (hst6.out.later hlt hg7 hr7)
          clear hr7
          have hsufT : l4 <:+ l := hsf4
          have hm40 := must_any R 40 0 l4 w7 hst.out.rd
          go_wp2_with fail
          cases hM40 : Pu.must 40 l4 with
          | error k =>
            rw [hM40] at hm40
            have heq3 := heq2.out
            rw [hM40] at heq3
            obtain rfl : goal = .error k := heq3
            refine hm40.mono ?_
            rintro e wa ⟨rfl, rfl⟩
            go_wp2_with fail
            exact ⟨rfl, rfl, ⟨_, _, hst.out.rd⟩, hst.out.grown⟩
          | ok la =>
            rw [hM40] at hm40
            have heq3 := heq2.out
            rw [hM40, Pu.andThen_ok] at heq3
            obtain ⟨cont, hcont⟩ : ∃ c, c = fun ps : List Pu.Fd × List Pu.Tok => Pu.andThen (Pu.must 58 ps.2) fun l5 => Pu.andThen (Pu.pKind 40 l5) fun t => Pu.andThen (Pu.must 61 t.2) fun l7 =>
              Pu.andThen (Pu.pExpr 40 l7) fun x => (.ok (⟨nm, vr, ps.1, t.1, x.1⟩, x.2) : Pu.PR Pu.Fn) := ⟨_, rfl⟩
            rw [← hcont] at heq3
            replace heq3 := Lib.hid heq3
            replace hcont := Lib.hid hcont
            have hsfa := (Pu.must_suf hM40).trans hsufT
            replace hm40 := Lib.hid hm40
            clear heq2
            refine hm40.out.mono ?_
            rintro e wa ⟨rfl, hra, hga⟩
            have hlo := (hst.out.later hlt hga hra).loop
            have hlna : la.length ≤ 1000 := Nat.le_trans hsfa.length_le hl.1
            replace hlo := Lib.hid hlo
            clear hra hm40
            go_wp2_with fail
            go_loopw [] (fun wi => ∃ (ps : List Pu.Fd) (l' : List Pu.Tok), FunLo R 0 w X nm vr ps l' wi ∧ l' <:+ l ∧ ps.length + l'.length ≤ 1000 ∧ goal = Pu.andThen (Pu.pParams (l'.length + 1) ps l') cont) (fun wi => tokLeft wi R)
            case atStart => exact ⟨[], la, hlo.out, hsfa, by simpa using hlna, heq3.out⟩
            case round =>
              obtain ⟨ps, l', hL, hsf, hln, heq⟩ := hrel
              have htl := hL.rd.left
              have ht41 := take_any R 41 0 l' wr hL.rd
              replace ht41 := Lib.hid ht41
              cases htk41 : Pu.take 41 l' with
              | some lb =>
                rw [htk41] at ht41
                rw [Pu.pParams_some ps l' lb htk41, Pu.andThen_ok, hcont.out] at heq
                dsimp only at heq
                replace heq := Lib.hid heq
                replace hL := Lib.hid hL
                go_wp2_with fail
                refine ht41.out.mono ?_
                rintro e wb ⟨rfl, hrb, hgb⟩
                have hLb := hL.out.later hlt hgb hrb
                have hsfb := (Pu.take_suf htk41).trans hsf
                have hm58 := must_any R 58 0 lb wb hrb
                replace hLb := Lib.hid hLb
                clear hrb
                go_wp2_with fail
                cases hM58 : Pu.must 58 lb with
                | error k =>
                  rw [hM58] at hm58
                  have heq3 := heq.out
                  rw [hM58] at heq3
                  obtain rfl : goal = .error k := heq3
                  refine hm58.mono ?_
                  rintro e wc ⟨rfl, rfl⟩
                  go_wp2_with fail
                  exact ⟨rfl, rfl, ⟨_, _, hLb.out.rd⟩, hLb.out.grown⟩
                | ok lc =>
                  rw [hM58] at hm58
                  have heq3 := heq.out
                  rw [hM58, Pu.andThen_ok] at heq3
                  have hsfc := (Pu.must_suf hM58).trans hsfb
                  replace heq3 := Lib.hid heq3
                  replace hm58 := Lib.hid hm58
                  clear heq hL
                  refine hm58.out.mono ?_
                  rintro e wc ⟨rfl, hrc, hgc⟩
                  have hLc := hLb.out.later hlt hgc hrc
                  have hkd := hK.out lc wc hrc
                  replace hLc := Lib.hid hLc
                  clear hrc
                  go_wp2_with fail
                  cases hk1 : Pu.pKind 40 lc with
                  | error k =>
                    rw [hk1] at hkd
                    have heq4 := heq3.out
                    rw [hk1] at heq4
                    obtain rfl : goal = .error k := heq4
                    refine hkd.mono ?_
                    rintro e wd ⟨rfl, hrd, hgd⟩
                    go_wp2_with fail
                    exact ⟨rfl, rfl, hrd, only_trans hLc.out.grown hgd⟩
                  | ok rk =>
                    obtain ⟨ty, ld⟩ := rk
                    rw [hk1] at hkd
                    have heq4 := heq3.out
                    rw [hk1, Pu.andThen_ok] at heq4
                    dsimp only at heq4
                    have hsfd := (Pu.pKind_eats 40 lc ty ld hk1).trans hsfc
                    replace heq4 := Lib.hid heq4
                    replace hkd := Lib.hid hkd
                    clear heq3
                    refine hkd.out.mono ?_
                    rintro e wd ⟨⟨tcs, rfl, hty⟩, hrd, hgd⟩
                    have hLd := hLc.out.later hlt hgd hrd
                    have hsc := hLc.out.grown.size
                    have hsd := hgd.size
                    obtain ⟨_, hgrd, hresd, _, v, hFd, hownd⟩ := hLd
                    obtain ⟨vA, vc, hv⟩ := hownd.len
                    obtain ⟨k0, of0, nm0, A0, m0, c0, rfl⟩ := hty.form
                    have hownlt := hownd.lt
                    have hXn : ¬ NewBut (w.heap.size + 1) X X := fun h => h.2 rfl
                    have hXv : v.ownBlock ≠ some X := fun e => by have := hownlt X e; omega
                    have hXc : X < wc.heap.size := by
                      obtain ⟨_, _, _, _, v2, hF2, _⟩ := hLc.out
                      exact hF2.lt
                    have f3 := hFd.frozen 3
                    have f4 := hFd.frozen 4
                    have f5 := hFd.frozen 5
                    have f6 := hFd.frozen 6
                    have q3 := hFd.cell 3
                    have q4 := hFd.cell 4
                    have q5 := hFd.cell 5
                    have q6 := hFd.cell 6
                    have hltF := hFd.lt
                    obtain ⟨we, hwe⟩ : ∃ we, we = (((wd.setCell ⟨X, 3, none⟩ (.int .i64 k0)).setCell ⟨X, 4, none⟩ (.string of0)).setCell ⟨X, 5, none⟩ (.string nm0)).setCell ⟨X, 6, none⟩ (.slice A0 m0 c0) := ⟨_, rfl⟩
                    have hre : Rd we R ld 0 := by
                      rw [hwe]
                      exact (((hrd.newer (p := ⟨X, 3, none⟩) (by simp; omega) _).newer (p := ⟨X, 4, none⟩) (by simp; omega) _).newer (p := ⟨X, 5, none⟩) (by simp; omega) _).newer (p := ⟨X, 6, none⟩) (by simp; omega) _
                    have hge : w.grownBy we (some R) := by
                      rw [hwe]
                      exact only_setCell (only_setCell (only_setCell (only_setCell hgrd (.inr (by simp; omega)) _) (.inr (by simp; omega)) _) (.inr (by simp; omega)) _) (.inr (by simp; omega)) _
                    have hrese : Blk we w.heap.size 55 zeroFn := by
                      rw [hwe]
                      exact (((hresd.far (p := ⟨X, 3, none⟩) (by simp; omega) _).far (p := ⟨X, 4, none⟩) (by simp; omega) _).far (p := ⟨X, 5, none⟩) (by simp; omega) _).far (p := ⟨X, 6, none⟩) (by simp; omega) _
                    have hFe : Blk we X 55 #[.string ⟨nm.toArray⟩, .string ⟨(vr : List UInt8).toArray⟩, v, .int .i64 k0, .string of0, .string nm0, .slice A0 m0 c0, .int .i64 0, .int .i64 0, .string ⟨#[]⟩, .string ⟨#[]⟩, .slice none 0 0] := by
                      rw [hwe]
                      exact (((hFd.set_ 3 _).set_ 4 _).set_ 5 _).set_ 6 _
                    have howne : OwnF we (X + 1) (NewBut (w.heap.size + 1) X) v ps := by
                      rw [hwe]
                      exact (((hownd.farS (p := ⟨X, 3, none⟩) hXv hXn _).farS (p := ⟨X, 4, none⟩) hXv hXn _).farS (p := ⟨X, 5, none⟩) hXv hXn _).farS (p := ⟨X, 6, none⟩) hXv hXn _
                    have htye : TyC we (New wc.heap.size) ty [.int .i64 k0, .string of0, .string nm0, .slice A0 m0 c0] := by
                      rw [hwe]
                      exact (((hty.far (p := ⟨X, 3, none⟩) hXc _).far (p := ⟨X, 4, none⟩) hXc _).far (p := ⟨X, 5, none⟩) hXc _).far (p := ⟨X, 6, none⟩) hXc _
                    have hm61 := must_any R 61 0 ld we hre
                    replace hre := Lib.hid hre
                    replace hge := Lib.hid hge
                    replace hrese := Lib.hid hrese
                    replace hFe := Lib.hid hFe
                    replace howne := Lib.hid howne
                    replace htye := Lib.hid htye
                    replace hwe := Lib.hid hwe
                    replace hFd := Lib.hid hFd
                    replace hresd := Lib.hid hresd
                    replace hownd := Lib.hid hownd
                    replace hty := Lib.hid hty
                    subst hv
                    clear hrd hLc
                    go_wp2_with fail
                    rw [← hwe.out]
                    clear f3 f4 f5 f6 q3 q4 q5 q6
                    cases hM61 : Pu.must 61 ld with
                    | error k =>
                      rw [hM61] at hm61
                      have heq5 := heq4.out
                      rw [hM61] at heq5
                      obtain rfl : goal = .error k := heq5
                      refine hm61.mono ?_
                      rintro e wf ⟨rfl, rfl⟩
                      go_wp2_with fail
                      exact ⟨rfl, rfl, ⟨_, _, hre.out⟩, hge.out⟩
                    | ok le =>
                      rw [hM61] at hm61
                      have heq5 := heq4.out
                      rw [hM61, Pu.andThen_ok] at heq5
                      have hsfe := (Pu.must_suf hM61).trans hsfd
                      replace heq5 := Lib.hid heq5
                      replace hm61 := Lib.hid hm61
                      clear heq4
                      refine hm61.out.mono ?_
                      rintro e wf ⟨rfl, hrf, hgf⟩
                      have hxf := hX.out le wf (hl.suf hsfe) hrf
                      have hgf0 := only_trans hge.out hgf
                      have hresf := hrese.out.grown hgf (by intro e; injection e; omega)
                      have hFf := hFe.out.grown hgf (by intro e; injection e; omega)
                      have hownf := howne.out.later hgf (by omega) (fun h => by unfold NewBut at h; omega)
                      have htyf := htye.out.later hgf (by have := hgd.size; omega)
                      have hRX : R < X := by omega
                      have hXf := hFf.lt
                      replace hgf0 := Lib.hid hgf0
                      replace hresf := Lib.hid hresf
                      replace hFf := Lib.hid hFf
                      replace hownf := Lib.hid hownf
                      replace htyf := Lib.hid htyf
                      replace hownlt := Lib.hid hownlt
                      clear hrf
                      go_wp2_with fail
                      cases hx1 : Pu.pExpr 40 le with
                      | error k =>
                        rw [hx1] at hxf
                        have heq6 := heq5.out
                        rw [hx1] at heq6
                        obtain rfl : goal = .error k := heq6
                        refine hxf.mono ?_
                        rintro e wg ⟨rfl, hrg, hgg⟩
                        go_wp2_with fail
                        exact ⟨rfl, rfl, hrg, only_trans hgf0.out hgg⟩
                      | ok rx =>
                        obtain ⟨ex, lf⟩ := rx
                        rw [hx1] at hxf
                        have heq6 := heq5.out
                        rw [hx1, Pu.andThen_ok] at heq6
                        dsimp only at heq6
                        replace heq6 := Lib.hid heq6
                        replace hxf := Lib.hid hxf
                        clear heq5
                        refine hxf.out.mono ?_
                        rintro e wg ⟨⟨xcs, rfl, hex⟩, hrg, hgg⟩
                        obtain ⟨k1, n1, of1, s1, A1, m1, c1, rfl⟩ := hex.form
                        have hgg0 := only_trans hgf0.out hgg
                        have hresg := hresf.out.grown hgg (by intro e; injection e; omega)
                        have hFg := hFf.out.grown hgg (by intro e; injection e; omega)
                        have howng := hownf.out.later hgg (by omega) (fun h => by unfold NewBut at h; omega)
                        have htyg := htyf.out.later hgg (by omega)
                        have f7 := hFg.frozen 7
                        have f8 := hFg.frozen 8
                        have f9 := hFg.frozen 9
                        have f10 := hFg.frozen 10
                        have f11 := hFg.frozen 11
                        have q0 := hFg.cell 0
                        have q1 := hFg.cell 1
                        have q2 := hFg.cell 2
                        have q3 := hFg.cell 3
                        have q4 := hFg.cell 4
                        have q5 := hFg.cell 5
                        have q6 := hFg.cell 6
                        have q7 := hFg.cell 7
                        have q8 := hFg.cell 8
                        have q9 := hFg.cell 9
                        have q10 := hFg.cell 10
                        have q11 := hFg.cell 11
                        have hltFg := hFg.lt
                        have hltVg := hresg.lt
                        have hVX : w.heap.size ≠ X := by omega
                        have p0 := hresg.frozen 0
                        have p1 := hresg.frozen 1
                        have p2 := hresg.frozen 2
                        have p3 := hresg.frozen 3
                        have p4 := hresg.frozen 4
                        have p5 := hresg.frozen 5
                        have p6 := hresg.frozen 6
                        have p7 := hresg.frozen 7
                        have p8 := hresg.frozen 8
                        have p9 := hresg.frozen 9
                        have p10 := hresg.frozen 10
                        have p11 := hresg.frozen 11
                        have r0 := hresg.cell 0
                        have r1 := hresg.cell 1
                        have r2 := hresg.cell 2
                        have r3 := hresg.cell 3
                        have r4 := hresg.cell 4
                        have r5 := hresg.cell 5
                        have r6 := hresg.cell 6
                        have r7 := hresg.cell 7
                        have r8 := hresg.cell 8
                        have r9 := hresg.cell 9
                        have r10 := hresg.cell 10
                        have r11 := hresg.cell 11
                        replace hgg0 := Lib.hid hgg0
                        replace hresg := Lib.hid hresg
                        replace hFg := Lib.hid hFg
                        replace howng := Lib.hid howng
                        replace htyg := Lib.hid htyg
                        replace hex := Lib.hid hex
                        replace hrg := Lib.hid hrg
                        go_wp2_with fail
                        rw [heq6.out]
                        exact fn_ret (by rfl) hlt hXw hXc hXf hrg.out hgg0.out hresg.out howng.out htyg.out hex.out
              | none =>
                rw [htk41] at ht41
                rw [Pu.pParams_none ps l' htk41, Pu.andThen_assoc] at heq
                replace heq := Lib.hid heq
                obtain ⟨_, hgrL, _, _, v, hFL, hownL⟩ := hL
                obtain ⟨vA, vc, hv⟩ := hownL.len
                have qv := hFL.cell 2
                have hltF := hFL.lt
                rw [hv] at qv
                have hL2 : FunLo R 0 w X nm vr ps l' wr := ⟨‹_›, hgrL, ‹_›, ‹_›, v, hFL, hownL⟩
                replace hL2 := Lib.hid hL2
                replace hFL := Lib.hid hFL
                replace hownL := Lib.hid hownL
                replace hv := Lib.hid hv
                go_wp2_with fail
                refine ht41.out.mono ?_
                rintro e wb ⟨rfl, rfl⟩
                rcases Nat.eq_zero_or_pos ps.length with hps | hps
                · obtain rfl : ps = [] := List.eq_nil_of_length_eq_zero hps
                  have heq2 := heq.out
                  rw [show (if ([] : List Pu.Fd).isEmpty then (.ok l' : Except Nat (List Pu.Tok)) else Pu.must 44 l') = .ok l' from rfl, Pu.andThen_ok] at heq2
                  replace heq2 := Lib.hid heq2
                  clear heq
                  have hLx := hL2
                  have hsfx := hsf
                  have hlx := hln
                  go_wp2_with fail
                  have hnp := name_any R 0 l' wr hLx.out.rd
                  have heq3 := heq2.out
                  rw [Pu.andThen_assoc] at heq3
                  unfold Pu.pParam at heq3
                  rw [Pu.andThen_assoc] at heq3
                  cases hpn : Pu.pName l' with
                  | error k =>
                    rw [hpn] at hnp heq3
                    obtain rfl : goal = .error k := heq3
                    refine hnp.mono ?_
                    rintro e wc ⟨rfl, hrc, hgc⟩
                    go_wp2_with fail
                    exact ⟨rfl, rfl, hrc, only_trans hLx.out.grown hgc⟩
                  | ok rn =>
                    obtain ⟨pn, lc⟩ := rn
                    rw [hpn] at hnp
                    rw [hpn, Pu.andThen_ok, Pu.andThen_assoc] at heq3
                    dsimp only at heq3
                    have hsfc := (Pu.pName_suf hpn).trans hsfx
                    have hlc := Pu.pName_len hpn
                    replace heq3 := Lib.hid heq3
                    replace hnp := Lib.hid hnp
                    clear heq2
                    refine hnp.out.mono ?_
                    rintro e wc ⟨rfl, hrc, hgc⟩
                    unfold str
                    have hLc := hLx.out.later hlt hgc hrc
                    have hXc : X < wc.heap.size := by
                      obtain ⟨_, _, _, _, v2, hF2, _⟩ := hLc
                      exact hF2.lt
                    obtain ⟨P, hP⟩ : ∃ P, P = wc.heap.size := ⟨_, rfl⟩
                    obtain ⟨wd, hwd⟩ : ∃ wd, wd = wc.alloc (.cells #[.string ⟨pn.toArray⟩, .int .i64 0, .string ⟨#[]⟩, .string ⟨#[]⟩, .slice none 0 0] 63) := ⟨_, rfl⟩
                    have hgd : wc.grownBy wd (some R) := by rw [hwd]; exact only_alloc (only_refl _ _) _
                    have hrd : Rd wd R lc 0 := by rw [hwd]; exact hrc.alloc _
                    have hLd := hLc.later hlt hgd hrd
                    have hPd : Blk wd P 63 #[.string ⟨pn.toArray⟩, .int .i64 0, .string ⟨#[]⟩, .string ⟨#[]⟩, .slice none 0 0] := by rw [hwd, hP]; exact Blk.new _ _ _
                    have hXP : X < P := by omega
                    have hm58 := must_any R 58 0 lc wd hrd
                    replace hwd := Lib.hid hwd
                    replace hLd := Lib.hid hLd
                    replace hLc := Lib.hid hLc
                    replace hPd := Lib.hid hPd
                    clear hrc hrd
                    go_wp2_with fail
                    rw [← hwd.out, ← hP]
                    replace hP := Lib.hid hP
                    cases hM58 : Pu.must 58 lc with
                    | error k =>
                      rw [hM58] at hm58
                      have heq4 := heq3.out
                      rw [hM58] at heq4
                      obtain rfl : goal = .error k := heq4
                      refine hm58.mono ?_
                      rintro e we ⟨rfl, rfl⟩
                      go_wp2_with fail
                      exact ⟨rfl, rfl, ⟨_, _, hLd.out.rd⟩, hLd.out.grown⟩
                    | ok ld =>
                      rw [hM58] at hm58
                      have heq4 := heq3.out
                      rw [hM58, Pu.andThen_ok, Pu.andThen_assoc] at heq4
                      have hsfd := (Pu.must_suf hM58).trans hsfc
                      have hld := Pu.must_len hM58
                      replace heq4 := Lib.hid heq4
                      replace hm58 := Lib.hid hm58
                      clear heq3
                      refine hm58.out.mono ?_
                      rintro e we ⟨rfl, hre, hge⟩
                      have hLe := hLd.out.later hlt hge hre
                      have hPe := hPd.out.grown hge (by intro e; injection e; omega)
                      have hkd := hK.out ld we hre
                      replace hLe := Lib.hid hLe
                      replace hPe := Lib.hid hPe
                      clear hre
                      go_wp2_with fail
                      cases hk1 : Pu.pKind 40 ld with
                      | error k =>
                        rw [hk1] at hkd
                        have heq5 := heq4.out
                        rw [hk1] at heq5
                        obtain rfl : goal = .error k := heq5
                        refine hkd.mono ?_
                        rintro e wf ⟨rfl, hrf, hgf⟩
                        go_wp2_with fail
                        exact ⟨rfl, rfl, hrf, only_trans hLe.out.grown hgf⟩
                      | ok rk =>
                        obtain ⟨ty, lf⟩ := rk
                        rw [hk1] at hkd
                        have heq5 := heq4.out
                        rw [hk1, Pu.andThen_ok, Pu.andThen_ok] at heq5
                        dsimp only at heq5
                        have hsff := (Pu.pKind_eats 40 ld ty lf hk1)
                        have hlf := hsff.length_le
                        replace heq5 := Lib.hid heq5
                        replace hkd := Lib.hid hkd
                        clear heq4
                        refine hkd.out.mono ?_
                        rintro e wf ⟨⟨tcs, rfl, hty⟩, hrf, hgf⟩
                        obtain ⟨k0, of0, nm0, A0, m0, c0, rfl⟩ := hty.form
                        obtain ⟨_, hgrc, hresc, _, v2, hFc, hownc⟩ := hLc.out
                        obtain ⟨vA2, vc2, rfl⟩ := hownc.len
                        have hPf := hPe.out.grown hgf (by intro e; injection e; omega)
                        have hse := hge.size
                        have hsf2 := hgf.size
                        have hPlt := hPd.out.lt
                        have hsw := hgrc.size
                        have hwcP : wc.heap.size ≤ P := by rw [hP.out]; exact Nat.le_refl _
                        have hlv := hownc.lt
                        obtain ⟨wg, hwg⟩ : ∃ wg, wg = (((wf.setCell ⟨P, 1, none⟩ (.int .i64 k0)).setCell ⟨P, 2, none⟩ (.string of0)).setCell ⟨P, 3, none⟩ (.string nm0)).setCell ⟨P, 4, none⟩ (.slice A0 m0 c0) := ⟨_, rfl⟩
                        have hcomp : wc.grownBy wg (some R) := by
                          rw [hwg]
                          exact only_setCell (only_setCell (only_setCell (only_setCell (only_trans hgd (only_trans hge hgf)) (.inr hwcP) _) (.inr hwcP) _) (.inr hwcP) _) (.inr hwcP) _
                        have hrg : Rd wg R lf 0 := by
                          rw [hwg]
                          exact (((hrf.newer (p := ⟨P, 1, none⟩) (by simp; omega) _).newer (p := ⟨P, 2, none⟩) (by simp; omega) _).newer (p := ⟨P, 3, none⟩) (by simp; omega) _).newer (p := ⟨P, 4, none⟩) (by simp; omega) _
                        have hgrg := only_trans hgrc hcomp
                        have hresg := hresc.grown hcomp (by intro e; injection e; omega)
                        have hFg := hFc.grown hcomp (by intro e; injection e; omega)
                        have howng := hownc.later hcomp (by omega) (fun h => by unfold NewBut at h; omega)
                        have htyg : TyC wg (New we.heap.size) ty [.int .i64 k0, .string of0, .string nm0, .slice A0 m0 c0] := by
                          rw [hwg]
                          exact (((hty.far (p := ⟨P, 1, none⟩) (by simp; omega) _).far (p := ⟨P, 2, none⟩) (by simp; omega) _).far (p := ⟨P, 3, none⟩) (by simp; omega) _).far (p := ⟨P, 4, none⟩) (by simp; omega) _
                        have hfd : FdC wg (fun b => NewBut (w.heap.size + 1) X b ∧ some b ≠ (Value.slice vA2 ([] : List Pu.Fd).length vc2).ownBlock) ⟨pn, ty⟩ [.string ⟨pn.toArray⟩, .int .i64 k0, .string of0, .string nm0, .slice A0 m0 c0] :=
                          ⟨_, rfl, htyg.keep (Nat.le_refl _) fun b hs _ => ⟨rfl, by unfold New at hs; exact ⟨⟨by omega, by omega⟩, fun e => by have := hlv b e.symm; omega⟩⟩⟩
                        have hsg : wg.heap.size = wf.heap.size := by rw [hwg]; simp [World.setCell]
                        have g1 := hPf.frozen 1
                        have g2 := hPf.frozen 2
                        have g3 := hPf.frozen 3
                        have g4 := hPf.frozen 4
                        have b0 := hPf.cell 0
                        have b1 := hPf.cell 1
                        have b2 := hPf.cell 2
                        have b3 := hPf.cell 3
                        have b4 := hPf.cell 4
                        have hFf := hFc.grown (only_trans hgd (only_trans hge hgf)) (by intro e; injection e; omega)
                        have qf2 := hFf.cell 2
                        have hPltf := hPf.lt
                        have hXltf := hFf.lt
                        have hXPne : X ≠ P := by omega
                        replace hwg := Lib.hid hwg
                        replace hcomp := Lib.hid hcomp
                        replace hrg := Lib.hid hrg
                        replace hgrg := Lib.hid hgrg
                        replace hresg := Lib.hid hresg
                        replace hFg := Lib.hid hFg
                        replace howng := Lib.hid howng
                        replace htyg := Lib.hid htyg
                        replace hfd := Lib.hid hfd
                        replace hFf := Lib.hid hFf
                        replace hPf := Lib.hid hPf
                        replace hownc := Lib.hid hownc
                        replace hFc := Lib.hid hFc
                        replace hresc := Lib.hid hresc
                        replace hty := Lib.hid hty
                        replace hlv := Lib.hid hlv
                        clear hrf
                        have hwgs : (wg.alloc (.cells [.string ⟨pn.toArray⟩, .int .i64 k0, .string of0, .string nm0, .slice A0 m0 c0].toArray 63)) = ((((wf.setCell ⟨P, 1, none⟩ (.int .i64 k0)).setCell ⟨P, 2, none⟩ (.string of0)).setCell ⟨P, 3, none⟩ (.string nm0)).setCell ⟨P, 4, none⟩ (.slice A0 m0 c0)).alloc (.cells #[.string ⟨pn.toArray⟩, .int .i64 k0, .string of0, .string nm0, .slice A0 m0 c0] 63) := by rw [hwg.out]
                        replace hwgs := Lib.hid hwgs
                        have hPg : Blk wg P 63 #[.string ⟨pn.toArray⟩, .int .i64 k0, .string of0, .string nm0, .slice A0 m0 c0] := by
                          rw [hwg.out]
                          exact (((hPf.out.set_ 1 _).set_ 2 _).set_ 3 _).set_ 4 _
                        go_upto_region 12 with (fail)
                        rw [← hwg.out]
                        clear g1 g2 g3 g4 b0 b1 b2 b3 b4 qf2
                        have b0 := hPg.cell 0
                        have b1 := hPg.cell 1
                        have b2 := hPg.cell 2
                        have b3 := hPg.cell 3
                        have b4 := hPg.cell 4
                        have x2 := hFg.out.cell 2
                        simp only [List.getElem?_toArray, List.getElem?_cons_zero, List.getElem?_cons_succ] at b0 b1 b2 b3 b4 x2
                        have hXg := hFg.out.lt
                        have hln1 : ([] : List Pu.Fd).length ≤ 1000000 := by omega
                        have hBg : X + 1 ≤ wg.heap.size := by omega
                        have hXv2 : ∀ g, (Value.slice vA2 ([] : List Pu.Fd).length vc2).ownBlock = some g → X < g := fun g hg => by have := hlv.out g hg; omega
                        replace hPg := Lib.hid hPg
                        replace hsg := Lib.hid hsg
                        replace hXv2 := Lib.hid hXv2
                        go_wp2_with (at_builtin; refine append_fd (by rfl) _ _ (by rfl) wg (X + 1) (NewBut (w.heap.size + 1) X) (Value.slice vA2 ([] : List Pu.Fd).length vc2) [] ⟨pn, ty⟩ _ wg.heap.size (by rfl) (by rfl) rfl howng.out hfd.out hln1 hBg ?_; intro v' w' hown' hb' hsz' hgb' hob' hform'; obtain ⟨vA3, vc3, rfl⟩ := hform'; have hFv := hFg.out.grown hgb' (fun e => by have := hXv2.out X e.symm; omega); have x3 : w'.cell? ⟨X, 2, none⟩ = some (Value.slice vA2 ([] : List Pu.Fd).length vc2) := hFv.cell 2; have f3 := hFv.frozen 2; have hXw' := hFv.lt; have hpush := Lib.hid (FunLo.push hlt hXw hrg.out hgrg.out hresg.out hFg.out hXv2.out hown' hb' hgb' hob'); clear hFv; replace hown' := Lib.hid hown'; replace hob' := Lib.hid hob')
                        go_roundw
                        case rel => exact ⟨_, lf, hpush.out, List.IsSuffix.trans hsff hsfd, by simp at hlx ⊢; omega, heq5.out⟩
                        case measure => exact Nat.lt_of_le_of_lt (Nat.le_of_eq hpush.out.rd.left) (by rw [htl]; omega)

                · have heq2 := heq.out
                  have hpi : ps.isEmpty = false := by cases ps with | nil => exact absurd hps (by simp) | cons a b => rfl
                  rw [hpi] at heq2
                  rw [show (if false = true then (.ok l' : Except Nat (List Pu.Tok)) else Pu.must 44 l') = Pu.must 44 l' from rfl] at heq2
                  have hpd : decide ((0 : Int) < (ps.length : Int)) = true := by simpa using hps
                  have hm44 := must_any R 44 0 l' wr hL2.out.rd
                  replace heq2 := Lib.hid heq2
                  clear heq hpi
                  go_wp2_with fail
                  cases hM44 : Pu.must 44 l' with
                  | error k =>
                    rw [hM44] at hm44
                    have heq3 := heq2.out
                    rw [hM44] at heq3
                    obtain rfl : goal = .error k := heq3
                    refine hm44.mono ?_
                    rintro e wc ⟨rfl, rfl⟩
                    go_wp2_with fail
                    exact ⟨rfl, rfl, ⟨_, _, hL2.out.rd⟩, hL2.out.grown⟩
                  | ok lx =>
                    rw [hM44] at hm44
                    have heq3 := heq2.out
                    rw [hM44, Pu.andThen_ok] at heq3
                    have hsfx := (Pu.must_suf hM44).trans hsf
                    have hlx0 := Pu.must_len hM44
                    have hlx : ps.length + lx.length ≤ 1000 := by omega
                    clear heq2
                    have heq2 := Lib.hid heq3
                    clear heq3
                    replace hm44 := Lib.hid hm44
                    refine hm44.out.mono ?_
                    rintro e wx ⟨rfl, hrx, hgx⟩
                    have hLx := hL2.out.later hlt hgx hrx
                    replace hLx := Lib.hid hLx
                    clear hrx hpd
                    go_wp2_with fail
                    have hnp := name_any R 0 lx wx hLx.out.rd
                    have heq3 := heq2.out
                    rw [Pu.andThen_assoc] at heq3
                    unfold Pu.pParam at heq3
                    rw [Pu.andThen_assoc] at heq3
                    cases hpn : Pu.pName lx with
                    | error k =>
                      rw [hpn] at hnp heq3
                      obtain rfl : goal = .error k := heq3
                      refine hnp.mono ?_
                      rintro e wc ⟨rfl, hrc, hgc⟩
                      go_wp2_with fail
                      exact ⟨rfl, rfl, hrc, only_trans hLx.out.grown hgc⟩
                    | ok rn =>
                      obtain ⟨pn, lc⟩ := rn
                      rw [hpn] at hnp
                      rw [hpn, Pu.andThen_ok, Pu.andThen_assoc] at heq3
                      dsimp only at heq3
                      have hsfc := (Pu.pName_suf hpn).trans hsfx
                      have hlc := Pu.pName_len hpn
                      replace heq3 := Lib.hid heq3
                      replace hnp := Lib.hid hnp
                      clear heq2
                      refine hnp.out.mono ?_
                      rintro e wc ⟨rfl, hrc, hgc⟩
                      unfold str
                      have hLc := hLx.out.later hlt hgc hrc
                      have hXc : X < wc.heap.size := by
                        obtain ⟨_, _, _, _, v2, hF2, _⟩ := hLc
                        exact hF2.lt
                      obtain ⟨P, hP⟩ : ∃ P, P = wc.heap.size := ⟨_, rfl⟩
                      obtain ⟨wd, hwd⟩ : ∃ wd, wd = wc.alloc (.cells #[.string ⟨pn.toArray⟩, .int .i64 0, .string ⟨#[]⟩, .string ⟨#[]⟩, .slice none 0 0] 63) := ⟨_, rfl⟩
                      have hgd : wc.grownBy wd (some R) := by rw [hwd]; exact only_alloc (only_refl _ _) _
                      have hrd : Rd wd R lc 0 := by rw [hwd]; exact hrc.alloc _
                      have hLd := hLc.later hlt hgd hrd
                      have hPd : Blk wd P 63 #[.string ⟨pn.toArray⟩, .int .i64 0, .string ⟨#[]⟩, .string ⟨#[]⟩, .slice none 0 0] := by rw [hwd, hP]; exact Blk.new _ _ _
                      have hXP : X < P := by omega
                      have hm58 := must_any R 58 0 lc wd hrd
                      replace hwd := Lib.hid hwd
                      replace hLd := Lib.hid hLd
                      replace hLc := Lib.hid hLc
                      replace hPd := Lib.hid hPd
                      clear hrc hrd
                      go_wp2_with fail
                      rw [← hwd.out, ← hP]
                      replace hP := Lib.hid hP
                      cases hM58 : Pu.must 58 lc with
                      | error k =>
                        rw [hM58] at hm58
                        have heq4 := heq3.out
                        rw [hM58] at heq4
                        obtain rfl : goal = .error k := heq4
                        refine hm58.mono ?_
                        rintro e we ⟨rfl, rfl⟩
                        go_wp2_with fail
                        exact ⟨rfl, rfl, ⟨_, _, hLd.out.rd⟩, hLd.out.grown⟩
                      | ok ld =>
                        rw [hM58] at hm58
                        have heq4 := heq3.out
                        rw [hM58, Pu.andThen_ok, Pu.andThen_assoc] at heq4
                        have hsfd := (Pu.must_suf hM58).trans hsfc
                        have hld := Pu.must_len hM58
                        replace heq4 := Lib.hid heq4
                        replace hm58 := Lib.hid hm58
                        clear heq3
                        refine hm58.out.mono ?_
                        rintro e we ⟨rfl, hre, hge⟩
                        have hLe := hLd.out.later hlt hge hre
                        have hPe := hPd.out.grown hge (by intro e; injection e; omega)
                        have hkd := hK.out ld we hre
                        replace hLe := Lib.hid hLe
                        replace hPe := Lib.hid hPe
                        clear hre
                        go_wp2_with fail
                        cases hk1 : Pu.pKind 40 ld with
                        | error k =>
                          rw [hk1] at hkd
                          have heq5 := heq4.out
                          rw [hk1] at heq5
                          obtain rfl : goal = .error k := heq5
                          refine hkd.mono ?_
                          rintro e wf ⟨rfl, hrf, hgf⟩
                          go_wp2_with fail
                          exact ⟨rfl, rfl, hrf, only_trans hLe.out.grown hgf⟩
                        | ok rk =>
                          obtain ⟨ty, lf⟩ := rk
                          rw [hk1] at hkd
                          have heq5 := heq4.out
                          rw [hk1, Pu.andThen_ok, Pu.andThen_ok] at heq5
                          dsimp only at heq5
                          have hsff := (Pu.pKind_eats 40 ld ty lf hk1)
                          have hlf := hsff.length_le
                          replace heq5 := Lib.hid heq5
                          replace hkd := Lib.hid hkd
                          clear heq4
                          refine hkd.out.mono ?_
                          rintro e wf ⟨⟨tcs, rfl, hty⟩, hrf, hgf⟩
                          obtain ⟨k0, of0, nm0, A0, m0, c0, rfl⟩ := hty.form
                          obtain ⟨_, hgrc, hresc, _, v2, hFc, hownc⟩ := hLc.out
                          obtain ⟨vA2, vc2, rfl⟩ := hownc.len
                          have hPf := hPe.out.grown hgf (by intro e; injection e; omega)
                          have hse := hge.size
                          have hsf2 := hgf.size
                          have hPlt := hPd.out.lt
                          have hsw := hgrc.size
                          have hwcP : wc.heap.size ≤ P := by rw [hP.out]; exact Nat.le_refl _
                          have hlv := hownc.lt
                          obtain ⟨wg, hwg⟩ : ∃ wg, wg = (((wf.setCell ⟨P, 1, none⟩ (.int .i64 k0)).setCell ⟨P, 2, none⟩ (.string of0)).setCell ⟨P, 3, none⟩ (.string nm0)).setCell ⟨P, 4, none⟩ (.slice A0 m0 c0) := ⟨_, rfl⟩
                          have hcomp : wc.grownBy wg (some R) := by
                            rw [hwg]
                            exact only_setCell (only_setCell (only_setCell (only_setCell (only_trans hgd (only_trans hge hgf)) (.inr hwcP) _) (.inr hwcP) _) (.inr hwcP) _) (.inr hwcP) _
                          have hrg : Rd wg R lf 0 := by
                            rw [hwg]
                            exact (((hrf.newer (p := ⟨P, 1, none⟩) (by simp; omega) _).newer (p := ⟨P, 2, none⟩) (by simp; omega) _).newer (p := ⟨P, 3, none⟩) (by simp; omega) _).newer (p := ⟨P, 4, none⟩) (by simp; omega) _
                          have hgrg := only_trans hgrc hcomp
                          have hresg := hresc.grown hcomp (by intro e; injection e; omega)
                          have hFg := hFc.grown hcomp (by intro e; injection e; omega)
                          have howng := hownc.later hcomp (by omega) (fun h => by unfold NewBut at h; omega)
                          have htyg : TyC wg (New we.heap.size) ty [.int .i64 k0, .string of0, .string nm0, .slice A0 m0 c0] := by
                            rw [hwg]
                            exact (((hty.far (p := ⟨P, 1, none⟩) (by simp; omega) _).far (p := ⟨P, 2, none⟩) (by simp; omega) _).far (p := ⟨P, 3, none⟩) (by simp; omega) _).far (p := ⟨P, 4, none⟩) (by simp; omega) _
                          have hfd : FdC wg (fun b => NewBut (w.heap.size + 1) X b ∧ some b ≠ (Value.slice vA2 (ps : List Pu.Fd).length vc2).ownBlock) ⟨pn, ty⟩ [.string ⟨pn.toArray⟩, .int .i64 k0, .string of0, .string nm0, .slice A0 m0 c0] :=
                            ⟨_, rfl, htyg.keep (Nat.le_refl _) fun b hs _ => ⟨rfl, by unfold New at hs; exact ⟨⟨by omega, by omega⟩, fun e => by have := hlv b e.symm; omega⟩⟩⟩
                          have hsg : wg.heap.size = wf.heap.size := by rw [hwg]; simp [World.setCell]
                          have g1 := hPf.frozen 1
                          have g2 := hPf.frozen 2
                          have g3 := hPf.frozen 3
                          have g4 := hPf.frozen 4
                          have b0 := hPf.cell 0
                          have b1 := hPf.cell 1
                          have b2 := hPf.cell 2
                          have b3 := hPf.cell 3
                          have b4 := hPf.cell 4
                          have hFf := hFc.grown (only_trans hgd (only_trans hge hgf)) (by intro e; injection e; omega)
                          have qf2 := hFf.cell 2
                          have hPltf := hPf.lt
                          have hXltf := hFf.lt
                          have hXPne : X ≠ P := by omega
                          replace hwg := Lib.hid hwg
                          replace hcomp := Lib.hid hcomp
                          replace hrg := Lib.hid hrg
                          replace hgrg := Lib.hid hgrg
                          replace hresg := Lib.hid hresg
                          replace hFg := Lib.hid hFg
                          replace howng := Lib.hid howng
                          replace htyg := Lib.hid htyg
                          replace hfd := Lib.hid hfd
                          replace hFf := Lib.hid hFf
                          replace hPf := Lib.hid hPf
                          replace hownc := Lib.hid hownc
                          replace hFc := Lib.hid hFc
                          replace hresc := Lib.hid hresc
                          replace hty := Lib.hid hty
                          replace hlv := Lib.hid hlv
                          clear hrf
                          have hwgs : (wg.alloc (.cells [.string ⟨pn.toArray⟩, .int .i64 k0, .string of0, .string nm0, .slice A0 m0 c0].toArray 63)) = ((((wf.setCell ⟨P, 1, none⟩ (.int .i64 k0)).setCell ⟨P, 2, none⟩ (.string of0)).setCell ⟨P, 3, none⟩ (.string nm0)).setCell ⟨P, 4, none⟩ (.slice A0 m0 c0)).alloc (.cells #[.string ⟨pn.toArray⟩, .int .i64 k0, .string of0, .string nm0, .slice A0 m0 c0] 63) := by rw [hwg.out]
                          replace hwgs := Lib.hid hwgs
                          have hPg : Blk wg P 63 #[.string ⟨pn.toArray⟩, .int .i64 k0, .string of0, .string nm0, .slice A0 m0 c0] := by
                            rw [hwg.out]
                            exact (((hPf.out.set_ 1 _).set_ 2 _).set_ 3 _).set_ 4 _
                          go_upto_region 12 with (fail)
                          rw [← hwg.out]
                          clear g1 g2 g3 g4 b0 b1 b2 b3 b4 qf2
                          have b0 := hPg.cell 0
                          have b1 := hPg.cell 1
                          have b2 := hPg.cell 2
                          have b3 := hPg.cell 3
                          have b4 := hPg.cell 4
                          have x2 := hFg.out.cell 2
                          simp only [List.getElem?_toArray, List.getElem?_cons_zero, List.getElem?_cons_succ] at b0 b1 b2 b3 b4 x2
                          have hXg := hFg.out.lt
                          have hln1 : (ps : List Pu.Fd).length ≤ 1000000 := by omega
                          have hBg : X + 1 ≤ wg.heap.size := by omega
                          have hXv2 : ∀ g, (Value.slice vA2 (ps : List Pu.Fd).length vc2).ownBlock = some g → X < g := fun g hg => by have := hlv.out g hg; omega
                          replace hPg := Lib.hid hPg
                          replace hsg := Lib.hid hsg
                          replace hXv2 := Lib.hid hXv2
                          go_wp2_with (at_builtin; refine append_fd (by rfl) _ _ (by rfl) wg (X + 1) (NewBut (w.heap.size + 1) X) (Value.slice vA2 (ps : List Pu.Fd).length vc2) ps ⟨pn, ty⟩ _ wg.heap.size (by rfl) (by rfl) rfl howng.out hfd.out hln1 hBg ?_; intro v' w' hown' hb' hsz' hgb' hob' hform'; obtain ⟨vA3, vc3, rfl⟩ := hform'; have hFv := hFg.out.grown hgb' (fun e => by have := hXv2.out X e.symm; omega); have x3 : w'.cell? ⟨X, 2, none⟩ = some (Value.slice vA2 (ps : List Pu.Fd).length vc2) := hFv.cell 2; have f3 := hFv.frozen 2; have hXw' := hFv.lt; have hpush := Lib.hid (FunLo.push hlt hXw hrg.out hgrg.out hresg.out hFg.out hXv2.out hown' hb' hgb' hob'); clear hFv; replace hown' := Lib.hid hown'; replace hob' := Lib.hid hob')
                          go_roundw
                          case rel => exact ⟨_, lf, hpush.out, List.IsSuffix.trans hsff hsfd, by simp at hlx ⊢; omega, heq5.out⟩
                          case measure => exact Nat.lt_of_le_of_lt (Nat.le_of_eq hpush.out.rd.left) (by rw [htl]; omega)
end Go.Proofs.YtpfgjiapdepdmaaGreatDoor
