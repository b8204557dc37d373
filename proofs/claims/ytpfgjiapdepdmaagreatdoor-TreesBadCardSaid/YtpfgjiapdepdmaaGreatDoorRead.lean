/- The walk of tree.Read. -/
import Derived.Test.YtpfgjiapdepdmaaGreatDoorParse2
import Derived.Test.YtpfgjiapdepdmaaGreatDoorCut
import Derived.Test.YtpfgjiapdepdmaaGreatDoorChkM
namespace Go.Proofs.YtpfgjiapdepdmaaGreatDoor
open Go Go.RowKit Go.Shelf

/-! ### a reader's fault is not 0 -/
namespace Pu
def NZ {α : Type} (r : Except Nat α) : Prop := ∀ k, r = .error k → k ≠ 0
theorem NZ.ok {α : Type} (a : α) : NZ (.ok a : Except Nat α) := fun k h => by cases h
theorem NZ.err {α : Type} (e : Nat) : NZ (.error (e + 1) : Except Nat α) := fun k h => by cases h; omega
theorem NZ.and {α β : Type} {r : Except Nat α} {f : α → Except Nat β} (h : NZ r) (hf : ∀ a, NZ (f a)) : NZ (andThen r f) := by
  intro k e
  cases r with
  | ok a => exact hf a k e
  | error j => exact h k (by injection e with e; rw [e])
theorem NZ.must (c : UInt8) (l : List Tok) : NZ (must c l) := by unfold Pu.must; (split <;> first | exact NZ.ok _ | exact NZ.err 3)
theorem NZ.name (l : List Tok) : NZ (pName l) := by
  unfold pName
  split
  · (split <;> first | exact NZ.ok _ | exact NZ.err 3)
  · exact NZ.err 3
theorem NZ.wordK (l : List Tok) : NZ (pWord l) := by
  unfold pWord
  split
  · exact NZ.err 3
  · split
    · exact NZ.err 3
    · split
      · exact NZ.ok _
      · split
        · exact NZ.ok _
        · split
          · exact NZ.err 3
          · split
            · exact NZ.and (NZ.name _) fun _ => NZ.ok _
            · exact NZ.ok _
theorem NZ.kind : ∀ (n : Nat) (l : List Tok), NZ (pKind n l)
  | 0, _ => NZ.err 0
  | n + 1, l => by
    unfold pKind
    split
    · exact NZ.and (NZ.kind n _) fun _ => NZ.and (NZ.must _ _) fun _ => NZ.ok _
    · exact NZ.wordK _
theorem NZ.sums {post : List Tok → PR Ex} (h : ∀ l, NZ (post l)) : ∀ (k : Nat) (x : Ex) (l : List Tok), NZ (pSums post k x l)
  | 0, _, _ => NZ.ok _
  | k + 1, x, l => by
    unfold pSums
    split
    · exact NZ.ok _
    · exact NZ.and (h _) fun _ => NZ.sums h k _ _
theorem NZ.ats {expr : List Tok → PR Ex} (h : ∀ l, NZ (expr l)) : ∀ (k : Nat) (x : Ex) (l : List Tok), NZ (pAts expr k x l)
  | 0, _, _ => NZ.ok _
  | k + 1, x, l => by
    unfold pAts
    split
    · exact NZ.ok _
    · exact NZ.and (h _) fun _ => NZ.and (NZ.must _ _) fun _ => NZ.ats h k _ _
theorem NZ.more {expr : List Tok → PR Ex} (h : ∀ l, NZ (expr l)) (fin : UInt8) : ∀ (k : Nat) (x : List Ex) (l : List Tok), NZ (pMore expr fin k x l)
  | 0, _, _ => NZ.and (NZ.must _ _) fun _ => NZ.ok _
  | k + 1, x, l => by
    unfold pMore
    split
    · exact NZ.and (NZ.must _ _) fun _ => NZ.ok _
    · exact NZ.and (h _) fun _ => NZ.more h fin k _ _
theorem NZ.list {expr : List Tok → PR Ex} (h : ∀ l, NZ (expr l)) (fin : UInt8) (l : List Tok) : NZ (pList expr fin l) := NZ.and (h _) fun _ => NZ.more h fin _ _ _
theorem NZ.args {expr : List Tok → PR Ex} (h : ∀ l, NZ (expr l)) (o s : Bytes) (l : List Tok) : NZ (pArgs expr o s l) := by
  unfold pArgs
  split
  · exact NZ.ok _
  · exact NZ.and (NZ.list h _ _) fun _ => NZ.ok _
theorem NZ.named {expr : List Tok → PR Ex} (h : ∀ l, NZ (expr l)) (s : Bytes) (l : List Tok) : NZ (pNamed expr s l) := by
  unfold pNamed
  split
  · exact NZ.and (NZ.name _) fun _ => NZ.and (NZ.must _ _) fun _ => NZ.args h _ _ _
  · split
    · exact NZ.ok _
    · exact NZ.args h _ _ _
theorem NZ.leaf {expr : List Tok → PR Ex} (h : ∀ l, NZ (expr l)) (l : List Tok) : NZ (pLeaf expr l) := by
  unfold pLeaf
  split
  · exact NZ.err 3
  · split
    · exact NZ.ok _
    · split
      · exact NZ.ok _
      · split
        · exact NZ.named h _ _
        · exact NZ.err 3
theorem NZ.atom {expr : List Tok → PR Ex} (h : ∀ l, NZ (expr l)) (l : List Tok) : NZ (pAtom expr l) := by
  unfold pAtom
  split
  · exact NZ.and (h _) fun _ => NZ.and (NZ.must _ _) fun _ => NZ.ok _
  · split
    · exact NZ.and (NZ.list h _ _) fun _ => NZ.ok _
    · exact NZ.leaf h _
theorem NZ.post {expr : List Tok → PR Ex} (h : ∀ l, NZ (expr l)) (l : List Tok) : NZ (pPost expr l) := NZ.and (NZ.atom h l) fun _ => NZ.ats h _ _ _
theorem NZ.expr : ∀ (n : Nat) (l : List Tok), NZ (pExpr n l)
  | 0, _ => NZ.err 0
  | n + 1, l => NZ.and (NZ.post (NZ.expr n) l) fun _ => NZ.sums (NZ.post (NZ.expr n)) _ _ _
theorem NZ.param (l : List Tok) : NZ (pParam l) := NZ.and (NZ.name _) fun _ => NZ.and (NZ.must _ _) fun _ => NZ.and (NZ.kind _ _) fun _ => NZ.ok _
theorem NZ.params : ∀ (k : Nat) (acc : List Fd) (l : List Tok), NZ (pParams k acc l)
  | 0, _, _ => NZ.err 98
  | k + 1, acc, l => by
    unfold pParams
    split
    · exact NZ.ok _
    · refine NZ.and ?_ fun _ => NZ.and (NZ.param _) fun _ => NZ.params k _ _
      split
      · exact NZ.ok _
      · exact NZ.must _ _
theorem NZ.var (l : List Tok) : NZ (pVar l) := by
  unfold pVar
  split
  · exact NZ.and (NZ.name _) fun _ => NZ.and (NZ.must _ _) fun _ => NZ.ok _
  · exact NZ.ok _
theorem NZ.fn (l : List Tok) : NZ (pFun l) :=
  NZ.and (NZ.name _) fun _ => NZ.and (NZ.var _) fun _ => NZ.and (NZ.must _ _) fun _ => NZ.and (NZ.params _ _ _) fun _ => NZ.and (NZ.must _ _) fun _ =>
  NZ.and (NZ.kind _ _) fun _ => NZ.and (NZ.must _ _) fun _ => NZ.and (NZ.expr _ _) fun _ => NZ.ok _
theorem NZ.ended {α : Type} {r : PR α} {f : α → Md} (h : NZ r) : NZ (ended r f) := NZ.and h fun _ => by (split <;> first | exact NZ.ok _ | exact NZ.err 3)
theorem NZ.line (m : Md) (l : List Tok) : NZ (pLine m l) := by
  unfold pLine
  split
  · exact NZ.ok _
  · split
    · exact NZ.err 3
    · split
      · exact NZ.ended (NZ.name _)
      · split
        · exact NZ.ended (NZ.and (NZ.name _) fun _ => NZ.and (NZ.must _ _) fun _ => NZ.and (NZ.kind _ _) fun _ => NZ.ok _)
        · split
          · exact NZ.ended (NZ.fn _)
          · exact NZ.err 3
theorem NZ.toks : ∀ (k : Nat) (s : Bytes) (acc : List Tok), NZ (toks k s acc)
  | 0, _, _ => NZ.err 98
  | k + 1, s, acc => by
    unfold Pu.toks
    split
    · exact NZ.ok _
    · split
      · exact NZ.toks k _ _
      · exact NZ.err 3
theorem NZ.cut (s : Bytes) : NZ (cut s) := by
  unfold Pu.cut
  split
  · exact NZ.err 0
  · split
    · rename_i e he
      intro k hk
      exact NZ.toks _ _ _ k (by rw [he]; injection hk with hk; rw [hk])
    · split
      · exact NZ.err 0
      · exact NZ.ok _
theorem NZ.lines : ∀ (ls : List Bytes) (m : Md), NZ (pLines m ls)
  | [], _ => NZ.ok _
  | l :: ls, m => NZ.and (NZ.cut l) fun _ => NZ.and (NZ.line m _) fun m1 => NZ.lines ls m1
theorem NZ.read (s : Bytes) : NZ (read s) := by
  unfold Pu.read
  split
  · exact NZ.err 0
  · split
    · rename_i e he
      intro k hk
      exact NZ.lines _ _ k (by rw [he]; injection hk with hk; rw [hk])
    · split
      · exact NZ.ok _
      · rename_i h
        intro k hk
        injection hk with hk
        omega
theorem lines_size : ∀ (ls : List Bytes) (m m' : Md), pLines m ls = .ok m' → m'.uses.length + m'.types.length + m'.funcs.length ≤ m.uses.length + m.types.length + m.funcs.length + ls.length
  | [], m, m', h => by
    injection h with h
    subst h
    simp
  | l :: ls, m, m', h => by
    rw [lines_step] at h
    cases hc : Pu.cut l with
    | error k => rw [hc] at h; cases h
    | ok ts =>
      rw [hc, andThen_ok] at h
      cases hp : Pu.pLine m ts with
      | error k => rw [hp] at h; cases h
      | ok m1 =>
        rw [hp, andThen_ok] at h
        have h1 := line_size hp
        have h2 := lines_size ls m1 m' h
        simp only [List.length_cons]
        omega
end Pu

theorem parse_any (s : List UInt8) (hs : s.length ≤ 1500) (w : World) (hw : Env w) :
    Calls Tryz.prog 13 #[.string ⟨s.toArray⟩] w (ParsePost w (Pu.pLines ⟨[], [], []⟩ (Pu.linesOf s))) := parse_of (fun s W h h' => cut_any s h W h') s hs w hw

/-- what Read does -/
def ReadPost (w : World) (r : Except Nat Pu.Md) (e : Ending) (w' : World) : Prop := match r with
  | .ok m => ∃ vu vt vf, e = .returned (.tuple #[.agg #[vu, vt, vf], .int .i64 0]) ∧ MdS w' (New w.heap.size) m vu vt vf ∧ Below w.heap.size w w'
  | .error k => e = .returned (.tuple #[.agg #[.slice none 0 0, .slice none 0 0, .slice none 0 0], .int .i64 (k : Int)]) ∧ Below w.heap.size w w'

theorem read_out {w W : World} {Q : Ending → World → Prop} {tmps : Array Value} {a b c k : Value} (htmp : tmps.getD 2 undef = .pointer (some ⟨w.heap.size, 0, none⟩)) (hk : tmps.getD 3 undef = k)
    (hblk : Blk W w.heap.size 26 #[a, b, c]) (hQ : Q (.returned (.tuple #[.agg #[a, b, c], k])) W) : bodyPost Tryz.prog Tryz.f6 Q Exit.ret { tmps := tmps, defers := [] } W := by
  have k0 := hblk.cell 0
  have k1 := hblk.cell 1
  have k2 := hblk.cell 2
  simp only [List.getElem?_toArray, List.getElem?_cons_zero, List.getElem?_cons_succ] at k0 k1 k2
  rw [Array.getD_eq_getD_getElem?] at htmp hk
  exact bodyPost_ret (v := .tuple #[.agg #[a, b, c], k]) (by simp [results, Tryz.results6, go_sem, htmp, hk, k0, k1, k2]) rfl hQ

theorem store_new (P : Program) (w : World) (t : TypeId) (cs : Array Value) (i : Nat) (u v0 : Value) (hi : cs[i]? = some v0) (hu : u.oneCell' = true) :
    (store ⟨w.heap.size, i, none⟩ u).run P (w.alloc (.cells cs t)) = .ok () (w.alloc (.cells (cs.setIfInBounds i u) t)) := by
  have hc : (w.alloc (.cells cs t)).cell? ⟨w.heap.size, i, none⟩ = some v0 := by
    rw [cell_of_row _ _ i cs t (0, 0) (World.alloc_heap_new w _), hi]
  rw [run_store _ _ _ _ _ hu, hc]
  simp [World.frozen?_alloc_new, World.setCell_alloc_new]
theorem stores3 (P : Program) (w : World) (t : TypeId) (a b c u0 u1 u2 : Value) (h : One3 u0 u1 u2) :
    (store ⟨w.heap.size, 0, none⟩ u0).run P (w.alloc (.cells #[a, b, c] t)) = .ok () (w.alloc (.cells #[u0, b, c] t)) ∧
    (store ⟨w.heap.size, 1, none⟩ u1).run P (w.alloc (.cells #[u0, b, c] t)) = .ok () (w.alloc (.cells #[u0, u1, c] t)) ∧
    (store ⟨w.heap.size, 2, none⟩ u2).run P (w.alloc (.cells #[u0, u1, c] t)) = .ok () (w.alloc (.cells #[u0, u1, u2] t)) := by
  obtain ⟨h0, h1, h2⟩ := h
  exact ⟨store_new P w t #[a, b, c] 0 u0 a rfl h0, store_new P w t #[u0, b, c] 1 u1 b rfl h1, store_new P w t #[u0, u1, c] 2 u2 c rfl h2⟩

set_option maxHeartbeats 2000000 in
theorem read_any (s : List UInt8) (w : World) (hw : Env w) (hlen : s.length < 2^62) : Calls Tryz.prog 6 #[.string ⟨s.toArray⟩] w (ReadPost w (Pu.read s)) := by
  have hsz : ByteArray.size ⟨s.toArray⟩ = s.length := rfl
  obtain ⟨goal, hgoal⟩ : ∃ g, g = Pu.read s := ⟨_, rfl⟩
  rw [← hgoal]
  unfold Pu.read at hgoal
  have hB0 := (Below.refl w.heap.size w).alloc (Nat.le_refl _) (.cells #[.slice none 0 0, .slice none 0 0, .slice none 0 0] 26)
  have hM0 := Blk.new w 26 #[.slice none 0 0, .slice none 0 0, .slice none 0 0]
  obtain ⟨w0, hw0⟩ : ∃ w0, w0 = w.alloc (.cells #[.slice none 0 0, .slice none 0 0, .slice none 0 0] 26) := ⟨_, rfl⟩
  rw [← hw0] at hB0 hM0
  rcases Nat.lt_or_ge 1500 s.length with h1 | h1
  · rw [if_pos h1] at hgoal
    have e1 : decide ((1500 : Int) < (s.length : Int)) = true := by rw [decide_eq_true_iff]; omega
    subst hgoal
    go_enter Tryz.func6, Tryz.ntmps6
    go_wp2
    rw [← hw0]
    exact read_out (by rfl) (by rfl) hM0 ⟨rfl, hB0⟩
  · rw [if_neg (by omega)] at hgoal
    have e1 : decide ((1500 : Int) < (s.length : Int)) = false := by rw [decide_eq_false_iff_not]; omega
    have hp := parse_any s h1 w0 (hw.new hB0)
    have hls := Pu.linesOf_len s
    replace hM0 := Lib.hid hM0
    replace hB0 := Lib.hid hB0
    cases hpl : Pu.pLines ⟨[], [], []⟩ (Pu.linesOf s) with
    | error k =>
      rw [hpl] at hp hgoal
      have hk0 := Pu.NZ.lines _ _ _ hpl
      have ek : ((k : Int) == 0) = false := by rw [beq_eq_false_iff_ne]; omega
      replace hp := Lib.hid hp
      replace hgoal := Lib.hid hgoal
      clear hpl hls hsz
      go_enter Tryz.func6, Tryz.ntmps6
      go_wp2_with (rw [← hw0]; go_at_call 13; refine hp.out.mono ?_; rintro e w1 ⟨u0, u1, u2, rfl, ho, hb1⟩; obtain ⟨st0, st1, st2⟩ := stores3 Tryz.prog w1 26 (.slice none 0 0) (.slice none 0 0) (.slice none 0 0) u0 u1 u2 ho; have hM1 := hM0.out.below hb1 hM0.out.lt; have hB1 := hB0.out.trans (hb1.mono hB0.out.size); have c0 := hM1.cell 0; have c1 := hM1.cell 1; have c2 := hM1.cell 2; have f0 := hM1.frozen 0; have f1 := hM1.frozen 1; have f2 := hM1.frozen 2; have hlt := hM1.lt; simp only [List.getElem?_toArray, List.getElem?_cons_zero, List.getElem?_cons_succ] at c0 c1 c2; replace hM1 := Lib.hid hM1; replace hB1 := Lib.hid hB1; replace hb1 := Lib.hid hb1)
      have hM2 := (((hM1.out.set_ 0 (.slice none 0 0)).set_ 1 (.slice none 0 0)).set_ 2 (.slice none 0 0)).alloc (.cells #[u0, u1, u2] 26)
      have hB2 := (((hB1.out.setCell (p := ⟨w.heap.size, 0, none⟩) (by simp) (.slice none 0 0)).setCell (p := ⟨w.heap.size, 1, none⟩) (by simp) (.slice none 0 0)).setCell (p := ⟨w.heap.size, 2, none⟩) (by simp) (.slice none 0 0)).alloc (by simp [World.setCell]; omega) (.cells #[u0, u1, u2] 26)
      rw [hgoal.out]
      exact read_out (by rfl) (by rfl) hM2 ⟨rfl, hB2⟩
    | ok m =>
      rw [hpl] at hp hgoal
      have hsz := Pu.lines_size _ _ _ hpl
      have hsz2 : m.uses.length + m.types.length + m.funcs.length ≤ 1000000 := by
        simp only [List.length_nil] at hsz
        omega
      replace hp := Lib.hid hp
      replace hgoal := Lib.hid hgoal
      clear hpl hls hsz
      have hchk := fun vu vt vf W h => check_any m vu vt vf W h hsz2
      replace hchk := Lib.hid hchk
      by_cases hmf : Pu.mdFault m = 0
      · replace hgoal : goal = .ok m := by rw [hgoal.out]; simp only; rw [if_pos hmf]
        rw [hgoal]
        clear hgoal
        go_enter Tryz.func6, Tryz.ntmps6
        go_wp2_with (rw [← hw0]; go_at_call 13; refine hp.out.mono ?_; rintro e w1 ⟨vu, vt, vf, rfl, hm1, hb1⟩; obtain ⟨uA, uc, rfl⟩ := hm1.us.form; obtain ⟨tA, tc, rfl⟩ := hm1.ts.form; obtain ⟨fA, fc, rfl⟩ := hm1.fs.form; have hM1 := hM0.out.below hb1 hM0.out.lt; have hB1 := hB0.out.trans (hb1.mono hB0.out.size); have hs1 := hM1.lt; replace hM1 := Lib.hid hM1; replace hB1 := Lib.hid hB1; replace hb1 := Lib.hid hb1; replace hm1 := Lib.hid hm1)
        have hmw := hm1.out.keep (w' := w1.alloc (.cells #[.slice uA m.uses.length uc, .slice tA m.types.length tc, .slice fA m.funcs.length fc] 26)) (S' := fun _ => True) (by simp) (fun b _ hlt => ⟨Below.heap_alloc w1 _ b hlt, trivial⟩)
        have hM2 := hM1.out.alloc (.cells #[.slice uA m.uses.length uc, .slice tA m.types.length tc, .slice fA m.funcs.length fc] 26)
        have hX2 := Blk.new w1 26 #[.slice uA m.uses.length uc, .slice tA m.types.length tc, .slice fA m.funcs.length fc]
        have hB2 := hB1.out.alloc hB1.out.size (.cells #[.slice uA m.uses.length uc, .slice tA m.types.length tc, .slice fA m.funcs.length fc] 26)
        have hs2 : (w1.alloc (.cells #[.slice uA m.uses.length uc, .slice tA m.types.length tc, .slice fA m.funcs.length fc] 26)).heap.size = w1.heap.size + 1 := by simp
        have ho2 : ∀ b, b < w1.heap.size → (w1.alloc (.cells #[.slice uA m.uses.length uc, .slice tA m.types.length tc, .slice fA m.funcs.length fc] 26)).heap[b]? = w1.heap[b]? := fun b hb => Below.heap_alloc w1 _ b hb
        refine (hchk.out _ _ _ _ hmw).mono ?_
        rintro e w3 ⟨he, hb3⟩
        have hM3 := hM2.below hb3 hM2.lt
        have hX3 := hX2.below hb3 hX2.lt
        have hB3 := hB2.trans (hb3.mono hB2.size)
        have hs3 := hb3.size
        rw [hs2] at hs3
        have hh3 : ∀ b, b < w1.heap.size → w3.heap[b]? = w1.heap[b]? := fun b hb => (hb3.block b (by rw [hs2]; omega)).trans (ho2 b hb)
        clear hM2 hX2 hB2 ho2 hmw hs2 hb3
        have c0 := hM3.cell 0
        have c1 := hM3.cell 1
        have c2 := hM3.cell 2
        have f0 := hM3.frozen 0
        have f1 := hM3.frozen 1
        have f2 := hM3.frozen 2
        have d0 := hX3.cell 0
        have d1 := hX3.cell 1
        have d2 := hX3.cell 2
        simp only [List.getElem?_toArray, List.getElem?_cons_zero, List.getElem?_cons_succ] at c0 c1 c2 d0 d1 d2
        replace hM3 := Lib.hid hM3
        replace hX3 := Lib.hid hX3
        replace hB3 := Lib.hid hB3
        replace hh3 := Lib.hid hh3
        replace he : e = .returned (.int .i64 0) := by rw [he, hmf]; rfl
        subst he
        have hs0 : w0.heap.size = w.heap.size + 1 := by rw [hw0]; simp
        have hs0' := Lib.hid hs0
        clear hs0
        go_wp2
        have hM4 := ((hM3.out.set_ 0 (.slice uA m.uses.length uc)).set_ 1 (.slice tA m.types.length tc)).set_ 2 (.slice fA m.funcs.length fc)
        have hB4 := ((hB3.out.setCell (p := ⟨w.heap.size, 0, none⟩) (by simp) (.slice uA m.uses.length uc)).setCell (p := ⟨w.heap.size, 1, none⟩) (by simp) (.slice tA m.types.length tc)).setCell (p := ⟨w.heap.size, 2, none⟩) (by simp) (.slice fA m.funcs.length fc)
        refine read_out (by rfl) (by rfl) hM4 ⟨_, _, _, rfl, hm1.out.keep (by simp [World.setCell]; omega) (fun b hb hlt => ?_), hB4⟩
        have hs0 := hs0'.out
        unfold New at hb ⊢
        refine ⟨?_, by omega⟩
        exact (Below.heap_setCell _ _ _ _ (by simp; omega)).trans ((Below.heap_setCell _ _ _ _ (by simp; omega)).trans ((Below.heap_setCell _ _ _ _ (by simp; omega)).trans (hh3.out b hlt)))
      · replace hgoal : goal = .error (Pu.mdFault m) := by rw [hgoal.out]; simp only; rw [if_neg hmf]
        rw [hgoal]
        clear hgoal
        obtain ⟨r, hr⟩ : ∃ r, r = Pu.mdFault m := ⟨_, rfl⟩
        rw [← hr] at hmf hchk ⊢
        clear hr
        go_enter Tryz.func6, Tryz.ntmps6
        go_wp2_with (rw [← hw0]; go_at_call 13; refine hp.out.mono ?_; rintro e w1 ⟨vu, vt, vf, rfl, hm1, hb1⟩; obtain ⟨uA, uc, rfl⟩ := hm1.us.form; obtain ⟨tA, tc, rfl⟩ := hm1.ts.form; obtain ⟨fA, fc, rfl⟩ := hm1.fs.form; have hM1 := hM0.out.below hb1 hM0.out.lt; have hB1 := hB0.out.trans (hb1.mono hB0.out.size); have hs1 := hM1.lt; replace hM1 := Lib.hid hM1; replace hB1 := Lib.hid hB1; replace hb1 := Lib.hid hb1; replace hm1 := Lib.hid hm1)
        have hmw := hm1.out.keep (w' := w1.alloc (.cells #[.slice uA m.uses.length uc, .slice tA m.types.length tc, .slice fA m.funcs.length fc] 26)) (S' := fun _ => True) (by simp) (fun b _ hlt => ⟨Below.heap_alloc w1 _ b hlt, trivial⟩)
        have hM2 := hM1.out.alloc (.cells #[.slice uA m.uses.length uc, .slice tA m.types.length tc, .slice fA m.funcs.length fc] 26)
        have hX2 := Blk.new w1 26 #[.slice uA m.uses.length uc, .slice tA m.types.length tc, .slice fA m.funcs.length fc]
        have hB2 := hB1.out.alloc hB1.out.size (.cells #[.slice uA m.uses.length uc, .slice tA m.types.length tc, .slice fA m.funcs.length fc] 26)
        have hs2 : (w1.alloc (.cells #[.slice uA m.uses.length uc, .slice tA m.types.length tc, .slice fA m.funcs.length fc] 26)).heap.size = w1.heap.size + 1 := by simp
        have ho2 : ∀ b, b < w1.heap.size → (w1.alloc (.cells #[.slice uA m.uses.length uc, .slice tA m.types.length tc, .slice fA m.funcs.length fc] 26)).heap[b]? = w1.heap[b]? := fun b hb => Below.heap_alloc w1 _ b hb
        refine (hchk.out _ _ _ _ hmw).mono ?_
        rintro e w3 ⟨he, hb3⟩
        have hM3 := hM2.below hb3 hM2.lt
        have hX3 := hX2.below hb3 hX2.lt
        have hB3 := hB2.trans (hb3.mono hB2.size)
        have hs3 := hb3.size
        rw [hs2] at hs3
        have hh3 : ∀ b, b < w1.heap.size → w3.heap[b]? = w1.heap[b]? := fun b hb => (hb3.block b (by rw [hs2]; omega)).trans (ho2 b hb)
        clear hM2 hX2 hB2 ho2 hmw hs2 hb3
        have c0 := hM3.cell 0
        have c1 := hM3.cell 1
        have c2 := hM3.cell 2
        have f0 := hM3.frozen 0
        have f1 := hM3.frozen 1
        have f2 := hM3.frozen 2
        have d0 := hX3.cell 0
        have d1 := hX3.cell 1
        have d2 := hX3.cell 2
        simp only [List.getElem?_toArray, List.getElem?_cons_zero, List.getElem?_cons_succ] at c0 c1 c2 d0 d1 d2
        replace hM3 := Lib.hid hM3
        replace hX3 := Lib.hid hX3
        replace hB3 := Lib.hid hB3
        replace hh3 := Lib.hid hh3
        subst he
        have ek : ((r : Int) == 0) = false := by rw [beq_eq_false_iff_ne]; omega
        go_wp2
        have hM4 := ((hM3.out.set_ 0 (.slice none 0 0)).set_ 1 (.slice none 0 0)).set_ 2 (.slice none 0 0)
        have hB4 := ((hB3.out.setCell (p := ⟨w.heap.size, 0, none⟩) (by simp) (.slice none 0 0)).setCell (p := ⟨w.heap.size, 1, none⟩) (by simp) (.slice none 0 0)).setCell (p := ⟨w.heap.size, 2, none⟩) (by simp) (.slice none 0 0)
        exact read_out (by rfl) (by rfl) hM4 ⟨rfl, hB4⟩
end Go.Proofs.YtpfgjiapdepdmaaGreatDoor
