/- The walk of token.first. -/
import Derived.Test.YtpfgjiapdepdmaaGreatDoorCut1
import Derived.Deep.RegionLaw
namespace Go.Proofs.YtpfgjiapdepdmaaGreatDoor
open Go.RowKit Go.Shelf

/-- what first hands back -/
def firstV (r : Pu.Tok × List UInt8 × Bool) : Value := .tuple #[.agg #[.int .i64 (r.1.kind : Int), .string ⟨r.1.text.toArray⟩], .string ⟨r.2.1.toArray⟩, .bool r.2.2]
/-- a return with the token in the result's block -/
theorem tok_ret {Q : Ending → World → Prop} {W : World} {V : Nat} {tmps : Array Value} {k : Int} {x r : ByteArray} {b : Bool} (h2 : tmps.getD 2 undef = .pointer (some ⟨V, 0, none⟩)) (h3 : tmps.getD 3 undef = .string r) (h4 : tmps.getD 4 undef = .bool b)
    (hb : Blk W V 96 #[.int .i64 k, .string x]) (hQ : Q (.returned (.tuple #[.agg #[.int .i64 k, .string x], .string r, .bool b])) W) :
    bodyPost Tryz.prog Tryz.f62 Q Exit.ret { tmps := tmps, defers := [] } W := by
  have c0 := hb.cell 0
  have c1 := hb.cell 1
  simp only [List.getElem?_toArray, List.getElem?_cons_zero, List.getElem?_cons_succ] at c0 c1
  rw [Array.getD_eq_getD_getElem?] at h2 h3 h4
  exact bodyPost_ret (v := .tuple #[.agg #[.int .i64 k, .string x], .string r, .bool b]) (by simp [results, Tryz.results62, go_sem, h2, h3, h4, c0, c1]) rfl hQ
theorem bt_zero (c : UInt8) (t : List UInt8) : bt ⟨(c :: t).toArray⟩ 0 = (c.toNat : Int) := rfl
theorem first_quote (c : UInt8) (t l : List UInt8) (hl : l = c :: t) (hs : l.length ≤ 1500) (hc : c = 34) (w : World) :
    Calls Tryz.prog 62 #[.string ⟨l.toArray⟩] w fun e w' => e = .returned (firstV (Pu.first l)) ∧ Below w.heap.size w w' := by
  have hf : firstV (Pu.first l) = .tuple #[.agg #[.int .i64 3, .string ⟨(t.takeWhile (· != 34)).toArray⟩], .string ⟨((t.dropWhile (· != 34)).tail).toArray⟩, .bool (!(t.dropWhile (· != 34)).isEmpty && Pu.quotable (t.takeWhile (· != 34)))] := by
    rw [hl]
    simp only [Pu.first, if_pos hc]
    rfl
  rw [hf]
  have hsz : (⟨l.toArray⟩ : ByteArray).size = l.length := size_toArray l
  have hlt : t.length + 1 = l.length := by rw [hl]; rfl
  have hex : (⟨l.toArray⟩ : ByteArray).extract 1 l.length = ⟨t.toArray⟩ := by rw [ext_list, List.take_length, hl]; rfl
  have h0 : 0 < l.length := by omega
  have hb := bt_get ⟨l.toArray⟩ 0 (by rw [hsz]; exact h0)
  have hb0 : (bt ⟨l.toArray⟩ 0 == 34) = true := by rw [hl, bt_zero, hc]; rfl
  have hq := fun W => quot_any ⟨(t.takeWhile (· != 34)).toArray⟩ W
  rw [quotB_eq] at hq
  obtain ⟨body, hbody⟩ : ∃ b, b = t.takeWhile (· != 34) := ⟨_, rfl⟩
  obtain ⟨rest, hrest⟩ : ∃ r, r = t.dropWhile (· != 34) := ⟨_, rfl⟩
  have hcut := fun W => cut_one t 34 (by omega) W
  unfold cutAt at hcut
  rw [← hbody] at hcut hq ⊢
  rw [← hrest] at hcut ⊢
  have hq' := Lib.hid hq
  have hcut' := Lib.hid hcut
  have hl' := Lib.hid hl
  replace hbody := Lib.hid hbody
  replace hrest := Lib.hid hrest
  clear hq hcut hl hf hc
  cases hr : rest with
  | nil =>
    rw [hr] at hcut'
    go_enter Tryz.func62, Tryz.ntmps62
    go_wp2_with fail
    refine (hcut'.out _).mono ?_
    rintro e w1 ⟨rfl, n, rfl⟩
    go_wp2_with fail
    refine tok_ret (by rfl) (by rfl) (by rfl) ((((Blk.new w 96 #[.int .i64 0, .string ⟨#[]⟩]).drewN n).set_ 0 (.int .i64 3)).set_ 1 (.string ⟨body.toArray⟩)) ⟨rfl, ?_⟩
    exact ((below_drewN ((Below.refl w.heap.size w).alloc (Nat.le_refl _) _) n).setCell (p := ⟨w.heap.size, 0, none⟩) (Nat.le_refl _) _).setCell (p := ⟨w.heap.size, 1, none⟩) (Nat.le_refl _) _
  | cons a b =>
    rw [hr] at hcut'
    go_enter Tryz.func62, Tryz.ntmps62
    go_wp2_with fail
    refine (hcut'.out _).mono ?_
    rintro e w1 ⟨rfl, n, rfl⟩
    go_wp2_with fail
    refine (hq'.out _).mono ?_
    rintro e w2 ⟨rfl, hb2⟩
    have bk2 := ((Blk.new w 96 #[.int .i64 0, .string ⟨#[]⟩]).drewN n).below hb2 (by simp [World.drewN])
    have z0 := bk2.frozen 0
    have z1 := bk2.frozen 1
    have q0 := bk2.cell 0
    have q1 := bk2.cell 1
    have hlt2 := bk2.lt
    simp only [List.getElem?_toArray, List.getElem?_cons_zero, List.getElem?_cons_succ] at q0 q1
    replace bk2 := Lib.hid bk2
    go_wp2_with fail
    refine tok_ret (by rfl) (by rfl) (by rfl) ((bk2.out.set_ 0 (.int .i64 3)).set_ 1 (.string ⟨body.toArray⟩)) ⟨rfl, ?_⟩
    exact (((below_drewN ((Below.refl w.heap.size w).alloc (Nat.le_refl _) _) n).trans (hb2.mono (by simp [World.drewN]))).setCell (p := ⟨w.heap.size, 0, none⟩) (Nat.le_refl _) _).setCell (p := ⟨w.heap.size, 1, none⟩) (Nat.le_refl _) _

def alB (c : Int) : Bool := smallI c || digitI c
theorem alB_eq (c : UInt8) : alB (c.toNat : Int) = Pu.alnum c := by unfold alB Pu.alnum; rw [smallI_eq, digitI_eq]
theorem while_at (p : UInt8 → Bool) : ∀ (l : List UInt8) (k : Nat), k ≤ l.length → (∀ j, j < k → p (l.getD j 0) = true) → (k = l.length ∨ p (l.getD k 0) = false) → l.takeWhile p = l.take k ∧ l.dropWhile p = l.drop k
  | [], k, hk, _, _ => by have : k = 0 := by simpa using hk
                          subst this; exact ⟨rfl, rfl⟩
  | a :: t, k, hk, h, he => by
    cases k with
    | zero =>
      have e : p a = false := by
        rcases he with he | he
        · simp at he
        · simpa using he
      rw [List.takeWhile_cons, List.dropWhile_cons, if_neg (by simp [e]), if_neg (by simp [e])]
      exact ⟨rfl, rfl⟩
    | succ k =>
      have e : p a = true := by simpa using h 0 (by omega)
      obtain ⟨h1, h2⟩ := while_at p t k (by simpa using hk) (fun j hj => by simpa using h (j + 1) (by omega)) (by
        rcases he with he | he
        · left; simpa using he
        · right; simpa using he)
      rw [List.takeWhile_cons, List.dropWhile_cons, if_pos e, if_pos e, h1, h2]
      exact ⟨rfl, rfl⟩
theorem idx_contains : ∀ (l : List UInt8) (c : UInt8), decide (0 ≤ Lib.indexByte l c) = l.contains c
  | [], c => by simp [Lib.indexByte]
  | a :: t, c => by
    have ih := idx_contains t c
    have hge := Lib.indexByte_ge t c
    unfold Lib.indexByte
    rw [List.contains_cons, ← ih]
    by_cases hc : a = c
    · subst hc; simp
    · have e : (a == c) = false := by simpa using hc
      have e2 : (c == a) = false := by simpa using fun h => hc h.symm
      rw [e, e2]
      by_cases h1 : Lib.indexByte t c = -1
      · rw [h1]; rfl
      · have e1 : (Lib.indexByte t c == -1) = false := by simpa using h1
        rw [e1]
        have h2 : 0 ≤ Lib.indexByte t c := by omega
        simp [h2]
        omega
def AllTo (S : ByteArray) (k : Nat) : Prop := ∀ j, j < k → alB (bt S j) = true
theorem scan_at {l : List UInt8} {k : Nat} (hk : k ≤ l.length) (h : AllTo ⟨l.toArray⟩ k) (he : k = l.length ∨ alB (bt ⟨l.toArray⟩ k) = false) : l.takeWhile Pu.alnum = l.take k ∧ l.dropWhile Pu.alnum = l.drop k := by
  refine while_at Pu.alnum l k hk (fun j hj => ?_) ?_
  · have := h j hj
    rw [bt_toArray, alB_eq] at this
    exact this
  · rcases he with he | he
    · exact .inl he
    · rw [bt_toArray, alB_eq] at he
      exact .inr he
theorem first_sign {c : UInt8} {t l : List UInt8} {k : Nat} (hl : l = c :: t) (h : AllTo ⟨l.toArray⟩ k) (he : k = l.length ∨ alB (bt ⟨l.toArray⟩ k) = false) (hk : k = 0) (hc : c ≠ 34) :
    firstV (Pu.first l) = .tuple #[.agg #[.int .i64 4, .string ⟨#[c]⟩], .string ⟨t.toArray⟩, .bool (Pu.signs.contains c)] ∧ (⟨l.toArray⟩ : ByteArray).extract 0 1 = ⟨#[c]⟩ ∧ (⟨l.toArray⟩ : ByteArray).extract 1 l.length = ⟨t.toArray⟩ := by
  obtain ⟨h1, h2⟩ := scan_at (by omega) h he
  subst hk
  refine ⟨?_, by rw [ext_list, hl]; rfl, by rw [ext_list, List.take_length, hl]; rfl⟩
  rw [hl] at h1 ⊢
  have e : ((c :: t).takeWhile Pu.alnum).isEmpty = true := by rw [h1]; rfl
  simp only [Pu.first, if_neg hc, e, if_true]
  rfl
theorem first_word {c : UInt8} {t l : List UInt8} {k : Nat} (hl : l = c :: t) (hk : k ≤ l.length) (h : AllTo ⟨l.toArray⟩ k) (he : k = l.length ∨ alB (bt ⟨l.toArray⟩ k) = false) (hk0 : 0 < k) (hc : c ≠ 34) (hs : smallI (bt ⟨l.toArray⟩ 0) = true) :
    firstV (Pu.first l) = .tuple #[.agg #[.int .i64 1, .string ⟨(l.take k).toArray⟩], .string ⟨(l.drop k).toArray⟩, .bool (Pu.word (l.take k))] ∧ (⟨l.toArray⟩ : ByteArray).extract 0 k = ⟨(l.take k).toArray⟩ ∧ (⟨l.toArray⟩ : ByteArray).extract k l.length = ⟨(l.drop k).toArray⟩ := by
  obtain ⟨h1, h2⟩ := scan_at hk h he
  refine ⟨?_, ext_list l 0 k, by rw [ext_list, List.take_length]⟩
  have e : (l.takeWhile Pu.alnum).isEmpty = false := by
    rw [h1, hl]
    cases k with
    | zero => omega
    | succ k => rfl
  have e2 : Pu.small c = true := by rw [hl, bt_zero, smallI_eq] at hs; exact hs
  rw [hl] at e h1 h2 ⊢
  simp only [Pu.first, if_neg hc, e, e2, if_true, Bool.false_eq_true, if_false]
  rw [h1, h2]
  rfl
theorem first_num {c : UInt8} {t l : List UInt8} {k : Nat} (hl : l = c :: t) (hk : k ≤ l.length) (h : AllTo ⟨l.toArray⟩ k) (he : k = l.length ∨ alB (bt ⟨l.toArray⟩ k) = false) (hk0 : 0 < k) (hc : c ≠ 34) (hs : smallI (bt ⟨l.toArray⟩ 0) = false) :
    firstV (Pu.first l) = .tuple #[.agg #[.int .i64 2, .string ⟨(l.take k).toArray⟩], .string ⟨(l.drop k).toArray⟩, .bool (Pu.number (l.take k))] ∧ (⟨l.toArray⟩ : ByteArray).extract 0 k = ⟨(l.take k).toArray⟩ ∧ (⟨l.toArray⟩ : ByteArray).extract k l.length = ⟨(l.drop k).toArray⟩ := by
  obtain ⟨h1, h2⟩ := scan_at hk h he
  refine ⟨?_, ext_list l 0 k, by rw [ext_list, List.take_length]⟩
  have e : (l.takeWhile Pu.alnum).isEmpty = false := by
    rw [h1, hl]
    cases k with
    | zero => omega
    | succ k => rfl
  have e2 : Pu.small c = false := by rw [hl, bt_zero, smallI_eq] at hs; exact hs
  rw [hl] at e h1 h2 ⊢
  simp only [Pu.first, if_neg hc, e, e2, Bool.false_eq_true, if_false]
  rw [h1, h2]
  rfl
set_option maxHeartbeats 16000000 in
theorem first_rest (c : UInt8) (t l : List UInt8) (hl : l = c :: t) (hs : l.length ≤ 1500) (hc : c ≠ 34) (w : World) (hw : Env w) :
    Calls Tryz.prog 62 #[.string ⟨l.toArray⟩] w fun e w' => e = .returned (firstV (Pu.first l)) ∧ Below w.heap.size w w' := by
  have hsz : (⟨l.toArray⟩ : ByteArray).size = l.length := size_toArray l
  have hlt : t.length + 1 = l.length := by rw [hl]; rfl
  have h0 : 0 < l.length := by omega
  have hb := bt_get ⟨l.toArray⟩ 0 (by rw [hsz]; exact h0)
  have hb0 : (bt ⟨l.toArray⟩ 0 == 34) = false := by
    rw [hl, bt_zero, beq_eq_false_iff_ne]
    intro e
    apply hc
    apply UInt8.toNat_inj.1
    have : c.toNat = 34 := by omega
    exact this
  obtain ⟨goal, hg⟩ : ∃ g, g = firstV (Pu.first l) := ⟨_, rfl⟩
  rw [← hg]
  have hg' := Lib.hid hg
  have hw' := Lib.hid hw
  have hl' := Lib.hid hl
  have hc' := Lib.hid hc
  clear hg hw hl hc
  go_enter Tryz.func62, Tryz.ntmps62
  go_wp2_with fail
  go_loop [8] (fun i => ∃ k : Nat, k ≤ l.length ∧ i = .int .i64 k ∧ AllTo ⟨l.toArray⟩ k) (fun i => l.length - (intOf i).toNat)
  case atStart => exact ⟨0, Nat.zero_le _, rfl, fun j h => absurd h (by omega)⟩
  case round =>
    obtain ⟨k, hk, rfl, hall⟩ := hrel
    have hall' := Lib.hid hall
    clear hall
    by_cases hlk : k < l.length
    · have hbk := bt_get ⟨l.toArray⟩ k (by rw [hsz]; exact hlk)
      cases hsm : smallI (bt ⟨l.toArray⟩ k) with
      | true =>
        have hsm' := Lib.hid hsm
        have hnext : AllTo ⟨l.toArray⟩ (k + 1) := fun j hj => by
          rcases Nat.lt_or_ge j k with h | h
          · exact hall'.out j h
          · obtain rfl : j = k := by omega
            unfold alB; rw [hsm]; rfl
        replace hnext := Lib.hid hnext
        go_wp2_with (go_at_call 91; refine (small_any _ _).mono ?_; rintro e w' ⟨rfl, rfl⟩)
        go_round
        case rel => exact ⟨k + 1, by omega, by go_num, hnext.out⟩
        case measure => simp [intOf]; omega
      | false =>
        cases hdg : digitI (bt ⟨l.toArray⟩ k) with
        | true =>
          have hnext : AllTo ⟨l.toArray⟩ (k + 1) := fun j hj => by
            rcases Nat.lt_or_ge j k with h | h
            · exact hall'.out j h
            · obtain rfl : j = k := by omega
              unfold alB; rw [hdg, Bool.or_true]
          replace hnext := Lib.hid hnext
          go_wp2_with (first | (go_at_call 91; refine (small_any _ _).mono ?_; rintro e w' ⟨rfl, rfl⟩) | (go_at_call 92; refine (digit_any _ _).mono ?_; rintro e w' ⟨rfl, rfl⟩))
          go_round
          case rel => exact ⟨k + 1, by omega, by go_num, hnext.out⟩
          case measure => simp [intOf]; omega
        | false =>
          have hend : k = l.length ∨ alB (bt ⟨l.toArray⟩ k) = false := .inr (by unfold alB; rw [hsm, hdg]; rfl)
          rcases Nat.eq_zero_or_pos k with hk0 | hk0
          · obtain ⟨hv, hex0, hex1⟩ := first_sign hl'.out hall'.out hend hk0 hc'.out
            have hz : ((k : Int) == 0) = true := by rw [hk0]; rfl
            have h1l : 1 ≤ l.length := h0
            have hct := fun W => Tryz.strings_Contains_one ⟨#[61, 40, 41, 91, 93, 44, 43, 46, 58, 60, 62]⟩ c W
            rw [show (⟨#[61, 40, 41, 91, 93, 44, 43, 46, 58, 60, 62]⟩ : ByteArray).data.toList = Pu.signs from rfl, idx_contains] at hct
            rw [← hg'.out] at hv
            obtain ⟨bb, hbb⟩ : ∃ bb, bb = Pu.signs.contains c := ⟨_, rfl⟩
            rw [← hbb] at hv hct
            replace hbb := Lib.hid hbb
            have hct' := Lib.hid hct
            have hv' := Lib.hid hv
            clear hct hv hk0 hend
            go_wp2_with (first | (go_at_call 91; refine (small_any _ _).mono ?_; rintro e w' ⟨rfl, rfl⟩) | (go_at_call 92; refine (digit_any _ _).mono ?_; rintro e w' ⟨rfl, rfl⟩))
            go_region_with (go_at_call 93; refine (hct'.out _).mono ?_; rintro e w' ⟨rfl, hww⟩; obtain rfl := hww.symm)
            all_goals
              go_wp2_with fail
              rw [hv'.out]
              refine tok_ret (by rfl) (by rfl) (by rfl) ((Blk.new w 96 #[.int .i64 4, .string ⟨#[c]⟩]).drew) ⟨rfl, ?_⟩
              exact below_drewN ((Below.refl w.heap.size w).alloc (Nat.le_refl _) _) 1
          · have hz : ((k : Int) == 0) = false := by rw [beq_eq_false_iff_ne]; omega
            cases hs0 : smallI (bt ⟨l.toArray⟩ 0) with
            | true =>
              obtain ⟨hv, hex0, hex1⟩ := first_word hl'.out hk hall'.out hend hk0 hc'.out hs0
              rw [← hg'.out] at hv
              have hcw := fun W => word_any ⟨(l.take k).toArray⟩ W
              rw [wordB_eq] at hcw
              have hcw' := Lib.hid hcw
              have hv' := Lib.hid hv
              clear hcw hv hend
              go_wp2_with (first | (go_at_call 91; refine (small_any _ _).mono ?_; rintro e w' ⟨rfl, rfl⟩) | (go_at_call 92; refine (digit_any _ _).mono ?_; rintro e w' ⟨rfl, rfl⟩))
              go_region_with (go_at_call 68; refine (hcw'.out _).mono ?_; rintro e w2 ⟨rfl, hb2⟩; have bk2 := (Blk.new w 96 #[.int .i64 0, .string ⟨#[]⟩]).drew.below hb2 (by simp [World.drew]); have z0 := bk2.frozen 0; have z1 := bk2.frozen 1; have q0 : w2.cell? ⟨w.heap.size, 0, none⟩ = some (.int .i64 0) := bk2.cell 0; have q1 : w2.cell? ⟨w.heap.size, 1, none⟩ = some (.string ⟨#[]⟩) := bk2.cell 1; have hlt2 := bk2.lt; replace bk2 := Lib.hid bk2)
              all_goals
                go_wp2_with fail
                rw [hv'.out]
                refine tok_ret (by rfl) (by rfl) (by rfl) ((bk2.out.set_ 0 (.int .i64 1)).set_ 1 (.string ⟨(l.take k).toArray⟩)) ⟨rfl, ?_⟩
                exact (((below_drewN ((Below.refl w.heap.size w).alloc (Nat.le_refl _) _) 1).trans (hb2.mono (by simp [World.drew]))).setCell (p := ⟨w.heap.size, 0, none⟩) (Nat.le_refl _) _).setCell (p := ⟨w.heap.size, 1, none⟩) (Nat.le_refl _) _
            | false =>
              obtain ⟨hv, hex0, hex1⟩ := first_num hl'.out hk hall'.out hend hk0 hc'.out hs0
              rw [← hg'.out] at hv
              have hcw := fun W hW => number_any (l.take k) (by simp; omega) W hW
              have hWe : Env (w.alloc (.cells #[.int .i64 0, .string ⟨#[]⟩] 96)).drew := hw'.out.new (below_drewN ((Below.refl w.heap.size w).alloc (Nat.le_refl _) _) 1)
              have hcw' := Lib.hid hcw
              have hv' := Lib.hid hv
              have hWe' := Lib.hid hWe
              clear hcw hv hend hWe
              go_wp2_with (first | (go_at_call 91; refine (small_any _ _).mono ?_; rintro e w' ⟨rfl, rfl⟩) | (go_at_call 92; refine (digit_any _ _).mono ?_; rintro e w' ⟨rfl, rfl⟩))
              go_region_with (go_at_call 94; refine (hcw'.out _ hWe'.out).mono ?_; rintro e w2 ⟨rfl, hb2⟩; have bk2 := (Blk.new w 96 #[.int .i64 0, .string ⟨#[]⟩]).drew.below hb2 (by simp [World.drew]); have z0 := bk2.frozen 0; have z1 := bk2.frozen 1; have q0 : w2.cell? ⟨w.heap.size, 0, none⟩ = some (.int .i64 0) := bk2.cell 0; have q1 : w2.cell? ⟨w.heap.size, 1, none⟩ = some (.string ⟨#[]⟩) := bk2.cell 1; have hlt2 := bk2.lt; replace bk2 := Lib.hid bk2)
              all_goals
                go_wp2_with fail
                rw [hv'.out]
                refine tok_ret (by rfl) (by rfl) (by rfl) ((bk2.out.set_ 0 (.int .i64 2)).set_ 1 (.string ⟨(l.take k).toArray⟩)) ⟨rfl, ?_⟩
                exact (((below_drewN ((Below.refl w.heap.size w).alloc (Nat.le_refl _) _) 1).trans (hb2.mono (by simp [World.drew]))).setCell (p := ⟨w.heap.size, 0, none⟩) (Nat.le_refl _) _).setCell (p := ⟨w.heap.size, 1, none⟩) (Nat.le_refl _) _
    · have hend : k = l.length ∨ alB (bt ⟨l.toArray⟩ k) = false := .inl (by omega)
      rcases Nat.eq_zero_or_pos k with hk0 | hk0
      · exact absurd hk0 (by omega)
      · have hz : ((k : Int) == 0) = false := by rw [beq_eq_false_iff_ne]; omega
        cases hs0 : smallI (bt ⟨l.toArray⟩ 0) with
        | true =>
          obtain ⟨hv, hex0, hex1⟩ := first_word hl'.out hk hall'.out hend hk0 hc'.out hs0
          rw [← hg'.out] at hv
          have hcw := fun W => word_any ⟨(l.take k).toArray⟩ W
          rw [wordB_eq] at hcw
          have hcw' := Lib.hid hcw
          have hv' := Lib.hid hv
          clear hcw hv hend
          go_wp2_with (first | (go_at_call 91; refine (small_any _ _).mono ?_; rintro e w' ⟨rfl, rfl⟩) | (go_at_call 92; refine (digit_any _ _).mono ?_; rintro e w' ⟨rfl, rfl⟩))
          go_region_with (go_at_call 68; refine (hcw'.out _).mono ?_; rintro e w2 ⟨rfl, hb2⟩; have bk2 := (Blk.new w 96 #[.int .i64 0, .string ⟨#[]⟩]).drew.below hb2 (by simp [World.drew]); have z0 := bk2.frozen 0; have z1 := bk2.frozen 1; have q0 : w2.cell? ⟨w.heap.size, 0, none⟩ = some (.int .i64 0) := bk2.cell 0; have q1 : w2.cell? ⟨w.heap.size, 1, none⟩ = some (.string ⟨#[]⟩) := bk2.cell 1; have hlt2 := bk2.lt; replace bk2 := Lib.hid bk2)
          all_goals
            go_wp2_with fail
            rw [hv'.out]
            refine tok_ret (by rfl) (by rfl) (by rfl) ((bk2.out.set_ 0 (.int .i64 1)).set_ 1 (.string ⟨(l.take k).toArray⟩)) ⟨rfl, ?_⟩
            exact (((below_drewN ((Below.refl w.heap.size w).alloc (Nat.le_refl _) _) 1).trans (hb2.mono (by simp [World.drew]))).setCell (p := ⟨w.heap.size, 0, none⟩) (Nat.le_refl _) _).setCell (p := ⟨w.heap.size, 1, none⟩) (Nat.le_refl _) _
        | false =>
          obtain ⟨hv, hex0, hex1⟩ := first_num hl'.out hk hall'.out hend hk0 hc'.out hs0
          rw [← hg'.out] at hv
          have hcw := fun W hW => number_any (l.take k) (by simp; omega) W hW
          have hWe : Env (w.alloc (.cells #[.int .i64 0, .string ⟨#[]⟩] 96)).drew := hw'.out.new (below_drewN ((Below.refl w.heap.size w).alloc (Nat.le_refl _) _) 1)
          have hcw' := Lib.hid hcw
          have hv' := Lib.hid hv
          have hWe' := Lib.hid hWe
          clear hcw hv hend hWe
          go_wp2_with (first | (go_at_call 91; refine (small_any _ _).mono ?_; rintro e w' ⟨rfl, rfl⟩) | (go_at_call 92; refine (digit_any _ _).mono ?_; rintro e w' ⟨rfl, rfl⟩))
          go_region_with (go_at_call 94; refine (hcw'.out _ hWe'.out).mono ?_; rintro e w2 ⟨rfl, hb2⟩; have bk2 := (Blk.new w 96 #[.int .i64 0, .string ⟨#[]⟩]).drew.below hb2 (by simp [World.drew]); have z0 := bk2.frozen 0; have z1 := bk2.frozen 1; have q0 : w2.cell? ⟨w.heap.size, 0, none⟩ = some (.int .i64 0) := bk2.cell 0; have q1 : w2.cell? ⟨w.heap.size, 1, none⟩ = some (.string ⟨#[]⟩) := bk2.cell 1; have hlt2 := bk2.lt; replace bk2 := Lib.hid bk2)
          all_goals
            go_wp2_with fail
            rw [hv'.out]
            refine tok_ret (by rfl) (by rfl) (by rfl) ((bk2.out.set_ 0 (.int .i64 2)).set_ 1 (.string ⟨(l.take k).toArray⟩)) ⟨rfl, ?_⟩
            exact (((below_drewN ((Below.refl w.heap.size w).alloc (Nat.le_refl _) _) 1).trans (hb2.mono (by simp [World.drew]))).setCell (p := ⟨w.heap.size, 0, none⟩) (Nat.le_refl _) _).setCell (p := ⟨w.heap.size, 1, none⟩) (Nat.le_refl _) _
end Go.Proofs.YtpfgjiapdepdmaaGreatDoor
