/- The walk of token.Cut. -/
import Derived.Test.YtpfgjiapdepdmaaGreatDoorFirst
import Derived.Test.YtpfgjiapdepdmaaGreatDoorParse
namespace Go.Proofs.YtpfgjiapdepdmaaGreatDoor
open Go.RowKit Go.Shelf

theorem first_any (l : List UInt8) (hne : l ≠ []) (hs : l.length ≤ 1500) (w : World) (hw : Env w) :
    Calls Tryz.prog 62 #[.string ⟨l.toArray⟩] w fun e w' => e = .returned (firstV (Pu.first l)) ∧ Below w.heap.size w w' := by
  cases hl : l with
  | nil => exact absurd hl hne
  | cons c t =>
    rw [← hl]
    by_cases hc : c = 34
    · exact first_quote c t l hl hs hc w
    · exact first_rest c t l hl hs hc w hw
theorem drop_le (p : UInt8 → Bool) (l : List UInt8) : (l.dropWhile p).length ≤ l.length := (List.dropWhile_suffix p).length_le
theorem first_less {l : List UInt8} (hne : l ≠ []) : (Pu.first l).2.1.length < l.length := by
  cases l with
  | nil => exact absurd rfl hne
  | cons c t =>
    simp only [Pu.first]
    split
    · have := drop_le (fun x => x != 34) t
      simp
      omega
    · split
      · simp
      · rename_i hemp
        have h1 : ((c :: t).takeWhile Pu.alnum).length + ((c :: t).dropWhile Pu.alnum).length = (c :: t).length := by
          rw [← List.length_append, List.takeWhile_append_dropWhile]
        have h2 : 0 < ((c :: t).takeWhile Pu.alnum).length := by
          rcases Nat.eq_zero_or_pos ((c :: t).takeWhile Pu.alnum).length with h | h
          · rw [List.eq_nil_of_length_eq_zero h] at hemp
            exact absurd rfl hemp
          · exact h
        split <;> simp only <;> omega
theorem blanks_trim (l : List UInt8) : Pu.blanks (Pu.blanks l) = Pu.blanks l := by
  unfold Pu.blanks
  induction l with
  | nil => rfl
  | cons c t ih =>
    rw [List.dropWhile_cons]
    split
    · exact ih
    · rename_i h
      rw [List.dropWhile_cons, if_neg h]
theorem tokCells_snoc (l : List Pu.Tok) (t : Pu.Tok) : tokCells (l ++ [t]) = tokCells l ++ [.int .i64 (t.kind : Int), .string ⟨t.text.toArray⟩] := by
  unfold tokCells
  rw [List.flatMap_append]
  simp
theorem toks_nil {k : Nat} {acc : List Pu.Tok} : Pu.toks (k + 1) [] acc = .ok acc := rfl
theorem toks_cons {k : Nat} {l : List UInt8} {acc : List Pu.Tok} (hne : l ≠ []) (hb : Pu.blanks l = l) : Pu.toks (k + 1) l acc = if (Pu.first l).2.2 = true then Pu.toks k (Pu.first l).2.1 (acc ++ [(Pu.first l).1]) else .error 4 := by
  conv => lhs; unfold Pu.toks
  rw [hb]
  cases l with
  | nil => exact absurd rfl hne
  | cons c t =>
    simp only
    generalize Pu.first (c :: t) = r
    obtain ⟨a, b, d⟩ := r
    cases d <;> rfl
theorem toks_blanks (k : Nat) (l : List UInt8) (acc : List Pu.Tok) : Pu.toks (k + 1) (Pu.blanks l) acc = Pu.toks (k + 1) l acc := by
  unfold Pu.toks
  rw [blanks_trim]
theorem info_tok : (Tryz.prog.info? 96).map (fun i => (i.zero, i.size, i.bytes)) = some (some (.agg #[.int .i64 0, .string ⟨#[]⟩]), 2, 24) := by kernel_rfl

/-- append of one token, at a plain region -/
theorem append_tok {ops : Array Oper} {rest : List Oper} {o : Oper} {a : Act} {Q : Exit → Act → World → Prop}
    (hgd : o.guard = none) (s x : Operand) (ho : o.op = .call { callee := .builtin .append, args := #[s, x], argTypes := #[41, 41] })
    (W : World) (B : Nat) (v : Value) (acc : List Pu.Tok) (t : Pu.Tok) (H : Nat) (hs : a.eval s = v) (hx : a.eval x = .slice (some ⟨H, 0, none⟩) 1 1) (hH : W.heap.size = H)
    (hown : W.ownsRow B 96 2 v acc.length (tokCells acc)) (hlen : acc.length ≤ 1000000) (hB : B ≤ W.heap.size)
    (h : ∀ v' w', w'.ownsRow B 96 2 v' (acc.length + 1) (tokCells (acc ++ [t])) → Below B W w' → W.heap.size < w'.heap.size → (∃ A c, v' = .slice A (acc.length + 1) c) → wpList Tryz.prog ops Q rest (a.put o.dst v') w') :
    wpList Tryz.prog ops Q (o :: rest) a (W.alloc (.cells #[.int .i64 (t.kind : Int), .string ⟨t.text.toArray⟩] 96)) := by
  obtain ⟨i0, hi, hz0, hz1, hz2⟩ := info_parts info_tok
  refine append_one 41 96 i0 _ 2 24 Tryz.underlying41 hi hz0 hz1 hz2 rfl (by omega) hgd s x ho W B v acc.length (tokCells acc) #[.int .i64 (t.kind : Int), .string ⟨t.text.toArray⟩] H hs hx hH hown (by simp) (by simp [Value.oneCell']) (by unfold maxLen; omega) (by omega) hB ?_
  intro v' w' hown' hb hsz hg hob hform
  exact h v' w' (by rw [tokCells_snoc]; exact hown') hb hsz hform
/-- how Cut ends, by its tokens -/
def cutEnd (r : Except Nat (List Pu.Tok)) : Except Nat (List Pu.Tok) := match r with
  | .error e => .error e
  | .ok l => if 200 < l.length then .error 1 else .ok l
set_option maxRecDepth 20000 in
set_option maxHeartbeats 4000000 in
theorem cut_any (s : List UInt8) (hs : s.length ≤ 1500) (w : World) (hw : Env w) : Calls Tryz.prog 36 #[.string ⟨s.toArray⟩] w (CutPost w (Pu.cut s)) := by
  obtain ⟨goal, hg⟩ : ∃ g, g = Pu.toks (s.length + 1) s [] := ⟨_, rfl⟩
  have hcut : Pu.cut s = cutEnd goal := by
    unfold Pu.cut cutEnd
    rw [if_neg (by omega), hg]
    rfl
  rw [← toks_blanks] at hg
  have hbt := blanks_trim s
  have hbl : (Pu.blanks s).length ≤ s.length := drop_le _ s
  have htr : ∀ (l : List UInt8) (W : World), Calls Tryz.prog 61 #[.string ⟨l.toArray⟩, .string ⟨#[32]⟩] W fun e w' => e = .returned (.string ⟨(Pu.blanks l).toArray⟩) ∧ w' = W := fun l W => Tryz.strings_TrimLeft_one ⟨l.toArray⟩ 32 (by decide) W
  have hw' := Lib.hid hw
  have hg' := Lib.hid hg
  have hcut' := Lib.hid hcut
  have htr' := Lib.hid htr
  have hbt' := Lib.hid hbt
  clear hw hg hcut htr hbt
  rw [hcut'.out]
  go_enter Tryz.func36, Tryz.ntmps36
  go_wp2_with (go_at_call 61; refine (htr'.out _ _).mono ?_; rintro e w' ⟨rfl, hww⟩; obtain rfl := hww.symm)
  go_loopw [0, 4] (fun sv out wr => ∃ (k : Nat) (rest : List UInt8) (acc : List Pu.Tok), sv = .string ⟨rest.toArray⟩ ∧ wr.ownsRow w.heap.size 96 2 out acc.length (tokCells acc) ∧ goal = Pu.toks (k + 1) rest acc ∧ Pu.blanks rest = rest ∧ rest.length ≤ k ∧ acc.length + rest.length ≤ 1500 ∧ Below w.heap.size w wr)
    (fun sv _ _ => match sv with | .string b => b.size | _ => 0)
  case atStart => exact ⟨s.length, _, [], rfl, World.ownsRow_nil _ _ _ _, hg'.out, hbt'.out, hbl, by simp; omega, Below.refl _ _⟩
  case round =>
    obtain ⟨k, rest, acc, rfl, hown, hgl, hbr, hlk, hla, hb⟩ := hrel
    by_cases hr : rest = []
    · subst hr
      rw [toks_nil] at hgl
      have hform : ∃ A c, u4 = .slice A acc.length c ∧ acc.length ≤ c ∧ Reads wr wr.heap.size 2 A acc.length (tokCells acc) := by
        have hown2 := hown
        rcases hown.2 with ⟨rfl, h3⟩ | ⟨g, cap, cur, rfl, hg1, hh, hnc, r⟩
        · have hl : acc = [] := by
            have := tokCells_len acc
            rw [h3] at this
            exact List.eq_nil_of_length_eq_zero (by simp at this; omega)
          subst hl
          exact ⟨none, 0, rfl, Nat.le_refl _, Reads.none_⟩
        · exact ⟨some ⟨g, 0, none⟩, cap, rfl, hnc, Reads.of_own hown2⟩
      obtain ⟨A, cc, rfl, hcc, hrd⟩ := hform
      have hgl' := Lib.hid hgl
      replace hrd := Lib.hid hrd
      replace hown := Lib.hid hown
      clear hgl hbr hlk
      rcases Nat.lt_or_ge 200 acc.length with h200 | h200
      · have h200' : 200 < (acc.length : Int) := by omega
        go_wp2
        refine bodyPost_ret (v := .tuple #[.slice none 0 0, .int .i64 1]) (by simp [results, Tryz.results36, go_sem]) rfl ?_
        rw [hgl'.out]
        show CutPost _ (if 200 < acc.length then _ else _) _ _
        rw [if_pos h200]
        exact ⟨rfl, by simp, hb⟩
      · have h200' : ¬ 200 < acc.length := by omega
        go_wp2
        refine bodyPost_ret (v := .tuple #[.slice A acc.length cc, .int .i64 0]) (by simp [results, Tryz.results36, go_sem]) rfl ?_
        rw [hgl'.out]
        show CutPost _ (if 200 < acc.length then _ else _) _ _
        rw [if_neg h200']
        exact ⟨A, cc, rfl, hcc, hrd.out, hb⟩
    · have hne : rest ≠ [] := hr
      have hl0 : 0 < rest.length := by cases h : rest with | nil => exact absurd h hne | cons a b => simp
      clear hr
      obtain ⟨k, rfl⟩ : ∃ k', k = k' + 1 := ⟨k - 1, by omega⟩
      rw [toks_cons hne hbr] at hgl
      have hless := first_less hne
      have hfc := first_any rest hne (by omega) wr (hw'.out.new hb)
      obtain ⟨b, hbq⟩ : ∃ b, b = (⟨rest.toArray⟩ : ByteArray) := ⟨_, rfl⟩
      have hbt3 : b.toList = rest := by rw [hbq]; exact toList_toArray rest
      have e1 : b.toList.isEmpty = false := by rw [hbt3]; simpa using hne
      have e2 : ¬ b.toList = [] := by rw [hbt3]; exact hne
      obtain ⟨⟨⟨tk, tx⟩, rs, ok⟩, hfirst⟩ : ∃ r, r = Pu.first rest := ⟨_, rfl⟩
      rw [← hfirst] at hgl hless hfc
      unfold firstV at hfc
      dsimp only at hgl hless hfc
      rw [← hbq] at hfc ⊢
      have hfc' := Lib.hid hfc
      replace hfirst := Lib.hid hfirst
      replace hown := Lib.hid hown
      replace hbr := Lib.hid hbr
      clear hfc
      have hrs : rs.length ≤ k := by omega
      have hrl : acc.length + 1 + rs.length ≤ 1500 := by omega
      have hbl2 : (Pu.blanks rs).length ≤ rs.length := drop_le _ rs
      have hszr : b.size = rest.length := by rw [hbq]; exact size_toArray rest
      have hszb : (⟨(Pu.blanks rs).toArray⟩ : ByteArray).size = (Pu.blanks rs).length := size_toArray _
      have hmeas : (Pu.blanks rs).length < rest.length := by omega
      replace hszr := Lib.hid hszr
      replace hbq := Lib.hid hbq
      replace hbt3 := Lib.hid hbt3
      clear hne
      replace hszb := Lib.hid hszb
      cases ok with
      | false =>
        rw [if_neg (by simp)] at hgl
        have hgl' := Lib.hid hgl
        clear hgl
        go_wp2_with fail
        refine hfc'.out.mono ?_
        rintro e w1 ⟨rfl, hb1⟩
        go_wp2_with fail
        go_ret2
        rw [hgl'.out]
        exact ⟨rfl, by simp, (hb.trans (hb1.mono hb.size)).alloc (by have := hb.size; have := hb1.size; omega) _⟩
      | true =>
        rw [if_pos rfl] at hgl
        have hgl' := Lib.hid hgl
        clear hgl
        go_wp2_with fail
        refine hfc'.out.mono ?_
        rintro e w1 ⟨rfl, hb1⟩
        have hs1 := hb1.size
        have hsz := hb.size
        have hown1 := hown.out.kept (only_of_below hb1 none) (by cases h : u4.ownBlock with | none => exact .inl rfl | some g => exact .inr (by simp))
        have hacc : acc.length ≤ 1000000 := by omega
        have hB1 : w.heap.size ≤ (w1.alloc (.cells #[.int .i64 (tk : Int), .string ⟨tx.toArray⟩] 96)).heap.size := by simp; omega
        have hbb := Lib.hid ((hb.trans (hb1.mono hsz)).alloc (by omega) (.cells #[.int .i64 (tk : Int), .string ⟨tx.toArray⟩] 96))
        have hown2 := Lib.hid (hown1.alloc (.cells #[.int .i64 (tk : Int), .string ⟨tx.toArray⟩] 96))
        obtain ⟨w2, hw2⟩ : ∃ w2, w2 = w1.alloc (.cells #[.int .i64 (tk : Int), .string ⟨tx.toArray⟩] 96) := ⟨_, rfl⟩
        have bt2 : Blk w2 w1.heap.size 96 #[.int .i64 (tk : Int), .string ⟨tx.toArray⟩] := by rw [hw2]; exact Blk.new _ _ _
        clear hown1
        go_wp2_with (at_builtin; refine append_tok (by rfl) _ _ (by rfl) _ w.heap.size u4 acc ⟨tk, tx⟩ (w1.heap.size + 1) (by rfl) (by rfl) (by simp) hown2.out hacc hB1 ?_; intro v' w' hown' hb' hsz' hform'; obtain ⟨vA, vc, rfl⟩ := hform'; replace hown' := Lib.hid hown')
        refine (htr'.out _ _).mono ?_
        rintro e w3 ⟨rfl, hww2⟩
        obtain rfl := hww2.symm
        go_wp2_with fail
        go_roundw
        case rel => exact ⟨k, Pu.blanks rs, acc ++ [⟨tk, tx⟩], rfl, by rw [List.length_append]; exact hown'.out, by rw [toks_blanks]; exact hgl'.out, blanks_trim _, by omega, by rw [List.length_append]; simp; omega, hbb.out.trans (hb'.mono (by omega))⟩
        case measure => simp [hszr.out, hszb.out]; exact hmeas
end Go.Proofs.YtpfgjiapdepdmaaGreatDoor
