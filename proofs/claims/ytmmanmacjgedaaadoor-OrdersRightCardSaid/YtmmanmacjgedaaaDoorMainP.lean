/- THE ROW of OrdersRight, and its card. -/
import Derived.Test.YtmmanmacjgedaaaDoorMainO
import Derived.Test.YtmmanmacjgedaaaDoorCards
import Derived.Test.YtmmanmacjgedaaaDoorTie
import Derived.ProofKit
import Derived.LaidLaws
import Derived.Handed
import Derived.Deep.Slices
import Derived.SevenTiedAt
namespace Go.Proofs.YtmmanmacjgedaaaDoor
open Go.ChangeShapes Go.WideShapes Go.ChangeAt Go.RowKit Go.Deep

theorem own : ownKnob Tryd.prog.godebug = none := by kernel_rfl
theorem laidOut : laidOutB Tryd.prog = true := by kernel_rfl
theorem namesN : Tryd.prog.globalNamed "scullery/scullerykeep.names" = some 0 := by kernel_rfl
theorem namesType : (Tryd.prog.globals[0]?).map (·.type) = some 24 := by kernel_rfl
theorem cellsA : Tryd.prog.cellsOf 24 = 6 := by kernel_rfl
theorem cellsS : Tryd.prog.cellsOf 9 = 1 := by kernel_rfl
theorem cellsI : Tryd.prog.cellsOf 3 = 1 := by kernel_rfl
theorem cellsR : Tryd.prog.cellsOf 30 = 4 := by kernel_rfl
theorem bytesR : Tryd.prog.bytesOf 30 = 32 := by kernel_rfl
def cells6 : Array Value := #[.string (gname 0), .string (gname 1), .string (gname 2), .string (gname 3), .string (gname 4), .string (gname 5)]
theorem str_of_trod {H : Type} {enc : TypeId × Value → H} {w : World} {base : Nat} {sp : Nat → Bool} {held : Bool} {fuel : Nat} {c : Value} {y : DataW H × List MemPlace}
    (h : DataW.trod enc Tryd.prog w base sp held fuel 9 [c] = some y) : ∃ s : ByteArray, c = .string s ∧ y = (.lit (.string s.data.toList), []) := by
  obtain ⟨s, hc, hy, _⟩ := DataW.trod_string Tryd.underlying9 h
  simp only [List.cons.injEq, and_true] at hc
  exact ⟨s, hc, hy⟩
theorem ba_of_list {s : ByteArray} {l : List UInt8} (h : s.data.toList = l) : s = ⟨l.toArray⟩ := by
  cases s
  simp only at h
  rw [← h]

theorem cells_of_laid {W : World} (h : laidMet Tryd.prog Rows.ordersRightRow.laid W) : W.var? Tryd.prog "scullery/scullerykeep.names" = some cells6 := by
  obtain ⟨ps, ⟨g, t, cs, fuel, p, q, hg, ht, hvar, hd, _, _⟩, _⟩ := h
  obtain rfl := Option.some.inj (namesN.symm.trans hg)
  obtain rfl := Option.some.inj (namesType.symm.trans ht)
  rw [hvar]
  congr 1
  obtain ⟨l⟩ := cs
  cases fuel with
  | zero => simp [DataW.trod] at hd
  | succ fuel =>
    simp only [DataW.trod, Tryd.underlying24, cellsA, cellsS] at hd
    split at hd
    · rename_i hl
      obtain ⟨c0, c1, c2, c3, c4, c5, rfl⟩ : ∃ c0 c1 c2 c3 c4 c5, l = [c0, c1, c2, c3, c4, c5] := by
        match l, hl with
        | [a, b, c, d, e, f], _ => exact ⟨a, b, c, d, e, f, rfl⟩
      have e : List.range 6 = [0, 1, 2, 3, 4, 5] := rfl
      rw [e] at hd
      simp only [Option.map_eq_some_iff, List.mapM_cons, List.mapM_nil, Option.bind_eq_bind, Option.bind_eq_some_iff, Option.pure_def, Option.some.injEq] at hd
      obtain ⟨xs, ⟨y0, h0, _, ⟨y1, h1, _, ⟨y2, h2, _, ⟨y3, h3, _, ⟨y4, h4, _, ⟨y5, h5, _, rfl, rfl⟩, rfl⟩, rfl⟩, rfl⟩, rfl⟩, rfl⟩, hx⟩ := hd
      obtain ⟨n0, rfl, rfl⟩ := str_of_trod h0
      obtain ⟨n1, rfl, rfl⟩ := str_of_trod h1
      obtain ⟨n2, rfl, rfl⟩ := str_of_trod h2
      obtain ⟨n3, rfl, rfl⟩ := str_of_trod h3
      obtain ⟨n4, rfl, rfl⟩ := str_of_trod h4
      obtain ⟨n5, rfl, rfl⟩ := str_of_trod h5
      simp [Rows.laid_scullery_scullerykeep_names] at hx
      obtain ⟨⟨e0, e1, e2, e3, e4, e5⟩, _⟩ := hx
      rw [ba_of_list e0, ba_of_list e1, ba_of_list e2, ba_of_list e3, ba_of_list e4, ba_of_list e5]
      rfl
    · cases hd
theorem glob_of_laid {W : World} (h : laidMet Tryd.prog Rows.ordersRightRow.laid W) : Glob W := by
  intro i hi
  have h6 : i = 0 ∨ i = 1 ∨ i = 2 ∨ i = 3 ∨ i = 4 ∨ i = 5 := by omega
  have hv := cells_of_laid h
  rcases h6 with rfl | rfl | rfl | rfl | rfl | rfl
  · simpa [cells6] using World.var?_cell namesN hv 0
  · simpa [cells6] using World.var?_cell namesN hv 1
  · simpa [cells6] using World.var?_cell namesN hv 2
  · simpa [cells6] using World.var?_cell namesN hv 3
  · simpa [cells6] using World.var?_cell namesN hv 4
  · simpa [cells6] using World.var?_cell namesN hv 5

noncomputable def laidWorld (os : Os) : World :=
  { World.holding Tryd.prog os ⟨#[], #[], []⟩ with heap := (World.holding Tryd.prog os ⟨#[], #[], []⟩).heap.modify 0 fun
      | .cells _ t frozen => .cells cells6 t frozen
      | o => o }
theorem laid_met (os : Os) (args : Array Value) : laidMet Tryd.prog Rows.ordersRightRow.laid ((laidWorld os).forCall (fun _ _ => 0) ⟨#[], args, []⟩).memory :=
  laidMet_of_run (ps := [.cell 0 0, .cell 0 1, .cell 0 2, .cell 0 3, .cell 0 4, .cell 0 5]) 8 (by kernel_rfl) (by kernel_rfl) (by kernel_rfl)

/-- the argument, opened -/
theorem open_raws {H : Type} {enc : TypeId × Value → H} {W : World} {sp : Nat → Bool} {held : Bool} {A : Option Addr} {n c : Nat} {d : DataW H} {ps : List MemPlace} (h : DataW.Trod enc Tryd.prog W 0 sp held 22 (.slice A n c) d ps) :
    (A = none ∧ n = 0 ∨ ∃ es spare : List (DataW H), d = .slice es spare ∧ es.length = n) ∧ ∃ av, RawR W A n av := by
  obtain ⟨fuel, h⟩ := h
  rcases open_slice Tryd.underlying22 h with ⟨hcs, hx⟩ | ⟨a, len, cap, m, n', D, Pl, hcs, hb, hl, hm, hmm, hx, hi⟩
  · simp only [Value.cells, List.cons.injEq, Value.slice.injEq, and_true] at hcs
    obtain ⟨rfl, rfl, rfl⟩ := hcs
    exact ⟨.inl ⟨rfl, rfl⟩, fun _ => 0, fun h => absurd h (by omega)⟩
  · simp only [Value.cells, List.cons.injEq, Value.slice.injEq, and_true] at hcs
    obtain ⟨rfl, rfl, rfl⟩ := hcs
    have hlm : n ≤ m := by rw [hmm]; split <;> omega
    refine ⟨.inr ?_, ?_⟩
    · injection hx with h1 h2
      exact ⟨_, _, h1, by simp⟩
    · have key : ∀ i, i < m → ∃ x : Int, W.cell? (a.add (i * 4 + 1)) = some (.int .i64 x) ∧ -9223372036854775808 ≤ x ∧ x ≤ 9223372036854775807 := by
        intro i him
        obtain ⟨cs', hc, ht⟩ := hi i him
        rw [cellsR] at hc
        obtain ⟨_, hcl, hat⟩ := World.cells?_some hc
        obtain ⟨xs, n'', _, _, _, hxl, hf⟩ := DataW.trod_struct Tryd.underlying30 ht
        have h1 : DataW.trod enc Tryd.prog W 0 sp held n'' 3 ((cs'.drop 1).take (Tryd.prog.cellsOf 3)) = xs[1]? := hf 1 _ rfl
        rw [cellsI] at h1
        have hv : cs'[1]? = some (cs'[1]'(by omega)) := List.getElem?_eq_getElem (by omega)
        have hone' : (cs'.drop 1).take 1 = [cs'[1]'(by omega)] := by
          rw [List.drop_eq_getElem_cons (by omega)]
          rfl
        rw [hone'] at h1
        have hxs : xs[1]? = some (xs[1]'(by rw [hxl]; decide)) := List.getElem?_eq_getElem _
        rw [hxs] at h1
        obtain ⟨x, hx1, _, hw⟩ := DataW.trod_int Tryd.underlying3 h1
        simp only [List.cons.injEq, and_true] at hx1
        have hcell := hat 1 (by omega)
        rw [hv, hx1, Go.Deep.add_add] at hcell
        refine ⟨x, hcell, ?_⟩
        simp only [Lit.wf, Bool.and_eq_true, decide_eq_true_eq] at hw
        exact hw
      have hch := choose_lt (n := m) key
      obtain ⟨av, hav⟩ := hch
      refine ⟨av, fun hn => ?_⟩
      have hsp0 : a.spot = none := by
        obtain ⟨cs', hc, _⟩ := hi 0 (by omega)
        rw [cellsR] at hc
        obtain ⟨_, hcl, hat⟩ := World.cells?_some hc
        have h0 := hat 0 (by omega)
        have e : (a.add (0 * 4)).add 0 = a := rfl
        rw [e, List.getElem?_eq_getElem (by omega)] at h0
        exact World.cell?_spot h0
      obtain ⟨b, off, spot⟩ := a
      have hspot : spot = none := hsp0
      subst hspot
      have hcell : ∀ k, k < m → W.cell? ⟨b, off + k * 4 + 1, none⟩ = some (.int .i64 (av k)) := by
        intro k hk
        have := (hav k hk).1
        unfold Addr.add at this
        simp only [Nat.add_eq_zero_iff] at this
        rw [if_neg (by omega)] at this
        rw [Nat.add_assoc]
        exact this
      exact ⟨b, off, rfl, World.block_lt_of_cell? W _ (hcell 0 (by omega)), fun k hk => ⟨hcell k (by omega), (hav k (by omega)).2⟩⟩

set_option maxRecDepth 100000 in
theorem f_lifted (os : Os) (started : os.Started) (H : Type) (enc : TypeId × Value → H) :
    ReturnsInHanded {} Tryd.checked os 3 .any (fun w args => (Rows.ordersRightSpec.pre enc Tryd.prog Tryd.f3 Rows.ordersRightRow.domain false w args ∧ laidMet Tryd.prog Rows.ordersRightRow.laid w) ∧ sizedMet enc Tryd.prog Tryd.f3 (OpenSpec.ofChange Rows.ordersRightSpec) false w args)
      (Rows.ordersRightSpec.post enc Tryd.prog Tryd.f3 false true false false) := by
  refine returnsInHanded_of_change_and (C := Tryd.checked) (X := fun w _ => laidMet Tryd.prog Rows.ordersRightRow.laid w) (fun _ _ _ hh h => h.of_heap hh) own started (by kernel_rfl) Tryd.func3
    (ChangeSpec.witness_at (enc := enc) (C := Tryd.checked) (os := os) (X := fun w _ => laidMet Tryd.prog Rows.ordersRightRow.laid w) false (laidWorld os) #[.slice none 0 0] 8 rfl (by kernel_rfl) (by kernel_rfl) (by kernel_rfl) (by kernel_rfl) (by kernel_rfl) (laid_met os _)) ?_
  intro W base args ds gs before hval0 hW _ hsz0 hL _
  have hval : ∀ (j : Nat) t v, Tryd.f3.params[j]? = some t → args[j]? = some v → Value.okWide Tryd.prog W .any base t v := hval0
  have hsz : (DataW.weightsEach Tryd.prog (Tryd.f3.params.toList ++ Rows.ordersRightSpec.plain.varTypes Tryd.prog) (ds ++ gs)).all (· ≤ reachBytes) = true := hsz0
  have hW' := hW
  obtain ⟨p, q, hA0, hV, rfl, hfz, hnd⟩ := hW
  have hA : DataW.TrodAll enc Tryd.prog W 0 (fun _ => true) true Tryd.f3.params.toList args.toList ds p := hA0
  rw [Tryd.params3] at hA hval hsz
  obtain ⟨v0, d0, rfl, rfl, h0⟩ := trodAll_one hA
  obtain ⟨rfl, rfl⟩ := trodVars_none hV
  have h0k := h0
  obtain ⟨A, n, c, rfl⟩ := okWide_slice Tryd.underlying22 (hval 0 22 v0 rfl rfl)
  obtain ⟨hd, av, hraw⟩ := open_raws h0
  have hlt : ∀ x ∈ p, x.block < W.heap.size := fun x hx => by simpa using hW'.lt x (by simpa using hx)
  have hn : n * 32 ≤ 140737488355328 := by
    rcases hd with ⟨_, h⟩ | ⟨es, spare, rfl, hl⟩
    · omega
    · have := sized_slice hsz (j := 0) (t := 22) (e := 30) rfl rfl Tryd.underlying22
      rw [bytesR] at this
      simp only [reachBytes] at this
      omega
  refine (main_any A n c av W (glob_of_laid hL) hn hraw).mono fun e W' ⟨he, hb⟩ => ?_
  subst he
  refine ⟨_, rfl, _, _, _, [], _, [], hW', ?_, trodAll_mk1 (Below.trod laidOut (by kernel_rfl) (of_decide_eq_true (by kernel_rfl)) h0k hb hlt), rfl, hb.frame _, fun h => by cases h⟩
  exact trodAll_mk1 (shut_bool Tryd.underlying4 true)

theorem ordersRight_holds : Rows.OrdersRightSaid :=
  OpenClaim.holds_of_wide 3 Tryd.f3 rfl rfl rfl rfl rfl rfl rfl ⟨rfl, rfl, rfl, rfl, rfl⟩ rfl rfl rfl rfl rfl (by kernel_rfl) Tryd.func3 (by kernel_rfl)
    (of_decide_eq_true (by kernel_rfl)) (by unfold Func.isWrapper; rw [if_neg (of_decide_eq_false (by kernel_rfl))]; exact ⟨rfl, rfl⟩)
    (fun os started H enc _ => f_lifted os started H enc)

theorem ordersRight_card : Rows.OrdersRightCardSaid :=
  Claim7.holds_tied_plain_at .later [] [.data] true (true, "cb04e2d4f27873b7ddbedade7c49562d8937ae04711c9173ffa6a621e054f4df") false
    ordersRight_holds (fun _ h => by cases h) (by kernel_rfl) (fun _ h => by cases h) ordersRight_row_tie rfl ⟨rfl, rfl⟩ (by kernel_rfl) rfl
    (fun f fn hf hfn => by
      obtain rfl : f = 3 := Option.some.inj ((show Tryd.prog.funcNamed "scullery/scullerykeep.OrdersRight" = some 3 by kernel_rfl).symm.trans hf) |>.symm
      obtain rfl : fn = Tryd.f3 := (Option.some.inj (Tryd.func3.symm.trans hfn)).symm
      exact ⟨by kernel_rfl, fun j t ht => by
        rw [Tryd.params3] at ht
        have h3 : t = 22 := by
          rcases j with _ | j
          · simpa using ht.symm
          · simp at ht
        subst h3
        exact (show Tryd.prog.wantsStandIn 22 = false by kernel_rfl)⟩)
    (by kernel_rfl)
end Go.Proofs.YtmmanmacjgedaaaDoor
