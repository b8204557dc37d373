/- The walk of graph.direct: the nodes that one uses itself, as bits. -/
import Derived.Test.YtmmanmacjgedaaaDoorFind
import Derived.Test.YtmmanmacjgedaaaDoorBits
namespace Go.Proofs.YtmmanmacjgedaaaDoor
open Go.RowKit Go.Shelf

/-- one more node among the bits -/
def addBit (l : List Nd) (o : Nat) (u : ByteArray) : Nat := if 0 ≤ findN l u then o ||| (1 <<< (findN l u).toNat) else o
def bitsOf (l : List Nd) (us : List ByteArray) : Nat := us.foldl (addBit l) 0

theorem bits_step (l : List Nd) (us : List ByteArray) (k : Nat) (hk : k < us.length) : bitsOf l (us.take (k + 1)) = addBit l (bitsOf l (us.take k)) (us.getD k ByteArray.empty) := by
  unfold bitsOf
  rw [List.take_succ_eq_append_getElem hk, List.foldl_append, List.getD_eq_getElem?_getD, List.getElem?_eq_getElem hk]
  rfl
theorem findN_form (l : List Nd) (x : ByteArray) : findN l x = -1 ∨ ∃ j : Nat, j < l.length ∧ findN l x = (j : Int) := by
  unfold findN
  split
  · rename_i k hk
    exact .inr ⟨k, by simpa using List.mem_of_find?_eq_some hk, rfl⟩
  · exact .inl rfl

theorem addBit_lt {l : List Nd} (h : l.length ≤ 10) {o : Nat} (ho : o < 1024) (u : ByteArray) : addBit l o u < 1024 := by
  unfold addBit
  split
  · rename_i hle
    rcases findN_form l u with e | ⟨j, hj, e⟩
    · rw [e] at hle; omega
    · rw [e]
      exact or_lt _ _ ho (shl_lt _ (by omega))
  · exact ho
theorem bitsOf_lt {l : List Nd} (h : l.length ≤ 10) (us : List ByteArray) : bitsOf l us < 1024 := by
  unfold bitsOf
  suffices H : ∀ (us : List ByteArray) (o : Nat), o < 1024 → us.foldl (addBit l) o < 1024 from H us 0 (by omega)
  intro us
  induction us with
  | nil => intro o ho; exact ho
  | cons u us ih => intro o ho; exact ih _ (addBit_lt h ho u)

theorem direct_any (A : Option Addr) (n cap : Nat) (l : List Nd) (nm : ByteArray) (U : Option Addr) (m c : Nat) (us : List ByteArray) (w : World) (hn : l.length = n) (hlim : n ≤ 10) (hs : Asc l) (hr : NodesR w w.heap.size A l)
    (hm : us.length = m) (hml : m ≤ 1000000) (hu : Reads w w.heap.size 1 U m (strCells us)) :
    Calls Tryd.prog 20 #[.slice A n cap, .agg #[.string nm, .slice U m c]] w fun e w' => e = .returned (.int .i64 (bitsOf l us : Nat)) ∧ Below w.heap.size w w' := by
  subst hm
  subst hn
  have hf := Lib.hid (fun x W (hb : Below w.heap.size w W) => find_any A l.length cap l x W rfl (by omega) hs ((hr.below hb).more hb.size))
  have hs' := Lib.hid hs
  clear hs hr
  go_enter Tryd.func20, Tryd.ntmps20
  go_wp2_with fail
  go_loopw [5, 12] (fun o i wr => ∃ k : Nat, k ≤ us.length ∧ i = .int .i64 k ∧ o = .int .i64 (bitsOf l (us.take k) : Nat) ∧ Below w.heap.size w wr) (fun _ i _ => us.length - (intOf i).toNat)
  case atStart => exact ⟨0, Nat.zero_le _, rfl, rfl, (Below.refl _ _).alloc (Nat.le_refl _) _⟩
  case round =>
    obtain ⟨k, hk, rfl, rfl, hbel⟩ := hrel
    by_cases hlt : k < us.length
    · obtain ⟨b, off, u, rfl, hb, hu0, hc⟩ := hu.at_ hlt
      obtain rfl := strCells_at us hu0
      clear hu0
      have hc' := (hbel.cell (p := ⟨b, _, none⟩) hb).trans hc
      clear hc
      have hstep := Lib.hid (bits_step l us k hlt)
      obtain ⟨x, hx⟩ : ∃ x, x = us.getD k ByteArray.empty := ⟨_, rfl⟩
      rw [← hx] at hc'
      have hfx := Lib.hid (hf.out x _ hbel)
      replace hx := Lib.hid hx
      obtain ⟨o, ho⟩ : ∃ o, o = bitsOf l (us.take k) := ⟨_, rfl⟩
      rw [← ho]
      replace ho := Lib.hid ho
      have hbel' := Lib.hid hbel
      clear hbel
      rcases findN_form l x with hfn | ⟨j, hj, hfn⟩
      · replace hfx := hfx.out
        rw [hfn] at hfx
        replace hfx := Lib.hid hfx
        replace hfn := Lib.hid hfn
        go_wp2_with fail
        refine hfx.out.mono ?_
        rintro e w1 ⟨rfl, hb1⟩
        go_wp2_with fail
        go_roundw
        case rel => exact ⟨k + 1, by omega, by go_num, by rw [hstep.out, ← ho.out, ← hx.out]; unfold addBit; rw [hfn.out]; rfl, hbel'.out.trans (hb1.mono hbel'.out.size)⟩
        case measure => simp [intOf]; omega
      · replace hfx := hfx.out
        rw [hfn] at hfx
        replace hfx := Lib.hid hfx
        replace hfn := Lib.hid hfn
        go_wp2_with fail
        refine hfx.out.mono ?_
        rintro e w1 ⟨rfl, hb1⟩
        go_wp2_with fail
        have hor := or_shl o j (by rw [ho.out]; exact bitsOf_lt hlim _) (by omega)
        rw [hor]
        go_roundw
        case rel => exact ⟨k + 1, by omega, by go_num, by rw [hstep.out, ← ho.out, ← hx.out]; unfold addBit; rw [hfn.out]; rfl, hbel'.out.trans (hb1.mono hbel'.out.size)⟩
        case measure => simp [intOf]; omega
    · obtain rfl : k = us.length := by omega
      rw [List.take_length]
      have hbel' := Lib.hid hbel
      clear hbel
      go_wp2_with fail
      go_ret
      exact ⟨rfl, hbel'.out⟩
end Go.Proofs.YtmmanmacjgedaaaDoor
