/- The walk of graph.find. -/
import Derived.Test.YtmmanmacjgedaaaDoorNode
namespace Go.Proofs.YtmmanmacjgedaaaDoor
open Go.RowKit Go.Shelf

/-- the nodes' names rise -/
def Asc (l : List Nd) : Prop := ∀ a b, a < b → b < l.length → (nameAt l a).data.toList < (nameAt l b).data.toList
theorem Asc.sorted {l : List Nd} (h : Asc l) (x : ByteArray) : Sorted l x := by
  intro a b ha hb hab hc
  rcases Nat.lt_or_ge a b with hlt | hge
  · unfold cmpS at hc ⊢
    rw [compareBytes_lt] at hc ⊢
    exact List.lt_trans (h a b hlt hb) hc
  · obtain rfl : a = b := by omega
    exact hc
theorem cmpS_zero (a b : ByteArray) : cmpS a b = 0 ↔ a = b := by
  unfold cmpS
  rw [compareBytes_eq]
  constructor
  · intro h
    cases a; cases b
    simp only at h
    rw [Array.toList_inj.1 h]
  · rintro rfl; rfl
/-- a node's place; -1: there is none of that name -/
def findN (l : List Nd) (x : ByteArray) : Int := match (List.range l.length).find? (fun k => cmpS (nameAt l k) x == 0) with
  | some k => k
  | none => -1
theorem findN_place {l : List Nd} (h : Asc l) {x : ByteArray} {i : Nat} (hp : Place l x i) : findN l x = if foundAt l x i = true then (i : Int) else -1 := by
  unfold findN foundAt
  by_cases hi : i < l.length
  · simp only [hi, decide_true, Bool.true_and]
    by_cases hc : (cmpS (nameAt l i) x == 0) = true
    · rw [if_pos hc]
      have : (List.range l.length).find? (fun k => cmpS (nameAt l k) x == 0) = some i := by
        rw [List.find?_range_eq_some]
        refine ⟨hc, by simpa using hi, fun j hj => ?_⟩
        have := hp.lo j (by omega) hj
        simp; omega
      rw [this]
    · rw [if_neg hc]
      have : (List.range l.length).find? (fun k => cmpS (nameAt l k) x == 0) = none := by
        rw [List.find?_eq_none]
        intro k hk
        have hk : k < l.length := by simpa using hk
        simp only [beq_iff_eq]
        intro e
        have h0 := hp.hi i hi (Nat.le_refl _)
        rcases Nat.lt_or_ge k i with hki | hki
        · have := hp.lo k hk hki; omega
        · rcases Nat.lt_or_ge i k with hik | hik
          · have h1 := h i k hik hk
            rw [cmpS_zero] at e
            rw [e] at h1
            have : cmpS (nameAt l i) x < 0 := by unfold cmpS; rw [compareBytes_lt]; exact h1
            omega
          · obtain rfl : i = k := by omega
            exact hc (by simp [e])
      rw [this]
  · simp only [hi, decide_false, Bool.false_and, Bool.false_eq_true, if_false]
    have : (List.range l.length).find? (fun k => cmpS (nameAt l k) x == 0) = none := by
      rw [List.find?_eq_none]
      intro k hk
      have hk : k < l.length := by simpa using hk
      have := hp.lo k hk (by omega)
      simp; omega
    rw [this]

theorem find_any (A : Option Addr) (n cap : Nat) (l : List Nd) (x : ByteArray) (w : World) (hn : l.length = n) (hlim : n ≤ 1000000) (hs : Asc l) (hr : NodesR w w.heap.size A l) :
    Calls Tryd.prog 38 #[.slice A n cap, .string x] w fun e w' => e = .returned (.int .i64 (findN l x)) ∧ Below w.heap.size w w' := by
  have hb := Lib.hid (bsearch A n cap l x w hn hlim (hs.sorted x) hr)
  have hs' := Lib.hid hs
  clear hs hr
  go_enter Tryd.func38, Tryd.ntmps38
  go_wp2_with fail
  refine hb.out.mono ?_
  rintro e w1 ⟨i, hp, rfl, hbel⟩
  have hf := findN_place hs'.out hp
  cases hfd : foundAt l x i
  · rw [hfd, if_neg (by decide)] at hf
    have hf := Lib.hid hf
    go_wp2_with fail
    go_ret
    exact ⟨by rw [hf.out]; rfl, hbel⟩
  · rw [hfd, if_pos rfl] at hf
    have hf := Lib.hid hf
    go_wp2_with fail
    go_ret
    exact ⟨by rw [hf.out]; rfl, hbel⟩
end Go.Proofs.YtmmanmacjgedaaaDoor
