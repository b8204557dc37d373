/- Plain: how texts are compared. -/
import Derived.Lib.Bytealg
import Derived.Sort.Walk0
namespace Go.Proofs.YtmmanmacjgedaaaDoor
open Go.Lib

theorem compareBytes_self : ∀ a : List UInt8, compareBytes a a = 0
  | [] => rfl
  | x :: xs => by simp [compareBytes, compareBytes_self xs]
theorem compareBytes_lt : ∀ a b : List UInt8, compareBytes a b < 0 ↔ a < b
  | [], [] => by simp [compareBytes]
  | [], _ :: _ => by simp [compareBytes]
  | _ :: _, [] => by simp [compareBytes]
  | x :: xs, y :: ys => by
    have ih := compareBytes_lt xs ys
    simp only [compareBytes, List.cons_lt_cons_iff]
    by_cases h1 : x < y
    · simp [h1]
    · by_cases h2 : y < x
      · have : ¬ x = y := by rintro rfl; exact h1 h2
        simp [h1, h2, this]
      · have e : x = y := by
          have a1 : ¬ x.toNat < y.toNat := h1
          have a2 : ¬ y.toNat < x.toNat := h2
          exact UInt8.toNat_inj.1 (by omega)
        simp [e, ih]
theorem compareBytes_eq : ∀ a b : List UInt8, compareBytes a b = 0 ↔ a = b
  | [], [] => by simp [compareBytes]
  | [], _ :: _ => by simp [compareBytes]
  | _ :: _, [] => by simp [compareBytes]
  | x :: xs, y :: ys => by
    have ih := compareBytes_eq xs ys
    simp only [compareBytes, List.cons.injEq]
    by_cases h1 : x < y
    · have : ¬ x = y := by rintro rfl; exact absurd h1 (by simp)
      simp [h1, this]
    · by_cases h2 : y < x
      · have : ¬ x = y := by rintro rfl; exact h1 h2
        simp [h1, h2, this]
      · have e : x = y := by
          have a1 : ¬ x.toNat < y.toNat := h1
          have a2 : ¬ y.toNat < x.toNat := h2
          exact UInt8.toNat_inj.1 (by omega)
        simp [e, ih]
end Go.Proofs.YtmmanmacjgedaaaDoor
