/- The plain law of the graph's order: the closure that is reckoned is transitive; whatever does not lead to itself is told, behind what it uses. No program in sight. -/
namespace Go.Proofs.YtmmanmacjgedaaaDoor.GraphLaw

/-- the relation that bit masks tell -/
def rel (out : List Nat) (i j : Nat) : Bool := (out.getD i 0).testBit j

def wstep (k : Nat) (out : List Nat) (i : Nat) : List Nat :=
  if ((out.getD i 0) >>> k) % 2 = 1 then out.set i ((out.getD i 0) ||| (out.getD k 0)) else out

def winner (k m : Nat) (out : List Nat) : List Nat := (List.range m).foldl (wstep k) out
def warshall (n m : Nat) (out : List Nat) : List Nat := (List.range m).foldl (fun o k => winner k n o) out

theorem wstep_length (k : Nat) (out : List Nat) (i : Nat) : (wstep k out i).length = out.length := by
  unfold wstep; split <;> simp

theorem winner_succ (k m : Nat) (out : List Nat) : winner k (m+1) out = wstep k (winner k m out) m := by
  simp [winner, List.range_succ]
theorem warshall_succ (n m : Nat) (out : List Nat) : warshall n (m+1) out = winner m n (warshall n m out) := by
  simp [warshall, List.range_succ]

theorem winner_length (k m : Nat) (out : List Nat) : (winner k m out).length = out.length := by
  induction m with
  | zero => rfl
  | succ m ih => rw [winner_succ, wstep_length, ih]
theorem warshall_length (n m : Nat) (out : List Nat) : (warshall n m out).length = out.length := by
  induction m with
  | zero => rfl
  | succ m ih => rw [warshall_succ, winner_length, ih]

theorem shr_mod (x k : Nat) : ((x >>> k) % 2 = 1) ↔ x.testBit k = true := by
  rw [Nat.testBit_eq_decide_div_mod_eq]
  simp [Nat.shiftRight_eq_div_pow]

theorem rel_wstep {k : Nat} {out : List Nat} {i : Nat} (hi : i < out.length) (a j : Nat) :
    rel (wstep k out i) a j = (rel out a j || (decide (a = i) && rel out i k && rel out k j)) := by
  unfold wstep
  by_cases h : ((out.getD i 0) >>> k) % 2 = 1
  · rw [if_pos h]
    rw [shr_mod] at h
    unfold rel
    by_cases ha : a = i
    · subst ha
      simp [List.getD_eq_getElem?_getD, hi, Nat.testBit_or]
      simp [List.getD_eq_getElem?_getD, hi] at h
      simp [h]
    · have ha' : ¬ i = a := fun h => ha h.symm
      simp [List.getD_eq_getElem?_getD, ha, ha']
  · rw [if_neg h]
    rw [shr_mod] at h
    have : rel out i k = false := by simpa [rel] using h
    simp [this]

theorem rel_winner {k m : Nat} {out : List Nat} (hm : m ≤ out.length) (a j : Nat) :
    rel (winner k m out) a j = (rel out a j || (decide (a < m) && rel out a k && rel out k j)) := by
  induction m generalizing a j with
  | zero => simp [winner]
  | succ m ih =>
    rw [winner_succ, rel_wstep (by rw [winner_length]; omega), ih (by omega), ih (by omega), ih (by omega)]
    by_cases ha : a = m
    · subst ha
      simp
      cases rel out a j <;> cases rel out a k <;> cases rel out k j <;> cases rel out k k <;> simp
    · have : decide (a < m + 1) = decide (a < m) := by rw [decide_eq_decide]; omega
      rw [this]; simp [ha]

/-- transitive through all below m -/
theorem warshall_trans {n : Nat} {out : List Nat} (hn : out.length = n) (m : Nat) (hm : m ≤ n) :
    ∀ i b j, i < n → b < m → rel (warshall n m out) i b = true → rel (warshall n m out) b j = true → rel (warshall n m out) i j = true := by
  induction m with
  | zero => intro i b j _ hb; omega
  | succ k ih =>
    intro i b j hi hb h1 h2
    have ih := ih (by omega)
    rw [warshall_succ, rel_winner (by rw [warshall_length]; omega)] at h1 h2 ⊢
    generalize hr : rel (warshall n k out) = r at *
    have hi' : decide (i < n) = true := by simpa using hi
    have hb' : decide (b < n) = true := by simp; omega
    rw [hi'] at h1 ⊢; rw [hb'] at h2
    simp only [Bool.true_and, Bool.or_eq_true, Bool.and_eq_true] at h1 h2 ⊢
    by_cases hbk : b = k
    · subst hbk
      have a1 : r i b = true := by
        rcases h1 with h | h
        · exact h
        · exact h.1
      have a2 : r b j = true := by
        rcases h2 with h | h
        · exact h
        · exact h.2
      exact .inr ⟨a1, a2⟩
    · have hbk' : b < k := by omega
      rcases h1 with h1 | ⟨h1, h1'⟩ <;> rcases h2 with h2 | ⟨h2, h2'⟩
      · exact .inl (ih i b j hi hbk' h1 h2)
      · exact .inr ⟨ih i b k hi hbk' h1 h2, h2'⟩
      · exact .inr ⟨h1, ih k b j (by omega) hbk' h1' h2⟩
      · exact .inr ⟨h1, h2'⟩

theorem warshall_mono {n : Nat} {out : List Nat} (hn : out.length = n) (m : Nat) (i j : Nat) (h : rel out i j = true) : rel (warshall n m out) i j = true := by
  induction m with
  | zero => exact h
  | succ k ih => rw [warshall_succ, rel_winner (by rw [warshall_length]; omega), ih]; rfl


/-! ### the order -/
/-- are all bits of a in b? -/
def within (a b : Nat) : Bool := (a &&& b) == a
theorem within_iff (a b : Nat) : within a b = true ↔ ∀ j, a.testBit j = true → b.testBit j = true := by
  unfold within
  rw [beq_iff_eq]
  constructor
  · intro h j hj
    have : (a &&& b).testBit j = true := by rw [h]; exact hj
    rw [Nat.testBit_and] at this
    simp at this
    exact this.2
  · intro h
    apply Nat.eq_of_testBit_eq
    intro j
    rw [Nat.testBit_and]
    cases ha : a.testBit j
    · rfl
    · simp [h j ha]

def ready (d : List Nat) (done i : Nat) : Bool := !done.testBit i && within (d.getD i 0) done
def pick (n : Nat) (d : List Nat) (done : Nat) : Option Nat := (List.range n).find? (ready d done)
def orderStep (n : Nat) (d : List Nat) (s : List Nat × Nat) : List Nat × Nat :=
  match pick n d s.2 with
  | some i => (s.1 ++ [i], s.2 ||| (1 <<< i))
  | none => s
def orderLoop (n : Nat) (d : List Nat) (s : List Nat × Nat) : Nat → List Nat × Nat
  | 0 => s
  | m + 1 => orderStep n d (orderLoop n d s m)

theorem testBit_or_one (x i j : Nat) : (x ||| (1 <<< i)).testBit j = (x.testBit j || decide (i = j)) := by
  rw [Nat.testBit_or, Nat.one_shiftLeft, Nat.testBit_two_pow]

structure OrderInv (n : Nat) (d : List Nat) (done0 : Nat) (s : List Nat × Nat) : Prop where
  bit : ∀ j, s.2.testBit j = (done0.testBit j || decide (j ∈ s.1))
  lt : ∀ i, i ∈ s.1 → i < n
  fresh : ∀ i, i ∈ s.1 → done0.testBit i = false
  nodup : s.1.Nodup
  dep : ∀ (p i j : Nat), s.1[p]? = some i → (d.getD i 0).testBit j = true → done0.testBit j = true ∨ ∃ q, q < p ∧ s.1[q]? = some j

theorem inv_start (n : Nat) (d : List Nat) (done0 : Nat) : OrderInv n d done0 ([], done0) :=
  ⟨by simp, by simp, by simp, by simp, by simp⟩

theorem inv_step {n : Nat} {d : List Nat} {done0 : Nat} {s : List Nat × Nat} (h : OrderInv n d done0 s) : OrderInv n d done0 (orderStep n d s) := by
  unfold orderStep
  cases hp : pick n d s.2 with
  | none => exact h
  | some i =>
    unfold pick at hp
    have hr := List.find?_some hp
    have hi : i < n := by simpa using List.mem_of_find?_eq_some hp
    unfold ready at hr
    simp only [Bool.and_eq_true, Bool.not_eq_true'] at hr
    obtain ⟨h1, h2⟩ := hr
    rw [within_iff] at h2
    have hb := h.bit i
    rw [h1] at hb
    have hb : done0.testBit i = false ∧ i ∉ s.1 := by
      have := hb.symm
      simpa using this
    refine ⟨?_, ?_, ?_, ?_, ?_⟩
    · intro j
      simp only [testBit_or_one, h.bit j, List.mem_append, List.mem_singleton]
      cases done0.testBit j <;> by_cases hj : j ∈ s.1 <;> simp [hj, eq_comm]
    · intro k hk
      rcases List.mem_append.1 hk with hk | hk
      · exact h.lt k hk
      · rw [List.mem_singleton.1 hk]; exact hi
    · intro k hk
      rcases List.mem_append.1 hk with hk | hk
      · exact h.fresh k hk
      · rw [List.mem_singleton.1 hk]; exact hb.1
    · rw [List.nodup_append]
      refine ⟨h.nodup, by simp, ?_⟩
      intro a ha b hb' e
      rw [List.mem_singleton.1 hb'] at e
      exact hb.2 (e ▸ ha)
    · intro p k j hp hj
      rw [List.getElem?_append] at hp
      split at hp
      · rename_i hlt
        rcases h.dep p k j hp hj with h' | ⟨q, hq, hq'⟩
        · exact .inl h'
        · exact .inr ⟨q, hq, by rw [List.getElem?_append_left (by omega)]; exact hq'⟩
      · rename_i hge
        have hpk : p = s.1.length ∧ k = i := by
          cases hpp : p - s.1.length with
          | zero => rw [hpp] at hp; simp at hp; exact ⟨by omega, hp.symm⟩
          | succ m => rw [hpp] at hp; simp at hp
        obtain ⟨rfl, rfl⟩ := hpk
        have := h2 j hj
        rw [h.bit] at this
        simp only [Bool.or_eq_true, decide_eq_true_eq] at this
        rcases this with h' | h'
        · exact .inl h'
        · obtain ⟨q, hq, hq'⟩ := List.getElem_of_mem h'
          exact .inr ⟨q, hq, by rw [List.getElem?_append_left hq, List.getElem?_eq_getElem hq, hq']⟩

theorem inv_loop {n : Nat} {d : List Nat} {done0 : Nat} (m : Nat) : OrderInv n d done0 (orderLoop n d ([], done0) m) := by
  induction m with
  | zero => exact inv_start n d done0
  | succ m ih => exact inv_step ih

/-- as long as something is left, something can be taken -/
theorem some_ready {n : Nat} {d : List Nat} {R : Nat → Nat → Bool} {done : Nat}
    (hd : ∀ i j, i < n → (d.getD i 0).testBit j = true → j < n ∧ R i j = true)
    (ht : ∀ i b j, i < n → b < n → R i b = true → R b j = true → R i j = true)
    (hr : ∀ i, i < n → R i i = true → done.testBit i = true)
    (i : Nat) (hi : i < n) (hu : done.testBit i = false) : ∃ k, k < n ∧ ready d done k = true := by
  -- by the number of undone successors
  suffices H : ∀ (m i : Nat), i < n → done.testBit i = false → ((List.range n).filter (fun j => !done.testBit j && R i j)).length ≤ m → ∃ k, k < n ∧ ready d done k = true from
    H _ i hi hu (Nat.le_refl _)
  intro m
  induction m with
  | zero =>
    intro i hi hu hl
    refine ⟨i, hi, ?_⟩
    unfold ready
    rw [hu]
    simp only [Bool.not_false, Bool.true_and]
    rw [within_iff]
    intro j hj
    obtain ⟨hjn, hR⟩ := hd i j hi hj
    cases hdj : done.testBit j with
    | true => rfl
    | false =>
      have hnil := List.eq_nil_of_length_eq_zero (Nat.le_zero.1 hl)
      have : j ∈ (List.range n).filter (fun j => !done.testBit j && R i j) := by
        rw [List.mem_filter]; exact ⟨by simpa using hjn, by simp [hdj, hR]⟩
      rw [hnil] at this
      cases this
  | succ m ih =>
    intro i hi hu hl
    by_cases hw : within (d.getD i 0) done = true
    · exact ⟨i, hi, by unfold ready; rw [hu, hw]; rfl⟩
    · have : ∃ j, (d.getD i 0).testBit j = true ∧ done.testBit j = false := by
        rw [within_iff] at hw
        apply Classical.byContradiction
        intro hne
        apply hw
        intro j hj
        cases hdj : done.testBit j with
        | true => rfl
        | false => exact absurd ⟨j, hj, hdj⟩ hne
      obtain ⟨j, hj, hdj⟩ := this
      obtain ⟨hjn, hR⟩ := hd i j hi hj
      refine ih j hjn hdj ?_
      -- the successors of j are fewer
      have hsub : ((List.range n).filter (fun k => !done.testBit k && R j k)).length < ((List.range n).filter (fun k => !done.testBit k && R i k)).length := by
        have hRjj : R j j = false := by
          cases h : R j j with
          | false => rfl
          | true => rw [hr j hjn h] at hdj; cases hdj
        have e : (List.range n).filter (fun k => !done.testBit k && R j k) = ((List.range n).filter (fun k => !done.testBit k && R i k)).filter (fun k => R j k) := by
          rw [List.filter_filter]
          apply List.filter_congr
          intro k hk
          cases h1 : R j k with
          | false => simp
          | true => simp [ht i j k hi hjn hR h1]
        rw [e]
        apply List.length_filter_lt_length_iff_exists.2
        exact ⟨j, List.mem_filter.2 ⟨by simpa using hjn, by simp [hdj, hR]⟩, by simp [hRjj]⟩
      omega

def left (n done : Nat) : Nat := ((List.range n).filter (fun j => !done.testBit j)).length

theorem left_step {n : Nat} {d : List Nat} {R : Nat → Nat → Bool} {s : List Nat × Nat}
    (hd : ∀ i j, i < n → (d.getD i 0).testBit j = true → j < n ∧ R i j = true)
    (ht : ∀ i b j, i < n → b < n → R i b = true → R b j = true → R i j = true)
    (hr : ∀ i, i < n → R i i = true → s.2.testBit i = true) : left n (orderStep n d s).2 ≤ left n s.2 - 1 := by
  unfold orderStep
  cases hp : pick n d s.2 with
  | none =>
    have h0 : left n s.2 = 0 := by
      unfold left
      rw [List.length_eq_zero_iff, List.filter_eq_nil_iff]
      intro i hi hb
      have hi : i < n := by simpa using hi
      have hb : s.2.testBit i = false := by simpa using hb
      obtain ⟨k, hk, hk'⟩ := some_ready hd ht hr i hi hb
      unfold pick at hp
      rw [List.find?_eq_none] at hp
      exact hp k (by simpa using hk) hk'
    simp [h0]
  | some i =>
    unfold pick at hp
    have hrd := List.find?_some hp
    have hi : i < n := by simpa using List.mem_of_find?_eq_some hp
    unfold ready at hrd
    simp only [Bool.and_eq_true, Bool.not_eq_true'] at hrd
    have : left n (s.2 ||| (1 <<< i)) < left n s.2 := by
      unfold left
      have e : (List.range n).filter (fun j => !(s.2 ||| (1 <<< i)).testBit j) = ((List.range n).filter (fun j => !s.2.testBit j)).filter (fun j => !decide (i = j)) := by
        rw [List.filter_filter]
        apply List.filter_congr
        intro k _
        rw [testBit_or_one]
        cases s.2.testBit k <;> simp
      rw [e]
      apply List.length_filter_lt_length_iff_exists.2
      exact ⟨i, List.mem_filter.2 ⟨by simpa using hi, by simp [hrd.1]⟩, by simp⟩
    show left n (s.2 ||| (1 <<< i)) ≤ _
    omega

theorem order_done {n : Nat} {d : List Nat} {R : Nat → Nat → Bool} {done0 : Nat}
    (hd : ∀ i j, i < n → (d.getD i 0).testBit j = true → j < n ∧ R i j = true)
    (ht : ∀ i b j, i < n → b < n → R i b = true → R b j = true → R i j = true)
    (hr : ∀ i, i < n → R i i = true → done0.testBit i = true) (i : Nat) (hi : i < n) :
    (orderLoop n d ([], done0) n).2.testBit i = true := by
  have H : ∀ m, left n (orderLoop n d ([], done0) m).2 ≤ n - m := by
    intro m
    induction m with
    | zero => unfold left; have := List.length_filter_le (fun j => !(orderLoop n d ([], done0) 0).2.testBit j) (List.range n); simp at this; simpa using this
    | succ m ih =>
      have := left_step (n := n) (d := d) (R := R) (s := orderLoop n d ([], done0) m) hd ht (fun i hi h => by
        rw [(inv_loop m).bit, hr i hi h]; rfl)
      show left n (orderStep n d _).2 ≤ _
      omega
  have h0 := H n
  have : left n (orderLoop n d ([], done0) n).2 = 0 := by omega
  unfold left at this
  rw [List.length_eq_zero_iff, List.filter_eq_nil_iff] at this
  have := this i (by simpa using hi)
  simpa using this

end Go.Proofs.YtmmanmacjgedaaaDoor.GraphLaw
