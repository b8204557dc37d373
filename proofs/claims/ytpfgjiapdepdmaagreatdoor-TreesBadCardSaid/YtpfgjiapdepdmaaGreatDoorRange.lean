/- A range over a function whose rounds may panic: the laws. -/
import Derived.Test.YtpfgjiapdepdmaaGreatDoorWords
import Derived.RangeFuncNested
import Derived.RangeFuncCalls
namespace Go.Proofs.YtpfgjiapdepdmaaGreatDoor
open Go Go.RowKit
variable {P : Program}

/-- code of the function f, walked in any frame of f's that is no round's -/
def wpAt (P : Program) (f : FuncId) (c : Code) (Q : Exit → Act → World → Prop) (a : Act) (w : World) : Prop :=
  ∀ (b : Frame) (k : List Item) (cs : List Frame), b.fn = f → b.roundOf = none → ∃ e a' w', Q e a' w' ∧ ArrivesIn (Machine.fenced P Fence.wide) P (lone (b.atR a (.code c :: k)) cs w) b k cs e a' w'
theorem wpAt_of_wp {f : FuncId} {c : Code} {Q : Exit → Act → World → Prop} {a : Act} {w : World} (h : c.wp P Q a w) : wpAt P f c Q a w :=
  fun b k cs _ hro => (wpIn_wide (n := 0)).2 h b k cs hro trivial (room_wide _)
theorem wpAt_seq {f : FuncId} {x y : Code} {Q : Exit → Act → World → Prop} {a : Act} {w : World} (h : wpAt P f x (Exit.then (wpAt P f y Q) Q) a w) : wpAt P f (Code.seq x y) Q a w := by
  intro b k cs hfb hro
  have h0 : (lone (b.atR a (.code (.seq x y) :: k)) cs w).fenced P Fence.wide := fenced_wide P _
  obtain ⟨e, a₁, w₁, hq, harr⟩ := h b (.code y :: k) cs hfb hro
  cases e with
  | normal =>
    obtain ⟨e₂, a₂, w₂, hq₂, harr₂⟩ := hq b k cs hfb hro
    exact ⟨e₂, a₂, w₂, hq₂, .of_steps (.head h0 stepR_seq harr) harr₂⟩
  | exit id => exact ⟨_, a₁, w₁, hq, .of_steps (.one h0 stepR_seq) (.pass (x := .code y) rfl (fun _ _ => .inl (by simp)) harr)⟩
  | goto l => exact ⟨_, a₁, w₁, hq, .of_steps (.one h0 stepR_seq) (.pass (x := .code y) rfl (fun _ _ => .inl (by simp)) harr)⟩
  | ret => exact ⟨_, a₁, w₁, hq, .of_steps (.one h0 stepR_seq) (.pass (x := .code y) rfl (fun _ _ => .inl (by simp)) harr)⟩
  | panic ch => exact ⟨_, a₁, w₁, hq, .of_steps (.one h0 stepR_seq) (.pass (x := .code y) rfl (fun _ _ => .inl (by simp)) harr)⟩
  | outgrown => exact ⟨_, a₁, w₁, hq, .of_steps (.one h0 stepR_seq) (.pass (x := .code y) rfl (fun _ _ => .inl (by simp)) harr)⟩
theorem wpAt_seq_k {f : FuncId} {x y : Code} {Q : Exit → Act → World → Prop} {a : Act} {w : World} (h : ∀ K : Act → World → Prop, (∀ a w, wpAt P f y Q a w → K a w) → x.wp P (Exit.then K Q) a w) : wpAt P f (Code.seq x y) Q a w :=
  wpAt_seq (wpAt_of_wp (h _ fun _ _ h => h))
theorem wpAt_block {f : FuncId} {id : Nat} {c : Code} {Q : Exit → Act → World → Prop} {a : Act} {w : World} (h : wpAt P f c (Exit.inBlock id Q) a w) : wpAt P f (Code.block id c) Q a w := by
  intro b k cs hfb hro
  have h0 : (lone (b.atR a (.code (.block id c) :: k)) cs w).fenced P Fence.wide := fenced_wide P _
  obtain ⟨e, a₁, w₁, hq, harr⟩ := h b (.inBlock id :: k) cs hfb hro
  cases e with
  | normal => exact ⟨.normal, a₁, w₁, hq, .head h0 stepR_block (StepsIn.trans harr (.one (fenced_wide P _) stepR_inBlock))⟩
  | exit id' =>
    by_cases hid : id' = id
    · simp only [Exit.inBlock, hid, if_true] at hq
      exact ⟨.normal, a₁, w₁, hq, .head h0 stepR_block (harr.1 k (by simp [exitTo, hid]))⟩
    · simp only [Exit.inBlock, hid, if_false] at hq
      have this : (id == id') = false := by simp; exact fun h => hid h.symm
      have hx : exitTo id' (.inBlock id :: k) = exitTo id' k := by simp [exitTo, this]
      exact ⟨.exit id', a₁, w₁, hq, fun k' hk => .head h0 stepR_block (harr.1 k' (by rw [hx]; exact hk)),
        fun hr' hk => let ⟨k₁, h1, h2⟩ := harr.2 hr' (by rw [hx]; exact hk); ⟨k₁, h1, .head h0 stepR_block h2⟩⟩
  | goto l =>
    have hx : gotoIn l (.inBlock id :: k) = gotoIn l k := by simp [gotoIn]
    exact ⟨_, a₁, w₁, hq, fun k' hk => .head h0 stepR_block (harr.1 k' (by rw [hx]; exact hk)),
      fun hr' hk => let ⟨k₁, h1, h2⟩ := harr.2 hr' (by rw [hx]; exact hk); ⟨k₁, h1, .head h0 stepR_block h2⟩⟩
  | ret => exact ⟨_, a₁, w₁, hq, .of_steps (.one h0 stepR_block) harr⟩
  | panic ch => exact ⟨_, a₁, w₁, hq, .of_steps (.one h0 stepR_block) harr⟩
  | outgrown => exact ⟨_, a₁, w₁, hq, .of_steps (.one h0 stepR_block) harr⟩
/-- what the body of a function with one loop over a function must achieve: the mark is come to first, then the deferred calls -/
def bodyPostK (P : Program) (fn : Func) (R : Ending → World → Prop) : Exit → Act → World → Prop
  | .normal, a, w | .ret, a, w => ∃ r w' ds, a.defers = { target := .collected r, args := #[] } :: ds ∧ (Instr.takeDeferred r).run P w = .ok [] w' ∧ Leaves P fn a.tmps R ds .returning w'
  | .panic chain, a, w => ∃ r w' ds, a.defers = { target := .collected r, args := #[] } :: ds ∧ (Instr.takeDeferred r).run P w = .ok [] w' ∧ Leaves P fn a.tmps R ds (.panicking chain) w'
  | _, _, _ => False
theorem calls_of_wpAt {f : FuncId} {fn : Func} {c : Code} {args : Array Value} {w : World} {R : Ending → World → Prop} (hf : P.funcs[f]? = some fn) (hb : fn.body = some c)
    (h : wpAt P f c (bodyPostK P fn R) { tmps := args ++ Array.replicate (fn.ntmps - args.size) undef, defers := [] } w) : Calls P f args w R := by
  intro cs
  let b : Frame := { (default : Frame) with fn := f, kind := .normal, roundOf := none }
  have henter : Frame.enter P f args .normal = b.atR { tmps := args ++ Array.replicate (fn.ntmps - args.size) undef, defers := [] } [.code c] := by
    simp [Frame.enter, Frame.atR, hf, hb, b]
  obtain ⟨e, a', w', hq, harr⟩ := h b [] cs rfl rfl
  rw [← henter] at harr
  have go : ∀ (u : FrameMode) (fr : Frame), u ≠ .run → fr.mode = u → fr.tmps = a'.tmps → fr.defers = a'.defers → fr.fn = f → fr.kind = .normal → Steps P (lone (Frame.enter P f args .normal) cs w) (lone fr cs w') →
      (∃ r w'' ds, a'.defers = { target := .collected r, args := #[] } :: ds ∧ (Instr.takeDeferred r).run P w' = .ok [] w'' ∧ Leaves P fn a'.tmps R ds u w'') →
      ∃ e w'' fr', R e w'' ∧ Comes P (lone (Frame.enter P f args .normal) cs w) (lone fr' cs w'') e ∧ fr'.fn = f ∧ fr'.leaving P w'' e := by
    rintro u fr hu hm ht hd hfn hk hs ⟨r, w'', ds, hdd, htk, hl⟩
    have h1 := step_collected (P := P) (fr := fr) (cs := cs) (hm ▸ hu) (hd.trans hdd) rfl htk
    obtain ⟨e', w3, fr', hR, hs', hfn', hl'⟩ := leaves_steps ds u w'' { fr with defers := [] ++ ds } cs hm rfl ht (by rw [← hfn] at hf; exact hf) hk hl
    exact ⟨e', w3, fr', hR, Comes.of_steps (Steps.trans hs (.one h1)) hs', hfn'.trans hfn, hl'⟩
  cases e with
  | normal => exact go .returning { b.atR a' [] with mode := .returning } (by simp) rfl rfl rfl rfl rfl (Steps.trans harr.steps (.one (stepR_end rfl))) hq
  | ret =>
    obtain ⟨todo, hs₀⟩ := harr.1 rfl
    exact go .returning { b.atR a' todo with mode := .returning } (by simp) rfl rfl rfl rfl rfl hs₀.steps hq
  | panic chain =>
    obtain ⟨todo, hs₀⟩ := harr
    exact go (.panicking chain) { b.atR a' todo with mode := .panicking chain } (by simp) rfl rfl rfl rfl rfl hs₀.steps hq
  | exit id => exact hq.elim
  | goto l => exact hq.elim
  | outgrown => exact hq.elim

/-- how the function that is ranged over may end here: with no jump pending, or by a panic -/
def endPost (P : Program) (l : Nat) (Q : Exit → Act → World → Prop) (a' : Act) : Ending → World → Prop
  | .returned _, w₃ => ∃ w₄, (Instr.endLoop l).run P w₃ = .ok none w₄ ∧ Q .normal a' w₄
  | .panicked chain, w₃ => Q (.panic chain) a' w₃
  | .outgrown, _ => False
theorem wpAt_rangeFunc {fn : FuncId} {g : Operand} {ps : Array Tmp} {assign body : Code} {Q : Exit → Act → World → Prop} {a : Act} {w : World}
    (h : ∃ (l : Nat) (mark : List Deferred) (w₁ : World) (d : Deferred) (w₁' : World) (f : FuncId) (args : Array Value) (w₂ : World),
      (Instr.enterLoop fn a.tmps ps assign body none).run P w = .ok (l, mark) w₁ ∧
      (resolve a.eval (rangeCall g l) 0).run P w₁ = .ok d w₁' ∧
      (invoke d.target d.args).run P w₁' = .ok (.enter f args) w₂ ∧
      CallsIn Fence.wide 0 P f args w₂ (endPost P l Q { a with defers := mark ++ a.defers })) :
    wpAt P fn (Code.rangeFunc g ps assign body) Q a w := by
  intro b k cs hfb hro
  obtain ⟨l, mark, w₁, d, w₁', f, args, w₂, he, hres, hinv, hF, hcall⟩ := h
  rw [← hro, ← hfb] at he
  have henter := stepR_rangeFunc (P := P) (b := b) (a := a) (k := k) (cs := cs) (w := w) he hres hinv
  obtain ⟨e, w₃, fr, hR, hsteps, hfn, hleave⟩ := hcall (b.atR { a with defers := mark ++ a.defers } (.inRangeFunc l :: k) :: cs) (room_wide _)
  cases e with
  | outgrown => exact hR.elim
  | returned v =>
    obtain ⟨w₄, hend, hj⟩ := hR
    have sback : StepsIn (Machine.fenced P Fence.wide) P (lone (b.atR a (.code (.rangeFunc g ps assign body) :: k)) cs w) (lone (b.atR { a with defers := mark ++ a.defers } (((none : Option Code).map Item.code).toList ++ k)) cs w₄) := by
      refine .head (fenced_wide P _) henter (StepsIn.trans hsteps (.head (fenced_wide P _) ?_ (.one (fenced_wide P _) (stepR_endRangeFunc hend))))
      rw [← finish_atR_inRangeFunc l v]; exact step_leave_returned hleave
    exact ⟨.normal, _, w₄, hj, sback⟩
  | panicked chain =>
    refine ⟨.panic chain, _, w₃, hR, .inRangeFunc l :: k, .head (fenced_wide P _) henter (StepsIn.trans hsteps (.one (fenced_wide P _) ?_))⟩
    rw [← Frame.raise_atR]; exact step_leave_panicked hleave

/-- how a round may be left: off its end, or by a panic -/
def roundPostD (P : Program) (l : Nat) (R : Ending → World → Prop) : Exit → Act → World → Prop
  | .normal, _, w => ∃ v w', (Instr.endRound l none).run P w = .ok v w' ∧ R (.returned v) w'
  | .panic chain, a, w => a.defers = [] ∧ R (.panicked chain) w
  | _, _, _ => False
theorem roundIn_dies {l : Nat} {f : FuncId} {fn : Func} {tmps : Array Value} {assign body : Code} {w : World} {R : Ending → World → Prop} (hfn : P.funcs[f]? = some fn)
    (h : assign.wpIn (Fence.wide.inRound l) 0 P (Exit.then (fun a₁ w₁ => ∃ w₂, (Instr.beginRound l).run P w₁ = .ok () w₂ ∧ body.wpIn (Fence.wide.inRound l) 0 P (roundPostD P l R) a₁ w₂) (fun _ _ _ => False))
      { tmps := tmps, defers := [] } w) :
    RoundIn Fence.wide 0 P l f tmps assign body w R := by
  refine ⟨trivial, fun c cs hr => ?_⟩
  let b : Frame := { (default : Frame) with fn := f, kind := .normal, roundOf := some l }
  have hb0 : Frame.round l f tmps assign body .normal = b.atR { tmps := tmps, defers := [] } [.code assign, .beginRound, .code body] := by
    simp [Frame.round, Frame.atR, b]
  have hr' : (Fence.wide.inRound l).room ((c :: cs).length + 1 + 0) := hr
  obtain ⟨e, a₁, w₁, hq, harr⟩ := h b [.beginRound, .code body] (c :: cs) rfl trivial hr'
  rw [← hb0] at harr
  cases e with
  | normal =>
    obtain ⟨w₂, hbr, hbody⟩ := hq
    have s1 : StepsIn (Machine.fenced P (Fence.wide.inRound l)) P (lone (b.atR a₁ [.beginRound, .code body]) (c :: cs) w₁) (lone (b.atR a₁ [.code body]) (c :: cs) w₂) :=
      .one (fenced_calm (fr := b.atR a₁ [.beginRound, .code body]) trivial hr' rfl) (stepR_beginRound rfl hbr)
    obtain ⟨e₂, a₂, w₃, hq₂, harr₂⟩ := hbody b [] (c :: cs) rfl trivial hr'
    cases e₂ with
    | normal =>
      obtain ⟨v, w₄, hend, hR⟩ := hq₂
      exact ⟨.returned v, w₄, hR, (StepsIn.trans harr s1).trans (StepsIn.trans harr₂ (.one (fenced_calm (fr := b.atR a₂ []) trivial hr' rfl) (stepR_round_end rfl rfl hend)))⟩
    | panic chain =>
      obtain ⟨hd, hR⟩ := hq₂
      obtain ⟨todo, hs⟩ := harr₂
      refine ⟨.panicked chain, w₃, hR, (StepsIn.trans harr s1).trans (StepsIn.trans hs (.one (fenced_wide P _) ?_))⟩
      exact step_leave_panicked (fr := { b.atR a₂ todo with mode := .panicking chain }) ⟨rfl, hd, fn, hfn⟩
    | ret => exact hq₂.elim
    | exit id => exact hq₂.elim
    | goto t => exact hq₂.elim
    | outgrown => exact hq₂.elim
  | exit id => exact hq.elim
  | goto t => exact hq.elim
  | ret => exact hq.elim
  | panic chain => exact hq.elim
  | outgrown => exact hq.elim

/-- how the body of a round may be left: off its end, its word kept; or by a panic -/
def bodyPostR {α : Type} (Kp : World → World → Prop) (I : List α → World → Prop) (Jp : List PanicEntry → World → Prop) (rest : List α) (W : World) : Exit → Act → World → Prop
  | .normal, _, W' => KeepsOthers W W' ∧ Kp W W' ∧ I rest W'
  | .panic ch, a, W' => a.defers = [] ∧ KeepsOthers W W' ∧ Jp ch W'
  | _, _, _ => False
/-- the loop, whole -/
theorem wpAt_range {α : Type} {f : FuncId} {fn : Func} {g : Operand} {ps : Array Tmp} {assign body : Code} {Q : Exit → Act → World → Prop} {a : Act} {w : World} (hfn : P.funcs[f]? = some fn)
    {gf : Nat} {lb : Array Value} (hg : a.eval g = .func (.func gf) #[] lb) (eg : ∀ args w, (callFunc gf args).run P w = .ok (.enter gf args) w) {encs : α → Array Value} (hps : ∀ x, (encs x).size = ps.size) (xs : List α)
    (Kp : World → World → Prop) (hKt : ∀ A B C, Kp A B → Kp B C → Kp A C) (hKb : ∀ (W : World) (o o' : Loop), W.heap[w.heap.size + 1]? = some (.loop o) → Kp W (W.putObj (w.heap.size + 1) (.loop o')))
    (I : List α → World → Prop) (Jp : List PanicEntry → World → Prop)
    (hit : ∀ (o : Loop) (J : List α → World → Prop) (Jq : List PanicEntry → World → Prop), (∀ ls W, J ls W → I ls W) → (∀ ls W W', J ls W → I ls W' → KeepsOthers W W' → J ls W') →
      (∀ x rest W1, J (x :: rest) W1 → YieldAt Fence.wide 0 P (w.heap.size + 1) (encs x) W1 fun e W' => (e = .returned (.bool true) ∧ J rest W' ∧ Kp W1 W') ∨ (∃ ch, e = .panicked ch ∧ Jq ch W')) →
      J xs ((w.alloc (.deferred (some []))).alloc (.loop o)) →
      CallsIn Fence.wide 0 P gf (#[.func (.yield (w.heap.size + 1)) #[] #[]] ++ lb) ((w.alloc (.deferred (some []))).alloc (.loop o)) fun e W' => (∃ v, e = .returned v ∧ J [] W') ∨ (∃ ch, e = .panicked ch ∧ Jq ch W'))
    (h0 : ∀ o : Loop, I xs ((w.alloc (.deferred (some []))).alloc (.loop o)))
    (hI : ∀ ls W (o o' : Loop), I ls W → W.heap[w.heap.size + 1]? = some (.loop o) → I ls (W.putObj (w.heap.size + 1) (.loop o')))
    (a₁ : α → Act)
    (hassign : ∀ (x : α) (W : World) (K : Act → World → Prop), K (a₁ x) W → assign.wpIn (Fence.wide.inRound (w.heap.size + 1)) 0 P (Exit.then K (fun _ _ _ => False)) { tmps := (ps.zip (encs x)).foldl (fun t (p, v) => t.setIfInBounds p v) a.tmps, defers := [] } W)
    (hbody : ∀ (x : α) (rest : List α) (W : World), I (x :: rest) W → body.wpIn (Fence.wide.inRound (w.heap.size + 1)) 0 P (bodyPostR Kp I Jp rest W) (a₁ x) W)
    (hdone : ∀ W, I [] W → W.heap[w.heap.size]? = some (.deferred (some [])) → Q .normal { a with defers := { target := .collected w.heap.size, args := #[] } :: a.defers } W)
    (hdies : ∀ ch W, Jp ch W → W.heap[w.heap.size]? = some (.deferred (some [])) → Q (.panic ch) { a with defers := { target := .collected w.heap.size, args := #[] } :: a.defers } W) :
    wpAt P f (Code.rangeFunc g ps assign body) Q a w := by
  refine wpAt_rangeFunc ?_
  obtain ⟨rec, hrec⟩ : ∃ rec : LoopState → Option Code → Loop, rec = fun st pe => { state := st, pending := pe, fn := f, tmps := a.tmps, params := ps, assign, body, defers := w.heap.size } := ⟨_, rfl⟩
  have hLr : ∀ st pe, (rec st pe).state = st ∧ (rec st pe).pending = pe := by rw [hrec]; exact fun _ _ => ⟨rfl, rfl⟩
  obtain ⟨W1, hW1⟩ : ∃ W1, (w.alloc (.deferred (some []))).alloc (.loop (rec .ready none)) = W1 := ⟨_, rfl⟩
  have hL1 : W1.heap[w.heap.size + 1]? = some (.loop (rec .ready none)) := by
    rw [← hW1]; have := World.alloc_heap_new (w.alloc (.deferred (some []))) (.loop (rec .ready none)); rwa [World.size_alloc] at this
  have hK1 : W1.heap[w.heap.size]? = some (.deferred (some [])) := by
    rw [← hW1]; exact (Below.heap_alloc _ _ _ (by simp)).trans (World.alloc_heap_new w _)
  refine ⟨w.heap.size + 1, [{ target := .collected w.heap.size, args := #[] }], W1, { target := .fn (.func gf) lb, args := #[.func (.yield (w.heap.size + 1)) #[] #[]] }, W1, gf,
    #[.func (.yield (w.heap.size + 1)) #[] #[]] ++ lb, W1, ?_, ?_, ?_, ?_⟩
  · rw [← hW1, hrec]; exact run_enterLoop_outer _ _ _ _ _
  · simp only [resolve, hg]
    simp [go_sem]
  · simp [invoke, go_sem, eg]
  · have hit1 := hit (rec .ready none)
      (fun ls W => I ls W ∧ W.heap[w.heap.size + 1]? = some (.loop (rec .ready none)) ∧ W.heap[w.heap.size]? = some (.deferred (some [])))
      (fun ch W => Jp ch W ∧ W.heap[w.heap.size]? = some (.deferred (some [])))
      (fun ls W h => h.1) (fun ls W W' h hi hk => ⟨hi, hk.same _ _ h.2.1 rfl, hk.same _ _ h.2.2 rfl⟩)
    rw [hW1] at hit1
    refine (hit1 ?_ ⟨hW1 ▸ h0 _, hL1, hK1⟩).mono ?_
    · rintro x rest W ⟨hi, hl, hk⟩
      have hlt : w.heap.size + 1 < W.heap.size := (Array.getElem?_eq_some_iff.1 hl).1
      have hy := run_yield (P := P) (args := encs x) hl (by rw [hrec]; exact hps x)
      rw [hrec] at hy
      refine ⟨f, _, assign, body, hy, roundIn_dies hfn (hassign x W _ ?_)⟩
      clear hy
      refine ⟨_, run_beginRound hl (hLr _ _).1, ?_⟩
      obtain ⟨recb, hrecb⟩ : ∃ rb : Loop, rb = { rec .ready none with state := .busy } := ⟨_, rfl⟩
      rw [← hrecb]
      have hl2 : (W.putObj (w.heap.size + 1) (.loop recb)).heap[w.heap.size + 1]? = some (.loop recb) := World.putObj_heap_same hlt
      have hk2 : (W.putObj (w.heap.size + 1) (.loop recb)).heap[w.heap.size]? = some (.deferred (some [])) := (World.putObj_heap_other (by omega)).trans hk
      refine wpIn_mono (hbody x rest _ (hI _ _ _ _ hi hl)) ?_
      rintro e a3 W3 hp
      cases e with
      | normal =>
        obtain ⟨hk3, hkp3, hi3⟩ := hp
        have hl3 := hk3.same _ _ hl2 rfl
        have hlt3 : w.heap.size + 1 < W3.heap.size := (Array.getElem?_eq_some_iff.1 hl3).1
        have hend := run_endRound (P := P) none hl3
        have hrr : ({ recb with state := if (none : Option Code).isNone then .ready else .done, pending := none } : Loop) = rec .ready none := by rw [hrecb, hrec]; rfl
        rw [hrr] at hend
        exact ⟨_, _, hend, .inl ⟨rfl, ⟨hI _ _ _ _ hi3 hl3, World.putObj_heap_same hlt3, (World.putObj_heap_other (by omega)).trans (hk3.same _ _ hk2 rfl)⟩, hKt _ _ _ (hKb _ _ _ hl) (hKt _ _ _ hkp3 (hKb _ _ _ hl3))⟩⟩
      | panic ch =>
        obtain ⟨hd, hk3, hj3⟩ := hp
        exact ⟨hd, .inr ⟨ch, rfl, hj3, hk3.same _ _ hk2 rfl⟩⟩
      | ret => exact hp.elim
      | exit id => exact hp.elim
      | goto t => exact hp.elim
      | outgrown => exact hp.elim
    · rintro e W2 (⟨v, rfl, hi, hl, hk⟩ | ⟨ch, rfl, hj, hk⟩)
      · have hend := run_endLoop (P := P) hl (by rw [(hLr _ _).1]; simp)
        rw [(hLr _ _).2] at hend
        exact ⟨_, hend, hdone _ (hI _ _ _ _ hi hl) ((World.putObj_heap_other (by omega)).trans hk)⟩
      · exact hdies ch W2 hj hk
end Go.Proofs.YtpfgjiapdepdmaaGreatDoor
