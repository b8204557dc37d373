/- The plain model: tokens, types, expressions, modules; how lines are cut and read, what may be. No program in sight. -/
namespace Go.Proofs.YtpfgjiapdepdmaaGreatDoor.Pu
abbrev Bytes := List UInt8

def small (c : UInt8) : Bool := 97 ≤ c && c ≤ 122
def digit (c : UInt8) : Bool := 48 ≤ c && c ≤ 57
def alnum (c : UInt8) : Bool := small c || digit c

/-- a word -/
def word (s : Bytes) : Bool := match s with
  | [] => false
  | c :: _ => s.length ≤ 8 && small c && s.all alnum
def quotable (s : Bytes) : Bool := s.length ≤ 20 && s.all (fun c => 32 ≤ c && c ≤ 126 && c != 34 && c != 92)
def number (s : Bytes) : Bool := match s with
  | [] => false
  | c :: t => s.length ≤ 6 && s.all digit && (t.isEmpty || c != 48)
def signs : Bytes := [61, 40, 41, 91, 93, 44, 43, 46, 58, 60, 62]
def sign (s : Bytes) : Bool := match s with
  | [c] => signs.contains c
  | _ => false

def wUse : Bytes := [117, 115, 101]
def wType : Bytes := [116, 121, 112, 101]
def wFunc : Bytes := [102, 117, 110, 99]
def wInt : Bytes := [105, 110, 116]
def wText : Bytes := [116, 101, 120, 116]
def ident (s : Bytes) : Bool := word s && !([wUse, wType, wFunc, wInt, wText].contains s)

structure Tok where
  kind : Nat
  text : Bytes
deriving DecidableEq, Repr

/-- the first token of a text that does not begin with a blank: the token, what is left, may it be? -/
def first (s : Bytes) : Tok × Bytes × Bool := match s with
  | [] => (⟨0, []⟩, [], false)
  | c :: t =>
    if c = 34 then
      let body := t.takeWhile (· != 34)
      let rest := t.dropWhile (· != 34)
      (⟨3, body⟩, rest.tail, !rest.isEmpty && quotable body)
    else
      let w := s.takeWhile alnum
      let r := s.dropWhile alnum
      if w.isEmpty then (⟨4, [c]⟩, t, signs.contains c)
      else if small c then (⟨1, w⟩, r, word w)
      else (⟨2, w⟩, r, number w)

def blanks (s : Bytes) : Bytes := s.dropWhile (· == 32)

def toks : Nat → Bytes → List Tok → Except Nat (List Tok)
  | 0, _, _ => .error 99
  | k + 1, s, acc => match blanks s with
    | [] => .ok acc
    | c :: t => match first (c :: t) with
      | (tok, rest, true) => toks k rest (acc ++ [tok])
      | (_, _, false) => .error 4

def cut (s : Bytes) : Except Nat (List Tok) :=
  if 1500 < s.length then .error 1 else
  match toks (s.length + 1) s [] with
  | .error e => .error e
  | .ok l => if 200 < l.length then .error 1 else .ok l

/-! ### trees -/
inductive Ty where
  | mk (kind : Int) (of name : Bytes) (args : List Ty)
inductive Ex where
  | mk (kind n : Int) (of s : Bytes) (args : List Ex)
structure Fd where
  name : Bytes
  is : Ty
structure Fn where
  name : Bytes
  var : Bytes
  params : List Fd
  result : Ty
  body : Ex
structure Md where
  uses : List Bytes
  types : List Fd
  funcs : List Fn

/-- what a reader gives: a fault, or a thing and the tokens that are left -/
abbrev PR (α : Type) := Except Nat (α × List Tok)
def andThen {α β : Type} (r : Except Nat α) (f : α → Except Nat β) : Except Nat β := match r with
  | .ok a => f a
  | .error e => .error e
theorem andThen_ok {α β : Type} (a : α) (f : α → Except Nat β) : andThen (.ok a) f = f a := rfl
theorem andThen_error {α β : Type} (e : Nat) (f : α → Except Nat β) : andThen (.error e) f = .error e := rfl

def take (c : UInt8) : List Tok → Option (List Tok)
  | t :: l => if t.kind = 4 ∧ t.text = [c] then some l else none
  | [] => none
def must (c : UInt8) (l : List Tok) : Except Nat (List Tok) := match take c l with
  | some l' => .ok l'
  | none => .error 4
def pName : List Tok → PR Bytes
  | t :: l => if t.kind = 1 ∧ ident t.text = true then .ok (t.text, l) else .error 4
  | [] => .error 4

/-- a type that is one word -/
def pWord (l : List Tok) : PR Ty := match l with
  | [] => .error 4
  | t :: l1 =>
    if t.kind ≠ 1 then .error 4 else
    if t.text = wInt then .ok (.mk 1 [] [] [], l1) else
    if t.text = wText then .ok (.mk 2 [] [] [], l1) else
    if ident t.text = false then .error 4 else
    match take 46 l1 with
    | some l2 => andThen (pName l2) fun r => .ok (.mk 4 t.text r.1 [], r.2)
    | none => .ok (.mk 4 [] t.text [], l1)
/-- a type; the first argument: how deep it may still go -/
def pKind : Nat → List Tok → PR Ty
  | 0, _ => .error 1
  | n + 1, l => match take 91 l with
    | some l1 => andThen (pKind n l1) fun r => andThen (must 93 r.2) fun l3 => .ok (.mk 3 [] [] [r.1], l3)
    | none => pWord l

/-- digits as a number -/
def numOf (s : Bytes) : Int := s.foldl (fun n c => 10 * n + ((c.toNat : Int) - 48)) 0

/-- more operands of a sum -/
def pSums (post : List Tok → PR Ex) : Nat → Ex → List Tok → PR Ex
  | 0, x, l => .ok (x, l)
  | k + 1, x, l => match take 43 l with
    | none => .ok (x, l)
    | some l1 => andThen (post l1) fun r => pSums post k (.mk 5 0 [] [] [x, r.1]) r.2
/-- more places -/
def pAts (expr : List Tok → PR Ex) : Nat → Ex → List Tok → PR Ex
  | 0, x, l => .ok (x, l)
  | k + 1, x, l => match take 91 l with
    | none => .ok (x, l)
    | some l1 => andThen (expr l1) fun r => andThen (must 93 r.2) fun l3 => pAts expr k (.mk 7 0 [] [] [x, r.1]) l3
/-- more expressions of a list, up to a sign -/
def pMore (expr : List Tok → PR Ex) (fin : UInt8) : Nat → List Ex → List Tok → PR (List Ex)
  | 0, acc, l => andThen (must fin l) fun l1 => .ok (acc, l1)
  | k + 1, acc, l => match take 44 l with
    | none => andThen (must fin l) fun l1 => .ok (acc, l1)
    | some l1 => andThen (expr l1) fun r => pMore expr fin k (acc ++ [r.1]) r.2
def pList (expr : List Tok → PR Ex) (fin : UInt8) (l : List Tok) : PR (List Ex) :=
  andThen (expr l) fun r => pMore expr fin r.2.length [r.1] r.2
def pArgs (expr : List Tok → PR Ex) (of s : Bytes) (l : List Tok) : PR Ex := match take 41 l with
  | some l1 => .ok (.mk 4 0 of s [], l1)
  | none => andThen (pList expr 41 l) fun r => .ok (.mk 4 0 of s r.1, r.2)
def pNamed (expr : List Tok → PR Ex) (s : Bytes) (l : List Tok) : PR Ex := match take 46 l with
  | some l1 => andThen (pName l1) fun r => andThen (must 40 r.2) fun l3 => pArgs expr s r.1 l3
  | none => match take 40 l with
    | none => .ok (.mk 3 0 [] s [], l)
    | some l1 => pArgs expr [] s l1
def pLeaf (expr : List Tok → PR Ex) (l : List Tok) : PR Ex := match l with
  | [] => .error 4
  | t :: l1 =>
    if t.kind = 3 then .ok (.mk 2 0 [] t.text [], l1) else
    if t.kind = 2 then .ok (.mk 1 (numOf t.text) [] [] [], l1) else
    if t.kind = 1 ∧ ident t.text = true then pNamed expr t.text l1 else .error 4
def pAtom (expr : List Tok → PR Ex) (l : List Tok) : PR Ex := match take 40 l with
  | some l1 => andThen (expr l1) fun r => andThen (must 41 r.2) fun l3 => .ok (r.1, l3)
  | none => match take 91 l with
    | some l1 => andThen (pList expr 93 l1) fun r => .ok (.mk 6 0 [] [] r.1, r.2)
    | none => pLeaf expr l
def pPost (expr : List Tok → PR Ex) (l : List Tok) : PR Ex :=
  andThen (pAtom expr l) fun r => pAts expr r.2.length r.1 r.2
/-- an expression; the first argument: how deep it may still go -/
def pExpr : Nat → List Tok → PR Ex
  | 0, _ => .error 1
  | n + 1, l => andThen (pPost (pExpr n) l) fun r => pSums (pPost (pExpr n)) r.2.length r.1 r.2

def pParam (l : List Tok) : PR Fd :=
  andThen (pName l) fun r => andThen (must 58 r.2) fun l3 => andThen (pKind 40 l3) fun q => .ok (⟨r.1, q.1⟩, q.2)
def pParams : Nat → List Fd → List Tok → PR (List Fd)
  | 0, _, _ => .error 99
  | k + 1, acc, l => match take 41 l with
    | some l1 => .ok (acc, l1)
    | none => andThen (if acc.isEmpty then .ok l else must 44 l) fun l1 => andThen (pParam l1) fun r => pParams k (acc ++ [r.1]) r.2
def pVar (l : List Tok) : PR Bytes := match take 60 l with
  | some l2 => andThen (pName l2) fun r => andThen (must 62 r.2) fun l4 => .ok (r.1, l4)
  | none => .ok ([], l)
def pFun (l : List Tok) : PR Fn :=
  andThen (pName l) fun r => andThen (pVar r.2) fun v => andThen (must 40 v.2) fun l3 =>
  andThen (pParams (l3.length + 1) [] l3) fun ps => andThen (must 58 ps.2) fun l5 => andThen (pKind 40 l5) fun t =>
  andThen (must 61 t.2) fun l7 => andThen (pExpr 40 l7) fun x => .ok (⟨r.1, v.1, ps.1, t.1, x.1⟩, x.2)
def pType (l : List Tok) : PR Fd :=
  andThen (pName l) fun r => andThen (must 61 r.2) fun l3 => andThen (pKind 40 l3) fun q => .ok (⟨r.1, q.1⟩, q.2)
def ended {α : Type} (r : PR α) (f : α → Md) : Except Nat Md := andThen r fun q => if q.2.isEmpty then .ok (f q.1) else .error 4
def pLine (m : Md) (l : List Tok) : Except Nat Md := match l with
  | [] => .ok m
  | t :: l1 =>
    if t.kind ≠ 1 then .error 4 else
    if t.text = wUse then ended (pName l1) fun nm => { m with uses := m.uses ++ [nm] }
    else if t.text = wType then ended (pType l1) fun f => { m with types := m.types ++ [f] }
    else if t.text = wFunc then ended (pFun l1) fun f => { m with funcs := m.funcs ++ [f] }
    else .error 4

def linesOf : Bytes → List Bytes
  | [] => [[]]
  | c :: t => if c = 10 then [] :: linesOf t else match linesOf t with
    | [] => [[c]]
    | l :: ls => (c :: l) :: ls

def pLines : Md → List Bytes → Except Nat Md
  | m, [] => .ok m
  | m, l :: ls => andThen (cut l) fun ts => andThen (pLine m ts) fun m1 => pLines m1 ls

/-! ### what may be: 0: it may -/
def seq (a b : Nat) : Nat := if a = 0 then b else a
def firstFault {α : Type} (f : α → Nat) : List α → Nat
  | [] => 0
  | x :: xs => seq (f x) (firstFault f xs)
def need (b : Bool) (e : Nat) : Nat := if b then 0 else e

def Ty.kind : Ty → Int | .mk k _ _ _ => k
def Ty.of : Ty → Bytes | .mk _ o _ _ => o
def Ty.name : Ty → Bytes | .mk _ _ n _ => n
def Ty.args : Ty → List Ty | .mk _ _ _ a => a
def Ex.kind : Ex → Int | .mk k _ _ _ _ => k
def Ex.n : Ex → Int | .mk _ n _ _ _ => n
def Ex.of : Ex → Bytes | .mk _ _ o _ _ => o
def Ex.s : Ex → Bytes | .mk _ _ _ s _ => s
def Ex.args : Ex → List Ex | .mk _ _ _ _ a => a

/-- a type's own faults -/
def tyOwn (k : Int) (of nm : Bytes) (n : Nat) : Nat :=
  seq (need (1 ≤ k && k ≤ 4) 3) <|
  seq (need ((k == 3) == (n == 1) && n < 2 && (k == 4 || (nm.isEmpty && of.isEmpty))) 4) <|
  need (k != 4 || (ident nm && (of.isEmpty || ident of))) 4
/-- the first argument: how deep it may still go -/
def tyFault : Nat → Ty → Nat
  | 0, _ => 1
  | d + 1, .mk k of nm args => seq (tyOwn k of nm args.length) (firstFault (tyFault d) args)

def exForm (k : Int) (s : Bytes) (of : Bytes) (n : Nat) : Bool :=
  if k = 1 then s.isEmpty && n == 0 else
  if k = 2 then quotable s && n == 0 else
  if k = 3 then ident s && n == 0 else
  if k = 4 then ident s && (of.isEmpty || ident of) else
  if k = 6 then s.isEmpty && 0 < n else s.isEmpty && n == 2
def exOwn (k m : Int) (of s : Bytes) (n : Nat) : Nat :=
  seq (need (1 ≤ k && k ≤ 7) 3) <|
  seq (need (n ≤ 8) 1) <|
  seq (need ((k == 1 || m == 0) && (k == 4 || of.isEmpty)) 4) <|
  seq (need (exForm k s of n) 4) <|
  need (k != 1 || (0 ≤ m && m ≤ 999999)) 2
def exFault : Nat → Ex → Nat
  | 0, _ => 1
  | d + 1, .mk k m of s args => seq (exOwn k m of s args.length) (firstFault (exFault d) args)

def fdFault (f : Fd) : Nat := seq (need (ident f.name) 4) (tyFault 10 f.is)
def fnFault (f : Fn) : Nat :=
  seq (need (ident f.name && (f.var.isEmpty || ident f.var)) 4) <|
  seq (need (f.params.length ≤ 8) 1) <|
  seq (firstFault fdFault f.params) <|
  seq (tyFault 10 f.result) (exFault 10 f.body)
def mdFault (m : Md) : Nat :=
  seq (need (m.uses.length + m.types.length + m.funcs.length ≤ 24) 1) <|
  seq (firstFault (fun u => need (ident u) 4) m.uses) <|
  seq (firstFault fdFault m.types) (firstFault fnFault m.funcs)

def read (s : Bytes) : Except Nat Md :=
  if 1500 < s.length then .error 1 else
  match pLines ⟨[], [], []⟩ (linesOf s) with
  | .error e => .error e
  | .ok m => if mdFault m = 0 then .ok m else .error (mdFault m)

/-! ### as text -/
def itoa (n : Nat) : Bytes := (Nat.toDigits 10 n).map fun c => UInt8.ofNat c.toNat
def joinWith (sep : Bytes) : List Bytes → Bytes
  | [] => []
  | [x] => x
  | x :: y :: l => x ++ sep ++ joinWith sep (y :: l)
def ofName (of nm : Bytes) : Bytes := if of.isEmpty then nm else of ++ [46] ++ nm
def tyText : Ty → Bytes
  | .mk k of nm args =>
    if k = 1 then wInt else if k = 2 then wText else
    if k = 3 then [91] ++ (match args with | [] => [] | t :: _ => tyText t) ++ [93] else ofName of nm
end Go.Proofs.YtpfgjiapdepdmaaGreatDoor.Pu
