/- The abstract logic, part 1: abstract values, the abstract heap, primitives, the evaluator 'den' of Code as a predicate transformer. -/
import Derived.Tactics
import Derived.Laws.Cells
import Derived.Laws.IdiomCopy
import Derived.Room.AppendUpon
set_option linter.unusedVariables false
namespace Go.Al

/-- An abstract value: scalars as they are; slices that nobody writes any more by value; owned memory by block number. -/
inductive AV where
  | un
  | sc (v : Value)
  | nl
  | sl (n : Nat) (xs : List (List AV))
  | gl (b n : Nat) (xs : List (List AV))
  | rp (xs : List AV) (off : Nat)
  | pt (b off : Nat)
  | ar (b sz off len : Nat)
  | ag (cs : List AV)
  | tu (vs : List AV)
  | fn (f : Fn) (first cap : List AV)
  | mp (b : Nat)

instance : Inhabited AV := ⟨.un⟩

abbrev I (n : Int) : AV := .sc (.int .i64 n)
abbrev U8 (n : Int) : AV := .sc (.int .u8 n)
abbrev Bo (b : Bool) : AV := .sc (.bool b)
abbrev St (s : ByteArray) : AV := .sc (.string s)
/-- texts by their bytes -/
def bs (l : List UInt8) : ByteArray := ⟨l.toArray⟩
abbrev NilP : AV := .sc (.pointer none)
/-- what an operation leaves that was not run -/
abbrev U : AV := .sc undef

def AV.cells : AV → List AV
  | .ag cs => cs
  | v => [v]

/-- fits one cell -/
def AV.cell1 : AV → Bool
  | .un | .ag _ | .tu _ => false
  | .sc v => v.oneCell'
  | _ => true

/-- the cells of a value of some size (size 1: no aggregate) -/
def AV.cellsN (n : Nat) : AV → Option (List AV)
  | .ag cs => if cs.length = n && cs.all AV.cell1 then some cs else none
  | v => if n = 1 && v.cell1 then some [v] else none

inductive ABlk where
  | cells (lo : Nat) (cs : List AV)
  | map (es : List (Value × AV))

def AHeap := Nat → Option ABlk

def AHeap.ins (σ : AHeap) (b : Nat) (x : ABlk) : AHeap := fun c => if c = b then some x else σ c
def AHeap.del (σ : AHeap) (b : Nat) : AHeap := fun c => if c = b then none else σ c

abbrev KAV := AV → AHeap → Prop

/- environments of temporaries -/
abbrev Env := List (Nat × AV)
def Env.get : Env → Nat → AV
  | [], _ => .un
  | (k, v) :: r, t => cond (Nat.beq k t) v (Env.get r t)
def Env.put (env : Env) : Option Nat → AV → Env
  | none, _ => env
  | some d, v => (d, v) :: env
def Env.prune (env : Env) (keep : List Nat) : Env := keep.map fun t => (t, env.get t)
def Env.getMany (env : Env) (ts : List Nat) : List AV := ts.map env.get
def nth (xs : List AV) (i : Nat) : AV := xs.getD i .un
def Env.setManyFrom (xs : List AV) : Nat → List Nat → Env → Env
  | _, [], env => env
  | i, t :: ts, env => (t, nth xs i) :: Env.setManyFrom xs (i + 1) ts env
def Env.setMany (env : Env) (ts : List Nat) (xs : List AV) : Env := Env.setManyFrom xs 0 ts env

def avOf1 : Value → AV
  | .slice none 0 0 => .nl
  | .func f a c => if a.isEmpty && c.isEmpty then .fn f [] [] else .sc (.func f a c)
  | v => .sc v
def avOf : Value → AV
  | .agg cs => .ag (cs.toList.map avOf1)
  | .tuple vs => .tu (vs.toList.map avOf1)
  | v => avOf1 v

def evalO (env : Env) : Operand → AV
  | .tmp t => env.get t
  | .const v => avOf v
  | .global _ => .un
  | .func f => .fn (.func f) [] []

/- type tables -/
inductive LdK where
  | bad | one | agg (n : Nat)
def ldk (P : Program) (t : TypeId) : LdK :=
  match P.underlying t, P.info? t with
  | some (.struct _), some i | some (.array _ _), some i => .agg i.size
  | some _, some i => if i.size = 1 then .one else .bad
  | _, _ => .bad
def zcells (P : Program) (t : TypeId) : Option (List AV) :=
  match P.info? t with
  | some i => match i.zero with
    | some z => (avOf z).cellsN i.size
    | none => none
  | none => none
def szOf (P : Program) (t : TypeId) : Option Nat := (P.info? t).map (·.size)
def fieldOff (P : Program) (s : TypeId) (f : Nat) : Option Nat :=
  match P.underlying s with
  | some (.struct fs) => match fs[f]? with
    | some x => match P.info? x.type with
      | some i => if i.size = 0 then none else some x.offset
      | none => none
    | none => none
  | _ => none
def fieldK (P : Program) (s : TypeId) (f : Nat) : Option (Nat × LdK) :=
  match P.underlying s with
  | some (.struct fs) => match fs[f]? with
    | some x => some (x.offset, ldk P x.type)
    | none => none
  | _ => none
inductive IdxK where
  | bad | slice (sz : Nat) | array (len sz : Nat)
def idxK (P : Program) (t : TypeId) : IdxK :=
  match P.underlying t with
  | some (.slice e) => match P.info? e with | some i => .slice i.size | none => .bad
  | some (.array n e) => match P.info? e with | some i => if n ≤ 1 then .bad else .array n i.size | none => .bad
  | _ => .bad

/- primitives -/
def JOIN (body : (List AV → AHeap → Prop) → Prop) (k : List AV → AHeap → Prop) : Prop := body k
def LOOP (body : (List AV → AHeap → Prop) → List AV → AHeap → Prop) (xs : List AV) (σ : AHeap) : Prop :=
  ∀ R : List AV → AHeap → Prop, (∀ xs σ, body R xs σ → R xs σ) → R xs σ
def IFB (c : AV) (A B : Prop) : Prop :=
  match c with
  | .sc (.bool b) => (b = true → A) ∧ (b = false → B)
  | _ => False
/-- an operation under a guard: run if the guard is t, else (the other, or not worked out) not -/
def IFG (t : Bool) (c : AV) (A B : Prop) : Prop :=
  match c with
  | .sc v => (v = .bool t → A) ∧ (v ≠ .bool t → B)
  | _ => False
abbrev IFT (b : Bool) (A : Prop) : Prop :=
  match b with
  | true => A
  | false => False
abbrev OPT {α : Type} (x : Option α) (k : α → Prop) : Prop :=
  match x with
  | some a => k a
  | none => False

def PICK (c a b : AV) (σ : AHeap) (K : KAV) : Prop :=
  match c with
  | .sc (.bool t) => K (cond t a b) σ
  | _ => False
def NEW (z : List AV) (σ : AHeap) (K : KAV) : Prop := ∀ b, σ b = none → K (.pt b 0) (σ.ins b (.cells 0 z))
def BOX (n : Nat) (v : AV) (σ : AHeap) (K : KAV) : Prop :=
  match v.cellsN n with
  | some cs => NEW cs σ K
  | none => False

def rdCells (k : LdK) (cs : List AV) (off : Nat) : Option AV :=
  match k with
  | .one => cs[off]?
  | .agg n => if off + n ≤ cs.length then some (.ag ((cs.drop off).take n)) else none
  | .bad => none
def LOAD (k : LdK) (p : AV) (σ : AHeap) (K : KAV) : Prop :=
  match p with
  | .pt b off => match σ b with
    | some (.cells 0 cs) => OPT (rdCells k cs off) (K · σ)
    | _ => False
  | .rp cs off => OPT (rdCells k cs off) (K · σ)
  | _ => False
def wrCells (cs : List AV) (off : Nat) (vs : List AV) : List AV := cs.take off ++ vs ++ cs.drop (off + vs.length)
def STORE (n : Nat) (p v : AV) (σ : AHeap) (K : KAV) : Prop :=
  match p with
  | .pt b off => match σ b with
    | some (.cells 0 cs) => match v.cellsN n with
      | some vs => off + n ≤ cs.length ∧ K .un (σ.ins b (.cells 0 (wrCells cs off vs)))
      | none => False
    | _ => False
  | _ => False
def NILCK (v : AV) (σ : AHeap) (K : KAV) : Prop :=
  match v with
  | .pt b o => K (.pt b o) σ
  | .rp cs o => K (.rp cs o) σ
  | .fn (.func f) a c => K (.fn (.func f) a c) σ
  | _ => False
def FA (off : Nat) (v : AV) (σ : AHeap) (K : KAV) : Prop :=
  match v with
  | .pt b o => K (.pt b (o + off)) σ
  | .rp cs o => K (.rp cs (o + off)) σ
  | _ => False
def FIELD (k : LdK) (off : Nat) (v : AV) (σ : AHeap) (K : KAV) : Prop :=
  match v with
  | .ag cs => OPT (rdCells k cs off) (K · σ)
  | _ => False
def fillA (z : List AV) : List (Nat × Nat × AV) → Option (List AV)
  | [] => some z
  | (off, n, v) :: r => match v.cellsN n with
    | some vs => if off + n ≤ z.length then fillA (wrCells z off vs) r else none
    | none => none
def BUILD (z : List AV) (parts : List (Nat × Nat × AV)) (σ : AHeap) (K : KAV) : Prop := OPT (fillA z parts) fun cs => K (.ag cs) σ
def elemsA (n : Nat) (z : List AV) (parts : List (Nat × AV)) : Nat → Option (List (List AV))
  | 0 => some []
  | m + 1 => match elemsA n z parts m with
    | none => none
    | some r => match parts.find? (fun p => Nat.beq p.1 m) with
      | some (_, v) => match v.cellsN n with
        | some cs => some (r ++ [cs])
        | none => none
      | none => some (r ++ [z])
/-- a new row of elements: as a growing list (its cells are never written again), or owned -/
def ROW (own : Bool) (n : Nat) (xs : List (List AV)) (σ : AHeap) (K : KAV) : Prop :=
  match own with
  | true => ∀ b, σ b = none → K (.ar b n 0 xs.length) (σ.ins b (.cells 0 xs.flatten))
  | false => match xs with
    | [] => K .nl σ
    | x :: r => ∀ b, σ b = none → K (.gl b n (x :: r)) (σ.ins b (.cells ((x :: r).length * n) []))
def LIT (own : Bool) (n : Nat) (xs : List AV) (σ : AHeap) (K : KAV) : Prop :=
  OPT (xs.mapM (AV.cellsN n)) fun xs => ROW own n xs σ K
def IA (k : IdxK) (v i : AV) (σ : AHeap) (K : KAV) : Prop :=
  match i with
  | .sc (.int _ n) => match k, v with
    | .slice sz, .sl s xs => 0 ≤ n ∧ s = sz ∧ ∃ x, xs[n.toNat]? = some x ∧ K (.rp x 0) σ
    | .slice sz, .gl _ s xs => 0 ≤ n ∧ s = sz ∧ ∃ x, xs[n.toNat]? = some x ∧ K (.rp x 0) σ
    | .slice sz, .ar b s o len => 0 ≤ n ∧ n < len ∧ s = sz ∧ K (.pt b (o + n.toNat * sz)) σ
    | .array len sz, .pt b o => 0 ≤ n ∧ n < len ∧ K (.pt b (o + n.toNat * sz)) σ
    | .array len sz, .rp cs o => 0 ≤ n ∧ n < len ∧ K (.rp cs (o + n.toNat * sz)) σ
    | _, _ => False
  | _ => False
def IX (v i : AV) (σ : AHeap) (K : KAV) : Prop :=
  match v, i with
  | .sc (.string s), .sc (.int _ n) => 0 ≤ n ∧ ∃ c, s[n.toNat]? = some c ∧ K (U8 c.toNat) σ
  | _, _ => False
def LENS (v : AV) (σ : AHeap) (K : KAV) : Prop :=
  match v with
  | .sc (.string s) => K (I s.size) σ
  | _ => False
def LENL (v : AV) (σ : AHeap) (K : KAV) : Prop :=
  match v with
  | .sl _ xs => K (I xs.length) σ
  | .gl _ _ xs => K (I xs.length) σ
  | .nl => K (I 0) σ
  | .ar _ _ _ len => K (I len) σ
  | _ => False
/-- s[lo:hi] of a string -/
def CUTS (v : AV) (lo hi : Option AV) (σ : AHeap) (K : KAV) : Prop :=
  match v with
  | .sc (.string s) => match lo.getD (I 0), hi.getD (I s.size) with
    | .sc (.int _ l), .sc (.int _ h) => 0 ≤ l ∧ l ≤ h ∧ h ≤ s.size ∧ K (St (s.extract l.toNat h.toNat)) σ
    | _, _ => False
  | _ => False
/-- s[lo:hi] of a slice -/
def CUTL (sz : Nat) (v : AV) (lo hi : Option AV) (σ : AHeap) (K : KAV) : Prop :=
  match v with
  | .sl s xs => match lo.getD (I 0), hi.getD (I xs.length) with
    | .sc (.int _ l), .sc (.int _ h) => s = sz ∧ 0 ≤ l ∧ l ≤ h ∧ h ≤ xs.length ∧ K (.sl s ((xs.drop l.toNat).take (h - l).toNat)) σ
    | _, _ => False
  | .gl _ s xs => match lo.getD (I 0), hi.getD (I xs.length) with
    | .sc (.int _ l), .sc (.int _ h) => s = sz ∧ 0 ≤ l ∧ l ≤ h ∧ h ≤ xs.length ∧ K (.sl s ((xs.drop l.toNat).take (h - l).toNat)) σ
    | _, _ => False
  | .nl => match lo.getD (I 0), hi.getD (I 0) with
    | .sc (.int _ l), .sc (.int _ h) => l = 0 ∧ h = 0 ∧ K .nl σ
    | _, _ => False
  | .ar b s o len => match lo.getD (I 0), hi.getD (I len) with
    | .sc (.int _ l), .sc (.int _ h) => 0 ≤ l ∧ l ≤ h ∧ h ≤ len ∧ s = sz ∧ K (.ar b s (o + l.toNat * s) (h - l).toNat) σ
    | _, _ => False
  | _ => False
/-- what append's second argument holds: its elements -/
def srcA (n : Nat) (v : AV) : Option (List (List AV)) :=
  match v with
  | .nl => some []
  | .sl s xs => match Nat.beq s n with | true => some xs | false => none
  | .gl _ s xs => match Nat.beq s n with | true => some xs | false => none
  | _ => none
/-- .. or an owned row's -/
def srcH (n : Nat) (v : AV) (σ : AHeap) : Option (List (List AV)) :=
  match v with
  | .ar b s o len => match σ b with
    | some (.cells 0 cs) => match Nat.beq s n && Nat.ble (o + len * n) cs.length && ((cs.drop o).take (len * n)).all AV.cell1 with
      | true => some ((List.range len).map fun i => (cs.drop (o + i * n)).take n)
      | false => none
    | _ => none
  | v => srcA n v
def srcS (v : AV) : Option (List (List AV)) :=
  match v with
  | .sc (.string s) => some (s.data.toList.map fun c => [U8 c.toNat])
  | _ => none
/-- append(v, x...) -/
def APP (own : Bool) (n bytes : Nat) (v : AV) (src : Option (List (List AV))) (σ : AHeap) (K : KAV) : Prop :=
  0 < n ∧ OPT src fun ys => match v with
    | .nl => ys.length * bytes ≤ 70368744177664 ∧ ys.length ≤ 70368744177664 ∧ match ys with
      | [] => K .nl σ
      | y :: r => ROW own n (y :: r) σ K
    | .gl b s xs => s = n ∧ (xs.length + ys.length) * bytes ≤ 70368744177664 ∧ xs.length + ys.length ≤ 70368744177664 ∧ match ys with
      | [] => K (.gl b s xs) σ
      | y :: r => σ b = some (.cells (xs.length * n) []) ∧
          ∀ b', (b' = b ∨ σ b' = none) → K (.gl b' n (xs ++ y :: r)) ((σ.del b).ins b' (.cells ((xs ++ y :: r).length * n) []))
    | .ar b s o len => s = n ∧ o = 0 ∧ (len + ys.length) * bytes ≤ 70368744177664 ∧ len + ys.length ≤ 70368744177664 ∧ match ys with
      | [] => K (.ar b s o len) σ
      | y :: r => match σ b with
        | some (.cells 0 cs) => len * n ≤ cs.length ∧
            ∀ b', (b' = b ∨ σ b' = none) → K (.ar b' n 0 (len + (y :: r).length)) ((σ.del b).ins b' (.cells 0 (cs.take (len * n) ++ (y :: r).flatten)))
        | _ => False
    | _ => False
def APPL (own : Bool) (n bytes : Nat) (v x : AV) (σ : AHeap) (K : KAV) : Prop := APP own n bytes v (srcH n x σ) σ K
def APPS (own : Bool) (n bytes : Nat) (v x : AV) (σ : AHeap) (K : KAV) : Prop := n = 1 ∧ APP own n bytes v (srcS x) σ K
/-- copy(v, x) -/
def COPY (n : Nat) (v x : AV) (σ : AHeap) (K : KAV) : Prop :=
  0 < n ∧ OPT (srcH n x σ) fun ys => match v with
    | .ar b s o len => s = n ∧ match σ b with
      | some (.cells 0 cs) => o + len * n ≤ cs.length ∧ K (I (min ys.length len : Nat)) (σ.ins b (.cells 0 (wrCells cs o (ys.take (min ys.length len)).flatten)))
      | _ => False
    | _ => False
def MAKE (n : Nat) (z : List AV) (bytes : Nat) (len cap : AV) (σ : AHeap) (K : KAV) : Prop :=
  match len, cap with
  | .sc (.int _ l), .sc (.int _ c) => 0 ≤ l ∧ l ≤ c ∧ c ≤ 70368744177664 ∧ c * bytes ≤ 70368744177664 ∧ z.length = n ∧
      ∀ b, σ b = none → K (.ar b n 0 l.toNat) (σ.ins b (.cells 0 (List.replicate c.toNat z).flatten))
  | _, _ => False
def TUP (v : AV) (i : Nat) (σ : AHeap) (K : KAV) : Prop :=
  match v with
  | .tu vs => OPT vs[i]? (K · σ)
  | _ => False

/-- a run without memory -/
def pureV (P : Program) {α : Type} : Sem α → Option α
  | .pure a => some a
  | .program k => pureV P (k P)
  | .mark _ k => pureV P k
  | _ => none
def scalarV : Value → Bool
  | .int _ _ | .bool _ | .string _ => true
  | _ => false
def BIN (P : Program) (op : BinOp) (t : TypeId) (x y : AV) (σ : AHeap) (K : KAV) : Prop :=
  match x, y with
  | .sc (.int k a), .sc (.int k' b) => OPT (pureV P (binOp op t (.int k a) (.int k' b))) fun v => K (.sc v) σ
  | .sc (.string a), .sc (.string b) => OPT (pureV P (binOp op t (.string a) (.string b))) fun v => K (.sc v) σ
  | .sc (.bool a), .sc (.bool b) => OPT (pureV P (binOp op t (.bool a) (.bool b))) fun v => K (.sc v) σ
  | _, _ => False
def UN (P : Program) (op : UnOp) (x : AV) (σ : AHeap) (K : KAV) : Prop :=
  match x with
  | .sc a => OPT (pureV P (Op.unary op a)) fun v => K (.sc v) σ
  | _ => False
inductive CvK where
  | bad | int (k : IntKind) | same | toBytes (e : TypeId) | ofBytes
def cvk (P : Program) (src dst : TypeId) : CvK :=
  match P.underlying src, P.underlying dst with
  | some (.int _), some (.int k) => .int k
  | some .string, some .string => .same
  | some (.slice e), some .string => match P.underlying e, P.info? e with | some (.int .u8), some i => if i.size = 1 then .ofBytes else .bad | _, _ => .bad
  | some .string, some (.slice e) => match P.underlying e, P.info? e with | some (.int .u8), some i => if i.size = 1 then .toBytes e else .bad | _, _ => .bad
  | _, _ => .bad
def byteOf : List AV → Option UInt8
  | [.sc (.int .u8 n)] => some (UInt8.ofNat n.toNat)
  | _ => none
def byte1 : AV → Option UInt8
  | .sc (.int .u8 n) => some (UInt8.ofNat n.toNat)
  | _ => none
def CONV (k : CvK) (x : AV) (σ : AHeap) (K : KAV) : Prop :=
  match k, x with
  | .int k, .sc (.int _ n) => K (.sc (.int k (k.wrap n))) σ
  | .same, .sc (.string s) => K (St s) σ
  | .ofBytes, .nl => K (St .empty) σ
  | .ofBytes, .sl _ xs => OPT (xs.mapM byteOf) fun l => K (St ⟨l.toArray⟩) σ
  | .ofBytes, .gl _ _ xs => OPT (xs.mapM byteOf) fun l => K (St ⟨l.toArray⟩) σ
  | .ofBytes, .ar b s o len => match σ b with
    | some (.cells 0 cs) => s = 1 ∧ o + len ≤ cs.length ∧ OPT (((cs.drop o).take len).mapM byte1) fun l => K (St ⟨l.toArray⟩) σ
    | _ => False
  | .toBytes _, .sc (.string s) => K (.sl 1 (s.data.toList.map fun c => [U8 c.toNat])) σ
  | _, _ => False
def MKFN (f : Fn) (first cap : List AV) (σ : AHeap) (K : KAV) : Prop := K (.fn f first cap) σ

end Go.Al
