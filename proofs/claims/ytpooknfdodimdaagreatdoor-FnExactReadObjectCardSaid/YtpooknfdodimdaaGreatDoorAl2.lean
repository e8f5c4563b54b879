/- The abstract logic, part 2: how abstract states stand for worlds; contracts of functions; the evaluator. -/
import Derived.Test.YtpooknfdodimdaaGreatDoorAl1
set_option linter.unusedVariables false
namespace Go.Al

/-- what is never written again, and the shapes of blocks -/
structure Seal where
  cell : Nat → Nat → Option Value
  shape : Nat → Option (TypeId × Nat)

structure Seal.le (S T : Seal) : Prop where
  cell : ∀ b o v, S.cell b o = some v → T.cell b o = some v
  shape : ∀ b s, S.shape b = some s → T.shape b = some s

theorem Seal.le.refl (S : Seal) : S.le S := ⟨fun _ _ _ h => h, fun _ _ h => h⟩
theorem Seal.le.trans {S T U : Seal} (h : S.le T) (h' : T.le U) : S.le U := ⟨fun b o v x => h'.cell _ _ _ (h.cell _ _ _ x), fun b s x => h'.shape _ _ (h.shape _ _ x)⟩

inductive Rel (S : Seal) : AV → Value → Prop
  | un (v) : Rel S .un v
  | sc (v) : Rel S (.sc v) v
  | nl (a) : Rel S .nl (.slice a 0 0)
  | sl (sz : Nat) (xs : List (List AV)) (a : Option Addr) (cap : Nat) (val : Nat → Nat → Value) (hc : xs.length ≤ cap) (hz : ∀ x ∈ xs, x.length = sz) (h1 : ∀ x ∈ xs, x.all AV.cell1 = true)
      (hs : xs ≠ [] → ∃ b o, a = some ⟨b, o, none⟩ ∧ ∀ i j, i < xs.length → j < sz → S.cell b (o + (i * sz + j)) = some (val i j))
      (hr : ∀ i j, i < xs.length → j < sz → Rel S ((xs.getD i []).getD j .un) (val i j)) : Rel S (.sl sz xs) (.slice a xs.length cap)
  | gl (b sz : Nat) (xs : List (List AV)) (cap : Nat) (e : TypeId) (n : Nat) (val : Nat → Nat → Value) (hne : xs ≠ []) (hc : xs.length ≤ cap) (hz : ∀ x ∈ xs, x.length = sz) (h1 : ∀ x ∈ xs, x.all AV.cell1 = true)
      (hsh : S.shape b = some (e, n)) (hn : cap * sz ≤ n) (hs : ∀ i j, i < xs.length → j < sz → S.cell b (i * sz + j) = some (val i j))
      (hr : ∀ i j, i < xs.length → j < sz → Rel S ((xs.getD i []).getD j .un) (val i j)) : Rel S (.gl b sz xs) (.slice (some ⟨b, 0, none⟩) xs.length cap)
  | rp (xs : List AV) (off b o : Nat) (val : Nat → Value) (hs : ∀ j, j < xs.length → S.cell b (o + j) = some (val j)) (hr : ∀ j, j < xs.length → Rel S (xs.getD j .un) (val j)) :
      Rel S (.rp xs off) (.pointer (some ⟨b, o + off, none⟩))
  | pt (b off) : Rel S (.pt b off) (.pointer (some ⟨b, off, none⟩))
  | ar (b sz off len cap : Nat) (a : Option Addr) (e : TypeId) (n : Nat) (hsh : S.shape b = some (e, n)) (hc : len ≤ cap) (hn : off + cap * sz ≤ n) (ha : 0 < cap → a = some ⟨b, off, none⟩) :
      Rel S (.ar b sz off len) (.slice a len cap)
  | ag (cs : List AV) (vs : Array Value) (hl : vs.size = cs.length) (hr : ∀ j, j < cs.length → Rel S (cs.getD j .un) (vs.getD j undef)) : Rel S (.ag cs) (.agg vs)
  | tu (cs : List AV) (vs : Array Value) (hl : vs.size = cs.length) (hr : ∀ j, j < cs.length → Rel S (cs.getD j .un) (vs.getD j undef)) : Rel S (.tu cs) (.tuple vs)
  | fn (f : Fn) (first cap : List AV) (vf vc : Array Value) (hf : vf.size = first.length) (hc : vc.size = cap.length) (hrf : ∀ j, j < first.length → Rel S (first.getD j .un) (vf.getD j undef))
      (hrc : ∀ j, j < cap.length → Rel S (cap.getD j .un) (vc.getD j undef)) : Rel S (.fn f first cap) (.func f vf vc)
  | mp (b) : Rel S (.mp b) (.map (some b))

theorem Rel.mono {S T : Seal} (h : S.le T) {x : AV} {v : Value} (hx : Rel S x v) : Rel T x v := by
  induction hx with
  | un v => exact .un v
  | sc v => exact .sc v
  | nl a => exact .nl a
  | sl sz xs a cap val hc hz h1 hs hr ih =>
    exact .sl sz xs a cap val hc hz h1 (fun hne => by obtain ⟨b, o, ha, hb⟩ := hs hne; exact ⟨b, o, ha, fun i j hi hj => h.cell _ _ _ (hb i j hi hj)⟩) ih
  | gl b sz xs cap e n val hne hc hz h1 hsh hn hs hr ih => exact .gl b sz xs cap e n val hne hc hz h1 (h.shape _ _ hsh) hn (fun i j hi hj => h.cell _ _ _ (hs i j hi hj)) ih
  | rp xs off b o val hs hr ih => exact .rp xs off b o val (fun j hj => h.cell _ _ _ (hs j hj)) ih
  | pt b off => exact .pt b off
  | ar b sz off len cap a e n hsh hc hn ha => exact .ar b sz off len cap a e n (h.shape _ _ hsh) hc hn ha
  | ag cs vs hl hr ih => exact .ag cs vs hl ih
  | tu cs vs hl hr ih => exact .tu cs vs hl ih
  | fn f first cap vf vc hf hc hrf hrc ih1 ih2 => exact .fn f first cap vf vc hf hc ih1 ih2
  | mp b => exact .mp b

/-- cells related one by one -/
def RelL (S : Seal) (xs : List AV) (vs : List Value) : Prop := vs.length = xs.length ∧ ∀ j, j < xs.length → Rel S (xs.getD j .un) (vs.getD j undef)

theorem RelL.mono {S T : Seal} (h : S.le T) {xs : List AV} {vs : List Value} (hx : RelL S xs vs) : RelL T xs vs := ⟨hx.1, fun j hj => (hx.2 j hj).mono h⟩

structure Inv (S : Seal) (σ : AHeap) (w : World) : Prop where
  cell : ∀ b o v, S.cell b o = some v → w.cell? ⟨b, o, none⟩ = some v
  shape : ∀ b s, S.shape b = some s → w.shape? b = some s
  own : ∀ b lo cs, σ b = some (.cells lo cs) → ∃ e n, S.shape b = some (e, n) ∧ lo + cs.length ≤ n ∧ (∀ j, lo ≤ j → S.cell b j = none) ∧ (∀ j, lo ≤ j → w.frozen? ⟨b, j, none⟩ = false) ∧
    ∀ i, i < cs.length → ∃ v, w.cell? ⟨b, lo + i, none⟩ = some v ∧ Rel S (cs.getD i .un) v
  map : ∀ b es, σ b = some (.map es) → ∃ (ents : Array MapEntry) (clock : Nat), w.heap[b]? = some (.map ents clock) ∧ ents.size = es.length ∧
    ∀ i, i < es.length → ∃ x, ents[i]? = some x ∧ x.key = (es.getD i (undef, .un)).1 ∧ Rel S (es.getD i (undef, .un)).2 x.val

/-- from a state to a later one -/
structure Step (S : Seal) (σ : AHeap) (w : World) (S' : Seal) (σ' : AHeap) (w' : World) : Prop where
  le : S.le S'
  inv : Inv S' σ' w'
  keep : ∀ b, b < w.heap.size → σ b = none → w'.heap[b]? = w.heap[b]?
  dom : ∀ b, σ' b ≠ none → σ b ≠ none ∨ w.heap.size ≤ b
  size : w.heap.size ≤ w'.heap.size
  sealed : ∀ b o v, S'.cell b o = some v → S.cell b o = some v ∨ σ b ≠ none ∨ w.heap.size ≤ b
  out : w'.os = w.os ∧ w'.output = w.output

theorem Step.refl {S : Seal} {σ : AHeap} {w : World} (h : Inv S σ w) : Step S σ w S σ w := ⟨.refl S, h, fun _ _ _ => rfl, fun _ h => .inl h, Nat.le_refl _, fun _ _ _ h => .inl h, rfl, rfl⟩

theorem Step.trans {S S1 S2 : Seal} {σ σ1 σ2 : AHeap} {w w1 w2 : World} (h : Step S σ w S1 σ1 w1) (h' : Step S1 σ1 w1 S2 σ2 w2) : Step S σ w S2 σ2 w2 := by
  refine ⟨h.le.trans h'.le, h'.inv, fun b hb hn => ?_, fun b hb => ?_, Nat.le_trans h.size h'.size, fun b o v hv => ?_, h'.out.1.trans h.out.1, h'.out.2.trans h.out.2⟩
  · have h1 : σ1 b = none := by
      cases hc : σ1 b with
      | none => rfl
      | some x =>
        rcases h.dom b (by simp [hc]) with h2 | h2
        · exact absurd hn h2
        · omega
    rw [h'.keep b (Nat.lt_of_lt_of_le hb h.size) h1, h.keep b hb hn]
  · rcases h'.dom b hb with h1 | h1
    · exact h.dom b h1
    · have := h.size; exact .inr (by omega)
  · rcases h'.sealed b o v hv with h1 | h1 | h1
    · exact h.sealed b o v h1
    · exact .inr (h.dom b h1)
    · have := h.size; exact .inr (.inr (by omega))

/-- the function has a body that a call enters -/
def okFn (P : Program) (f : FuncId) : Bool :=
  match P.funcs[f]? with
  | some fn => !(fn.name == "runtime.NumGoroutine") && !fn.body.isNone
  | none => false

/-- A CONTRACT: called in a state that the abstract one stands for, the function returns, in a state and with a result of which Q holds. -/
def ACalls (P : Program) (G : Seal) (f : FuncId) (args : List AV) (σ : AHeap) (Q : KAV) : Prop :=
  okFn P f = true ∧ ∀ S w (vs : Array Value), G.le S → Inv S σ w → RelL S args vs.toList →
    Calls P f vs w fun e w' => ∃ v r S' σ', e = .returned v ∧ Step S σ w S' σ' w' ∧ Rel S' r v ∧ Q r σ'

theorem ACalls.mono {P : Program} {G : Seal} {f : FuncId} {args : List AV} {σ : AHeap} {Q Q' : KAV} (h : ACalls P G f args σ Q) (hq : ∀ r σ', Q r σ' → Q' r σ') : ACalls P G f args σ Q' :=
  ⟨h.1, fun S w vs hG hI hR => (h.2 S w vs hG hI hR).mono fun e w' ⟨v, r, S', σ', he, hs, hr, hq'⟩ => ⟨v, r, S', σ', he, hs, hr, hq _ _ hq'⟩⟩

/-- what may be said of a result and a state in another way -/
def Fin (Q : KAV) (r : AV) (σ : AHeap) : Prop :=
  ∀ S w v, Inv S σ w → Rel S r v → ∃ S' r' σ', Step S σ w S' σ' w ∧ Rel S' r' v ∧ Q r' σ'

theorem Fin.mk {Q : KAV} {r : AV} {σ : AHeap} (h : Q r σ) : Fin Q r σ := fun S w v hI hR => ⟨S, r, σ, .refl hI, hR, h⟩

theorem ACalls.of_fin {P : Program} {G : Seal} {f : FuncId} {args : List AV} {σ : AHeap} {Q : KAV} (h : ACalls P G f args σ (Fin Q)) : ACalls P G f args σ Q :=
  ⟨h.1, fun S w vs hG hI hR => (h.2 S w vs hG hI hR).mono fun e w' ⟨v, r, S', σ', he, hs, hr, hq⟩ => by
    obtain ⟨S2, r2, σ2, hs2, hr2, hq2⟩ := hq S' w' v hs.inv hr
    exact ⟨v, r2, S2, σ2, he, hs.trans hs2, hr2, hq2⟩⟩

def CALL (P : Program) (G : Seal) (c : AV) (args : List AV) (σ : AHeap) (K : KAV) : Prop :=
  match c with
  | .fn (.func f) first cap => ACalls P G f (first ++ args ++ cap) σ K
  | _ => False

def placesOf (P : Program) (t : TypeId) : Option (List (Nat × Nat)) :=
  match P.underlying t with
  | some (.struct fs) => fs.toList.mapM fun f => (P.info? f.type).map fun i => (f.offset, i.size)
  | _ => none
def placeParts (pl : List (Nat × Nat)) : List (Nat × AV) → Option (List (Nat × Nat × AV))
  | [] => some []
  | p :: r => match pl[p.1]?, placeParts pl r with
    | some q, some r' => some ((q.1, q.2, p.2) :: r')
    | _, _ => none
def partsOf (P : Program) (t : TypeId) (l : List (Nat × AV)) : Option (List (Nat × Nat × AV)) :=
  match placesOf P t with
  | some pl => placeParts pl l
  | none => none

/- one operation -/
def aop (P : Program) (G : Seal) (own : List Nat) (o : Oper) (env : Env) (σ : AHeap) (K : KAV) : Prop :=
  let isOwn : Bool := match o.dst with | some d => own.contains d | none => false
  match o.op with
  | .move x | .assign x => K (evalO env x) σ
  | .pick c a b => PICK (evalO env c) (evalO env a) (evalO env b) σ K
  | .alloc t => OPT (zcells P t) fun z => NEW z σ K
  | .box t x => OPT (szOf P t) fun n => BOX n (evalO env x) σ K
  | .build t parts => OPT (zcells P t) fun z => OPT (partsOf P t (parts.toList.map fun p => (p.1, evalO env p.2))) fun ps => BUILD z ps σ K
  | .buildSlice t len parts => match P.underlying t with
    | some (.slice e) => OPT (zcells P e) fun z => IFT (Nat.ble (len * z.length) 1000000 && z.length != 0 && (parts.toList.map Prod.fst == List.range len)) (LIT isOwn z.length (parts.toList.map fun p => evalO env p.2) σ K)
    | _ => False
  | .load t a => LOAD (ldk P t) (evalO env a) σ K
  | .store t a x => OPT (szOf P t) fun n => STORE n (evalO env a) (evalO env x) σ K
  | .nilCheck x => NILCK (evalO env x) σ K
  | .binOp op t x y _ => BIN P op t (evalO env x) (evalO env y) σ K
  | .unOp op _ x => UN P op (evalO env x) σ K
  | .convert s d x => CONV (cvk P s d) (evalO env x) σ K
  | .makeFunc fn first cap => MKFN fn (first.toList.map (evalO env)) (cap.toList.map (evalO env)) σ K
  | .makeSlice t l c => match P.underlying t with
    | some (.slice e) => OPT (zcells P e) fun z => OPT ((P.info? e).map (·.bytes)) fun by_ => MAKE z.length z by_ (evalO env l) (evalO env c) σ K
    | _ => False
  | .slice t x lo hi none => match idxK P t with
    | .slice n => CUTL n (evalO env x) (lo.map (evalO env)) (hi.map (evalO env)) σ K
    | .array .. => False
    | .bad => match P.underlying t with
      | some .string => CUTS (evalO env x) (lo.map (evalO env)) (hi.map (evalO env)) σ K
      | _ => False
  | .fieldAddr s x f => OPT (fieldOff P s f) fun off => FA off (evalO env x) σ K
  | .field s x f => OPT (fieldK P s f) fun p => FIELD p.2 p.1 (evalO env x) σ K
  | .indexAddr t x i => IA (idxK P t) (evalO env x) (evalO env i) σ K
  | .index t x i => match P.underlying t with
    | some .string => IX (evalO env x) (evalO env i) σ K
    | _ => False
  | .extract t i => TUP (evalO env t) i σ K
  | .call { callee := .builtin .len, args := as, argTypes := ts } => match as.toList, ts.toList with
    | [x], [t] => match P.underlying t with
      | some .string => LENS (evalO env x) σ K
      | some (.slice _) => LENL (evalO env x) σ K
      | _ => False
    | _, _ => False
  | .call { callee := .builtin .append, args := as, argTypes := ts } => match as.toList, ts.toList with
    | [s, x], [t, u] => match P.underlying t, P.underlying u with
      | some (.slice e), some (.slice _) => OPT (zcells P e) fun z => OPT ((P.info? e).map (·.bytes)) fun by_ => APPL isOwn z.length by_ (evalO env s) (evalO env x) σ K
      | some (.slice e), some .string => OPT (zcells P e) fun z => OPT ((P.info? e).map (·.bytes)) fun by_ => APPS isOwn z.length by_ (evalO env s) (evalO env x) σ K
      | _, _ => False
    | _, _ => False
  | .call { callee := .builtin .copy, args := as, argTypes := ts } => match as.toList, ts.toList with
    | [s, x], [t, u] => match P.underlying t, P.underlying u with
      | some (.slice e), some (.slice _) => OPT (szOf P e) fun n => COPY n (evalO env s) (evalO env x) σ K
      | _, _ => False
    | _, _ => False
  | .call { callee := .value f, args := as, .. } => CALL P G (evalO env f) (as.toList.map (evalO env)) σ K
  | _ => False

/- regions -/
def denSeq (P : Program) (G : Seal) (own : List Nat) : List Oper → Env → AHeap → (Env → AHeap → Prop) → Prop
  | [], env, σ, k => k env σ
  | o :: r, env, σ, k => aop P G own o env σ fun v σ' => denSeq P G own r (env.put o.dst v) σ' k

def dstsOf (ops : List Oper) : List Nat := ops.filterMap (·.dst)
def sameGuard (g : Nat × Bool) (o : Oper) : Bool :=
  match o.guard with
  | some (j, t) => Nat.beq j g.1 && t == g.2
  | none => false
def undefs : List Nat → Env → Env
  | [], env => env
  | t :: ts, env => (t, .un) :: undefs ts env

/-- the operations of a region in their order; runs of operations under one guard stand in one branch -/
def denOps (P : Program) (G : Seal) (own : List Nat) (ops : Array Oper) : Nat → List Oper → Env → AHeap → (Env → AHeap → Prop) → Prop
  | 0, l, env, σ, k => match l with | [] => k env σ | _ => False
  | n + 1, l, env, σ, k =>
    match l with
    | [] => k env σ
    | o :: r => match o.guard with
      | none => aop P G own o env σ fun v σ' => denOps P G own ops n r (env.put o.dst v) σ' k
      | some (j, t) => match (ops[j]?).bind (·.dst) with
        | none => False
        | some d =>
          let grp := (o :: r).takeWhile (sameGuard (j, t))
          let rest := (o :: r).dropWhile (sameGuard (j, t))
          let ds := dstsOf grp
          match ds.contains d with
          | true => False
          | false => JOIN (fun kk => IFG t (env.get d) (denSeq P G own grp env σ fun env' σ' => kk (env'.getMany ds) σ') (kk (ds.map fun _ => U) σ))
            (fun xs σ' => denOps P G own ops n rest (env.setMany ds xs) σ' k)

/-- operations that neither write nor make memory -/
def readerOp : Op → Bool
  | .move _ | .assign _ | .pick .. | .load .. | .nilCheck _ | .binOp .. | .unOp .. | .fieldAddr .. | .field .. | .indexAddr .. | .index .. | .extract .. | .slice .. | .makeFunc .. => true
  | .build .. => true
  | .call { callee := .builtin .len, .. } => true
  | _ => false
def loadOp : Op → Bool
  | .load .. => true
  | _ => false

/- a region whose order is open: what must stand ahead of what -/
def directPreds (o : Oper) : List Nat := (o.after.toList.filter (Region.binds .any)).map (·.on)
def predsGo : List Oper → List (List Nat) → List (List Nat)
  | [], acc => acc
  | o :: r, acc => predsGo r (acc ++ [let d := directPreds o; d ++ d.flatMap fun j => acc.getD j []])
def predsL (ops : List Oper) : List (List Nat) := predsGo ops []
def effsOf (ops : List Oper) : List Nat := (List.range ops.length).filter fun i => match ops[i]? with | some o => !readerOp o.op | none => false
def phaseOf (effs : List Nat) (ps : List Nat) : Nat := (effs.takeWhile ps.contains).length
/-- the readers of a phase -/
def readersAt (ops : List Oper) (pl : List (List Nat)) (effs : List Nat) (p : Nat) : List Nat :=
  (List.range ops.length).filter fun i => match ops[i]? with | some o => readerOp o.op && Nat.beq (phaseOf effs (pl.getD i [])) p | none => false
def canonGo (ops : List Oper) (pl : List (List Nat)) (effs : List Nat) : Nat → List Nat → List Nat
  | p, [] => readersAt ops pl effs p
  | p, e :: r => readersAt ops pl effs p ++ e :: canonGo ops pl effs (p + 1) r
/-- an order of a region's operations: each reader as early as it may stand -/
def canon (ops : List Oper) : List Nat := let pl := predsL ops; let effs := effsOf ops; canonGo ops pl effs 0 effs

def opTmps (ops : List Oper) (o : Oper) : List Nat :=
  (o.op.operands.toList.filterMap fun | .tmp t => some t | _ => none) ++ (match o.guard with | some (j, _) => ((ops[j]?).bind (·.dst)).toList | none => [])

/-- guards are tested one by one -/
def GRD (ops : List Oper) (o : Oper) (env : Env) (σ : AHeap) (K : KAV) (act : KAV → Prop) : Prop :=
  match o.guard with
  | none => act K
  | some (j, t) => match (ops[j]?).bind (·.dst) with
    | none => False
    | some d => JOIN (fun kk => IFG t (env.get d) (act fun v σ' => kk [v] σ') (kk [U] σ)) (fun xs σ' => K (nth xs 0) σ')

/-- read again: the same -/
def SAMEV (v : AV) (σ : AHeap) : KAV := fun v' σ' => v' = v ∧ σ' = σ
def AGAIN (P : Program) (G : Seal) (ops : List Oper) (o : Oper) (env : Env) (v : AV) (σ : AHeap) : Prop :=
  match o.guard with
  | none => aop P G [] o env σ (SAMEV v σ)
  | some (j, t) => match (ops[j]?).bind (·.dst) with
    | none => False
    | some d => IFG t (env.get d) (aop P G [] o env σ (SAMEV v σ)) True

/-- a reading that may come late -/
structure Late where
  idx : Nat
  o : Oper
  env : Env
  v : AV
def CHK (P : Program) (G : Seal) (ops : List Oper) (ps : List Nat) (σ : AHeap) : List Late → Prop → Prop
  | [], X => X
  | l :: r, X => match ps.contains l.idx with
    | true => CHK P G ops ps σ r X
    | false => AGAIN P G ops l.o l.env l.v σ ∧ CHK P G ops ps σ r X

def denDraw (P : Program) (G : Seal) (own : List Nat) (ops : List Oper) (pl : List (List Nat)) : List Nat → List Late → Env → AHeap → (Env → AHeap → Prop) → Prop
  | [], _, env, σ, k => k env σ
  | i :: r, late, env, σ, k => match ops[i]? with
    | none => False
    | some o => match readerOp o.op with
      | true => GRD ops o env σ (fun v σ' => denDraw P G own ops pl r (match loadOp o.op with | true => late ++ [⟨i, o, env, v⟩] | false => late) (env.put o.dst v) σ' k) (fun K => aop P G own o env σ K)
      | false => GRD ops o env σ (fun v σ' => CHK P G ops (pl.getD i []) σ' late (denDraw P G own ops pl r late (env.put o.dst v) σ' k)) (fun K => aop P G own o env σ K)

def shareTmp (ops : List Oper) (a b : Oper) : Bool :=
  (match a.dst with | some d => (opTmps ops b).contains d || b.dst == some d | none => false) || (match b.dst with | some d => (opTmps ops a).contains d | none => false)
def ordOk (ops : List Oper) (pl : List (List Nat)) : List Nat → List Nat → Bool
  | _, [] => true
  | seen, i :: r =>
    !(seen.contains i) && Nat.blt i ops.length && (pl.getD i []).all seen.contains &&
    (r.all fun j => match ops[i]?, ops[j]? with
      | some p, some q => (readerOp p.op || (pl.getD j []).contains i) && (!shareTmp ops p q || (pl.getD j []).contains i)
      | _, _ => false) && ordOk ops pl (i :: seen) r
/-- the region is of the kind that 'denDraw' serves -/
def drawOk (ops : List Oper) (pl : List (List Nat)) (ord : List Nat) : Bool :=
  ((List.range ops.length).all fun i => match ops[i]? with
    | none => false
    | some o => ord.contains i && (directPreds o).all (fun j => Nat.blt j i) &&
      (pl.getD i []).all (fun x => (directPreds o).contains x || (directPreds o).any fun j => (pl.getD j []).contains x)) && ordOk ops pl [] ord

inductive Ex where
  | normal | exit (id : Nat) | ret

def Code.simple : Code → Bool
  | .skip | .region .. | .exit _ | .ret => true
  | .seq a b => Code.simple a && Code.simple b
  | _ => false

def Code.dsts : Code → List Nat
  | .region _ ops _ => dstsOf ops.toList
  | .seq a b => Code.dsts a ++ Code.dsts b
  | .cond _ a b => Code.dsts a ++ Code.dsts b
  | .block _ c => Code.dsts c
  | .loop c => Code.dsts c
  | _ => []

structure Cfg where
  keep : List Nat
  own : List Nat := []

def Cfg.mods (C : Cfg) (c : Code) : List Nat := let ds := Code.dsts c; C.keep.filter ds.contains

def den (P : Program) (G : Seal) (C : Cfg) : Code → (Ex → Env → AHeap → Prop) → Env → AHeap → Prop
  | .skip, k, env, σ => k .normal env σ
  | .region _ ops false, k, env, σ => denOps P G C.own ops ops.size ops.toList env σ fun env' σ' => k .normal (env'.prune C.keep) σ'
  | .region _ ops true, k, env, σ => match drawOk ops.toList (predsL ops.toList) (canon ops.toList) with | true => denDraw P G C.own ops.toList (predsL ops.toList) (canon ops.toList) [] env σ (fun env' σ' => k .normal (env'.prune C.keep) σ') | false => False
  | .seq a b, k, env, σ =>
    match Code.simple a with
    | true => den P G C a (fun e env' σ' => match e with | .normal => den P G C b k env' σ' | .exit i => k (.exit i) env' σ' | .ret => k .ret env' σ') env σ
    | false => JOIN (fun kk => den P G C a (fun e env' σ' => match e with | .normal => kk (env'.getMany (C.mods a)) σ' | .exit i => k (.exit i) env' σ' | .ret => k .ret env' σ') env σ)
      (fun xs σ' => den P G C b k ((env.setMany (C.mods a) xs).prune C.keep) σ')
  | .cond c x y, k, env, σ => IFB (evalO env c) (den P G C x k env σ) (den P G C y k env σ)
  | .block id c, k, env, σ => den P G C c (fun e env' σ' => match e with | .exit i => (match Nat.beq i id with | true => k .normal env' σ' | false => k (.exit i) env' σ') | .normal => k .normal env' σ' | .ret => k .ret env' σ') env σ
  | .loop c, k, env, σ => LOOP (fun rec xs σ' => den P G C c (fun e env' σ'' => match e with | .normal => rec (env'.getMany (C.mods c)) σ'' | .exit i => k (.exit i) env' σ'' | .ret => k .ret env' σ'') ((env.setMany (C.mods c) xs).prune C.keep) σ') (env.getMany (C.mods c)) σ
  | .exit id, k, env, σ => k (.exit id) env σ
  | .ret, k, env, σ => k .ret env σ
  | _, _, _, _ => False

/- the whole function -/
def resL (P : Program) : List ResultVar → Env → AHeap → List AV → (List AV → AHeap → Prop) → Prop
  | [], _, σ, acc, K => K acc σ
  | .tmp t :: r, env, σ, acc, K => resL P r env σ (acc ++ [env.get t]) K
  | .cell a t :: r, env, σ, acc, K => LOAD (ldk P t) (env.get a) σ fun x σ' => resL P r env σ' (acc ++ [x]) K
def resAV (P : Program) (rs : List ResultVar) (env : Env) (σ : AHeap) (K : KAV) : Prop :=
  resL P rs env σ [] fun xs σ' => match xs with | [x] => K x σ' | xs => K (.tu xs) σ'

def envArgs : Nat → List AV → Env
  | _, [] => []
  | i, a :: as => (i, a) :: envArgs (i + 1) as

def denF (P : Program) (G : Seal) (C : Cfg) (fn : Func) (args : List AV) (K : KAV) (σ : AHeap) : Prop :=
  match fn.body with
  | some c => den P G C c (fun e env σ' => match e with | .normal => resAV P fn.results.toList env σ' K | .ret => resAV P fn.results.toList env σ' K | .exit _ => False) ((envArgs 0 args).prune C.keep) σ
  | none => False

end Go.Al
