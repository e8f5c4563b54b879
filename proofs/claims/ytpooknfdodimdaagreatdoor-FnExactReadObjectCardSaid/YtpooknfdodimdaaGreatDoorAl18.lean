/- The abstract logic, part 18: the working kit: primitives on known values, loops, calls. -/
import Derived.Test.YtpooknfdodimdaaGreatDoorAl17
set_option linter.unusedVariables false
set_option linter.unusedSimpArgs false
namespace Go.Al

@[simp] theorem bs_size (l : List UInt8) : (bs l).size = l.length := by simp [bs, ByteArray.size]
@[simp] theorem bs_data (l : List UInt8) : (bs l).data.toList = l := by simp [bs]
theorem bs_of (s : ByteArray) : bs s.data.toList = s := by cases s; simp [bs]
@[simp] theorem bs_inj {a b : List UInt8} : bs a = bs b ↔ a = b := by simp [bs]
theorem bs_append (a b : List UInt8) : bs a ++ bs b = bs (a ++ b) := by
  apply ByteArray.ext
  simp [bs, ByteArray.data_append]
theorem bs_get? (l : List UInt8) (i : Nat) : (bs l)[i]? = l[i]? := by
  by_cases h : i < l.length
  · have h' : i < (bs l).size := by simpa using h
    rw [getElem?_pos (bs l) i h', getElem?_pos l i h]
    simp [bs, ByteArray.getElem_eq_getElem_data]
  · have h' : ¬ i < (bs l).size := by simpa using h
    rw [getElem?_neg (bs l) i h', getElem?_neg l i h]
theorem bs_extract (l : List UInt8) (a b : Nat) : (bs l).extract a b = bs ((l.drop a).take (b - a)) := by
  apply ByteArray.ext
  simp [bs, ByteArray.data_extract, List.extract_eq_take_drop]
theorem bs_toList (l : List UInt8) : (bs l).toList = l := by
  rw [ByteArray.toList_eq]; simp
theorem bs_empty : (ByteArray.empty) = bs [] := rfl

/- numbers -/
theorem wrap64 {n : Int} (h : -9223372036854775808 ≤ n ∧ n < 9223372036854775808) : IntKind.i64.wrap n = n := by
  unfold IntKind.wrap
  simp only [IntKind.signed, IntKind.bits, Bool.true_and, decide_eq_true_eq, show (2 : Int) ^ 64 = 18446744073709551616 from rfl, show (2 : Int) ^ (64 - 1) = 9223372036854775808 from rfl]
  split <;> omega
theorem wrap8 {n : Int} (h : 0 ≤ n ∧ n < 256) : IntKind.u8.wrap n = n := by
  unfold IntKind.wrap
  simp only [IntKind.signed, IntKind.bits, Bool.false_and]
  simp
  omega
theorem wrap8_mod (n : Int) : IntKind.u8.wrap n = n % 256 := by
  unfold IntKind.wrap
  simp only [IntKind.signed, IntKind.bits, Bool.false_and]
  simp

variable {P : Program} {σ : AHeap} {K : KAV}

theorem BIN_add {k t a b} : BIN P .add t (.sc (.int k a)) (.sc (.int k b)) σ K = K (.sc (.int k (k.wrap (a + b)))) σ := by simp [BIN, binOp, Op.intArith, OPT, pureV, pure]
theorem BIN_sub {k t a b} : BIN P .sub t (.sc (.int k a)) (.sc (.int k b)) σ K = K (.sc (.int k (k.wrap (a - b)))) σ := by simp [BIN, binOp, Op.intArith, OPT, pureV, pure]
theorem BIN_mul {k t a b} : BIN P .mul t (.sc (.int k a)) (.sc (.int k b)) σ K = K (.sc (.int k (k.wrap (a * b)))) σ := by simp [BIN, binOp, Op.intArith, OPT, pureV, pure]
theorem BIN_quo {k t a b} (h : b ≠ 0) : BIN P .quo t (.sc (.int k a)) (.sc (.int k b)) σ K = K (.sc (.int k (k.wrap (a.tdiv b)))) σ := by simp [BIN, binOp, Op.intDiv, OPT, pureV, pure, h]
theorem BIN_rem {k t a b} (h : b ≠ 0) : BIN P .rem t (.sc (.int k a)) (.sc (.int k b)) σ K = K (.sc (.int k (a.tmod b))) σ := by simp [BIN, binOp, Op.intDiv, OPT, pureV, pure, h]
@[simp] theorem BIN_eql {k t a b} : BIN P .eql t (.sc (.int k a)) (.sc (.int k b)) σ K = K (Bo (decide (a = b))) σ := by simp [BIN, binOp, Op.intCmp, OPT, pureV, pure]; rw [show (a == b) = decide (a = b) from by by_cases h : a = b <;> simp [h]]
@[simp] theorem BIN_neq {k t a b} : BIN P .neq t (.sc (.int k a)) (.sc (.int k b)) σ K = K (Bo (decide (a ≠ b))) σ := by simp [BIN, binOp, Op.intCmp, OPT, pureV, pure]; rw [show (a != b) = !decide (a = b) from by by_cases h : a = b <;> simp [h]]
@[simp] theorem BIN_lss {k t a b} : BIN P .lss t (.sc (.int k a)) (.sc (.int k b)) σ K = K (Bo (decide (a < b))) σ := by simp [BIN, binOp, Op.intCmp, OPT, pureV, pure]
@[simp] theorem BIN_leq {k t a b} : BIN P .leq t (.sc (.int k a)) (.sc (.int k b)) σ K = K (Bo (decide (a ≤ b))) σ := by simp [BIN, binOp, Op.intCmp, OPT, pureV, pure]
@[simp] theorem BIN_gtr {k t a b} : BIN P .gtr t (.sc (.int k a)) (.sc (.int k b)) σ K = K (Bo (decide (a > b))) σ := by simp [BIN, binOp, Op.intCmp, OPT, pureV, pure]
@[simp] theorem BIN_geq {k t a b} : BIN P .geq t (.sc (.int k a)) (.sc (.int k b)) σ K = K (Bo (decide (a ≥ b))) σ := by simp [BIN, binOp, Op.intCmp, OPT, pureV, pure]
theorem bs_beq (a b : List UInt8) : (a == b) = decide (a = b) := by by_cases h : a = b <;> simp [h]
@[simp] theorem BIN_seql {t a b} : BIN P .eql t (St (bs a)) (St (bs b)) σ K = K (Bo (decide (a = b))) σ := by simp [BIN, binOp, Op.stringOp, OPT, pureV, pure, bs_toList, bs_beq]
@[simp] theorem BIN_sneq {t a b} : BIN P .neq t (St (bs a)) (St (bs b)) σ K = K (Bo (decide (a ≠ b))) σ := by simp [BIN, binOp, Op.stringOp, OPT, pureV, pure, bs_toList, bs_beq]
theorem BIN_sadd {t a b} (h : a.length + b.length ≤ 9223372036854775807) : BIN P .add t (St (bs a)) (St (bs b)) σ K = K (St (bs (a ++ b))) σ := by
  have h' : ¬ (((bs a).size + (bs b).size : Nat) : Int) > IntKind.i64.max := by simp [IntKind.max, IntKind.signed, IntKind.bits]; omega
  simp only [BIN, binOp, Op.stringOp, OPT, pureV, pure, if_neg h', bs_append]
@[simp] theorem UN_not {a} : UN P .not (Bo a) σ K = K (Bo (!a)) σ := by simp [UN, Op.unary, OPT, pureV, pure]
theorem UN_neg {k a} : UN P .neg (.sc (.int k a)) σ K = K (.sc (.int k (k.wrap (0 - a)))) σ := by simp [UN, Op.unary, Op.intArith, OPT, pureV, pure]

@[simp] theorem IFB_Bo {b A B} : IFB (Bo b) A B = ((b = true → A) ∧ (b = false → B)) := rfl
@[simp] theorem IFB_true {A B} : IFB (Bo true) A B = A := by simp
@[simp] theorem IFB_false {A B} : IFB (Bo false) A B = B := by simp
@[simp] theorem IFG_Bo_true {b A B} : IFG true (Bo b) A B = ((b = true → A) ∧ (b = false → B)) := by simp [IFG]
@[simp] theorem IFG_Bo_false {b A B} : IFG false (Bo b) A B = ((b = false → A) ∧ (b = true → B)) := by simp [IFG]
@[simp] theorem IFG_U {t A B} : IFG t U A B = B := by simp [IFG, undef]
@[simp] theorem PICK_Bo {t a b} : PICK (Bo t) a b σ K = K (cond t a b) σ := rfl
@[simp] theorem LENL_sl {n xs} : LENL (.sl n xs) σ K = K (I xs.length) σ := rfl
@[simp] theorem LENL_gl {b n xs} : LENL (.gl b n xs) σ K = K (I xs.length) σ := rfl
@[simp] theorem LENL_nl : LENL .nl σ K = K (I 0) σ := rfl
@[simp] theorem LENL_ar {b n o l} : LENL (.ar b n o l) σ K = K (I l) σ := rfl
@[simp] theorem LENS_bs {l} : LENS (St (bs l)) σ K = K (I l.length) σ := by simp [LENS]
@[simp] theorem NILCK_pt {b o} : NILCK (.pt b o) σ K = K (.pt b o) σ := rfl
@[simp] theorem NILCK_rp {b o} : NILCK (.rp b o) σ K = K (.rp b o) σ := rfl
@[simp] theorem NILCK_fn {f a c} : NILCK (.fn (.func f) a c) σ K = K (.fn (.func f) a c) σ := rfl
@[simp] theorem FA_pt {n b o} : FA n (.pt b o) σ K = K (.pt b (o + n)) σ := rfl
@[simp] theorem FA_rp {n b o} : FA n (.rp b o) σ K = K (.rp b (o + n)) σ := rfl
@[simp] theorem LOAD_rp1 {cs o} : LOAD .one (.rp cs o) σ K = OPT cs[o]? (K · σ) := rfl
theorem LOAD_rpn {n cs o} (h : o + n ≤ cs.length) : LOAD (.agg n) (.rp cs o) σ K = K (.ag ((cs.drop o).take n)) σ := by simp [LOAD, rdCells, h, OPT]
theorem LOAD_pt1 {b o cs} (h : σ b = some (.cells 0 cs)) : LOAD .one (.pt b o) σ K = OPT cs[o]? (K · σ) := by simp [LOAD, h, rdCells]
theorem LOAD_ptn {n b o cs} (h : σ b = some (.cells 0 cs)) (h' : o + n ≤ cs.length) : LOAD (.agg n) (.pt b o) σ K = K (.ag ((cs.drop o).take n)) σ := by simp [LOAD, h, rdCells, h', OPT]
theorem STORE_pt {n b o cs v vs} (h : σ b = some (.cells 0 cs)) (hv : v.cellsN n = some vs) (h' : o + n ≤ cs.length) : STORE n (.pt b o) v σ K = K .un (σ.ins b (.cells 0 (wrCells cs o vs))) := by simp [STORE, h, hv, h']
@[simp] theorem OPT_some {α : Type} {a : α} {k : α → Prop} : OPT (some a) k = k a := rfl
@[simp] theorem MKFN_eq {f a c} : MKFN f a c σ K = K (.fn f a c) σ := rfl
@[simp] theorem TUP_tu {vs : List AV} {i} : TUP (.tu vs) i σ K = OPT vs[i]? (K · σ) := rfl
@[simp] theorem CONV_int {k k' n} : CONV (.int k) (.sc (.int k' n)) σ K = K (.sc (.int k (k.wrap n))) σ := by simp [CONV]
@[simp] theorem CONV_bytes {e l} : CONV (.toBytes e) (St (bs l)) σ K = K (.sl 1 (l.map fun c => [U8 c.toNat])) σ := by simp [CONV]
theorem mapM_byteOfL (l : List UInt8) : (l.map fun c => [U8 c.toNat]).mapM byteOf = some l := by
  induction l with
  | nil => rfl
  | cons a l ih => simp [byteOf, ih]
@[simp] theorem CONV_ofBytes {l : List UInt8} {n} : CONV .ofBytes (.sl n (l.map fun c => [U8 c.toNat])) σ K = K (St (bs l)) σ := by
  simp only [CONV, mapM_byteOfL]; rfl
@[simp] theorem CONV_ofBytes_gl {l : List UInt8} {b n} : CONV .ofBytes (.gl b n (l.map fun c => [U8 c.toNat])) σ K = K (St (bs l)) σ := by
  simp only [CONV, mapM_byteOfL]; rfl
@[simp] theorem CONV_ofBytes_nl : CONV .ofBytes .nl σ K = K (St (bs [])) σ := rfl
theorem IX_bs {l : List UInt8} {n : Int} (h0 : 0 ≤ n) (h : n.toNat < l.length) : IX (St (bs l)) (I n) σ K = K (U8 l[n.toNat].toNat) σ := by
  simp only [IX, bs_get?, List.getElem?_eq_getElem h, Option.some.injEq]
  exact propext ⟨fun ⟨_, c, hc, hk⟩ => by rw [hc]; exact hk, fun hk => ⟨h0, _, rfl, hk⟩⟩
theorem IA_sl {sz s i xs} {n : Int} (h0 : 0 ≤ n) (hs : s = sz) (h : n.toNat < xs.length) : IA (.slice sz) (.sl s xs) (.sc (.int i n)) σ K = K (.rp xs[n.toNat] 0) σ := by
  simp only [IA, List.getElem?_eq_getElem h, Option.some.injEq]
  exact propext ⟨fun ⟨_, _, c, hc, hk⟩ => by rw [hc]; exact hk, fun hk => ⟨h0, hs, _, rfl, hk⟩⟩
theorem IA_gl {sz s i b xs} {n : Int} (h0 : 0 ≤ n) (hs : s = sz) (h : n.toNat < xs.length) : IA (.slice sz) (.gl b s xs) (.sc (.int i n)) σ K = K (.rp xs[n.toNat] 0) σ := by
  simp only [IA, List.getElem?_eq_getElem h, Option.some.injEq]
  exact propext ⟨fun ⟨_, _, c, hc, hk⟩ => by rw [hc]; exact hk, fun hk => ⟨h0, hs, _, rfl, hk⟩⟩
theorem IA_ar {sz s i b o} {len : Nat} {n : Int} (h0 : 0 ≤ n) (hs : s = sz) (h : n < len) : IA (.slice sz) (.ar b s o len) (.sc (.int i n)) σ K = K (.pt b (o + n.toNat * sz)) σ := by simp [IA, h0, h, hs]
theorem IA_apt {sz i b o} {len : Nat} {n : Int} (h0 : 0 ≤ n) (h : n < len) : IA (.array len sz) (.pt b o) (.sc (.int i n)) σ K = K (.pt b (o + n.toNat * sz)) σ := by simp [IA, h0, h]

theorem BIN_eql_b {k t a b} (h1 : a = b → K (Bo true) σ) (h2 : ¬ a = b → K (Bo false) σ) : BIN P .eql t (.sc (.int k a)) (.sc (.int k b)) σ K := by rw [BIN_eql]; exact (if h : a = b then by rw [decide_eq_true h]; exact h1 h else by rw [decide_eq_false h]; exact h2 h)
theorem BIN_neq_b {k t a b} (h1 : a ≠ b → K (Bo true) σ) (h2 : ¬ a ≠ b → K (Bo false) σ) : BIN P .neq t (.sc (.int k a)) (.sc (.int k b)) σ K := by rw [BIN_neq]; exact (if h : a ≠ b then by rw [decide_eq_true h]; exact h1 h else by rw [decide_eq_false h]; exact h2 h)
theorem BIN_lss_b {k t a b} (h1 : a < b → K (Bo true) σ) (h2 : ¬ a < b → K (Bo false) σ) : BIN P .lss t (.sc (.int k a)) (.sc (.int k b)) σ K := by rw [BIN_lss]; exact (if h : a < b then by rw [decide_eq_true h]; exact h1 h else by rw [decide_eq_false h]; exact h2 h)
theorem BIN_leq_b {k t a b} (h1 : a ≤ b → K (Bo true) σ) (h2 : ¬ a ≤ b → K (Bo false) σ) : BIN P .leq t (.sc (.int k a)) (.sc (.int k b)) σ K := by rw [BIN_leq]; exact (if h : a ≤ b then by rw [decide_eq_true h]; exact h1 h else by rw [decide_eq_false h]; exact h2 h)
theorem BIN_gtr_b {k t a b} (h1 : a > b → K (Bo true) σ) (h2 : ¬ a > b → K (Bo false) σ) : BIN P .gtr t (.sc (.int k a)) (.sc (.int k b)) σ K := by rw [BIN_gtr]; exact (if h : a > b then by rw [decide_eq_true h]; exact h1 h else by rw [decide_eq_false h]; exact h2 h)
theorem BIN_geq_b {k t a b} (h1 : a ≥ b → K (Bo true) σ) (h2 : ¬ a ≥ b → K (Bo false) σ) : BIN P .geq t (.sc (.int k a)) (.sc (.int k b)) σ K := by rw [BIN_geq]; exact (if h : a ≥ b then by rw [decide_eq_true h]; exact h1 h else by rw [decide_eq_false h]; exact h2 h)
theorem BIN_seql_b {t a b} (h1 : a = b → K (Bo true) σ) (h2 : ¬ a = b → K (Bo false) σ) : BIN P .eql t (St (bs a)) (St (bs b)) σ K := by rw [BIN_seql]; exact (if h : a = b then by rw [decide_eq_true h]; exact h1 h else by rw [decide_eq_false h]; exact h2 h)
theorem BIN_sneq_b {t a b} (h1 : a ≠ b → K (Bo true) σ) (h2 : ¬ a ≠ b → K (Bo false) σ) : BIN P .neq t (St (bs a)) (St (bs b)) σ K := by rw [BIN_sneq]; exact (if h : a ≠ b then by rw [decide_eq_true h]; exact h1 h else by rw [decide_eq_false h]; exact h2 h)
theorem PICK_t {a b} : PICK (Bo true) a b σ K = K a σ := rfl
theorem PICK_f {a b} : PICK (Bo false) a b σ K = K b σ := rfl
theorem IFG_tt {A B} : IFG true (Bo true) A B = A := by simp
theorem IFG_tf {A B} : IFG true (Bo false) A B = B := by simp
theorem IFG_ft {A B} : IFG false (Bo true) A B = B := by simp
theorem IFG_ff {A B} : IFG false (Bo false) A B = A := by simp

/- JOIN: by parts, or by a law for what comes behind -/
theorem JOIN_def {body k} : JOIN body k = body k := rfl
theorem JOIN_cut {body : (List AV → AHeap → Prop) → Prop} {k : List AV → AHeap → Prop} (M : List AV → AHeap → Prop) (h1 : ∀ kk : List AV → AHeap → Prop, (∀ xs σ, M xs σ → kk xs σ) → body kk) (h2 : ∀ xs σ, M xs σ → k xs σ) : JOIN body k := h1 k h2

/- loops: by a measure and an invariant -/
theorem LOOP_intro {α : Type} (μ : α → Nat) (J : α → List AV → AHeap → Prop) {body : (List AV → AHeap → Prop) → List AV → AHeap → Prop}
    (h : ∀ a xs σ (R : List AV → AHeap → Prop), J a xs σ → (∀ b ys τ, μ b < μ a → J b ys τ → R ys τ) → body R xs σ) (a : α) {xs : List AV} {σ : AHeap} (h0 : J a xs σ) : LOOP body xs σ := by
  intro R hR
  have key : ∀ n a xs σ, μ a ≤ n → J a xs σ → R xs σ := by
    intro n
    induction n with
    | zero => intro a xs σ hn hj; exact hR _ _ (h a xs σ R hj fun b ys τ hlt _ => by omega)
    | succ n ih => intro a xs σ hn hj; exact hR _ _ (h a xs σ R hj fun b ys τ hlt hj' => ih b ys τ (by omega) hj')
  exact key (μ a) a xs σ (Nat.le_refl _) h0

/- functions of data -/
/-- called with data, it answers with data, and leaves nothing behind -/
def PureF (P : Program) (G : Seal) (f : FuncId) (args : List AV) (r : AV) : Prop := ACalls P G f args .emp fun r' τ => r' = r ∧ τ = .emp

theorem PureF.call {G : Seal} {f : FuncId} {args : List AV} {r : AV} (h : PureF P G f args r) (hk : K r σ) : ACalls P G f args σ K :=
  ACalls.frame h fun r' τ ⟨h1, h2⟩ _ => by subst h1 h2; simpa using hk
theorem PureF.borrow {G : Seal} {f : FuncId} {args args' : List AV} {r : AV} (h : PureF P G f args' r) (hv : ViewL σ args args') (hs : Solid r) (hk : K r σ) : ACalls P G f args σ K :=
  ACalls.borrow h hv fun r' τ ⟨h1, h2⟩ _ => by subst h1 h2; exact ⟨hs, .emp, by simpa using hk⟩
theorem PureF.callb {G : Seal} {f : FuncId} {args : List AV} {b : Bool} (h : PureF P G f args (Bo b)) (h1 : b = true → K (Bo true) σ) (h2 : b = false → K (Bo false) σ) : ACalls P G f args σ K :=
  h.call (by cases b; exact h2 rfl; exact h1 rfl)
theorem Fin.pure {r x : AV} {σ : AHeap} (h : View σ r x) : Fin (fun r' τ => r' = x ∧ τ = .emp) r σ := .view h ⟨rfl, rfl⟩
theorem Fin.pure' {r : AV} {σ : AHeap} : Fin (fun r' τ => r' = r ∧ τ = .emp) r σ := .view (.refl _) ⟨rfl, rfl⟩

@[simp] theorem nth_zero {x xs} : nth (x :: xs) 0 = x := rfl
@[simp] theorem nth_succ {x xs i} : nth (x :: xs) (i + 1) = nth xs i := by simp [nth]
@[simp] theorem AHeap.ins_get (σ : AHeap) (b : Nat) (x : ABlk) : σ.ins b x b = some x := AHeap.ins_self σ b x
@[simp] theorem AHeap.ins_ins (σ : AHeap) (b : Nat) (x y : ABlk) : (σ.ins b x).ins b y = σ.ins b y := by funext c; simp only [AHeap.ins]; split <;> rfl

/- STEPS: each takes the head of the goal away -/
theorem s_join {body : (List AV → AHeap → Prop) → Prop} {k : List AV → AHeap → Prop} (h : body k) : JOIN body k := h
theorem s_gjoin {t c} {A B : (List AV → AHeap → Prop) → Prop} {k : List AV → AHeap → Prop} (h : IFG t c (A k) (B k)) : JOIN (fun kk => IFG t c (A kk) (B kk)) k := h
theorem s_ift {A B} (h : A) : IFB (Bo true) A B := by simpa using h
theorem s_iff {A B} (h : B) : IFB (Bo false) A B := by simpa using h
theorem s_ifb {b A B} (h1 : b = true → A) (h2 : b = false → B) : IFB (Bo b) A B := ⟨h1, h2⟩
theorem s_igtt {A B} (h : A) : IFG true (Bo true) A B := by simpa using h
theorem s_igtf {A B} (h : B) : IFG true (Bo false) A B := by simpa using h
theorem s_igft {A B} (h : B) : IFG false (Bo true) A B := by simpa using h
theorem s_igff {A B} (h : A) : IFG false (Bo false) A B := by simpa using h
theorem s_igu {t A B} (h : B) : IFG t U A B := by simpa using h
theorem s_pt {a b} (h : K a σ) : PICK (Bo true) a b σ K := h
theorem s_pf {a b} (h : K b σ) : PICK (Bo false) a b σ K := h
theorem s_not {b} (h : K (Bo (!b)) σ) : UN P .not (Bo b) σ K := by simpa using h
theorem s_nott (h : K (Bo false) σ) : UN P .not (Bo true) σ K := by simpa using h
theorem s_notf (h : K (Bo true) σ) : UN P .not (Bo false) σ K := by simpa using h
theorem s_lsl {n xs} (h : K (I (List.length xs : Nat)) σ) : LENL (.sl n xs) σ K := h
theorem s_lslm {α : Type} {n} {l : List α} {f : α → List AV} (h : K (I (List.length l : Nat)) σ) : LENL (.sl n (l.map f)) σ K := by simpa using h
theorem s_lgl {b n xs} (h : K (I (List.length xs : Nat)) σ) : LENL (.gl b n xs) σ K := h
theorem s_lnl (h : K (I 0) σ) : LENL .nl σ K := h
theorem s_lar {b n o l} (h : K (I (l : Nat)) σ) : LENL (.ar b n o l) σ K := h
theorem s_lst {l} (h : K (I (List.length l : Nat)) σ) : LENS (St (bs l)) σ K := by simpa using h
theorem s_ncp {b o} (h : K (.pt b o) σ) : NILCK (.pt b o) σ K := h
theorem s_ncr {b o} (h : K (.rp b o) σ) : NILCK (.rp b o) σ K := h
theorem s_ncf {f a c} (h : K (.fn (.func f) a c) σ) : NILCK (.fn (.func f) a c) σ K := h
theorem s_fap {n b o} (h : K (.pt b (o + n)) σ) : FA n (.pt b o) σ K := h
theorem s_far {n b o} (h : K (.rp b (o + n)) σ) : FA n (.rp b o) σ K := h
theorem s_ldr {cs : List AV} {o : Nat} {v : AV} (hv : cs[o]? = some v) (h : K v σ) : LOAD .one (.rp cs o) σ K := by simp [LOAD, rdCells, hv, OPT, h]
theorem s_ldrn {n o : Nat} {cs : List AV} (hv : o + n ≤ cs.length) (h : K (.ag ((cs.drop o).take n)) σ) : LOAD (.agg n) (.rp cs o) σ K := by rw [LOAD_rpn hv]; exact h
theorem s_ldp {b o : Nat} {cs : List AV} {v : AV} (hb : σ b = some (.cells 0 cs)) (hv : cs[o]? = some v) (h : K v σ) : LOAD .one (.pt b o) σ K := by simp [LOAD, hb, rdCells, hv, OPT, h]
theorem s_ldpn {n b o : Nat} {cs : List AV} (hb : σ b = some (.cells 0 cs)) (hv : o + n ≤ cs.length) (h : K (.ag ((cs.drop o).take n)) σ) : LOAD (.agg n) (.pt b o) σ K := by rw [LOAD_ptn hb hv]; exact h
theorem s_mkfn {f a c} (h : K (.fn f a c) σ) : MKFN f a c σ K := h
theorem s_tup {vs : List AV} {i : Nat} {v : AV} (hv : vs[i]? = some v) (h : K v σ) : TUP (.tu vs) i σ K := by simp [TUP, hv, OPT, h]
theorem s_add {k t a b} (hr : k.wrap (a + b) = a + b) (h : K (.sc (.int k (a + b))) σ) : BIN P .add t (.sc (.int k a)) (.sc (.int k b)) σ K := by rw [BIN_add, hr]; exact h
theorem s_sub {k t a b} (hr : k.wrap (a - b) = a - b) (h : K (.sc (.int k (a - b))) σ) : BIN P .sub t (.sc (.int k a)) (.sc (.int k b)) σ K := by rw [BIN_sub, hr]; exact h
theorem s_mul {k t a b} (hr : k.wrap (a * b) = a * b) (h : K (.sc (.int k (a * b))) σ) : BIN P .mul t (.sc (.int k a)) (.sc (.int k b)) σ K := by rw [BIN_mul, hr]; exact h
theorem s_cvi {k k' n} (h : K (.sc (.int k (k.wrap n))) σ) : CONV (.int k) (.sc (.int k' n)) σ K := h
theorem s_cvb {e l} (h : K (.sl 1 (l.map fun c : UInt8 => [U8 c.toNat])) σ) : CONV (.toBytes e) (St (bs l)) σ K := by simpa using h
theorem s_ix {l : List UInt8} {n : Int} (h0 : 0 ≤ n) (h : n.toNat < l.length) (hk : K (U8 l[n.toNat].toNat) σ) : IX (St (bs l)) (I n) σ K := by rw [IX_bs h0 h]; exact hk
theorem s_iasl {sz i xs} {n : Int} (h0 : 0 ≤ n) (h : n.toNat < xs.length) (hk : K (.rp xs[n.toNat] 0) σ) : IA (.slice sz) (.sl sz xs) (.sc (.int i n)) σ K := by rw [IA_sl h0 rfl h]; exact hk
theorem s_iaar {sz i b o} {len : Nat} {n : Int} (h0 : 0 ≤ n) (h : n < len) (hk : K (.pt b (o + n.toNat * sz)) σ) : IA (.slice sz) (.ar b sz o len) (.sc (.int i n)) σ K := by rw [IA_ar h0 rfl h]; exact hk

theorem s_iam {α : Type} {sz k} {l : List α} {f : α → List AV} {i : Nat} (h : i < l.length) (hk : K (.rp (f l[i]) 0) σ) : IA (.slice sz) (.sl sz (l.map f)) (.sc (.int k (i : Int))) σ K :=
  s_iasl (by omega) (by simpa using h) (by simpa using hk)
theorem s_ixn {l : List UInt8} {i : Nat} (h : i < l.length) (hk : K (U8 l[i].toNat) σ) : IX (St (bs l)) (I (i : Int)) σ K :=
  s_ix (by omega) (by simpa using h) (by simpa using hk)
theorem s_ix0 {l : List UInt8} (h : 0 < l.length) (hk : K (U8 l[0].toNat) σ) : IX (St (bs l)) (I 0) σ K :=
  s_ix (by omega) (by simpa using h) (by simpa using hk)

theorem s_lda {n : Nat} {cs : List AV} (hv : cs.length = n) (h : K (.ag cs) σ) : LOAD (.agg n) (.rp cs 0) σ K := by
  subst hv
  exact s_ldrn (by omega) (by simpa using h)
theorem s_box1 {v : AV} (hv : v.cellsN 1 = some [v]) (h : ∀ b, σ b = none → K (.pt b 0) (σ.ins b (.cells 0 [v]))) : BOX 1 v σ K := by simpa [BOX, hv, NEW] using h
theorem s_boxn {n : Nat} {v : AV} {cs : List AV} (hv : v.cellsN n = some cs) (h : ∀ b, σ b = none → K (.pt b 0) (σ.ins b (.cells 0 cs))) : BOX n v σ K := by simpa [BOX, hv, NEW] using h

theorem s_boxag {n : Nat} {cs : List AV} (hl : cs.length = n) (h1 : cs.all AV.cell1 = true) (h : ∀ b, σ b = none → K (.pt b 0) (σ.ins b (.cells 0 cs))) : BOX n (.ag cs) σ K :=
  s_boxn (by simp only [AV.cellsN, hl, h1, decide_true, Bool.and_self, if_true]) h
theorem s_ldpa {n b : Nat} {cs : List AV} (hb : σ b = some (.cells 0 cs)) (hl : cs.length = n) (h : K (.ag cs) σ) : LOAD (.agg n) (.pt b 0) σ K := by
  subst hl
  exact s_ldpn hb (by omega) (by simpa using h)

theorem ins_prev {b c : Nat} {x y : ABlk} (h : (σ.ins b x) c = none) : ((σ.ins b x).ins c y) b = some x := by
  have : b ≠ c := fun e => by subst e; simp at h
  rw [AHeap.ins_ne _ _ this, AHeap.ins_self]

theorem s_lit {n : Nat} {xs : List AV} {y : List AV} {ys : List (List AV)} (hm : xs.mapM (AV.cellsN n) = some (y :: ys)) (h : ∀ b, σ b = none → K (.gl b n (y :: ys)) (σ.ins b (.cells ((y :: ys).length * n) []))) : LIT false n xs σ K := by
  simpa [LIT, hm, OPT, ROW] using h
theorem s_litnil {n : Nat} (h : K .nl σ) : LIT false n [] σ K := by simpa [LIT, OPT, ROW] using h
theorem View.gl_sl {b sz : Nat} {xs : List (List AV)} (hz : ∀ x ∈ xs, x.length = sz) (h1 : ∀ x ∈ xs, x.all AV.cell1 = true) : View σ (.gl b sz xs) (.sl sz xs) := .gl b sz xs xs rfl hz h1 fun _ _ _ _ => .refl _

@[simp] theorem cell1_str {s : ByteArray} : AV.cell1 (St s) = true := rfl
@[simp] theorem cell1_int {k : IntKind} {n : Int} : AV.cell1 (.sc (.int k n)) = true := rfl
@[simp] theorem cell1_bool {b : Bool} : AV.cell1 (Bo b) = true := rfl
@[simp] theorem cell1_sl {n : Nat} {xs : List (List AV)} : AV.cell1 (.sl n xs) = true := rfl
@[simp] theorem cell1_gl {b n : Nat} {xs : List (List AV)} : AV.cell1 (.gl b n xs) = true := rfl
@[simp] theorem cell1_ar {b n o l : Nat} : AV.cell1 (.ar b n o l) = true := rfl
@[simp] theorem cell1_nl : AV.cell1 .nl = true := rfl
@[simp] theorem cell1_pt {b o : Nat} : AV.cell1 (.pt b o) = true := rfl
@[simp] theorem cell1_rp {xs : List AV} {o : Nat} : AV.cell1 (.rp xs o) = true := rfl
@[simp] theorem cell1_fn {f : Fn} {a c : List AV} : AV.cell1 (.fn f a c) = true := rfl

theorem s_same {v : AV} : SAMEV v σ v σ := ⟨rfl, rfl⟩

theorem pureV_bind {α β : Type} (x : Sem α) (f : α → Sem β) {a : α} (h : pureV P x = some a) : pureV P (x >>= f) = pureV P (f a) := by
  induction x with
  | pure b => simp [pureV] at h; subst h; rfl
  | program k ih => simp only [pureV] at h; exact ih P h
  | mark m k ih => simp only [pureV] at h; exact ih h
  | _ => simp [pureV] at h
theorem pureV_underlying {t : TypeId} {d : TypeDesc} (hu : P.underlying t = some d) : pureV P (underlying t) = some d := by
  unfold underlying
  show pureV P (Sem.bind _ _) = _
  simp [program, Sem.bind, pureV, hu, bind, pure]
theorem equal_bool {t : TypeId} {a b : Bool} (hu : P.underlying t = some .bool) : pureV P (Op.equal t (.bool a) (.bool b)) = some (a == b) := by
  unfold Op.equal Op.maxDepth
  show pureV P (Op.equalIn (9999 + 1) _ _ _) = _
  unfold Op.equalIn
  rw [pureV_bind _ _ (pureV_underlying hu)]
  rfl
theorem s_bneq {t a b c} (hu : P.underlying t = some .bool) (hc : (a != b) = c) (h : K (Bo c) σ) : BIN P .neq t (Bo a) (Bo b) σ K := by
  subst hc
  have : pureV P (binOp .neq t (.bool a) (.bool b)) = some (.bool (a != b)) := by
    show pureV P (Op.equal t (.bool a) (.bool b) >>= fun r => pure (Value.bool (!r))) = _
    rw [pureV_bind _ _ (equal_bool hu)]; rfl
  simp only [BIN, this]; exact h
theorem s_beql {t a b c} (hu : P.underlying t = some .bool) (hc : (a == b) = c) (h : K (Bo c) σ) : BIN P .eql t (Bo a) (Bo b) σ K := by
  subst hc
  have : pureV P (binOp .eql t (.bool a) (.bool b)) = some (.bool (a == b)) := by
    show pureV P (Op.equal t (.bool a) (.bool b) >>= fun r => pure (Value.bool r)) = _
    rw [pureV_bind _ _ (equal_bool hu)]; rfl
  simp only [BIN, this]; exact h

theorem s_bneq_tt {t} (hu : P.underlying t = some .bool) (h : K (Bo false) σ) : BIN P .neq t (Bo true) (Bo true) σ K := s_bneq hu rfl h
theorem s_bneq_tf {t} (hu : P.underlying t = some .bool) (h : K (Bo true) σ) : BIN P .neq t (Bo true) (Bo false) σ K := s_bneq hu rfl h
theorem s_bneq_ft {t} (hu : P.underlying t = some .bool) (h : K (Bo true) σ) : BIN P .neq t (Bo false) (Bo true) σ K := s_bneq hu rfl h
theorem s_bneq_ff {t} (hu : P.underlying t = some .bool) (h : K (Bo false) σ) : BIN P .neq t (Bo false) (Bo false) σ K := s_bneq hu rfl h
theorem s_beql_tt {t} (hu : P.underlying t = some .bool) (h : K (Bo true) σ) : BIN P .eql t (Bo true) (Bo true) σ K := s_beql hu rfl h
theorem s_beql_tf {t} (hu : P.underlying t = some .bool) (h : K (Bo false) σ) : BIN P .eql t (Bo true) (Bo false) σ K := s_beql hu rfl h
theorem s_beql_ft {t} (hu : P.underlying t = some .bool) (h : K (Bo false) σ) : BIN P .eql t (Bo false) (Bo true) σ K := s_beql hu rfl h
theorem s_beql_ff {t} (hu : P.underlying t = some .bool) (h : K (Bo true) σ) : BIN P .eql t (Bo false) (Bo false) σ K := s_beql hu rfl h

/-- a function value that answers so -/
def FnP (P : Program) (G : Seal) (f : AV) (args : List AV) (r : AV) : Prop := ∀ (σ : AHeap) (K : KAV), K r σ → CALL P G f args σ K
theorem FnP.of {G : Seal} {f : FuncId} {args cap : List AV} {r : AV} (h : PureF P G f (args ++ cap) r) : FnP P G (.fn (.func f) [] cap) args r := fun σ K hk => by
  show ACalls P G f ([] ++ args ++ cap) σ K
  simpa using h.call hk
theorem FnP.callb {G : Seal} {f : AV} {args : List AV} {b : Bool} (h : FnP P G f args (Bo b)) (h1 : b = true → K (Bo true) σ) (h2 : b = false → K (Bo false) σ) : CALL P G f args σ K := h σ K (by cases b; exact h2 rfl; exact h1 rfl)

theorem Fin.eqv {r x : AV} {σ : AHeap} (h : r = x) : Fin (fun r' τ => r' = x ∧ τ = .emp) r σ := .view (h ▸ .refl _) ⟨rfl, rfl⟩

end Go.Al
