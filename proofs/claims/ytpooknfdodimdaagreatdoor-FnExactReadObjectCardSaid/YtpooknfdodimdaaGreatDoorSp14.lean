/- Contracts: the program's verifying (1): what follows; rows of one number. -/
import Derived.Test.YtpooknfdodimdaaGreatDoorSp13
set_option linter.unusedVariables false
set_option linter.unusedSimpArgs false
set_option maxRecDepth 100000
set_option maxHeartbeats 4000000
namespace Go.Al
variable {G : Seal} {σ : AHeap} {K : KAV}

theorem impl_Ins_follows_c (x : Ins) (i : Nat) (hi : i < 2 ^ 60) : PureF PP G N.impl_Ins_follows [.ag x.cells, I i] (.sl 1 ((nextM x i).map fun t => [I t])) := F.impl_Ins_follows_ok (by
  unfold F.impl_Ins_follows
  refine s_boxag rfl rfl (fun b1 hb1 => ?_)
  have e1 : (AHeap.emp.ins b1 (ABlk.cells 0 x.cells)) b1 = some (.cells 0 x.cells) := AHeap.ins_self _ _ _
  generalize hσ : (AHeap.emp.ins b1 (ABlk.cells 0 x.cells)) = σ0 at *
  clear hσ hb1
  repeat' first
    | (with_reducible first | refine s_join ?_ | refine s_ift ?_ | refine s_iff ?_ | refine s_igtt ?_ | refine s_igtf ?_ | refine s_igft ?_ | refine s_igff ?_ | refine s_igu ?_ | refine s_pt ?_ | refine s_pf ?_ | refine s_nott ?_ | refine s_notf ?_ | refine s_not ?_ | refine s_lslm ?_ | refine s_lsl ?_ | refine s_lgl ?_ | refine s_lnl ?_ | refine s_lar ?_ | refine s_lst ?_ | refine s_ncp ?_ | refine s_ncr ?_ | refine s_ncf ?_ | refine s_fap ?_ | refine s_far ?_ | refine s_mkfn ?_ | refine s_cvc ?_ | refine s_cvi ?_ | refine s_cvb ?_ | refine s_or ?_ | refine s_and ?_ | refine s_xor ?_ | refine s_andnot ?_)
    | refine s_lit rfl fun b2 hb2 => ?_
    | (with_reducible first | refine BIN_eql_b (fun h => ?_) (fun h => ?_) | refine BIN_neq_b (fun h => ?_) (fun h => ?_) | refine BIN_lss_b (fun h => ?_) (fun h => ?_) | refine BIN_leq_b (fun h => ?_) (fun h => ?_) | refine BIN_gtr_b (fun h => ?_) (fun h => ?_) | refine BIN_geq_b (fun h => ?_) (fun h => ?_) | refine BIN_seql_b (fun h => ?_) (fun h => ?_) | refine BIN_sneq_b (fun h => ?_) (fun h => ?_) | refine s_ldr rfl ?_ | refine s_tup rfl ?_ | refine s_ifb (fun h => ?_) (fun h => ?_) | refine s_shl (by decide) ?_ | refine s_shr (by decide) ?_ | refine s_add (wrap64 (by omega)) ?_ | refine s_sub (wrap64 (by omega)) ?_ | refine s_ixn (by omega) ?_ | refine s_ix0 (by omega) ?_ | refine s_iam (by omega) ?_)
    | refine s_boxag rfl rfl (fun b hb => ?_)
    | (with_reducible first | refine s_ldp (AHeap.ins_self _ _ _) rfl ?_ | refine s_ldp (ins_prev (by assumption)) rfl ?_ | refine s_ldp (by assumption) rfl ?_ | refine s_ldp (ins_old (by assumption) (by assumption)) rfl ?_ | refine s_ldp (ins_other (by assumption) (by assumption)) rfl ?_ | refine s_ldpa (ins_old (by assumption) (by assumption)) rfl ?_ | refine s_ldpa (ins_other (by assumption) (by assumption)) rfl ?_ | refine s_ldpa (by assumption) rfl ?_ | refine s_ldpa (ins_prev (by assumption)) rfl ?_ | refine s_ldpa (AHeap.ins_self _ _ _) rfl ?_ | refine s_st1 (by assumption) rfl (by simp) ?_ | refine s_st1 (AHeap.ins_self _ _ _) rfl (by simp) ?_ | refine s_st1 (ins_prev (by assumption)) rfl (by simp) ?_ | refine s_sta (by assumption) rfl rfl rfl ?_ | refine s_sta (AHeap.ins_self _ _ _) rfl rfl rfl ?_ | refine s_field1 rfl ?_ | refine s_cuts (by omega) (by omega) (by omega) ?_ | refine s_cuts_lo (by omega) (by omega) ?_ | refine s_cuts_hi (by omega) (by omega) ?_)
    | refine ⟨by first | exact s_ldp (AHeap.ins_self _ _ _) rfl s_same | exact s_ldp (ins_prev (by assumption)) rfl s_same | exact s_ldp (by assumption) rfl s_same | exact s_ldr rfl s_same, ?_⟩
    | (with_reducible first | refine s_bneq_tt u_bool ?_ | refine s_bneq_tf u_bool ?_ | refine s_bneq_ft u_bool ?_ | refine s_bneq_ff u_bool ?_ | refine s_beql_tt u_bool ?_ | refine s_beql_tf u_bool ?_ | refine s_beql_ft u_bool ?_ | refine s_beql_ff u_bool ?_)
    | simp only [nth_zero, nth_succ, Nat.zero_add, Nat.reduceAdd, List.length_map, AHeap.ins_ins]
  all_goals
    refine Fin.pure ?_
    unfold nextM
    first
      | (rw [if_pos (by omega)]; exact View.gl_sl (by simp) (by simp))
      | (rw [if_neg (by omega), if_pos (by omega)]; exact View.gl_sl (by simp) (by simp))
      | (rw [if_neg (by omega), if_neg (by omega), if_pos (by omega)]; exact View.nl 1)
      | (rw [if_neg (by omega), if_neg (by omega), if_neg (by omega)]; exact View.gl_sl (by simp) (by simp)))

theorem wrapu64 {n : Int} (h : 0 ≤ n ∧ n < 18446744073709551616) : IntKind.u64.wrap n = n := by
  unfold IntKind.wrap
  simp only [IntKind.signed, IntKind.bits, Bool.false_and]
  simp
  omega
theorem andI_low (n : Nat) (h : n < 4294967296) : andI .u64 (n : Int) 4294967295 = n := by
  unfold andI
  simp only [IntKind.bits]
  have e : (BitVec.ofInt 64 (n : Int) &&& BitVec.ofInt 64 4294967295).toNat = n := by
    rw [BitVec.toNat_and]
    have h1 : (BitVec.ofInt 64 (4294967295 : Int)).toNat = 2 ^ 32 - 1 := by decide
    rw [h1]
    simp only [BitVec.ofInt_natCast, BitVec.toNat_ofNat]
    rw [Nat.and_two_pow_sub_one_eq_mod]
    omega
  show IntKind.u64.wrap (((BitVec.ofInt 64 (n : Int) &&& BitVec.ofInt 64 4294967295).toNat : Nat) : Int) = _
  rw [e, wrapu64 (by omega)]
theorem fdiv_low (n : Nat) (h : n < 4294967296) : ((n : Nat) : Int).fdiv (2 ^ min (32 : Int).toNat IntKind.u64.bits) = 0 := by
  have : (2 : Int) ^ min (32 : Int).toNat IntKind.u64.bits = 4294967296 := by decide
  rw [this, Int.fdiv_eq_ediv_of_nonneg _ (by omega)]
  omega

theorem BIN_and_eq {P : Program} {k : IntKind} {t : TypeId} {a b : Int} : BIN P .and t (.sc (.int k a)) (.sc (.int k b)) σ K = K (.sc (.int k (andI k a b))) σ := by simp [BIN, binOp, Op.intBits, OPT, pureV, pure, andI]
theorem BIN_shr32_eq {P : Program} {k k' : IntKind} {t : TypeId} {a : Int} : BIN P .shr t (.sc (.int k a)) (.sc (.int k' 32)) σ K = K (.sc (.int k (a.fdiv (2 ^ min (32 : Int).toNat k.bits)))) σ := by simp [BIN, binOp, Op.shift, OPT, pureV, pure]

theorem math_bits_Mul64_c (n : Nat) (hn : n < 4294967296) : PureF PP G N.math_bits_Mul64 [.sc (.int .u64 1), .sc (.int .u64 n)] (.tu [.sc (.int .u64 0), .sc (.int .u64 n)]) := F.math_bits_Mul64_ok (by
  unfold F.math_bits_Mul64
  have h1 : andI .u64 1 4294967295 = 1 := andI_low 1 (by omega)
  have h2 : (1 : Int).fdiv (2 ^ min (32 : Int).toNat IntKind.u64.bits) = 0 := fdiv_low 1 (by omega)
  have h3 := andI_low n hn
  have h4 := fdiv_low n hn
  have h0 : (0 : Int).fdiv (2 ^ min (32 : Int).toNat IntKind.u64.bits) = 0 := fdiv_low 0 (by omega)
  have h5 : andI .u64 0 4294967295 = 0 := andI_low 0 (by omega)
  have w0 : IntKind.u64.wrap 0 = 0 := rfl
  have wn : IntKind.u64.wrap (n : Int) = n := wrapu64 (by omega)
  simp only [BIN_and_eq, BIN_shr32_eq, BIN_mul, BIN_add, h1, h2, h3, h4, h0, h5, w0, wn, Int.one_mul, Int.mul_one, Int.zero_mul, Int.mul_zero, Int.add_zero, Int.zero_add]
  exact Fin.eqv rfl)

theorem math_bits_Mul_c (n : Nat) (hn : n < 4294967296) : PureF PP G N.math_bits_Mul [.sc (.int .u64 1), .sc (.int .u64 n)] (.tu [.sc (.int .u64 0), .sc (.int .u64 n)]) := F.math_bits_Mul_ok (by
  unfold F.math_bits_Mul
  repeat' first
    | (with_reducible first | refine s_join ?_ | refine s_ift ?_ | refine s_iff ?_ | refine s_igtt ?_ | refine s_igtf ?_ | refine s_igft ?_ | refine s_igff ?_ | refine s_igu ?_ | refine s_pt ?_ | refine s_pf ?_ | refine s_nott ?_ | refine s_notf ?_ | refine s_not ?_ | refine s_lslm ?_ | refine s_lsl ?_ | refine s_lgl ?_ | refine s_lnl ?_ | refine s_lar ?_ | refine s_lst ?_ | refine s_ncp ?_ | refine s_ncr ?_ | refine s_ncf ?_ | refine s_fap ?_ | refine s_far ?_ | refine s_mkfn ?_ | refine s_cvc ?_ | refine s_cvi ?_ | refine s_cvb ?_ | refine s_or ?_ | refine s_and ?_ | refine s_xor ?_ | refine s_andnot ?_)
    | with_reducible apply PureF.call (math_bits_Mul64_c n hn)
    | (with_reducible first | refine BIN_eql_b (fun h => ?_) (fun h => ?_) | refine BIN_neq_b (fun h => ?_) (fun h => ?_) | refine BIN_lss_b (fun h => ?_) (fun h => ?_) | refine BIN_leq_b (fun h => ?_) (fun h => ?_) | refine BIN_gtr_b (fun h => ?_) (fun h => ?_) | refine BIN_geq_b (fun h => ?_) (fun h => ?_) | refine BIN_seql_b (fun h => ?_) (fun h => ?_) | refine BIN_sneq_b (fun h => ?_) (fun h => ?_) | refine s_ldr rfl ?_ | refine s_tup rfl ?_ | refine s_ifb (fun h => ?_) (fun h => ?_) | refine s_shl (by decide) ?_ | refine s_shr (by decide) ?_ | refine s_add (wrap64 (by omega)) ?_ | refine s_sub (wrap64 (by omega)) ?_ | refine s_ixn (by omega) ?_ | refine s_ix0 (by omega) ?_ | refine s_iam (by omega) ?_)
    | refine s_boxag rfl rfl (fun b hb => ?_)
    | (with_reducible first | refine s_ldp (AHeap.ins_self _ _ _) rfl ?_ | refine s_ldp (ins_prev (by assumption)) rfl ?_ | refine s_ldp (by assumption) rfl ?_ | refine s_ldp (ins_old (by assumption) (by assumption)) rfl ?_ | refine s_ldp (ins_other (by assumption) (by assumption)) rfl ?_ | refine s_ldpa (ins_old (by assumption) (by assumption)) rfl ?_ | refine s_ldpa (ins_other (by assumption) (by assumption)) rfl ?_ | refine s_ldpa (by assumption) rfl ?_ | refine s_ldpa (ins_prev (by assumption)) rfl ?_ | refine s_ldpa (AHeap.ins_self _ _ _) rfl ?_ | refine s_st1 (by assumption) rfl (by simp) ?_ | refine s_st1 (AHeap.ins_self _ _ _) rfl (by simp) ?_ | refine s_st1 (ins_prev (by assumption)) rfl (by simp) ?_ | refine s_sta (by assumption) rfl rfl rfl ?_ | refine s_sta (AHeap.ins_self _ _ _) rfl rfl rfl ?_ | refine s_field1 rfl ?_ | refine s_cuts (by omega) (by omega) (by omega) ?_ | refine s_cuts_lo (by omega) (by omega) ?_ | refine s_cuts_hi (by omega) (by omega) ?_)
    | refine ⟨by first | exact s_ldp (AHeap.ins_self _ _ _) rfl s_same | exact s_ldp (ins_prev (by assumption)) rfl s_same | exact s_ldp (by assumption) rfl s_same | exact s_ldr rfl s_same, ?_⟩
    | (with_reducible first | refine s_bneq_tt u_bool ?_ | refine s_bneq_tf u_bool ?_ | refine s_bneq_ft u_bool ?_ | refine s_bneq_ff u_bool ?_ | refine s_beql_tt u_bool ?_ | refine s_beql_tf u_bool ?_ | refine s_beql_ft u_bool ?_ | refine s_beql_ff u_bool ?_)
    | simp only [nth_zero, nth_succ, Nat.zero_add, Nat.reduceAdd, List.length_map, AHeap.ins_ins]
  exact Fin.eqv rfl)

theorem s_make {n by_ : Nat} {z : List AV} {k k' : IntKind} {l : Nat} (hz : z.length = n) (h1 : l ≤ 70368744177664) (h2 : l * by_ ≤ 70368744177664) (hk : ∀ b, σ b = none → K (.ar b n 0 l) (σ.ins b (.cells 0 (List.replicate l z).flatten))) :
    MAKE n z by_ (.sc (.int k (l : Int))) (.sc (.int k' (l : Int))) σ K := by
  refine ⟨by omega, by omega, by omega, ?_, hz, ?_⟩
  · have : ((l * by_ : Nat) : Int) ≤ 70368744177664 := by omega
    simpa using this
  · intro b hb; simpa using hk b hb
theorem s_copysl {n b o len : Nat} {cs : List AV} {xs : List (List AV)} (hn : 0 < n) (hb : σ b = some (.cells 0 cs)) (hl : o + len * n ≤ cs.length) (hk : K (I (min xs.length len : Nat)) (σ.ins b (.cells 0 (wrCells cs o (xs.take (min xs.length len)).flatten)))) :
    COPY n (.ar b n o len) (.sl n xs) σ K := by
  have : srcH n (.sl n xs) σ = some xs := by simp [srcH, srcA]
  refine ⟨hn, ?_⟩
  simp only [this, OPT, hb]
  exact ⟨trivial, hl, hk⟩
theorem s_copyar {n b o len b' o' len' : Nat} {cs cs' : List AV} (hn : 0 < n) (hb : σ b = some (.cells 0 cs)) (hl : o + len * n ≤ cs.length) (hb' : σ b' = some (.cells 0 cs')) (hl' : o' + len' * n ≤ cs'.length) (h1 : ((cs'.drop o').take (len' * n)).all AV.cell1 = true)
    (hk : K (I (min len' len : Nat)) (σ.ins b (.cells 0 (wrCells cs o (((cs'.drop o').take (len' * n)).take (min len' len * n)))))) : COPY n (.ar b n o len) (.ar b' n o' len') σ K := by
  have hs : srcH n (.ar b' n o' len') σ = some ((List.range len').map fun i => (cs'.drop (o' + i * n)).take n) := by
    have e2 : Nat.ble (o' + len' * n) cs'.length = true := Nat.ble_eq_true_of_le hl'
    simp [srcH, hb', h1, e2]
  refine ⟨hn, ?_⟩
  simp only [hs, OPT, hb]
  refine ⟨trivial, hl, ?_⟩
  have e : (((List.range len').map fun i => (cs'.drop (o' + i * n)).take n).take (min len' len)).flatten = ((cs'.drop o').take (len' * n)).take (min len' len * n) := by
    have h2 : min len' len * n ≤ len' * n := Nat.mul_le_mul_right _ (Nat.min_le_left _ _)
    rw [List.take_take, Nat.min_eq_left h2, ← chunk_flatten n (cs'.drop o') (min len' len), ← List.map_take, List.take_range]
    have : min (min len' len) len' = min len' len := by omega
    rw [this]
    congr 1
    apply List.map_congr_left
    intro i _
    rw [List.drop_drop]
  have hlen : ((List.range len').map fun i => (cs'.drop (o' + i * n)).take n).length = len' := by simp
  rw [hlen, e]
  exact hk

theorem s_cutar_lo {n b o len a : Nat} (h : a ≤ len) (hk : K (.ar b n (o + a * n) (len - a)) σ) : CUTL n (.ar b n o len) (some (I (a : Int))) none σ K := by
  simp only [CUTL, Option.getD_some, Option.getD_none]
  refine ⟨by omega, by omega, by omega, trivial, ?_⟩
  have : ((len : Int) - (a : Int)).toNat = len - a := by omega
  rw [this, Int.toNat_natCast]; exact hk
theorem s_cutar_hi {n b o len a : Nat} (h : a ≤ len) (hk : K (.ar b n o a) σ) : CUTL n (.ar b n o len) none (some (I (a : Int))) σ K := by
  simp only [CUTL, Option.getD_some, Option.getD_none]
  refine ⟨by omega, by omega, by omega, trivial, ?_⟩
  have : ((a : Int) - 0).toNat = a := by omega
  rw [this]
  simpa using hk

theorem slices_Repeat_c (v : Int) (n : Nat) (h0 : 0 < n) (hn : n < 4294967296) : ACalls PP G N.slices_Repeat_int_int [.sl 1 [[I v]], I n] .emp fun r τ => ∃ b, r = .ar b 1 0 n ∧ τ = AHeap.emp.ins b (dblk (List.replicate n v)) := F.slices_Repeat_int_int_ok (by
  unfold F.slices_Repeat_int_int
  refine s_join ?_
  repeat' first
    | (with_reducible first | refine s_join ?_ | refine s_ift ?_ | refine s_iff ?_ | refine s_igtt ?_ | refine s_igtf ?_ | refine s_igft ?_ | refine s_igff ?_ | refine s_igu ?_ | refine s_pt ?_ | refine s_pf ?_ | refine s_nott ?_ | refine s_notf ?_ | refine s_not ?_ | refine s_lslm ?_ | refine s_lsl ?_ | refine s_lgl ?_ | refine s_lnl ?_ | refine s_lar ?_ | refine s_lst ?_ | refine s_ncp ?_ | refine s_ncr ?_ | refine s_ncf ?_ | refine s_fap ?_ | refine s_far ?_ | refine s_mkfn ?_ | refine s_cvc ?_ | refine s_cvi ?_ | refine s_cvb ?_ | refine s_or ?_ | refine s_and ?_ | refine s_xor ?_ | refine s_andnot ?_)
    | (with_reducible first | refine BIN_eql_b (fun h => ?_) (fun h => ?_) | refine BIN_neq_b (fun h => ?_) (fun h => ?_) | refine BIN_lss_b (fun h => ?_) (fun h => ?_) | refine BIN_leq_b (fun h => ?_) (fun h => ?_) | refine BIN_gtr_b (fun h => ?_) (fun h => ?_) | refine BIN_geq_b (fun h => ?_) (fun h => ?_) | refine BIN_seql_b (fun h => ?_) (fun h => ?_) | refine BIN_sneq_b (fun h => ?_) (fun h => ?_) | refine s_ldr rfl ?_ | refine s_tup rfl ?_ | refine s_ifb (fun h => ?_) (fun h => ?_) | refine s_shl (by decide) ?_ | refine s_shr (by decide) ?_ | refine s_add (wrap64 (by omega)) ?_ | refine s_sub (wrap64 (by omega)) ?_ | refine s_ixn (by omega) ?_ | refine s_ix0 (by omega) ?_ | refine s_iam (by omega) ?_)
    | refine s_boxag rfl rfl (fun b hb => ?_)
    | (with_reducible first | refine s_ldp (AHeap.ins_self _ _ _) rfl ?_ | refine s_ldp (ins_prev (by assumption)) rfl ?_ | refine s_ldp (by assumption) rfl ?_ | refine s_ldp (ins_old (by assumption) (by assumption)) rfl ?_ | refine s_ldp (ins_other (by assumption) (by assumption)) rfl ?_ | refine s_ldpa (ins_old (by assumption) (by assumption)) rfl ?_ | refine s_ldpa (ins_other (by assumption) (by assumption)) rfl ?_ | refine s_ldpa (by assumption) rfl ?_ | refine s_ldpa (ins_prev (by assumption)) rfl ?_ | refine s_ldpa (AHeap.ins_self _ _ _) rfl ?_ | refine s_st1 (by assumption) rfl (by simp) ?_ | refine s_st1 (AHeap.ins_self _ _ _) rfl (by simp) ?_ | refine s_st1 (ins_prev (by assumption)) rfl (by simp) ?_ | refine s_sta (by assumption) rfl rfl rfl ?_ | refine s_sta (AHeap.ins_self _ _ _) rfl rfl rfl ?_ | refine s_field1 rfl ?_ | refine s_cuts (by omega) (by omega) (by omega) ?_ | refine s_cuts_lo (by omega) (by omega) ?_ | refine s_cuts_hi (by omega) (by omega) ?_)
    | refine ⟨by first | exact s_ldp (AHeap.ins_self _ _ _) rfl s_same | exact s_ldp (ins_prev (by assumption)) rfl s_same | exact s_ldp (by assumption) rfl s_same | exact s_ldr rfl s_same, ?_⟩
    | (with_reducible first | refine s_bneq_tt u_bool ?_ | refine s_bneq_tf u_bool ?_ | refine s_bneq_ft u_bool ?_ | refine s_bneq_ff u_bool ?_ | refine s_beql_tt u_bool ?_ | refine s_beql_tf u_bool ?_ | refine s_beql_ft u_bool ?_ | refine s_beql_ff u_bool ?_)
    | simp only [nth_zero, nth_succ, Nat.zero_add, Nat.reduceAdd, List.length_map, AHeap.ins_ins]
  · exfalso; omega
  have wn : IntKind.u64.wrap (n : Int) = n := wrapu64 (by omega)
  have e1 : IntKind.u64.wrap ((([[I v]] : List (List AV)).length : Nat) : Int) = 1 := rfl
  simp only [wn, e1]
  refine PureF.call (math_bits_Mul_c n hn) ?_
  repeat' first
    | (with_reducible first | refine s_join ?_ | refine s_ift ?_ | refine s_iff ?_ | refine s_igtt ?_ | refine s_igtf ?_ | refine s_igft ?_ | refine s_igff ?_ | refine s_igu ?_ | refine s_pt ?_ | refine s_pf ?_ | refine s_nott ?_ | refine s_notf ?_ | refine s_not ?_ | refine s_lslm ?_ | refine s_lsl ?_ | refine s_lgl ?_ | refine s_lnl ?_ | refine s_lar ?_ | refine s_lst ?_ | refine s_ncp ?_ | refine s_ncr ?_ | refine s_ncf ?_ | refine s_fap ?_ | refine s_far ?_ | refine s_mkfn ?_ | refine s_cvc ?_ | refine s_cvi ?_ | refine s_cvb ?_ | refine s_or ?_ | refine s_and ?_ | refine s_xor ?_ | refine s_andnot ?_)
    | (with_reducible first | refine BIN_eql_b (fun h => ?_) (fun h => ?_) | refine BIN_neq_b (fun h => ?_) (fun h => ?_) | refine BIN_lss_b (fun h => ?_) (fun h => ?_) | refine BIN_leq_b (fun h => ?_) (fun h => ?_) | refine BIN_gtr_b (fun h => ?_) (fun h => ?_) | refine BIN_geq_b (fun h => ?_) (fun h => ?_) | refine BIN_seql_b (fun h => ?_) (fun h => ?_) | refine BIN_sneq_b (fun h => ?_) (fun h => ?_) | refine s_ldr rfl ?_ | refine s_tup rfl ?_ | refine s_ifb (fun h => ?_) (fun h => ?_) | refine s_shl (by decide) ?_ | refine s_shr (by decide) ?_ | refine s_add (wrap64 (by omega)) ?_ | refine s_sub (wrap64 (by omega)) ?_ | refine s_ixn (by omega) ?_ | refine s_ix0 (by omega) ?_ | refine s_iam (by omega) ?_)
    | refine s_boxag rfl rfl (fun b hb => ?_)
    | (with_reducible first | refine s_ldp (AHeap.ins_self _ _ _) rfl ?_ | refine s_ldp (ins_prev (by assumption)) rfl ?_ | refine s_ldp (by assumption) rfl ?_ | refine s_ldp (ins_old (by assumption) (by assumption)) rfl ?_ | refine s_ldp (ins_other (by assumption) (by assumption)) rfl ?_ | refine s_ldpa (ins_old (by assumption) (by assumption)) rfl ?_ | refine s_ldpa (ins_other (by assumption) (by assumption)) rfl ?_ | refine s_ldpa (by assumption) rfl ?_ | refine s_ldpa (ins_prev (by assumption)) rfl ?_ | refine s_ldpa (AHeap.ins_self _ _ _) rfl ?_ | refine s_st1 (by assumption) rfl (by simp) ?_ | refine s_st1 (AHeap.ins_self _ _ _) rfl (by simp) ?_ | refine s_st1 (ins_prev (by assumption)) rfl (by simp) ?_ | refine s_sta (by assumption) rfl rfl rfl ?_ | refine s_sta (AHeap.ins_self _ _ _) rfl rfl rfl ?_ | refine s_field1 rfl ?_ | refine s_cuts (by omega) (by omega) (by omega) ?_ | refine s_cuts_lo (by omega) (by omega) ?_ | refine s_cuts_hi (by omega) (by omega) ?_)
    | refine ⟨by first | exact s_ldp (AHeap.ins_self _ _ _) rfl s_same | exact s_ldp (ins_prev (by assumption)) rfl s_same | exact s_ldp (by assumption) rfl s_same | exact s_ldr rfl s_same, ?_⟩
    | (with_reducible first | refine s_bneq_tt u_bool ?_ | refine s_bneq_tf u_bool ?_ | refine s_bneq_ft u_bool ?_ | refine s_bneq_ff u_bool ?_ | refine s_beql_tt u_bool ?_ | refine s_beql_tf u_bool ?_ | refine s_beql_ft u_bool ?_ | refine s_beql_ff u_bool ?_)
    | simp only [nth_zero, nth_succ, Nat.zero_add, Nat.reduceAdd, List.length_map, AHeap.ins_ins]
  · exfalso; omega
  · exfalso; omega
  rw [wrap64 (by omega)]
  refine s_make rfl (by omega) (by omega) fun b hb => ?_
  have hz : (List.replicate n [I 0]).flatten = List.replicate n (I 0) := by simp
  rw [hz]
  refine s_copysl (by omega) (AHeap.ins_self _ _ _) (by simp) ?_
  have hm : min ([[I v]] : List (List AV)).length n = 1 := by simp; omega
  rw [hm]
  have hw : wrCells (List.replicate n (I 0)) 0 (([[I v]] : List (List AV)).take 1).flatten = (List.replicate 1 v ++ List.replicate (n - 1) 0).map icell := by
    simp [wrCells]
  rw [hw, AHeap.ins_ins]
  refine s_join ?_
  refine LOOP_intro (fun k => n - k) (fun (k : Nat) xs τ => 1 ≤ k ∧ k ≤ n ∧ nth xs 0 = I k ∧ τ = AHeap.emp.ins b (.cells 0 ((List.replicate k v ++ List.replicate (n - k) 0).map icell))) (fun k xs τ R ⟨g0, g1, g2, g3⟩ hR => ?_) 1 ⟨by omega, by omega, rfl, rfl⟩
  subst g3
  simp only [g2]
  repeat' first
    | (with_reducible first | refine s_join ?_ | refine s_ift ?_ | refine s_iff ?_ | refine s_igtt ?_ | refine s_igtf ?_ | refine s_igft ?_ | refine s_igff ?_ | refine s_igu ?_ | refine s_pt ?_ | refine s_pf ?_ | refine s_nott ?_ | refine s_notf ?_ | refine s_not ?_ | refine s_lslm ?_ | refine s_lsl ?_ | refine s_lgl ?_ | refine s_lnl ?_ | refine s_lar ?_ | refine s_lst ?_ | refine s_ncp ?_ | refine s_ncr ?_ | refine s_ncf ?_ | refine s_fap ?_ | refine s_far ?_ | refine s_mkfn ?_ | refine s_cvc ?_ | refine s_cvi ?_ | refine s_cvb ?_ | refine s_or ?_ | refine s_and ?_ | refine s_xor ?_ | refine s_andnot ?_)
    | (with_reducible first | refine BIN_eql_b (fun h => ?_) (fun h => ?_) | refine BIN_neq_b (fun h => ?_) (fun h => ?_) | refine BIN_lss_b (fun h => ?_) (fun h => ?_) | refine BIN_leq_b (fun h => ?_) (fun h => ?_) | refine BIN_gtr_b (fun h => ?_) (fun h => ?_) | refine BIN_geq_b (fun h => ?_) (fun h => ?_) | refine BIN_seql_b (fun h => ?_) (fun h => ?_) | refine BIN_sneq_b (fun h => ?_) (fun h => ?_) | refine s_ldr rfl ?_ | refine s_tup rfl ?_ | refine s_ifb (fun h => ?_) (fun h => ?_) | refine s_shl (by decide) ?_ | refine s_shr (by decide) ?_ | refine s_add (wrap64 (by omega)) ?_ | refine s_sub (wrap64 (by omega)) ?_ | refine s_ixn (by omega) ?_ | refine s_ix0 (by omega) ?_ | refine s_iam (by omega) ?_)
    | refine s_boxag rfl rfl (fun b hb => ?_)
    | (with_reducible first | refine s_ldp (AHeap.ins_self _ _ _) rfl ?_ | refine s_ldp (ins_prev (by assumption)) rfl ?_ | refine s_ldp (by assumption) rfl ?_ | refine s_ldp (ins_old (by assumption) (by assumption)) rfl ?_ | refine s_ldp (ins_other (by assumption) (by assumption)) rfl ?_ | refine s_ldpa (ins_old (by assumption) (by assumption)) rfl ?_ | refine s_ldpa (ins_other (by assumption) (by assumption)) rfl ?_ | refine s_ldpa (by assumption) rfl ?_ | refine s_ldpa (ins_prev (by assumption)) rfl ?_ | refine s_ldpa (AHeap.ins_self _ _ _) rfl ?_ | refine s_st1 (by assumption) rfl (by simp) ?_ | refine s_st1 (AHeap.ins_self _ _ _) rfl (by simp) ?_ | refine s_st1 (ins_prev (by assumption)) rfl (by simp) ?_ | refine s_sta (by assumption) rfl rfl rfl ?_ | refine s_sta (AHeap.ins_self _ _ _) rfl rfl rfl ?_ | refine s_field1 rfl ?_ | refine s_cuts (by omega) (by omega) (by omega) ?_ | refine s_cuts_lo (by omega) (by omega) ?_ | refine s_cuts_hi (by omega) (by omega) ?_)
    | refine ⟨by first | exact s_ldp (AHeap.ins_self _ _ _) rfl s_same | exact s_ldp (ins_prev (by assumption)) rfl s_same | exact s_ldp (by assumption) rfl s_same | exact s_ldr rfl s_same, ?_⟩
    | (with_reducible first | refine s_bneq_tt u_bool ?_ | refine s_bneq_tf u_bool ?_ | refine s_bneq_ft u_bool ?_ | refine s_bneq_ff u_bool ?_ | refine s_beql_tt u_bool ?_ | refine s_beql_tf u_bool ?_ | refine s_beql_ft u_bool ?_ | refine s_beql_ff u_bool ?_)
    | simp only [nth_zero, nth_succ, Nat.zero_add, Nat.reduceAdd, List.length_map, AHeap.ins_ins]
  · refine s_cutar_lo (by omega) ?_
    refine s_cutar_hi (by omega) ?_
    have hlen : ((List.replicate k v ++ List.replicate (n - k) 0).map icell).length = n := by simp; omega
    refine s_copyar (by omega) (AHeap.ins_self _ _ _) (by rw [hlen]; omega) (AHeap.ins_self _ _ _) (by rw [hlen]; omega) ?_ ?_
    · rw [List.all_eq_true]
      intro x hx
      have := List.mem_of_mem_drop (List.mem_of_mem_take hx)
      rw [List.mem_map] at this
      obtain ⟨y, _, rfl⟩ := this
      rfl
    refine s_add (wrap64 (by omega)) ?_
    refine hR (k + min k (n - k)) _ _ (by omega) ⟨by omega, by omega, by simp, ?_⟩
    rw [AHeap.ins_ins]
    congr 2
    have e1 : (((List.replicate k v ++ List.replicate (n - k) 0).map icell).drop 0).take (k * 1) = (List.replicate k v).map icell := by
      rw [List.drop_zero, Nat.mul_one, List.map_append, List.take_append_of_le_length (by simp), List.take_of_length_le (by simp)]
    have e2 : ((List.replicate k v).map icell).take (min k (n - k) * 1) = (List.replicate (min k (n - k)) v).map icell := by
      rw [← List.map_take, List.take_replicate, Nat.mul_one]
      congr 2
      omega
    rw [e1, e2]
    unfold wrCells
    rw [Nat.zero_add, Nat.mul_one, ← List.map_take, ← List.map_drop, ← List.map_append, ← List.map_append]
    congr 1
    rw [List.take_append_of_le_length (by simp), List.take_of_length_le (by simp)]
    have e3 : (List.replicate k v ++ List.replicate (n - k) (0 : Int)).drop (k + ((List.replicate (min k (n - k)) v).map icell).length) = List.replicate (n - (k + min k (n - k))) 0 := by
      rw [List.length_map, List.length_replicate, List.drop_append, List.drop_of_length_le (by simp), List.nil_append, List.drop_replicate, List.length_replicate]
      congr 1
      omega
    rw [e3, List.replicate_append_replicate]
  · have hk : k = n := by omega
    subst hk
    exact Fin.mk ⟨b, rfl, by rw [Nat.sub_self, List.replicate_zero, List.append_nil]⟩)

end Go.Al
