/- Contracts: the reference's ReadObject. -/
import Derived.Test.YtpooknfdodimdaaGreatDoorSp20
set_option linter.unusedVariables false
set_option linter.unusedSimpArgs false
set_option maxRecDepth 100000
set_option maxHeartbeats 4000000
namespace Go.Al
variable {G : Seal} {σ : AHeap} {K : KAV}

/-- what ReadObject answers -/
noncomputable def readResM (l : List UInt8) : Object × Int :=
  if 65536 < l.length then (obj0, 2) else match readM l with
    | some o => if objectM o = true then (o, 0) else (obj0, 3)
    | none => (obj0, 3)
theorem readResM_ok {l : List UInt8} {o : Object} (hl : ¬ 65536 < l.length) (h : readM l = some o) (ho : objectM o = true) : readResM l = (o, 0) := by simp [readResM, hl, h, ho]
theorem readResM_bad {l : List UInt8} (hl : ¬ 65536 < l.length) (h : ∀ o', readM l = some o' → objectM o' = false) : readResM l = (obj0, 3) := by
  unfold readResM
  rw [if_neg hl]
  cases hr : readM l with
  | none => rfl
  | some o => simp [h o hr]
theorem readResM_long {l : List UInt8} (hl : 65536 < l.length) : readResM l = (obj0, 2) := by simp [readResM, hl]

theorem res_view {τ : AHeap} {x x' : AV} {k : Int} (h : View τ x x') : View τ (.tu [x, I k]) (.tu [x', I k]) := .tu _ _ rfl fun j hj => match j, hj with
    | 0, _ => h
    | 1, _ => .refl _

theorem spec_ReadObject_c (t : List UInt8) (hl : t.length < 2 ^ 60) : PureF PP G N.spec_ReadObject [.sl 1 (t.map bcell)] (.tu [.ag (readResM t).1.cells, I (readResM t).2]) := F.spec_ReadObject_ok (by
  unfold F.spec_ReadObject
  refine s_new fun v1 hv1 => ?_
  have d1 := AHeap.ins_self AHeap.emp v1 (ABlk.cells 0 [St (bs []), I 0, .nl, .nl, .nl])
  refine s_join ?_
  repeat' first
    | (with_reducible first | refine s_gjoin ?_ | refine s_ift ?_ | refine s_iff ?_ | refine s_igtt ?_ | refine s_igtf ?_ | refine s_igft ?_ | refine s_igff ?_ | refine s_igu ?_ | refine s_pt ?_ | refine s_pf ?_ | refine s_nott ?_ | refine s_notf ?_ | refine s_not ?_ | refine s_lslm ?_ | refine s_lsl ?_ | refine s_lgl ?_ | refine s_lnl ?_ | refine s_lar ?_ | refine s_lst ?_ | refine s_ncp ?_ | refine s_ncr ?_ | refine s_ncf ?_ | refine s_fap ?_ | refine s_far ?_ | refine s_mkfn ?_ | refine s_cvc ?_ | refine s_cvi ?_ | refine s_cvb ?_ | refine s_or ?_ | refine s_and ?_ | refine s_xor ?_ | refine s_andnot ?_)
    | (with_reducible first | refine BIN_eql_b (fun h => ?_) (fun h => ?_) | refine BIN_neq_b (fun h => ?_) (fun h => ?_) | refine BIN_lss_b (fun h => ?_) (fun h => ?_) | refine BIN_leq_b (fun h => ?_) (fun h => ?_) | refine BIN_gtr_b (fun h => ?_) (fun h => ?_) | refine BIN_geq_b (fun h => ?_) (fun h => ?_) | refine BIN_seql_b (fun h => ?_) (fun h => ?_) | refine BIN_sneq_b (fun h => ?_) (fun h => ?_) | refine s_ldr rfl ?_ | refine s_tup rfl ?_ | refine s_ifb (fun h => ?_) (fun h => ?_) | refine s_shl (by decide) ?_ | refine s_shr (by decide) ?_ | refine s_add (wrap64 (by omega)) ?_ | refine s_sub (wrap64 (by omega)) ?_ | refine s_ixn (by omega) ?_ | refine s_ix0 (by omega) ?_ | refine s_iam (by omega) ?_)
    | refine s_boxag rfl rfl (fun b hb => ?_)
    | (with_reducible first | refine s_ldp (AHeap.ins_self _ _ _) rfl ?_ | refine s_ldp (ins_prev (by assumption)) rfl ?_ | refine s_ldp (by assumption) rfl ?_ | refine s_ldp (ins_old (by assumption) (by assumption)) rfl ?_ | refine s_ldp (ins_other (by assumption) (by assumption)) rfl ?_ | refine s_ldpa (ins_old (by assumption) (by assumption)) rfl ?_ | refine s_ldpa (ins_other (by assumption) (by assumption)) rfl ?_ | refine s_ldpa (by assumption) rfl ?_ | refine s_ldpa (ins_prev (by assumption)) rfl ?_ | refine s_ldpa (AHeap.ins_self _ _ _) rfl ?_ | refine s_st1 (by assumption) rfl (by simp) ?_ | refine s_st1 (AHeap.ins_self _ _ _) rfl (by simp) ?_ | refine s_st1 (ins_prev (by assumption)) rfl (by simp) ?_ | refine s_sta (by assumption) rfl rfl rfl ?_ | refine s_sta (AHeap.ins_self _ _ _) rfl rfl rfl ?_ | refine s_field1 rfl ?_ | refine s_cuts (by omega) (by omega) (by omega) ?_ | refine s_cuts_lo (by omega) (by omega) ?_ | refine s_cuts_hi (by omega) (by omega) ?_)
    | refine ⟨by first | exact s_ldp (AHeap.ins_self _ _ _) rfl s_same | exact s_ldp (ins_prev (by assumption)) rfl s_same | exact s_ldp (by assumption) rfl s_same | exact s_ldr rfl s_same, ?_⟩
    | (with_reducible first | refine s_bneq_tt u_bool ?_ | refine s_bneq_tf u_bool ?_ | refine s_bneq_ft u_bool ?_ | refine s_bneq_ff u_bool ?_ | refine s_beql_tt u_bool ?_ | refine s_beql_tf u_bool ?_ | refine s_beql_ft u_bool ?_ | refine s_beql_ff u_bool ?_)
    | simp only [nth_zero, nth_succ, Nat.zero_add, Nat.reduceAdd, List.length_map, AHeap.ins_ins]
  · refine s_build rfl ?_
    refine s_sta d1 rfl rfl rfl ?_
    refine s_ldpa (AHeap.ins_self _ _ _) rfl ?_
    rw [readResM_long (by omega)]
    exact Fin.pure (res_view obj0_view)
  · have hl2 : ¬ 65536 < t.length := by omega
    refine (spec_l04Read_c t hl).frame fun r τ hQ _ => ?_
    obtain ⟨rfl, o, ok, rfl, h1, h2⟩ := hQ
    rw [show (AHeap.emp.ins v1 (ABlk.cells 0 [St (bs []), I 0, .nl, .nl, .nl])).un .emp = AHeap.emp.ins v1 (ABlk.cells 0 [St (bs []), I 0, .nl, .nl, .nl]) from by funext x; simp only [AHeap.un]; cases (AHeap.emp.ins v1 (ABlk.cells 0 [St (bs []), I 0, .nl, .nl, .nl])) x <;> rfl]
    refine s_tup rfl ?_
    refine s_tup rfl ?_
    refine s_new fun v2 hv2 => ?_
    have n12 : v1 ≠ v2 := ne_of_none d1 hv2
    refine s_sta (AHeap.ins_self _ _ _) rfl rfl rfl ?_
    rw [AHeap.ins_ins]
    have e1 := ins_old (y := ABlk.cells 0 o.cells) d1 hv2
    refine s_join ?_
    cases ok with
    | true =>
      obtain ⟨q1, q2⟩ := h1 rfl
      repeat' first
        | (with_reducible first | refine s_join ?_ | refine s_ift ?_ | refine s_iff ?_ | refine s_igtt ?_ | refine s_igtf ?_ | refine s_igft ?_ | refine s_igff ?_ | refine s_igu ?_ | refine s_pt ?_ | refine s_pf ?_ | refine s_nott ?_ | refine s_notf ?_ | refine s_not ?_ | refine s_lslm ?_ | refine s_lsl ?_ | refine s_lgl ?_ | refine s_lnl ?_ | refine s_lar ?_ | refine s_lst ?_ | refine s_ncp ?_ | refine s_ncr ?_ | refine s_ncf ?_ | refine s_fap ?_ | refine s_far ?_ | refine s_mkfn ?_ | refine s_cvc ?_ | refine s_cvi ?_ | refine s_cvb ?_ | refine s_or ?_ | refine s_and ?_ | refine s_xor ?_ | refine s_andnot ?_)
        | (with_reducible first | refine BIN_eql_b (fun h => ?_) (fun h => ?_) | refine BIN_neq_b (fun h => ?_) (fun h => ?_) | refine BIN_lss_b (fun h => ?_) (fun h => ?_) | refine BIN_leq_b (fun h => ?_) (fun h => ?_) | refine BIN_gtr_b (fun h => ?_) (fun h => ?_) | refine BIN_geq_b (fun h => ?_) (fun h => ?_) | refine BIN_seql_b (fun h => ?_) (fun h => ?_) | refine BIN_sneq_b (fun h => ?_) (fun h => ?_) | refine s_ldr rfl ?_ | refine s_tup rfl ?_ | refine s_ifb (fun h => ?_) (fun h => ?_) | refine s_shl (by decide) ?_ | refine s_shr (by decide) ?_ | refine s_add (wrap64 (by omega)) ?_ | refine s_sub (wrap64 (by omega)) ?_ | refine s_ixn (by omega) ?_ | refine s_ix0 (by omega) ?_ | refine s_iam (by omega) ?_)
        | refine s_boxag rfl rfl (fun b hb => ?_)
        | (with_reducible first | refine s_ldp (AHeap.ins_self _ _ _) rfl ?_ | refine s_ldp (ins_prev (by assumption)) rfl ?_ | refine s_ldp (by assumption) rfl ?_ | refine s_ldp (ins_old (by assumption) (by assumption)) rfl ?_ | refine s_ldp (ins_other (by assumption) (by assumption)) rfl ?_ | refine s_ldpa (ins_old (by assumption) (by assumption)) rfl ?_ | refine s_ldpa (ins_other (by assumption) (by assumption)) rfl ?_ | refine s_ldpa (by assumption) rfl ?_ | refine s_ldpa (ins_prev (by assumption)) rfl ?_ | refine s_ldpa (AHeap.ins_self _ _ _) rfl ?_ | refine s_st1 (by assumption) rfl (by simp) ?_ | refine s_st1 (AHeap.ins_self _ _ _) rfl (by simp) ?_ | refine s_st1 (ins_prev (by assumption)) rfl (by simp) ?_ | refine s_sta (by assumption) rfl rfl rfl ?_ | refine s_sta (AHeap.ins_self _ _ _) rfl rfl rfl ?_ | refine s_field1 rfl ?_ | refine s_cuts (by omega) (by omega) (by omega) ?_ | refine s_cuts_lo (by omega) (by omega) ?_ | refine s_cuts_hi (by omega) (by omega) ?_)
        | refine ⟨by first | exact s_ldp (AHeap.ins_self _ _ _) rfl s_same | exact s_ldp (ins_prev (by assumption)) rfl s_same | exact s_ldp (by assumption) rfl s_same | exact s_ldr rfl s_same, ?_⟩
        | (with_reducible first | refine s_bneq_tt u_bool ?_ | refine s_bneq_tf u_bool ?_ | refine s_bneq_ft u_bool ?_ | refine s_bneq_ff u_bool ?_ | refine s_beql_tt u_bool ?_ | refine s_beql_tf u_bool ?_ | refine s_beql_ft u_bool ?_ | refine s_beql_ff u_bool ?_)
        | simp only [nth_zero, nth_succ, Nat.zero_add, Nat.reduceAdd, List.length_map, AHeap.ins_ins]
      rw [readResM_ok hl2 q1 q2]
      refine Fin.eqv ?_
      rfl
    | false =>
      rw [readResM_bad hl2 (h2 rfl)]
      refine s_notf ?_
      refine s_ift ?_
      refine s_build rfl ?_
      refine s_sta e1 rfl rfl rfl ?_
      refine s_ldpa (AHeap.ins_self _ _ _) rfl ?_
      exact Fin.pure (res_view obj0_view))

end Go.Al
