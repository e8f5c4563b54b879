/- Contracts: the program's ReadObject. -/
import Derived.Test.YtpooknfdodimdaaGreatDoorSp23
set_option linter.unusedVariables false
set_option linter.unusedSimpArgs false
set_option maxRecDepth 100000
set_option maxHeartbeats 4000000
namespace Go.Al
variable {G : Seal} {σ : AHeap} {K : KAV}

theorem impl_isShort_byte_c (t : List UInt8) : PureF PP G N.impl_isShort_byte [.sl 1 (t.map bcell)] (Bo (decide ((t.length : Int) ≤ 65536))) := F.impl_isShort_byte_ok (by
  unfold F.impl_isShort_byte
  repeat' first
    | (with_reducible first | refine s_join ?_ | refine s_ift ?_ | refine s_iff ?_ | refine s_igtt ?_ | refine s_igtf ?_ | refine s_igft ?_ | refine s_igff ?_ | refine s_igu ?_ | refine s_pt ?_ | refine s_pf ?_ | refine s_nott ?_ | refine s_notf ?_ | refine s_not ?_ | refine s_lslm ?_ | refine s_lsl ?_ | refine s_lgl ?_ | refine s_lnl ?_ | refine s_lar ?_ | refine s_lst ?_ | refine s_ncp ?_ | refine s_ncr ?_ | refine s_ncf ?_ | refine s_fap ?_ | refine s_far ?_ | refine s_mkfn ?_ | refine s_cvc ?_ | refine s_cvi ?_ | refine s_cvb ?_ | refine s_or ?_ | refine s_and ?_ | refine s_xor ?_ | refine s_andnot ?_)
    | (with_reducible first | refine BIN_eql_b (fun h => ?_) (fun h => ?_) | refine BIN_neq_b (fun h => ?_) (fun h => ?_) | refine BIN_lss_b (fun h => ?_) (fun h => ?_) | refine BIN_leq_b (fun h => ?_) (fun h => ?_) | refine BIN_gtr_b (fun h => ?_) (fun h => ?_) | refine BIN_geq_b (fun h => ?_) (fun h => ?_) | refine BIN_seql_b (fun h => ?_) (fun h => ?_) | refine BIN_sneq_b (fun h => ?_) (fun h => ?_) | refine s_ldr rfl ?_ | refine s_tup rfl ?_ | refine s_ifb (fun h => ?_) (fun h => ?_) | refine s_shl (by decide) ?_ | refine s_shr (by decide) ?_ | refine s_add (wrap64 (by omega)) ?_ | refine s_sub (wrap64 (by omega)) ?_ | refine s_ixn (by omega) ?_ | refine s_ix0 (by omega) ?_ | refine s_iam (by omega) ?_)
    | refine s_boxag rfl rfl (fun b hb => ?_)
    | (with_reducible first | refine s_ldp (AHeap.ins_self _ _ _) rfl ?_ | refine s_ldp (ins_prev (by assumption)) rfl ?_ | refine s_ldp (by assumption) rfl ?_ | refine s_ldp (ins_old (by assumption) (by assumption)) rfl ?_ | refine s_ldp (ins_other (by assumption) (by assumption)) rfl ?_ | refine s_ldpa (ins_old (by assumption) (by assumption)) rfl ?_ | refine s_ldpa (ins_other (by assumption) (by assumption)) rfl ?_ | refine s_ldpa (by assumption) rfl ?_ | refine s_ldpa (ins_prev (by assumption)) rfl ?_ | refine s_ldpa (AHeap.ins_self _ _ _) rfl ?_ | refine s_st1 (by assumption) rfl (by simp) ?_ | refine s_st1 (AHeap.ins_self _ _ _) rfl (by simp) ?_ | refine s_st1 (ins_prev (by assumption)) rfl (by simp) ?_ | refine s_sta (by assumption) rfl rfl rfl ?_ | refine s_sta (AHeap.ins_self _ _ _) rfl rfl rfl ?_ | refine s_field1 rfl ?_ | refine s_cuts (by omega) (by omega) (by omega) ?_ | refine s_cuts_lo (by omega) (by omega) ?_ | refine s_cuts_hi (by omega) (by omega) ?_)
    | refine ⟨by first | exact s_ldp (AHeap.ins_self _ _ _) rfl s_same | exact s_ldp (ins_prev (by assumption)) rfl s_same | exact s_ldp (by assumption) rfl s_same | exact s_ldr rfl s_same, ?_⟩
    | (with_reducible first | refine s_bneq_tt u_bool ?_ | refine s_bneq_tf u_bool ?_ | refine s_bneq_ft u_bool ?_ | refine s_bneq_ff u_bool ?_ | refine s_beql_tt u_bool ?_ | refine s_beql_tf u_bool ?_ | refine s_beql_ft u_bool ?_ | refine s_beql_ff u_bool ?_)
    | simp only [nth_zero, nth_succ, Nat.zero_add, Nat.reduceAdd, List.length_map, AHeap.ins_ins]
  all_goals refine Fin.eqv ?_
  all_goals simp [h])

theorem impl_ReadObject_c (hT : GTab G) (t : List UInt8) (hl : t.length < 2 ^ 60) : ACalls PP G N.impl_ReadObject [.sl 1 (t.map bcell)] .emp fun r τ =>
    ∃ cs, r = .tu [.ag cs, I (readResM t).2] ∧ OObject τ cs (readResM t).1 := F.impl_ReadObject_ok (by
  unfold F.impl_ReadObject
  refine s_new fun v1 hv1 => ?_
  have d1 := AHeap.ins_self AHeap.emp v1 (ABlk.cells 0 [St (bs []), I 0, .nl, .nl, .nl])
  refine s_join ?_
  refine PureF.callb (impl_isShort_byte_c t) (fun h => ?_) (fun h => ?_)
  rotate_left
  · have hlen : 65536 < t.length := by simp only [decide_eq_false_iff_not] at h; omega
    refine s_notf ?_
    refine s_ift ?_
    refine s_build rfl ?_
    refine s_sta d1 rfl rfl rfl ?_
    refine s_ldpa (AHeap.ins_self _ _ _) rfl ?_
    rw [readResM_long hlen]
    exact Fin.drop (σ' := .emp) (AHeap.emp_le _) ⟨_, rfl, OObject.zero⟩
  have hl2 : ¬ 65536 < t.length := by simp only [decide_eq_true_eq] at h; omega
  refine s_nott ?_
  refine s_iff ?_
  refine s_cvo ?_
  refine (impl_readObject_c hT t hl).frame fun r H hQ hdis => ?_
  obtain ⟨o, ok, cs, rfl, hO, h1, h2⟩ := hQ
  have hH1 : H v1 = none := (hdis v1).resolve_left (by rw [d1]; simp)
  have d1 : ((AHeap.emp.ins v1 (ABlk.cells 0 [St (bs []), I 0, .nl, .nl, .nl])).un H) v1 = _ := AHeap.le_un_left _ _ _ _ d1
  have hle : H.le ((AHeap.emp.ins v1 (ABlk.cells 0 [St (bs []), I 0, .nl, .nl, .nl])).un H) := AHeap.le_un_right hdis
  generalize (AHeap.emp.ins v1 (ABlk.cells 0 [St (bs []), I 0, .nl, .nl, .nl])).un H = τ at *
  refine s_tup rfl ?_
  refine s_tup rfl ?_
  obtain ⟨hc1, _, _, _⟩ := OObject.view _ _ _ hO
  have hc2 : cs.all AV.cell1 = true := by
    obtain ⟨_, _, _, x, y, z, e, a1, a2, a3, _⟩ := id hO
    rw [e]; simp [a1.none_or, a2.none_or, a3.none_or]
  refine s_new fun o2 ho2 => ?_
  have n12 : v1 ≠ o2 := ne_of_none d1 ho2
  have hHo := hle.nn ho2
  refine s_sta (AHeap.ins_self _ _ _) rfl hc1 hc2 ?_
  rw [AHeap.ins_ins]
  have d1 := ins_other (y := ABlk.cells 0 cs) d1 n12
  have dO := AHeap.ins_self τ o2 (ABlk.cells 0 cs)
  have hle := hle.ins_new (x := ABlk.cells 0 cs) ho2
  refine s_join ?_
  cases ok with
  | true =>
    obtain ⟨q1, q2⟩ := h1 rfl
    refine s_nott ?_
    refine s_iff ?_
    refine s_ldpa dO hc1 ?_
    refine s_sta d1 rfl hc1 hc2 ?_
    refine s_ldpa (AHeap.ins_self _ _ _) hc1 ?_
    rw [readResM_ok hl2 q1 q2]
    refine Fin.drop (σ' := H) (fun p x hx => ?_) ⟨cs, rfl, hO⟩
    have : p ≠ v1 := by rintro rfl; rw [hH1] at hx; simp at hx
    rw [AHeap.ins_ne _ _ this]; exact hle _ _ hx
  | false =>
    rw [readResM_bad hl2 (h2 rfl)]
    refine s_notf ?_
    refine s_ift ?_
    refine s_build rfl ?_
    refine s_sta d1 rfl rfl rfl ?_
    refine s_ldpa (AHeap.ins_self _ _ _) rfl ?_
    exact Fin.drop (σ' := .emp) (AHeap.emp_le _) ⟨_, rfl, OObject.zero⟩)

end Go.Al
