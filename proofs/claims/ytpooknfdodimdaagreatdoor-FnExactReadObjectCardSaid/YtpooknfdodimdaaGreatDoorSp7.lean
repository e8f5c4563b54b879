/- Contracts: an instruction is right (2). -/
import Derived.Test.YtpooknfdodimdaaGreatDoorSp6
set_option linter.unusedVariables false
set_option linter.unusedSimpArgs false
set_option maxRecDepth 10000
set_option maxHeartbeats 4000000
namespace Go.Al
variable {G : Seal}

/-- what stands for all instructions: names where they are due -/
def ins0M (x : Ins) : Bool :=
  (if x.op = 3 ∨ x.op = 13 then nameKM x.mod && nameKM x.name else decide (x.mod = [] ∧ x.name = [])) && decide (x.op = 13 ∨ x.b = 0)
/-- what stands for each -/
def ins1M (x : Ins) (c : Code) : Bool :=
  if x.op = 1 then true else
  if x.op = 2 then inM x.a 0 (c.cells - 1) else
  if x.op = 6 then inM x.a 1 100 else
  if x.op = 7 then inM x.a 0 10 else
  if x.op = 11 ∨ x.op = 12 then inM x.a 0 (c.list.length - 1) else
  if x.op = 13 then inM x.a 0 20 && inM x.b 0 1 else
  if x.op = 14 then decide (x.a = c.result) else
  if x.op = 15 then inM x.a 1 3 else
  if x.op = 16 then inM x.a 1 3 && decide (x.a ≠ 2) else
  if x.op = 17 then inM x.a 1 5 else
  decide (x.a = 0) && inM x.op 3 10
def insM (x : Ins) (c : Code) : Bool := ins0M x && ins1M x c

theorem nameKM_nil : nameKM [] = false := rfl

theorem spec_l04Ins_c (x : Ins) (c : Code) (h1 : x.mod.length < 2 ^ 60) (h2 : x.name.length < 2 ^ 60) (h3 : -9223372036854775808 < c.cells ∧ c.cells < 9223372036854775808) (h4 : c.list.length < 2 ^ 60) :
    PureF PP G N.spec_l04Ins [.ag x.cells, .ag c.av] (Bo (insM x c)) := F.spec_l04Ins_ok (by
  unfold F.spec_l04Ins
  refine s_boxag rfl rfl (fun b1 hb1 => ?_)
  refine s_boxag rfl rfl (fun b2 hb2 => ?_)
  have e1 := ins_prev (y := ABlk.cells 0 c.av) hb2
  generalize hσ : (AHeap.emp.ins b1 (ABlk.cells 0 x.cells)).ins b2 (ABlk.cells 0 c.av) = σ0 at *
  have e2 : σ0 b2 = some (.cells 0 c.av) := by rw [← hσ]; exact AHeap.ins_self _ _ _
  clear hσ hb1 hb2
  have hsg : signsM.length = 11 := rfl
  repeat' first
    | (with_reducible first | refine s_gjoin ?_ | refine s_ift ?_ | refine s_iff ?_ | refine s_igtt ?_ | refine s_igtf ?_ | refine s_igft ?_ | refine s_igff ?_ | refine s_igu ?_ | refine s_pt ?_ | refine s_pf ?_ | refine s_nott ?_ | refine s_notf ?_ | refine s_not ?_ | refine s_lslm ?_ | refine s_lsl ?_ | refine s_lgl ?_ | refine s_lnl ?_ | refine s_lar ?_ | refine s_lst ?_ | refine s_ncp ?_ | refine s_ncr ?_ | refine s_ncf ?_ | refine s_fap ?_ | refine s_far ?_ | refine s_mkfn ?_ | refine s_cvc ?_ | refine s_cvi ?_ | refine s_cvb ?_ | refine s_or ?_ | refine s_and ?_ | refine s_xor ?_ | refine s_andnot ?_)
    | (with_reducible first | refine BIN_eql_b (fun h => ?_) (fun h => ?_) | refine BIN_neq_b (fun h => ?_) (fun h => ?_) | refine BIN_lss_b (fun h => ?_) (fun h => ?_) | refine BIN_leq_b (fun h => ?_) (fun h => ?_) | refine BIN_gtr_b (fun h => ?_) (fun h => ?_) | refine BIN_geq_b (fun h => ?_) (fun h => ?_) | refine BIN_seql_b (fun h => ?_) (fun h => ?_) | refine BIN_sneq_b (fun h => ?_) (fun h => ?_) | refine s_ldr rfl ?_ | refine s_tup rfl ?_ | refine s_ifb (fun h => ?_) (fun h => ?_) | refine s_shl (by decide) ?_ | refine s_shr (by decide) ?_ | refine s_add (wrap64 (by omega)) ?_ | refine s_sub (wrap64 (by omega)) ?_ | refine s_ixn (by omega) ?_ | refine s_ix0 (by omega) ?_ | refine s_iam (by omega) ?_)
    | refine s_boxag rfl rfl (fun b hb => ?_)
    | (with_reducible first | refine s_ldp (AHeap.ins_self _ _ _) rfl ?_ | refine s_ldp (ins_prev (by assumption)) rfl ?_ | refine s_ldp (by assumption) rfl ?_ | refine s_ldp (ins_old (by assumption) (by assumption)) rfl ?_ | refine s_ldp (ins_other (by assumption) (by assumption)) rfl ?_ | refine s_ldpa (ins_old (by assumption) (by assumption)) rfl ?_ | refine s_ldpa (ins_other (by assumption) (by assumption)) rfl ?_ | refine s_ldpa (by assumption) rfl ?_ | refine s_ldpa (ins_prev (by assumption)) rfl ?_ | refine s_ldpa (AHeap.ins_self _ _ _) rfl ?_ | refine s_st1 (by assumption) rfl (by simp) ?_ | refine s_st1 (AHeap.ins_self _ _ _) rfl (by simp) ?_ | refine s_st1 (ins_prev (by assumption)) rfl (by simp) ?_ | refine s_sta (by assumption) rfl rfl rfl ?_ | refine s_sta (AHeap.ins_self _ _ _) rfl rfl rfl ?_ | refine s_field1 rfl ?_ | refine s_cuts (by omega) (by omega) (by omega) ?_ | refine s_cuts_lo (by omega) (by omega) ?_ | refine s_cuts_hi (by omega) (by omega) ?_)
    | refine ⟨by first | exact s_ldp (AHeap.ins_self _ _ _) rfl s_same | exact s_ldp (ins_prev (by assumption)) rfl s_same | exact s_ldp (by assumption) rfl s_same | exact s_ldr rfl s_same, ?_⟩
    | (with_reducible first | refine s_bneq_tt u_bool ?_ | refine s_bneq_tf u_bool ?_ | refine s_bneq_ft u_bool ?_ | refine s_bneq_ff u_bool ?_ | refine s_beql_tt u_bool ?_ | refine s_beql_tf u_bool ?_ | refine s_beql_ft u_bool ?_ | refine s_beql_ff u_bool ?_)
    | simp only [nth_zero, nth_succ, Nat.zero_add, Nat.reduceAdd, List.length_map, AHeap.ins_ins]
  all_goals
    refine JOIN_cut (fun _ σ => σ = σ0 ∧ ins0M x = true) (fun kk hkk => ?_) (fun xs σ ⟨hs, h0⟩ => ?_)
  all_goals try subst hs
  all_goals
    repeat' first
      | (with_reducible first | refine s_join ?_ | refine s_ift ?_ | refine s_iff ?_ | refine s_igtt ?_ | refine s_igtf ?_ | refine s_igft ?_ | refine s_igff ?_ | refine s_igu ?_ | refine s_pt ?_ | refine s_pf ?_ | refine s_nott ?_ | refine s_notf ?_ | refine s_not ?_ | refine s_lslm ?_ | refine s_lsl ?_ | refine s_lgl ?_ | refine s_lnl ?_ | refine s_lar ?_ | refine s_lst ?_ | refine s_ncp ?_ | refine s_ncr ?_ | refine s_ncf ?_ | refine s_fap ?_ | refine s_far ?_ | refine s_mkfn ?_ | refine s_cvc ?_ | refine s_cvi ?_ | refine s_cvb ?_ | refine s_or ?_ | refine s_and ?_ | refine s_xor ?_ | refine s_andnot ?_)
      | (with_reducible apply PureF.callb (spec_l02Name_c x.mod h1) <;> intro h)
      | (with_reducible apply PureF.callb (spec_l02Name_c x.name h2) <;> intro h)
      | (with_reducible apply PureF.callb (spec_l01In_c _ _ _) <;> intro h)
      | with_reducible apply PureF.call (spec_l04Signs_c)
      | (with_reducible first | refine BIN_eql_b (fun h => ?_) (fun h => ?_) | refine BIN_neq_b (fun h => ?_) (fun h => ?_) | refine BIN_lss_b (fun h => ?_) (fun h => ?_) | refine BIN_leq_b (fun h => ?_) (fun h => ?_) | refine BIN_gtr_b (fun h => ?_) (fun h => ?_) | refine BIN_geq_b (fun h => ?_) (fun h => ?_) | refine BIN_seql_b (fun h => ?_) (fun h => ?_) | refine BIN_sneq_b (fun h => ?_) (fun h => ?_) | refine s_ldr rfl ?_ | refine s_tup rfl ?_ | refine s_ifb (fun h => ?_) (fun h => ?_) | refine s_shl (by decide) ?_ | refine s_shr (by decide) ?_ | refine s_add (wrap64 (by omega)) ?_ | refine s_sub (wrap64 (by omega)) ?_ | refine s_ixn (by omega) ?_ | refine s_ix0 (by omega) ?_ | refine s_iam (by omega) ?_)
      | refine s_boxag rfl rfl (fun b hb => ?_)
      | (with_reducible first | refine s_ldp (AHeap.ins_self _ _ _) rfl ?_ | refine s_ldp (ins_prev (by assumption)) rfl ?_ | refine s_ldp (by assumption) rfl ?_ | refine s_ldp (ins_old (by assumption) (by assumption)) rfl ?_ | refine s_ldp (ins_other (by assumption) (by assumption)) rfl ?_ | refine s_ldpa (ins_old (by assumption) (by assumption)) rfl ?_ | refine s_ldpa (ins_other (by assumption) (by assumption)) rfl ?_ | refine s_ldpa (by assumption) rfl ?_ | refine s_ldpa (ins_prev (by assumption)) rfl ?_ | refine s_ldpa (AHeap.ins_self _ _ _) rfl ?_ | refine s_st1 (by assumption) rfl (by simp) ?_ | refine s_st1 (AHeap.ins_self _ _ _) rfl (by simp) ?_ | refine s_st1 (ins_prev (by assumption)) rfl (by simp) ?_ | refine s_sta (by assumption) rfl rfl rfl ?_ | refine s_sta (AHeap.ins_self _ _ _) rfl rfl rfl ?_ | refine s_field1 rfl ?_ | refine s_cuts (by omega) (by omega) (by omega) ?_ | refine s_cuts_lo (by omega) (by omega) ?_ | refine s_cuts_hi (by omega) (by omega) ?_)
      | refine ⟨by first | exact s_ldp (AHeap.ins_self _ _ _) rfl s_same | exact s_ldp (ins_prev (by assumption)) rfl s_same | exact s_ldp (by assumption) rfl s_same | exact s_ldr rfl s_same, ?_⟩
      | (with_reducible first | refine s_bneq_tt u_bool ?_ | refine s_bneq_tf u_bool ?_ | refine s_bneq_ft u_bool ?_ | refine s_bneq_ff u_bool ?_ | refine s_beql_tt u_bool ?_ | refine s_beql_tf u_bool ?_ | refine s_beql_ft u_bool ?_ | refine s_beql_ff u_bool ?_)
      | simp only [nth_zero, nth_succ, Nat.zero_add, Nat.reduceAdd, List.length_map, AHeap.ins_ins]
  all_goals first
    | exact hkk _ _ ⟨rfl, by clear hkk; simp_all [ins0M]⟩
    | exact Fin.eqv (by clear e1 e2; simp_all [insM, ins0M, ins1M, nameKM_nil])
    | (exfalso; omega))

end Go.Al
