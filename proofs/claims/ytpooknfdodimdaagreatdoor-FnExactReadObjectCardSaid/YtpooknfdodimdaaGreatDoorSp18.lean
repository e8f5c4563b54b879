/- Contracts: an object is right (the reference). -/
import Derived.Test.YtpooknfdodimdaaGreatDoorSp17
set_option linter.unusedVariables false
set_option linter.unusedSimpArgs false
set_option maxRecDepth 100000
set_option maxHeartbeats 4000000
namespace Go.Al
variable {G : Seal} {σ : AHeap} {K : KAV}

def needM (n : Need) : Bool := nameKM n.module && inM n.print 0 4294967295
def globalM (g : Global) : Bool := nameKM g.name && inM g.length 0 100
abbrev gnames (o : Object) : List (List UInt8) := o.globals.map (·.name)
abbrev pnames (o : Object) : List (List UInt8) := o.procs.map (·.name)
/-- an object is right -/
structure ObjP (o : Object) : Prop where
  module : nameKM o.module = true
  print : inM o.print 0 4294967295 = true
  needsN : o.needs.length ≤ 20
  globalsN : o.globals.length ≤ 100
  procs1 : 1 ≤ o.procs.length
  procsN : o.procs.length ≤ 60
  needs : ∀ x ∈ o.needs, needM x = true
  globals : ∀ x ∈ o.globals, globalM x = true
  procs : ∀ c ∈ o.procs, (verifyM c).1 = 0
  last : ∀ i (h : i < o.procs.length), o.procs[i].name = [] ↔ i + 1 = o.procs.length
  nodup : (gnames o ++ pnames o).Nodup
noncomputable def objectM (o : Object) : Bool := @decide (ObjP o) (Classical.propDecidable _)
theorem objectM_true {o : Object} (h : ObjP o) : objectM o = true := by unfold objectM; exact @decide_eq_true _ (_) h
theorem objectM_false {o : Object} (h : ¬ ObjP o) : objectM o = false := by unfold objectM; exact @decide_eq_false _ (_) h

structure Object.Fine (o : Object) : Prop where
  module : o.module.length < 2 ^ 60
  needsL : o.needs.length < 2 ^ 60
  globalsL : o.globals.length < 2 ^ 60
  procsL : o.procs.length < 2 ^ 60
  needs : ∀ x ∈ o.needs, x.module.length < 2 ^ 60
  globals : ∀ x ∈ o.globals, x.name.length < 2 ^ 60
  procs : ∀ c ∈ o.procs, c.Fine

theorem place_mem {l : List (List UInt8)} {t : List UInt8} : placeM l t ≥ 0 ↔ t ∈ l := by
  have := placeM_nonneg (l := l) (t := t)
  rw [← List.contains_iff_mem, ← this]; simp
theorem GL.names {F : AHeap} {v : AV} {l : List (List UInt8)} (h : GL 1 F v (l.map fun s => [St (bs s)]) σ) {τ : AHeap} : View τ v (SLs l) := h.view (by simp) (by simp)

theorem nodup_take {l : List (List UInt8)} (h : l.Nodup) {i : Nat} (hi : i < l.length) : l[i] ∉ l.take i := by
  have e : l = l.take i ++ l[i] :: l.drop (i + 1) := by rw [← List.drop_eq_getElem_cons hi, List.take_append_drop]
  rw [e, List.nodup_append] at h
  intro hm
  exact h.2.2 _ hm _ List.mem_cons_self rfl
theorem ObjP.gnodup {o : Object} (h : ObjP o) : (gnames o).Nodup := (List.nodup_append.1 h.nodup).1

theorem spec_ObjectOK_c (o : Object) (ho : o.Fine) : PureF PP G N.spec_ObjectOK [.ag o.cells] (Bo (objectM o)) := F.spec_ObjectOK_ok (by
  unfold F.spec_ObjectOK
  refine s_boxag rfl rfl (fun b1 hb1 => ?_)
  have e1 : (AHeap.emp.ins b1 (ABlk.cells 0 o.cells)) b1 = some (.cells 0 o.cells) := AHeap.ins_self _ _ _
  have hm := ho.module
  have hn := ho.needsL
  have hg := ho.globalsL
  have hp := ho.procsL
  refine JOIN_cut (fun _ σ => σ = (AHeap.emp.ins b1 (ABlk.cells 0 o.cells)) ∧ nameKM o.module = true ∧ inM o.print 0 4294967295 = true ∧ o.needs.length ≤ 20 ∧ o.globals.length ≤ 100 ∧ 1 ≤ o.procs.length ∧ o.procs.length ≤ 60) (fun kk hkk => ?_) (fun xs σ ⟨hs, q1, q2, q3, q4, q5, q6⟩ => ?_)
  · repeat' first
      | (with_reducible first | refine s_join ?_ | refine s_ift ?_ | refine s_iff ?_ | refine s_igtt ?_ | refine s_igtf ?_ | refine s_igft ?_ | refine s_igff ?_ | refine s_igu ?_ | refine s_pt ?_ | refine s_pf ?_ | refine s_nott ?_ | refine s_notf ?_ | refine s_not ?_ | refine s_lslm ?_ | refine s_lsl ?_ | refine s_lgl ?_ | refine s_lnl ?_ | refine s_lar ?_ | refine s_lst ?_ | refine s_ncp ?_ | refine s_ncr ?_ | refine s_ncf ?_ | refine s_fap ?_ | refine s_far ?_ | refine s_mkfn ?_ | refine s_cvc ?_ | refine s_cvi ?_ | refine s_cvb ?_ | refine s_or ?_ | refine s_and ?_ | refine s_xor ?_ | refine s_andnot ?_)
      | (with_reducible apply PureF.callb (spec_l02Name_c o.module hm) <;> intro h)
      | (with_reducible apply PureF.callb (spec_l01In_c _ _ _) <;> intro h)
      | (with_reducible first | refine BIN_eql_b (fun h => ?_) (fun h => ?_) | refine BIN_neq_b (fun h => ?_) (fun h => ?_) | refine BIN_lss_b (fun h => ?_) (fun h => ?_) | refine BIN_leq_b (fun h => ?_) (fun h => ?_) | refine BIN_gtr_b (fun h => ?_) (fun h => ?_) | refine BIN_geq_b (fun h => ?_) (fun h => ?_) | refine BIN_seql_b (fun h => ?_) (fun h => ?_) | refine BIN_sneq_b (fun h => ?_) (fun h => ?_) | refine s_ldr rfl ?_ | refine s_tup rfl ?_ | refine s_ifb (fun h => ?_) (fun h => ?_) | refine s_shl (by decide) ?_ | refine s_shr (by decide) ?_ | refine s_add (wrap64 (by omega)) ?_ | refine s_sub (wrap64 (by omega)) ?_ | refine s_ixn (by omega) ?_ | refine s_ix0 (by omega) ?_ | refine s_iam (by omega) ?_)
      | refine s_boxag rfl rfl (fun b hb => ?_)
      | (with_reducible first | refine s_ldp (AHeap.ins_self _ _ _) rfl ?_ | refine s_ldp (ins_prev (by assumption)) rfl ?_ | refine s_ldp (by assumption) rfl ?_ | refine s_ldp (ins_old (by assumption) (by assumption)) rfl ?_ | refine s_ldp (ins_other (by assumption) (by assumption)) rfl ?_ | refine s_ldpa (ins_old (by assumption) (by assumption)) rfl ?_ | refine s_ldpa (ins_other (by assumption) (by assumption)) rfl ?_ | refine s_ldpa (by assumption) rfl ?_ | refine s_ldpa (ins_prev (by assumption)) rfl ?_ | refine s_ldpa (AHeap.ins_self _ _ _) rfl ?_ | refine s_st1 (by assumption) rfl (by simp) ?_ | refine s_st1 (AHeap.ins_self _ _ _) rfl (by simp) ?_ | refine s_st1 (ins_prev (by assumption)) rfl (by simp) ?_ | refine s_sta (by assumption) rfl rfl rfl ?_ | refine s_sta (AHeap.ins_self _ _ _) rfl rfl rfl ?_ | refine s_field1 rfl ?_ | refine s_cuts (by omega) (by omega) (by omega) ?_ | refine s_cuts_lo (by omega) (by omega) ?_ | refine s_cuts_hi (by omega) (by omega) ?_)
      | refine ⟨by first | exact s_ldp (AHeap.ins_self _ _ _) rfl s_same | exact s_ldp (ins_prev (by assumption)) rfl s_same | exact s_ldp (by assumption) rfl s_same | exact s_ldr rfl s_same, ?_⟩
      | (with_reducible first | refine s_bneq_tt u_bool ?_ | refine s_bneq_tf u_bool ?_ | refine s_bneq_ft u_bool ?_ | refine s_bneq_ff u_bool ?_ | refine s_beql_tt u_bool ?_ | refine s_beql_tf u_bool ?_ | refine s_beql_ft u_bool ?_ | refine s_beql_ff u_bool ?_)
      | simp only [nth_zero, nth_succ, Nat.zero_add, Nat.reduceAdd, List.length_map, AHeap.ins_ins]
    all_goals first
      | exact hkk _ _ ⟨rfl, by assumption, by assumption, by omega, by omega, by omega, by omega⟩
      | exact Fin.eqv (by rw [objectM_false fun h => by
          have := h.module; have := h.print; have := h.needsN; have := h.globalsN; have := h.procs1; have := h.procsN
          clear hkk e1
          first | omega | simp_all])
  subst hs
  refine s_join ?_
  refine LOOP_intro (fun i => o.needs.length - i) (fun (i : Nat) xs τ => i ≤ o.needs.length ∧ τ = (AHeap.emp.ins b1 (ABlk.cells 0 o.cells)) ∧ nth xs 1 = I i ∧ ∀ k (hk : k < o.needs.length), k < i → needM o.needs[k] = true) (fun i xs τ R ⟨g1, g2, g3, g4⟩ hR => ?_) 0 ⟨by omega, rfl, rfl, fun _ _ h => by omega⟩
  subst g2
  simp only [g3]
  repeat' first
    | (with_reducible first | refine s_join ?_ | refine s_ift ?_ | refine s_iff ?_ | refine s_igtt ?_ | refine s_igtf ?_ | refine s_igft ?_ | refine s_igff ?_ | refine s_igu ?_ | refine s_pt ?_ | refine s_pf ?_ | refine s_nott ?_ | refine s_notf ?_ | refine s_not ?_ | refine s_lslm ?_ | refine s_lsl ?_ | refine s_lgl ?_ | refine s_lnl ?_ | refine s_lar ?_ | refine s_lst ?_ | refine s_ncp ?_ | refine s_ncr ?_ | refine s_ncf ?_ | refine s_fap ?_ | refine s_far ?_ | refine s_mkfn ?_ | refine s_cvc ?_ | refine s_cvi ?_ | refine s_cvb ?_ | refine s_or ?_ | refine s_and ?_ | refine s_xor ?_ | refine s_andnot ?_)
    | refine s_iam (f := Need.cells) (by omega) ?_
    | (with_reducible apply PureF.callb (spec_l02Name_c _ (ho.needs _ (List.getElem_mem _))) <;> intro h)
    | (with_reducible apply PureF.callb (spec_l01In_c _ _ _) <;> intro h)
    | (with_reducible first | refine BIN_eql_b (fun h => ?_) (fun h => ?_) | refine BIN_neq_b (fun h => ?_) (fun h => ?_) | refine BIN_lss_b (fun h => ?_) (fun h => ?_) | refine BIN_leq_b (fun h => ?_) (fun h => ?_) | refine BIN_gtr_b (fun h => ?_) (fun h => ?_) | refine BIN_geq_b (fun h => ?_) (fun h => ?_) | refine BIN_seql_b (fun h => ?_) (fun h => ?_) | refine BIN_sneq_b (fun h => ?_) (fun h => ?_) | refine s_ldr rfl ?_ | refine s_tup rfl ?_ | refine s_ifb (fun h => ?_) (fun h => ?_) | refine s_shl (by decide) ?_ | refine s_shr (by decide) ?_ | refine s_add (wrap64 (by omega)) ?_ | refine s_sub (wrap64 (by omega)) ?_ | refine s_ixn (by omega) ?_ | refine s_ix0 (by omega) ?_ | refine s_iam (by omega) ?_)
    | refine s_boxag rfl rfl (fun b hb => ?_)
    | (with_reducible first | refine s_ldp (AHeap.ins_self _ _ _) rfl ?_ | refine s_ldp (ins_prev (by assumption)) rfl ?_ | refine s_ldp (by assumption) rfl ?_ | refine s_ldp (ins_old (by assumption) (by assumption)) rfl ?_ | refine s_ldp (ins_other (by assumption) (by assumption)) rfl ?_ | refine s_ldpa (ins_old (by assumption) (by assumption)) rfl ?_ | refine s_ldpa (ins_other (by assumption) (by assumption)) rfl ?_ | refine s_ldpa (by assumption) rfl ?_ | refine s_ldpa (ins_prev (by assumption)) rfl ?_ | refine s_ldpa (AHeap.ins_self _ _ _) rfl ?_ | refine s_st1 (by assumption) rfl (by simp) ?_ | refine s_st1 (AHeap.ins_self _ _ _) rfl (by simp) ?_ | refine s_st1 (ins_prev (by assumption)) rfl (by simp) ?_ | refine s_sta (by assumption) rfl rfl rfl ?_ | refine s_sta (AHeap.ins_self _ _ _) rfl rfl rfl ?_ | refine s_field1 rfl ?_ | refine s_cuts (by omega) (by omega) (by omega) ?_ | refine s_cuts_lo (by omega) (by omega) ?_ | refine s_cuts_hi (by omega) (by omega) ?_)
    | refine ⟨by first | exact s_ldp (AHeap.ins_self _ _ _) rfl s_same | exact s_ldp (ins_prev (by assumption)) rfl s_same | exact s_ldp (by assumption) rfl s_same | exact s_ldr rfl s_same, ?_⟩
    | (with_reducible first | refine s_bneq_tt u_bool ?_ | refine s_bneq_tf u_bool ?_ | refine s_bneq_ft u_bool ?_ | refine s_bneq_ff u_bool ?_ | refine s_beql_tt u_bool ?_ | refine s_beql_tf u_bool ?_ | refine s_beql_ft u_bool ?_ | refine s_beql_ff u_bool ?_)
    | simp only [nth_zero, nth_succ, Nat.zero_add, Nat.reduceAdd, List.length_map, AHeap.ins_ins]
  · refine hR (i + 1) _ _ (by omega) ⟨by omega, rfl, by simp, fun k hk hk1 => ?_⟩
    by_cases hki : k = i
    · subst hki; simp only [needM, Bool.and_eq_true]; exact ⟨by assumption, by assumption⟩
    · exact g4 k hk (by omega)
  · exact Fin.eqv (by rw [objectM_false fun hP => by
      have := hP.needs _ (List.getElem_mem (show i < o.needs.length by omega))
      simp only [needM, Bool.and_eq_true] at this
      rw [h] at this; simp at this])
  · exact Fin.eqv (by rw [objectM_false fun hP => by
      have := hP.needs _ (List.getElem_mem (show i < o.needs.length by omega))
      simp only [needM, Bool.and_eq_true] at this
      rw [h] at this; simp at this])
  have hneeds : ∀ x ∈ o.needs, needM x = true := fun x hx => by
    obtain ⟨k, hk, rfl⟩ := List.getElem_of_mem hx
    exact g4 k hk (by omega)
  clear hR g4 g3 g1 R
  refine s_litnil ?_
  -- the globals
  refine s_join ?_
  refine LOOP_intro (fun i => o.globals.length - i) (fun (i : Nat) ys τ => i ≤ o.globals.length ∧ nth ys 2 = I i ∧ (∀ k (hk : k < o.globals.length), k < i → globalM o.globals[k] = true) ∧ ((gnames o).take i).Nodup ∧ GL 1 (AHeap.emp.ins b1 (ABlk.cells 0 o.cells)) (nth ys 1) (((gnames o).take i).map fun s => [St (bs s)]) τ) (fun i ys τ R ⟨g1, g2, g3, g4, g5⟩ hR => ?_) 0 ⟨by omega, rfl, fun _ _ h => by omega, by simp, GL.nil (AHeap.le.refl _)⟩
  have e2 := g5.le _ _ e1
  simp only [g2]
  refine s_join ?_
  repeat' first
    | (with_reducible first | refine s_gjoin ?_ | refine s_ift ?_ | refine s_iff ?_ | refine s_igtt ?_ | refine s_igtf ?_ | refine s_igft ?_ | refine s_igff ?_ | refine s_igu ?_ | refine s_pt ?_ | refine s_pf ?_ | refine s_nott ?_ | refine s_notf ?_ | refine s_not ?_ | refine s_lslm ?_ | refine s_lsl ?_ | refine s_lgl ?_ | refine s_lnl ?_ | refine s_lar ?_ | refine s_lst ?_ | refine s_ncp ?_ | refine s_ncr ?_ | refine s_ncf ?_ | refine s_fap ?_ | refine s_far ?_ | refine s_mkfn ?_ | refine s_cvc ?_ | refine s_cvi ?_ | refine s_cvb ?_ | refine s_or ?_ | refine s_and ?_ | refine s_xor ?_ | refine s_andnot ?_)
    | (with_reducible first | refine BIN_eql_b (fun h => ?_) (fun h => ?_) | refine BIN_neq_b (fun h => ?_) (fun h => ?_) | refine BIN_lss_b (fun h => ?_) (fun h => ?_) | refine BIN_leq_b (fun h => ?_) (fun h => ?_) | refine BIN_gtr_b (fun h => ?_) (fun h => ?_) | refine BIN_geq_b (fun h => ?_) (fun h => ?_) | refine BIN_seql_b (fun h => ?_) (fun h => ?_) | refine BIN_sneq_b (fun h => ?_) (fun h => ?_) | refine s_ldr rfl ?_ | refine s_tup rfl ?_ | refine s_ifb (fun h => ?_) (fun h => ?_) | refine s_shl (by decide) ?_ | refine s_shr (by decide) ?_ | refine s_add (wrap64 (by omega)) ?_ | refine s_sub (wrap64 (by omega)) ?_ | refine s_ixn (by omega) ?_ | refine s_ix0 (by omega) ?_ | refine s_iam (by omega) ?_)
    | refine s_boxag rfl rfl (fun b hb => ?_)
    | (with_reducible first | refine s_ldp (AHeap.ins_self _ _ _) rfl ?_ | refine s_ldp (ins_prev (by assumption)) rfl ?_ | refine s_ldp (by assumption) rfl ?_ | refine s_ldp (ins_old (by assumption) (by assumption)) rfl ?_ | refine s_ldp (ins_other (by assumption) (by assumption)) rfl ?_ | refine s_ldpa (ins_old (by assumption) (by assumption)) rfl ?_ | refine s_ldpa (ins_other (by assumption) (by assumption)) rfl ?_ | refine s_ldpa (by assumption) rfl ?_ | refine s_ldpa (ins_prev (by assumption)) rfl ?_ | refine s_ldpa (AHeap.ins_self _ _ _) rfl ?_ | refine s_st1 (by assumption) rfl (by simp) ?_ | refine s_st1 (AHeap.ins_self _ _ _) rfl (by simp) ?_ | refine s_st1 (ins_prev (by assumption)) rfl (by simp) ?_ | refine s_sta (by assumption) rfl rfl rfl ?_ | refine s_sta (AHeap.ins_self _ _ _) rfl rfl rfl ?_ | refine s_field1 rfl ?_ | refine s_cuts (by omega) (by omega) (by omega) ?_ | refine s_cuts_lo (by omega) (by omega) ?_ | refine s_cuts_hi (by omega) (by omega) ?_)
    | refine ⟨by first | exact s_ldp (AHeap.ins_self _ _ _) rfl s_same | exact s_ldp (ins_prev (by assumption)) rfl s_same | exact s_ldp (by assumption) rfl s_same | exact s_ldr rfl s_same, ?_⟩
    | (with_reducible first | refine s_bneq_tt u_bool ?_ | refine s_bneq_tf u_bool ?_ | refine s_bneq_ft u_bool ?_ | refine s_bneq_ff u_bool ?_ | refine s_beql_tt u_bool ?_ | refine s_beql_tf u_bool ?_ | refine s_beql_ft u_bool ?_ | refine s_beql_ff u_bool ?_)
    | simp only [nth_zero, nth_succ, Nat.zero_add, Nat.reduceAdd, List.length_map, AHeap.ins_ins]
  · have hi : i < o.globals.length := by omega
    refine s_join ?_
    repeat' first
      | (with_reducible first | refine s_gjoin ?_ | refine s_ift ?_ | refine s_iff ?_ | refine s_igtt ?_ | refine s_igtf ?_ | refine s_igft ?_ | refine s_igff ?_ | refine s_igu ?_ | refine s_pt ?_ | refine s_pf ?_ | refine s_nott ?_ | refine s_notf ?_ | refine s_not ?_ | refine s_lslm ?_ | refine s_lsl ?_ | refine s_lgl ?_ | refine s_lnl ?_ | refine s_lar ?_ | refine s_lst ?_ | refine s_ncp ?_ | refine s_ncr ?_ | refine s_ncf ?_ | refine s_fap ?_ | refine s_far ?_ | refine s_mkfn ?_ | refine s_cvc ?_ | refine s_cvi ?_ | refine s_cvb ?_ | refine s_or ?_ | refine s_and ?_ | refine s_xor ?_ | refine s_andnot ?_)
      | refine s_iam (f := Global.cells) (by omega) ?_
      | refine s_lda rfl ?_
      | (with_reducible first | refine BIN_eql_b (fun h => ?_) (fun h => ?_) | refine BIN_neq_b (fun h => ?_) (fun h => ?_) | refine BIN_lss_b (fun h => ?_) (fun h => ?_) | refine BIN_leq_b (fun h => ?_) (fun h => ?_) | refine BIN_gtr_b (fun h => ?_) (fun h => ?_) | refine BIN_geq_b (fun h => ?_) (fun h => ?_) | refine BIN_seql_b (fun h => ?_) (fun h => ?_) | refine BIN_sneq_b (fun h => ?_) (fun h => ?_) | refine s_ldr rfl ?_ | refine s_tup rfl ?_ | refine s_ifb (fun h => ?_) (fun h => ?_) | refine s_shl (by decide) ?_ | refine s_shr (by decide) ?_ | refine s_add (wrap64 (by omega)) ?_ | refine s_sub (wrap64 (by omega)) ?_ | refine s_ixn (by omega) ?_ | refine s_ix0 (by omega) ?_ | refine s_iam (by omega) ?_)
      | refine s_boxag rfl rfl (fun b hb => ?_)
      | (with_reducible first | refine s_ldp (AHeap.ins_self _ _ _) rfl ?_ | refine s_ldp (ins_prev (by assumption)) rfl ?_ | refine s_ldp (by assumption) rfl ?_ | refine s_ldp (ins_old (by assumption) (by assumption)) rfl ?_ | refine s_ldp (ins_other (by assumption) (by assumption)) rfl ?_ | refine s_ldpa (ins_old (by assumption) (by assumption)) rfl ?_ | refine s_ldpa (ins_other (by assumption) (by assumption)) rfl ?_ | refine s_ldpa (by assumption) rfl ?_ | refine s_ldpa (ins_prev (by assumption)) rfl ?_ | refine s_ldpa (AHeap.ins_self _ _ _) rfl ?_ | refine s_st1 (by assumption) rfl (by simp) ?_ | refine s_st1 (AHeap.ins_self _ _ _) rfl (by simp) ?_ | refine s_st1 (ins_prev (by assumption)) rfl (by simp) ?_ | refine s_sta (by assumption) rfl rfl rfl ?_ | refine s_sta (AHeap.ins_self _ _ _) rfl rfl rfl ?_ | refine s_field1 rfl ?_ | refine s_cuts (by omega) (by omega) (by omega) ?_ | refine s_cuts_lo (by omega) (by omega) ?_ | refine s_cuts_hi (by omega) (by omega) ?_)
      | refine ⟨by first | exact s_ldp (AHeap.ins_self _ _ _) rfl s_same | exact s_ldp (ins_prev (by assumption)) rfl s_same | exact s_ldp (by assumption) rfl s_same | exact s_ldr rfl s_same, ?_⟩
      | (with_reducible first | refine s_bneq_tt u_bool ?_ | refine s_bneq_tf u_bool ?_ | refine s_bneq_ft u_bool ?_ | refine s_bneq_ff u_bool ?_ | refine s_beql_tt u_bool ?_ | refine s_beql_tf u_bool ?_ | refine s_beql_ft u_bool ?_ | refine s_beql_ff u_bool ?_)
      | simp only [nth_zero, nth_succ, Nat.zero_add, Nat.reduceAdd, List.length_map, AHeap.ins_ins]
    refine s_new fun bx hbx => ?_
    refine s_sta (AHeap.ins_self _ _ _) rfl rfl rfl ?_
    rw [AHeap.ins_ins]
    have k1 := ins_old (y := ABlk.cells 0 o.globals[i].cells) e2 hbx
    have k3 := AHeap.ins_self τ bx (ABlk.cells 0 o.globals[i].cells)
    have g6 := g5.new (x := ABlk.cells 0 o.globals[i].cells) hbx
    generalize hτ : τ.ins bx (ABlk.cells 0 o.globals[i].cells) = τ3 at *
    have hgi : (gnames o)[i]'(by simpa using hi) = o.globals[i].name := by simp
    have htake : (gnames o).take (i + 1) = (gnames o).take i ++ [o.globals[i].name] := by rw [List.take_add_one, List.getElem?_eq_getElem (by simpa using hi), hgi]; rfl
    refine JOIN_cut (fun _ σ => σ = τ3 ∧ globalM o.globals[i] = true ∧ o.globals[i].name ∉ (gnames o).take i) (fun kk hkk => ?_) (fun zs τ4 ⟨hτ4, c1, c2⟩ => ?_)
    · repeat' first
        | (with_reducible first | refine s_join ?_ | refine s_ift ?_ | refine s_iff ?_ | refine s_igtt ?_ | refine s_igtf ?_ | refine s_igft ?_ | refine s_igff ?_ | refine s_igu ?_ | refine s_pt ?_ | refine s_pf ?_ | refine s_nott ?_ | refine s_notf ?_ | refine s_not ?_ | refine s_lslm ?_ | refine s_lsl ?_ | refine s_lgl ?_ | refine s_lnl ?_ | refine s_lar ?_ | refine s_lst ?_ | refine s_ncp ?_ | refine s_ncr ?_ | refine s_ncf ?_ | refine s_fap ?_ | refine s_far ?_ | refine s_mkfn ?_ | refine s_cvc ?_ | refine s_cvi ?_ | refine s_cvb ?_ | refine s_or ?_ | refine s_and ?_ | refine s_xor ?_ | refine s_andnot ?_)
        | (with_reducible apply PureF.callb (spec_l02Name_c _ (ho.globals _ (List.getElem_mem _))) <;> intro h)
        | (with_reducible apply PureF.callb (spec_l01In_c _ _ _) <;> intro h)
        | refine (spec_l01Place_c ((gnames o).take i) o.globals[i].name (by simp; omega)).borrow (.cons g6.names (.cons (.refl _) .nil)) (.sc _) ?_
        | (with_reducible first | refine BIN_eql_b (fun h => ?_) (fun h => ?_) | refine BIN_neq_b (fun h => ?_) (fun h => ?_) | refine BIN_lss_b (fun h => ?_) (fun h => ?_) | refine BIN_leq_b (fun h => ?_) (fun h => ?_) | refine BIN_gtr_b (fun h => ?_) (fun h => ?_) | refine BIN_geq_b (fun h => ?_) (fun h => ?_) | refine BIN_seql_b (fun h => ?_) (fun h => ?_) | refine BIN_sneq_b (fun h => ?_) (fun h => ?_) | refine s_ldr rfl ?_ | refine s_tup rfl ?_ | refine s_ifb (fun h => ?_) (fun h => ?_) | refine s_shl (by decide) ?_ | refine s_shr (by decide) ?_ | refine s_add (wrap64 (by omega)) ?_ | refine s_sub (wrap64 (by omega)) ?_ | refine s_ixn (by omega) ?_ | refine s_ix0 (by omega) ?_ | refine s_iam (by omega) ?_)
        | refine s_boxag rfl rfl (fun b hb => ?_)
        | (with_reducible first | refine s_ldp (AHeap.ins_self _ _ _) rfl ?_ | refine s_ldp (ins_prev (by assumption)) rfl ?_ | refine s_ldp (by assumption) rfl ?_ | refine s_ldp (ins_old (by assumption) (by assumption)) rfl ?_ | refine s_ldp (ins_other (by assumption) (by assumption)) rfl ?_ | refine s_ldpa (ins_old (by assumption) (by assumption)) rfl ?_ | refine s_ldpa (ins_other (by assumption) (by assumption)) rfl ?_ | refine s_ldpa (by assumption) rfl ?_ | refine s_ldpa (ins_prev (by assumption)) rfl ?_ | refine s_ldpa (AHeap.ins_self _ _ _) rfl ?_ | refine s_st1 (by assumption) rfl (by simp) ?_ | refine s_st1 (AHeap.ins_self _ _ _) rfl (by simp) ?_ | refine s_st1 (ins_prev (by assumption)) rfl (by simp) ?_ | refine s_sta (by assumption) rfl rfl rfl ?_ | refine s_sta (AHeap.ins_self _ _ _) rfl rfl rfl ?_ | refine s_field1 rfl ?_ | refine s_cuts (by omega) (by omega) (by omega) ?_ | refine s_cuts_lo (by omega) (by omega) ?_ | refine s_cuts_hi (by omega) (by omega) ?_)
        | refine ⟨by first | exact s_ldp (AHeap.ins_self _ _ _) rfl s_same | exact s_ldp (ins_prev (by assumption)) rfl s_same | exact s_ldp (by assumption) rfl s_same | exact s_ldr rfl s_same, ?_⟩
        | (with_reducible first | refine s_bneq_tt u_bool ?_ | refine s_bneq_tf u_bool ?_ | refine s_bneq_ft u_bool ?_ | refine s_bneq_ff u_bool ?_ | refine s_beql_tt u_bool ?_ | refine s_beql_tf u_bool ?_ | refine s_beql_ft u_bool ?_ | refine s_beql_ff u_bool ?_)
        | simp only [nth_zero, nth_succ, Nat.zero_add, Nat.reduceAdd, List.length_map, AHeap.ins_ins]
      · exact Fin.eqv (by rw [objectM_false fun hP => by
          have := nodup_take hP.gnodup (show i < (gnames o).length by simpa using hi)
          rw [hgi] at this
          exact this (place_mem.1 h)])
      · refine hkk _ _ ⟨rfl, ?_, fun hm => h (place_mem.2 hm)⟩
        simp only [globalM, Bool.and_eq_true]; exact ⟨by assumption, by assumption⟩
      all_goals
        exact Fin.eqv (by rw [objectM_false fun hP => by
          have := hP.globals _ (List.getElem_mem hi)
          simp only [globalM, Bool.and_eq_true] at this
          rw [h] at this; simp at this])
    subst hτ4
    repeat' first
      | (with_reducible first | refine s_gjoin ?_ | refine s_ift ?_ | refine s_iff ?_ | refine s_igtt ?_ | refine s_igtf ?_ | refine s_igft ?_ | refine s_igff ?_ | refine s_igu ?_ | refine s_pt ?_ | refine s_pf ?_ | refine s_nott ?_ | refine s_notf ?_ | refine s_not ?_ | refine s_lslm ?_ | refine s_lsl ?_ | refine s_lgl ?_ | refine s_lnl ?_ | refine s_lar ?_ | refine s_lst ?_ | refine s_ncp ?_ | refine s_ncr ?_ | refine s_ncf ?_ | refine s_fap ?_ | refine s_far ?_ | refine s_mkfn ?_ | refine s_cvc ?_ | refine s_cvi ?_ | refine s_cvb ?_ | refine s_or ?_ | refine s_and ?_ | refine s_xor ?_ | refine s_andnot ?_)
      | (with_reducible first | refine BIN_eql_b (fun h => ?_) (fun h => ?_) | refine BIN_neq_b (fun h => ?_) (fun h => ?_) | refine BIN_lss_b (fun h => ?_) (fun h => ?_) | refine BIN_leq_b (fun h => ?_) (fun h => ?_) | refine BIN_gtr_b (fun h => ?_) (fun h => ?_) | refine BIN_geq_b (fun h => ?_) (fun h => ?_) | refine BIN_seql_b (fun h => ?_) (fun h => ?_) | refine BIN_sneq_b (fun h => ?_) (fun h => ?_) | refine s_ldr rfl ?_ | refine s_tup rfl ?_ | refine s_ifb (fun h => ?_) (fun h => ?_) | refine s_shl (by decide) ?_ | refine s_shr (by decide) ?_ | refine s_add (wrap64 (by omega)) ?_ | refine s_sub (wrap64 (by omega)) ?_ | refine s_ixn (by omega) ?_ | refine s_ix0 (by omega) ?_ | refine s_iam (by omega) ?_)
      | refine s_boxag rfl rfl (fun b hb => ?_)
      | (with_reducible first | refine s_ldp (AHeap.ins_self _ _ _) rfl ?_ | refine s_ldp (ins_prev (by assumption)) rfl ?_ | refine s_ldp (by assumption) rfl ?_ | refine s_ldp (ins_old (by assumption) (by assumption)) rfl ?_ | refine s_ldp (ins_other (by assumption) (by assumption)) rfl ?_ | refine s_ldpa (ins_old (by assumption) (by assumption)) rfl ?_ | refine s_ldpa (ins_other (by assumption) (by assumption)) rfl ?_ | refine s_ldpa (by assumption) rfl ?_ | refine s_ldpa (ins_prev (by assumption)) rfl ?_ | refine s_ldpa (AHeap.ins_self _ _ _) rfl ?_ | refine s_st1 (by assumption) rfl (by simp) ?_ | refine s_st1 (AHeap.ins_self _ _ _) rfl (by simp) ?_ | refine s_st1 (ins_prev (by assumption)) rfl (by simp) ?_ | refine s_sta (by assumption) rfl rfl rfl ?_ | refine s_sta (AHeap.ins_self _ _ _) rfl rfl rfl ?_ | refine s_field1 rfl ?_ | refine s_cuts (by omega) (by omega) (by omega) ?_ | refine s_cuts_lo (by omega) (by omega) ?_ | refine s_cuts_hi (by omega) (by omega) ?_)
      | refine ⟨by first | exact s_ldp (AHeap.ins_self _ _ _) rfl s_same | exact s_ldp (ins_prev (by assumption)) rfl s_same | exact s_ldp (by assumption) rfl s_same | exact s_ldr rfl s_same, ?_⟩
      | (with_reducible first | refine s_bneq_tt u_bool ?_ | refine s_bneq_tf u_bool ?_ | refine s_bneq_ft u_bool ?_ | refine s_bneq_ff u_bool ?_ | refine s_beql_tt u_bool ?_ | refine s_beql_tf u_bool ?_ | refine s_beql_ft u_bool ?_ | refine s_beql_ff u_bool ?_)
      | simp only [nth_zero, nth_succ, Nat.zero_add, Nat.reduceAdd, List.length_map, AHeap.ins_ins]
    refine s_lit rfl fun b2 hb2 => ?_
    refine (g6.new hb2).appl (by omega) (by simp; omega) (by simp; omega) fun v' σ' hg => ?_
    repeat' first
      | (with_reducible first | refine s_gjoin ?_ | refine s_ift ?_ | refine s_iff ?_ | refine s_igtt ?_ | refine s_igtf ?_ | refine s_igft ?_ | refine s_igff ?_ | refine s_igu ?_ | refine s_pt ?_ | refine s_pf ?_ | refine s_nott ?_ | refine s_notf ?_ | refine s_not ?_ | refine s_lslm ?_ | refine s_lsl ?_ | refine s_lgl ?_ | refine s_lnl ?_ | refine s_lar ?_ | refine s_lst ?_ | refine s_ncp ?_ | refine s_ncr ?_ | refine s_ncf ?_ | refine s_fap ?_ | refine s_far ?_ | refine s_mkfn ?_ | refine s_cvc ?_ | refine s_cvi ?_ | refine s_cvb ?_ | refine s_or ?_ | refine s_and ?_ | refine s_xor ?_ | refine s_andnot ?_)
      | (with_reducible first | refine BIN_eql_b (fun h => ?_) (fun h => ?_) | refine BIN_neq_b (fun h => ?_) (fun h => ?_) | refine BIN_lss_b (fun h => ?_) (fun h => ?_) | refine BIN_leq_b (fun h => ?_) (fun h => ?_) | refine BIN_gtr_b (fun h => ?_) (fun h => ?_) | refine BIN_geq_b (fun h => ?_) (fun h => ?_) | refine BIN_seql_b (fun h => ?_) (fun h => ?_) | refine BIN_sneq_b (fun h => ?_) (fun h => ?_) | refine s_ldr rfl ?_ | refine s_tup rfl ?_ | refine s_ifb (fun h => ?_) (fun h => ?_) | refine s_shl (by decide) ?_ | refine s_shr (by decide) ?_ | refine s_add (wrap64 (by omega)) ?_ | refine s_sub (wrap64 (by omega)) ?_ | refine s_ixn (by omega) ?_ | refine s_ix0 (by omega) ?_ | refine s_iam (by omega) ?_)
      | refine s_boxag rfl rfl (fun b hb => ?_)
      | (with_reducible first | refine s_ldp (AHeap.ins_self _ _ _) rfl ?_ | refine s_ldp (ins_prev (by assumption)) rfl ?_ | refine s_ldp (by assumption) rfl ?_ | refine s_ldp (ins_old (by assumption) (by assumption)) rfl ?_ | refine s_ldp (ins_other (by assumption) (by assumption)) rfl ?_ | refine s_ldpa (ins_old (by assumption) (by assumption)) rfl ?_ | refine s_ldpa (ins_other (by assumption) (by assumption)) rfl ?_ | refine s_ldpa (by assumption) rfl ?_ | refine s_ldpa (ins_prev (by assumption)) rfl ?_ | refine s_ldpa (AHeap.ins_self _ _ _) rfl ?_ | refine s_st1 (by assumption) rfl (by simp) ?_ | refine s_st1 (AHeap.ins_self _ _ _) rfl (by simp) ?_ | refine s_st1 (ins_prev (by assumption)) rfl (by simp) ?_ | refine s_sta (by assumption) rfl rfl rfl ?_ | refine s_sta (AHeap.ins_self _ _ _) rfl rfl rfl ?_ | refine s_field1 rfl ?_ | refine s_cuts (by omega) (by omega) (by omega) ?_ | refine s_cuts_lo (by omega) (by omega) ?_ | refine s_cuts_hi (by omega) (by omega) ?_)
      | refine ⟨by first | exact s_ldp (AHeap.ins_self _ _ _) rfl s_same | exact s_ldp (ins_prev (by assumption)) rfl s_same | exact s_ldp (by assumption) rfl s_same | exact s_ldr rfl s_same, ?_⟩
      | (with_reducible first | refine s_bneq_tt u_bool ?_ | refine s_bneq_tf u_bool ?_ | refine s_bneq_ft u_bool ?_ | refine s_bneq_ff u_bool ?_ | refine s_beql_tt u_bool ?_ | refine s_beql_tf u_bool ?_ | refine s_beql_ft u_bool ?_ | refine s_beql_ff u_bool ?_)
      | simp only [nth_zero, nth_succ, Nat.zero_add, Nat.reduceAdd, List.length_map, AHeap.ins_ins]
    refine hR (i + 1) _ _ (by omega) ⟨by omega, by simp, fun k hk hk1 => ?_, ?_, ?_⟩
    · by_cases hki : k = i
      · subst hki; exact c1
      · exact g3 k hk (by omega)
    · rw [htake, List.nodup_append]
      exact ⟨g4, by simp, fun a ha b hb => by simp at hb; subst hb; exact fun e => c2 (e ▸ ha)⟩
    · rw [htake]; simpa using hg
  have hin : i = o.globals.length := by omega
  have hglobals : ∀ x ∈ o.globals, globalM x = true := fun x hx => by
    obtain ⟨k, hk, rfl⟩ := List.getElem_of_mem hx
    exact g3 k hk (by omega)
  have htk : (gnames o).take i = gnames o := by rw [hin]; exact List.take_of_length_le (by simp)
  rw [htk] at g4 g5
  clear hR g3 g2 g1 R e2 htk
  -- the procedures
  refine s_join ?_
  refine LOOP_intro (fun i => o.procs.length - i) (fun (i : Nat) zs τ => i ≤ o.procs.length ∧ nth zs 2 = I i ∧ (∀ k (hk : k < o.procs.length), k < i → (verifyM o.procs[k]).1 = 0 ∧ (o.procs[k].name = [] ↔ k + 1 = o.procs.length)) ∧ (gnames o ++ (pnames o).take i).Nodup ∧ GL 1 (AHeap.emp.ins b1 (ABlk.cells 0 o.cells)) (nth zs 1) ((gnames o ++ (pnames o).take i).map fun s => [St (bs s)]) τ) (fun i zs τ R ⟨g1, g2, g3, g4, g5⟩ hR => ?_) 0 ⟨by omega, rfl, fun _ _ h => by omega, by simpa using g4, by simpa using g5⟩
  have e2 := g5.le _ _ e1
  simp only [g2]
  refine s_join ?_
  repeat' first
    | (with_reducible first | refine s_gjoin ?_ | refine s_ift ?_ | refine s_iff ?_ | refine s_igtt ?_ | refine s_igtf ?_ | refine s_igft ?_ | refine s_igff ?_ | refine s_igu ?_ | refine s_pt ?_ | refine s_pf ?_ | refine s_nott ?_ | refine s_notf ?_ | refine s_not ?_ | refine s_lslm ?_ | refine s_lsl ?_ | refine s_lgl ?_ | refine s_lnl ?_ | refine s_lar ?_ | refine s_lst ?_ | refine s_ncp ?_ | refine s_ncr ?_ | refine s_ncf ?_ | refine s_fap ?_ | refine s_far ?_ | refine s_mkfn ?_ | refine s_cvc ?_ | refine s_cvi ?_ | refine s_cvb ?_ | refine s_or ?_ | refine s_and ?_ | refine s_xor ?_ | refine s_andnot ?_)
    | (with_reducible first | refine BIN_eql_b (fun h => ?_) (fun h => ?_) | refine BIN_neq_b (fun h => ?_) (fun h => ?_) | refine BIN_lss_b (fun h => ?_) (fun h => ?_) | refine BIN_leq_b (fun h => ?_) (fun h => ?_) | refine BIN_gtr_b (fun h => ?_) (fun h => ?_) | refine BIN_geq_b (fun h => ?_) (fun h => ?_) | refine BIN_seql_b (fun h => ?_) (fun h => ?_) | refine BIN_sneq_b (fun h => ?_) (fun h => ?_) | refine s_ldr rfl ?_ | refine s_tup rfl ?_ | refine s_ifb (fun h => ?_) (fun h => ?_) | refine s_shl (by decide) ?_ | refine s_shr (by decide) ?_ | refine s_add (wrap64 (by omega)) ?_ | refine s_sub (wrap64 (by omega)) ?_ | refine s_ixn (by omega) ?_ | refine s_ix0 (by omega) ?_ | refine s_iam (by omega) ?_)
    | refine s_boxag rfl rfl (fun b hb => ?_)
    | (with_reducible first | refine s_ldp (AHeap.ins_self _ _ _) rfl ?_ | refine s_ldp (ins_prev (by assumption)) rfl ?_ | refine s_ldp (by assumption) rfl ?_ | refine s_ldp (ins_old (by assumption) (by assumption)) rfl ?_ | refine s_ldp (ins_other (by assumption) (by assumption)) rfl ?_ | refine s_ldpa (ins_old (by assumption) (by assumption)) rfl ?_ | refine s_ldpa (ins_other (by assumption) (by assumption)) rfl ?_ | refine s_ldpa (by assumption) rfl ?_ | refine s_ldpa (ins_prev (by assumption)) rfl ?_ | refine s_ldpa (AHeap.ins_self _ _ _) rfl ?_ | refine s_st1 (by assumption) rfl (by simp) ?_ | refine s_st1 (AHeap.ins_self _ _ _) rfl (by simp) ?_ | refine s_st1 (ins_prev (by assumption)) rfl (by simp) ?_ | refine s_sta (by assumption) rfl rfl rfl ?_ | refine s_sta (AHeap.ins_self _ _ _) rfl rfl rfl ?_ | refine s_field1 rfl ?_ | refine s_cuts (by omega) (by omega) (by omega) ?_ | refine s_cuts_lo (by omega) (by omega) ?_ | refine s_cuts_hi (by omega) (by omega) ?_)
    | refine ⟨by first | exact s_ldp (AHeap.ins_self _ _ _) rfl s_same | exact s_ldp (ins_prev (by assumption)) rfl s_same | exact s_ldp (by assumption) rfl s_same | exact s_ldr rfl s_same, ?_⟩
    | (with_reducible first | refine s_bneq_tt u_bool ?_ | refine s_bneq_tf u_bool ?_ | refine s_bneq_ft u_bool ?_ | refine s_bneq_ff u_bool ?_ | refine s_beql_tt u_bool ?_ | refine s_beql_tf u_bool ?_ | refine s_beql_ft u_bool ?_ | refine s_beql_ff u_bool ?_)
    | simp only [nth_zero, nth_succ, Nat.zero_add, Nat.reduceAdd, List.length_map, AHeap.ins_ins]
  · have hi : i < o.procs.length := by omega
    refine s_join ?_
    repeat' first
      | (with_reducible first | refine s_gjoin ?_ | refine s_ift ?_ | refine s_iff ?_ | refine s_igtt ?_ | refine s_igtf ?_ | refine s_igft ?_ | refine s_igff ?_ | refine s_igu ?_ | refine s_pt ?_ | refine s_pf ?_ | refine s_nott ?_ | refine s_notf ?_ | refine s_not ?_ | refine s_lslm ?_ | refine s_lsl ?_ | refine s_lgl ?_ | refine s_lnl ?_ | refine s_lar ?_ | refine s_lst ?_ | refine s_ncp ?_ | refine s_ncr ?_ | refine s_ncf ?_ | refine s_fap ?_ | refine s_far ?_ | refine s_mkfn ?_ | refine s_cvc ?_ | refine s_cvi ?_ | refine s_cvb ?_ | refine s_or ?_ | refine s_and ?_ | refine s_xor ?_ | refine s_andnot ?_)
      | refine s_iam (f := Code.av) (by omega) ?_
      | refine s_lda rfl ?_
      | (with_reducible first | refine BIN_eql_b (fun h => ?_) (fun h => ?_) | refine BIN_neq_b (fun h => ?_) (fun h => ?_) | refine BIN_lss_b (fun h => ?_) (fun h => ?_) | refine BIN_leq_b (fun h => ?_) (fun h => ?_) | refine BIN_gtr_b (fun h => ?_) (fun h => ?_) | refine BIN_geq_b (fun h => ?_) (fun h => ?_) | refine BIN_seql_b (fun h => ?_) (fun h => ?_) | refine BIN_sneq_b (fun h => ?_) (fun h => ?_) | refine s_ldr rfl ?_ | refine s_tup rfl ?_ | refine s_ifb (fun h => ?_) (fun h => ?_) | refine s_shl (by decide) ?_ | refine s_shr (by decide) ?_ | refine s_add (wrap64 (by omega)) ?_ | refine s_sub (wrap64 (by omega)) ?_ | refine s_ixn (by omega) ?_ | refine s_ix0 (by omega) ?_ | refine s_iam (by omega) ?_)
      | refine s_boxag rfl rfl (fun b hb => ?_)
      | (with_reducible first | refine s_ldp (AHeap.ins_self _ _ _) rfl ?_ | refine s_ldp (ins_prev (by assumption)) rfl ?_ | refine s_ldp (by assumption) rfl ?_ | refine s_ldp (ins_old (by assumption) (by assumption)) rfl ?_ | refine s_ldp (ins_other (by assumption) (by assumption)) rfl ?_ | refine s_ldpa (ins_old (by assumption) (by assumption)) rfl ?_ | refine s_ldpa (ins_other (by assumption) (by assumption)) rfl ?_ | refine s_ldpa (by assumption) rfl ?_ | refine s_ldpa (ins_prev (by assumption)) rfl ?_ | refine s_ldpa (AHeap.ins_self _ _ _) rfl ?_ | refine s_st1 (by assumption) rfl (by simp) ?_ | refine s_st1 (AHeap.ins_self _ _ _) rfl (by simp) ?_ | refine s_st1 (ins_prev (by assumption)) rfl (by simp) ?_ | refine s_sta (by assumption) rfl rfl rfl ?_ | refine s_sta (AHeap.ins_self _ _ _) rfl rfl rfl ?_ | refine s_field1 rfl ?_ | refine s_cuts (by omega) (by omega) (by omega) ?_ | refine s_cuts_lo (by omega) (by omega) ?_ | refine s_cuts_hi (by omega) (by omega) ?_)
      | refine ⟨by first | exact s_ldp (AHeap.ins_self _ _ _) rfl s_same | exact s_ldp (ins_prev (by assumption)) rfl s_same | exact s_ldp (by assumption) rfl s_same | exact s_ldr rfl s_same, ?_⟩
      | (with_reducible first | refine s_bneq_tt u_bool ?_ | refine s_bneq_tf u_bool ?_ | refine s_bneq_ft u_bool ?_ | refine s_bneq_ff u_bool ?_ | refine s_beql_tt u_bool ?_ | refine s_beql_tf u_bool ?_ | refine s_beql_ft u_bool ?_ | refine s_beql_ff u_bool ?_)
      | simp only [nth_zero, nth_succ, Nat.zero_add, Nat.reduceAdd, List.length_map, AHeap.ins_ins]
    refine s_new fun bx hbx => ?_
    refine s_sta (AHeap.ins_self _ _ _) rfl rfl rfl ?_
    rw [AHeap.ins_ins]
    have k1 := ins_old (y := ABlk.cells 0 o.procs[i].av) e2 hbx
    have k3 := AHeap.ins_self τ bx (ABlk.cells 0 o.procs[i].av)
    have g6 := g5.new (x := ABlk.cells 0 o.procs[i].av) hbx
    generalize hτ : τ.ins bx (ABlk.cells 0 o.procs[i].av) = τ3 at *
    have hfine := ho.procs _ (List.getElem_mem hi)
    have hgi : (pnames o)[i]'(by simpa using hi) = o.procs[i].name := by simp
    have htake : (pnames o).take (i + 1) = (pnames o).take i ++ [o.procs[i].name] := by rw [List.take_add_one, List.getElem?_eq_getElem (by simpa using hi), hgi]; rfl
    refine JOIN_cut (fun _ σ => σ = τ3 ∧ (verifyM o.procs[i]).1 = 0 ∧ (o.procs[i].name = [] ↔ i + 1 = o.procs.length) ∧ o.procs[i].name ∉ gnames o ++ (pnames o).take i) (fun kk hkk => ?_) (fun zs τ4 ⟨hτ4, c1, c2, c3⟩ => ?_)
    · repeat' first
        | (with_reducible first | refine s_join ?_ | refine s_ift ?_ | refine s_iff ?_ | refine s_igtt ?_ | refine s_igtf ?_ | refine s_igft ?_ | refine s_igff ?_ | refine s_igu ?_ | refine s_pt ?_ | refine s_pf ?_ | refine s_nott ?_ | refine s_notf ?_ | refine s_not ?_ | refine s_lslm ?_ | refine s_lsl ?_ | refine s_lgl ?_ | refine s_lnl ?_ | refine s_lar ?_ | refine s_lst ?_ | refine s_ncp ?_ | refine s_ncr ?_ | refine s_ncf ?_ | refine s_fap ?_ | refine s_far ?_ | refine s_mkfn ?_ | refine s_cvc ?_ | refine s_cvi ?_ | refine s_cvb ?_ | refine s_or ?_ | refine s_and ?_ | refine s_xor ?_ | refine s_andnot ?_)
        | with_reducible apply PureF.call (spec_l04Verify_c _ hfine)
        | refine (spec_l01Place_c (gnames o ++ (pnames o).take i) o.procs[i].name (by simp; omega)).borrow (.cons g6.names (.cons (.refl _) .nil)) (.sc _) ?_
        | (with_reducible first | refine BIN_eql_b (fun h => ?_) (fun h => ?_) | refine BIN_neq_b (fun h => ?_) (fun h => ?_) | refine BIN_lss_b (fun h => ?_) (fun h => ?_) | refine BIN_leq_b (fun h => ?_) (fun h => ?_) | refine BIN_gtr_b (fun h => ?_) (fun h => ?_) | refine BIN_geq_b (fun h => ?_) (fun h => ?_) | refine BIN_seql_b (fun h => ?_) (fun h => ?_) | refine BIN_sneq_b (fun h => ?_) (fun h => ?_) | refine s_ldr rfl ?_ | refine s_tup rfl ?_ | refine s_ifb (fun h => ?_) (fun h => ?_) | refine s_shl (by decide) ?_ | refine s_shr (by decide) ?_ | refine s_add (wrap64 (by omega)) ?_ | refine s_sub (wrap64 (by omega)) ?_ | refine s_ixn (by omega) ?_ | refine s_ix0 (by omega) ?_ | refine s_iam (by omega) ?_)
        | refine s_boxag rfl rfl (fun b hb => ?_)
        | (with_reducible first | refine s_ldp (AHeap.ins_self _ _ _) rfl ?_ | refine s_ldp (ins_prev (by assumption)) rfl ?_ | refine s_ldp (by assumption) rfl ?_ | refine s_ldp (ins_old (by assumption) (by assumption)) rfl ?_ | refine s_ldp (ins_other (by assumption) (by assumption)) rfl ?_ | refine s_ldpa (ins_old (by assumption) (by assumption)) rfl ?_ | refine s_ldpa (ins_other (by assumption) (by assumption)) rfl ?_ | refine s_ldpa (by assumption) rfl ?_ | refine s_ldpa (ins_prev (by assumption)) rfl ?_ | refine s_ldpa (AHeap.ins_self _ _ _) rfl ?_ | refine s_st1 (by assumption) rfl (by simp) ?_ | refine s_st1 (AHeap.ins_self _ _ _) rfl (by simp) ?_ | refine s_st1 (ins_prev (by assumption)) rfl (by simp) ?_ | refine s_sta (by assumption) rfl rfl rfl ?_ | refine s_sta (AHeap.ins_self _ _ _) rfl rfl rfl ?_ | refine s_field1 rfl ?_ | refine s_cuts (by omega) (by omega) (by omega) ?_ | refine s_cuts_lo (by omega) (by omega) ?_ | refine s_cuts_hi (by omega) (by omega) ?_)
        | refine ⟨by first | exact s_ldp (AHeap.ins_self _ _ _) rfl s_same | exact s_ldp (ins_prev (by assumption)) rfl s_same | exact s_ldp (by assumption) rfl s_same | exact s_ldr rfl s_same, ?_⟩
        | (with_reducible first | refine s_bneq_tt u_bool ?_ | refine s_bneq_tf u_bool ?_ | refine s_bneq_ft u_bool ?_ | refine s_bneq_ff u_bool ?_ | refine s_beql_tt u_bool ?_ | refine s_beql_tf u_bool ?_ | refine s_beql_ft u_bool ?_ | refine s_beql_ff u_bool ?_)
        | simp only [nth_zero, nth_succ, Nat.zero_add, Nat.reduceAdd, List.length_map, AHeap.ins_ins]
      all_goals
        have hPf : ObjP o → (verifyM o.procs[i]).1 = 0 ∧ (o.procs[i].name = [] ↔ i + 1 = o.procs.length) ∧ ¬ placeM (gnames o ++ (pnames o).take i) o.procs[i].name ≥ 0 := fun hP => by
          refine ⟨hP.procs _ (List.getElem_mem hi), hP.last i hi, fun hh => ?_⟩
          have hi2 : (gnames o).length + i < (gnames o ++ pnames o).length := by simp; omega
          have h1 := nodup_take hP.nodup hi2
          have e3 : (gnames o ++ pnames o)[(gnames o).length + i] = o.procs[i].name := by rw [List.getElem_append_right (by omega)]; simp
          have e4 : (gnames o ++ pnames o).take ((gnames o).length + i) = gnames o ++ (pnames o).take i := by rw [List.take_append, List.take_of_length_le (by omega)]; simp
          rw [e3, e4] at h1
          exact h1 (place_mem.1 hh)
        first
          | (refine hkk _ _ ⟨rfl, by omega, ?_, fun hm => ?_⟩
             · first
                 | exact ⟨fun _ => by omega, fun _ => by assumption⟩
                 | exact ⟨fun e => absurd e (by assumption), fun e => by omega⟩
             · exact absurd (place_mem.2 hm) (by assumption))
          | (refine Fin.eqv ?_
             rw [objectM_false fun hP => ?_]
             obtain ⟨p1, p2, p3⟩ := hPf hP
             first
               | exact absurd p1 (by assumption)
               | exact p3 (by assumption)
               | (have := p2.1 (by assumption); omega)
               | exact absurd (p2.2 (by omega)) (by assumption))
    subst hτ4
    repeat' first
      | (with_reducible first | refine s_gjoin ?_ | refine s_ift ?_ | refine s_iff ?_ | refine s_igtt ?_ | refine s_igtf ?_ | refine s_igft ?_ | refine s_igff ?_ | refine s_igu ?_ | refine s_pt ?_ | refine s_pf ?_ | refine s_nott ?_ | refine s_notf ?_ | refine s_not ?_ | refine s_lslm ?_ | refine s_lsl ?_ | refine s_lgl ?_ | refine s_lnl ?_ | refine s_lar ?_ | refine s_lst ?_ | refine s_ncp ?_ | refine s_ncr ?_ | refine s_ncf ?_ | refine s_fap ?_ | refine s_far ?_ | refine s_mkfn ?_ | refine s_cvc ?_ | refine s_cvi ?_ | refine s_cvb ?_ | refine s_or ?_ | refine s_and ?_ | refine s_xor ?_ | refine s_andnot ?_)
      | (with_reducible first | refine BIN_eql_b (fun h => ?_) (fun h => ?_) | refine BIN_neq_b (fun h => ?_) (fun h => ?_) | refine BIN_lss_b (fun h => ?_) (fun h => ?_) | refine BIN_leq_b (fun h => ?_) (fun h => ?_) | refine BIN_gtr_b (fun h => ?_) (fun h => ?_) | refine BIN_geq_b (fun h => ?_) (fun h => ?_) | refine BIN_seql_b (fun h => ?_) (fun h => ?_) | refine BIN_sneq_b (fun h => ?_) (fun h => ?_) | refine s_ldr rfl ?_ | refine s_tup rfl ?_ | refine s_ifb (fun h => ?_) (fun h => ?_) | refine s_shl (by decide) ?_ | refine s_shr (by decide) ?_ | refine s_add (wrap64 (by omega)) ?_ | refine s_sub (wrap64 (by omega)) ?_ | refine s_ixn (by omega) ?_ | refine s_ix0 (by omega) ?_ | refine s_iam (by omega) ?_)
      | refine s_boxag rfl rfl (fun b hb => ?_)
      | (with_reducible first | refine s_ldp (AHeap.ins_self _ _ _) rfl ?_ | refine s_ldp (ins_prev (by assumption)) rfl ?_ | refine s_ldp (by assumption) rfl ?_ | refine s_ldp (ins_old (by assumption) (by assumption)) rfl ?_ | refine s_ldp (ins_other (by assumption) (by assumption)) rfl ?_ | refine s_ldpa (ins_old (by assumption) (by assumption)) rfl ?_ | refine s_ldpa (ins_other (by assumption) (by assumption)) rfl ?_ | refine s_ldpa (by assumption) rfl ?_ | refine s_ldpa (ins_prev (by assumption)) rfl ?_ | refine s_ldpa (AHeap.ins_self _ _ _) rfl ?_ | refine s_st1 (by assumption) rfl (by simp) ?_ | refine s_st1 (AHeap.ins_self _ _ _) rfl (by simp) ?_ | refine s_st1 (ins_prev (by assumption)) rfl (by simp) ?_ | refine s_sta (by assumption) rfl rfl rfl ?_ | refine s_sta (AHeap.ins_self _ _ _) rfl rfl rfl ?_ | refine s_field1 rfl ?_ | refine s_cuts (by omega) (by omega) (by omega) ?_ | refine s_cuts_lo (by omega) (by omega) ?_ | refine s_cuts_hi (by omega) (by omega) ?_)
      | refine ⟨by first | exact s_ldp (AHeap.ins_self _ _ _) rfl s_same | exact s_ldp (ins_prev (by assumption)) rfl s_same | exact s_ldp (by assumption) rfl s_same | exact s_ldr rfl s_same, ?_⟩
      | (with_reducible first | refine s_bneq_tt u_bool ?_ | refine s_bneq_tf u_bool ?_ | refine s_bneq_ft u_bool ?_ | refine s_bneq_ff u_bool ?_ | refine s_beql_tt u_bool ?_ | refine s_beql_tf u_bool ?_ | refine s_beql_ft u_bool ?_ | refine s_beql_ff u_bool ?_)
      | simp only [nth_zero, nth_succ, Nat.zero_add, Nat.reduceAdd, List.length_map, AHeap.ins_ins]
    refine s_lit rfl fun b2 hb2 => ?_
    refine (g6.new hb2).appl (by omega) (by simp; omega) (by simp; omega) fun v' σ' hg => ?_
    repeat' first
      | (with_reducible first | refine s_gjoin ?_ | refine s_ift ?_ | refine s_iff ?_ | refine s_igtt ?_ | refine s_igtf ?_ | refine s_igft ?_ | refine s_igff ?_ | refine s_igu ?_ | refine s_pt ?_ | refine s_pf ?_ | refine s_nott ?_ | refine s_notf ?_ | refine s_not ?_ | refine s_lslm ?_ | refine s_lsl ?_ | refine s_lgl ?_ | refine s_lnl ?_ | refine s_lar ?_ | refine s_lst ?_ | refine s_ncp ?_ | refine s_ncr ?_ | refine s_ncf ?_ | refine s_fap ?_ | refine s_far ?_ | refine s_mkfn ?_ | refine s_cvc ?_ | refine s_cvi ?_ | refine s_cvb ?_ | refine s_or ?_ | refine s_and ?_ | refine s_xor ?_ | refine s_andnot ?_)
      | (with_reducible first | refine BIN_eql_b (fun h => ?_) (fun h => ?_) | refine BIN_neq_b (fun h => ?_) (fun h => ?_) | refine BIN_lss_b (fun h => ?_) (fun h => ?_) | refine BIN_leq_b (fun h => ?_) (fun h => ?_) | refine BIN_gtr_b (fun h => ?_) (fun h => ?_) | refine BIN_geq_b (fun h => ?_) (fun h => ?_) | refine BIN_seql_b (fun h => ?_) (fun h => ?_) | refine BIN_sneq_b (fun h => ?_) (fun h => ?_) | refine s_ldr rfl ?_ | refine s_tup rfl ?_ | refine s_ifb (fun h => ?_) (fun h => ?_) | refine s_shl (by decide) ?_ | refine s_shr (by decide) ?_ | refine s_add (wrap64 (by omega)) ?_ | refine s_sub (wrap64 (by omega)) ?_ | refine s_ixn (by omega) ?_ | refine s_ix0 (by omega) ?_ | refine s_iam (by omega) ?_)
      | refine s_boxag rfl rfl (fun b hb => ?_)
      | (with_reducible first | refine s_ldp (AHeap.ins_self _ _ _) rfl ?_ | refine s_ldp (ins_prev (by assumption)) rfl ?_ | refine s_ldp (by assumption) rfl ?_ | refine s_ldp (ins_old (by assumption) (by assumption)) rfl ?_ | refine s_ldp (ins_other (by assumption) (by assumption)) rfl ?_ | refine s_ldpa (ins_old (by assumption) (by assumption)) rfl ?_ | refine s_ldpa (ins_other (by assumption) (by assumption)) rfl ?_ | refine s_ldpa (by assumption) rfl ?_ | refine s_ldpa (ins_prev (by assumption)) rfl ?_ | refine s_ldpa (AHeap.ins_self _ _ _) rfl ?_ | refine s_st1 (by assumption) rfl (by simp) ?_ | refine s_st1 (AHeap.ins_self _ _ _) rfl (by simp) ?_ | refine s_st1 (ins_prev (by assumption)) rfl (by simp) ?_ | refine s_sta (by assumption) rfl rfl rfl ?_ | refine s_sta (AHeap.ins_self _ _ _) rfl rfl rfl ?_ | refine s_field1 rfl ?_ | refine s_cuts (by omega) (by omega) (by omega) ?_ | refine s_cuts_lo (by omega) (by omega) ?_ | refine s_cuts_hi (by omega) (by omega) ?_)
      | refine ⟨by first | exact s_ldp (AHeap.ins_self _ _ _) rfl s_same | exact s_ldp (ins_prev (by assumption)) rfl s_same | exact s_ldp (by assumption) rfl s_same | exact s_ldr rfl s_same, ?_⟩
      | (with_reducible first | refine s_bneq_tt u_bool ?_ | refine s_bneq_tf u_bool ?_ | refine s_bneq_ft u_bool ?_ | refine s_bneq_ff u_bool ?_ | refine s_beql_tt u_bool ?_ | refine s_beql_tf u_bool ?_ | refine s_beql_ft u_bool ?_ | refine s_beql_ff u_bool ?_)
      | simp only [nth_zero, nth_succ, Nat.zero_add, Nat.reduceAdd, List.length_map, AHeap.ins_ins]
    refine hR (i + 1) _ _ (by omega) ⟨by omega, by simp, fun k hk hk1 => ?_, ?_, ?_⟩
    · by_cases hki : k = i
      · subst hki; exact ⟨c1, c2⟩
      · exact g3 k hk (by omega)
    · rw [htake, ← List.append_assoc, List.nodup_append]
      exact ⟨g4, by simp, fun a ha b hb => by simp only [List.mem_singleton] at hb; subst hb; exact fun e => c3 (e ▸ ha)⟩
    · rw [htake]; simpa using hg
  have hin : i = o.procs.length := by omega
  have htk : (pnames o).take i = pnames o := by rw [hin]; exact List.take_of_length_le (by simp)
  rw [htk] at g4
  refine Fin.eqv ?_
  rw [objectM_true]
  exact ⟨q1, q2, q3, q4, q5, q6, hneeds, hglobals, fun c hc => by
    obtain ⟨k, hk, rfl⟩ := List.getElem_of_mem hc
    exact (g3 k hk (by omega)).1, fun k hk => (g3 k hk (by omega)).2, g4⟩)

end Go.Al
