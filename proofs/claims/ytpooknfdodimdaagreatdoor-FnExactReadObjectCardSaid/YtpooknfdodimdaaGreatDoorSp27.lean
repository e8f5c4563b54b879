/- Contracts: the laws compare, mark and look again at bytes, codes and objects. -/
import Derived.Test.YtpooknfdodimdaaGreatDoorSp26
set_option linter.unusedVariables false
set_option linter.unusedSimpArgs false
set_option maxRecDepth 100000
set_option maxHeartbeats 4000000
namespace Go.Al
variable {G : Seal} {σ : AHeap} {K : KAV}

/- BYTES -/
theorem laws_toByteS_c (t : List UInt8) (hl : t.length ≤ 2 ^ 40) : ACalls PP G N.laws_toByteS [.sl 1 (t.map bcell)] .emp fun r τ => ORow 1 (EFlat bcell) τ r t := F.laws_toByteS_ok (by
  unfold F.laws_toByteS
  refine s_lslm ?_
  refine s_make (z := [U8 0]) rfl (by omega) (by omega) fun b hb => ?_
  refine JOIN_cut (fun xs τ => τ = AHeap.emp.ins b (.cells 0 (t.map bcell).flatten)) (fun kk hkk => ?_) (fun xs τ hτ => ?_)
  · have hrl : ∀ i, i ≤ t.length → ((t.take i).map bcell ++ List.replicate (t.length - i) [U8 0]).length = t.length := fun i hi => by simp; omega
    refine LOOP_intro (fun i => t.length - i) (fun (i : Nat) xs τ => i ≤ t.length ∧ nth xs 0 = I i ∧ τ = AHeap.emp.ins b (.cells 0 ((t.take i).map bcell ++ List.replicate (t.length - i) [U8 0]).flatten)) (fun i xs τ R ⟨g1, g2, g3⟩ hR => ?_) 0 ⟨by omega, rfl, by simp⟩
    simp only [g2]
    refine s_join ?_
    refine s_lslm ?_
    refine BIN_lss_b (fun hlt => ?_) (fun hlt => ?_)
    rotate_left
    · refine s_iff ?_
      have : i = t.length := by omega
      subst this
      exact hkk _ _ (by rw [g3]; simp)
    have hi : i < t.length := by omega
    refine s_ift ?_
    refine s_join ?_
    refine s_iam hi ?_
    refine s_ldr rfl ?_
    refine s_iarow hi ?_
    have hz : ∀ r ∈ ((t.take i).map bcell ++ List.replicate (t.length - i) [U8 0]), r.length = 1 := by
      intro r hr
      rcases List.mem_append.1 hr with h | h
      · obtain ⟨c, _, rfl⟩ := List.mem_map.1 h; rfl
      · rw [List.eq_of_mem_replicate h]; rfl
    have hget : ((t.take i).map bcell ++ List.replicate (t.length - i) [U8 0])[i]'(by rw [hrl i g1]; exact hi) = [U8 0] := by
      rw [List.getElem_append_right (by simp; omega)]; simp
    have hset : ((t.take i).map bcell ++ List.replicate (t.length - i) [U8 0]).set i [U8 0] = (t.take i).map bcell ++ List.replicate (t.length - i) [U8 0] := by
      have hlt2 : i < ((t.take i).map bcell ++ List.replicate (t.length - i) [U8 0]).length := by rw [hrl i g1]; exact hi
      have := List.set_getElem_self hlt2
      rwa [hget] at this
    refine s_strow (n := 1) (i := i) (j := 0) (r := [U8 0]) (by rw [g3, hset]; exact AHeap.ins_self _ _ _) hz (by rw [hrl i g1]; exact hi) rfl (by decide) rfl ?_
    refine s_add (wrap64 (by omega)) ?_
    refine hR (i + 1) _ _ (by omega) ⟨by omega, rfl, ?_⟩
    rw [g3, AHeap.ins_ins]
    have e : t.length - i = (t.length - (i + 1)) + 1 := by omega
    have e2 : ((t.take i).map bcell).length = i := by simp; omega
    rw [e, List.replicate_succ, List.set_append, if_neg (by omega), e2, Nat.sub_self, List.take_succ_eq_append_getElem hi]
    simp only [List.set_cons_zero, List.map_append, List.append_assoc, List.map_cons, List.map_nil, List.singleton_append, List.cons_append, List.nil_append]
  · subst hτ
    have key := ORow.ar (n := 1) (b := b) (OList.ofFlat bcell t) rfl (fun r hr => by obtain ⟨c, _, rfl⟩ := List.mem_map.1 hr; rfl)
    rw [List.length_map] at key
    exact Fin.mk key)

theorem laws_eqByteS_c (l : List UInt8) (hl : l.length < 2 ^ 60) : PureF PP G N.laws_eqByteS [.sl 1 (l.map bcell), .sl 1 (l.map bcell)] (Bo true) := F.laws_eqByteS_ok (by
  unfold F.laws_eqByteS
  refine JOIN_cut (fun xs τ => True) (fun kk hkk => ?_) (fun xs τ _ => ?_)
  · repeat' first
      | (with_reducible first | refine s_join ?_ | refine s_ift ?_ | refine s_iff ?_ | refine s_igtt ?_ | refine s_igtf ?_ | refine s_igft ?_ | refine s_igff ?_ | refine s_igu ?_ | refine s_pt ?_ | refine s_pf ?_ | refine s_nott ?_ | refine s_notf ?_ | refine s_not ?_ | refine s_lslm ?_ | refine s_lsl ?_ | refine s_lgl ?_ | refine s_lnl ?_ | refine s_lar ?_ | refine s_lst ?_ | refine s_ncp ?_ | refine s_ncr ?_ | refine s_ncf ?_ | refine s_fap ?_ | refine s_far ?_ | refine s_mkfn ?_ | refine s_cvc ?_ | refine s_cvi ?_ | refine s_cvb ?_ | refine s_or ?_ | refine s_and ?_ | refine s_xor ?_ | refine s_andnot ?_)
      | (with_reducible first | refine BIN_eql_b (fun h => ?_) (fun h => ?_) | refine BIN_neq_b (fun h => ?_) (fun h => ?_) | refine BIN_lss_b (fun h => ?_) (fun h => ?_) | refine BIN_leq_b (fun h => ?_) (fun h => ?_) | refine BIN_gtr_b (fun h => ?_) (fun h => ?_) | refine BIN_geq_b (fun h => ?_) (fun h => ?_) | refine BIN_seql_b (fun h => ?_) (fun h => ?_) | refine BIN_sneq_b (fun h => ?_) (fun h => ?_) | refine s_ldr rfl ?_ | refine s_tup rfl ?_ | refine s_ifb (fun h => ?_) (fun h => ?_) | refine s_shl (by decide) ?_ | refine s_shr (by decide) ?_ | refine s_add (wrap64 (by omega)) ?_ | refine s_sub (wrap64 (by omega)) ?_ | refine s_ixn (by omega) ?_ | refine s_ix0 (by omega) ?_ | refine s_iam (by omega) ?_)
      | refine s_boxag rfl rfl (fun b hb => ?_)
      | (with_reducible first | refine s_ldp (AHeap.ins_self _ _ _) rfl ?_ | refine s_ldp (ins_prev (by assumption)) rfl ?_ | refine s_ldp (by assumption) rfl ?_ | refine s_ldp (ins_old (by assumption) (by assumption)) rfl ?_ | refine s_ldp (ins_other (by assumption) (by assumption)) rfl ?_ | refine s_ldpa (ins_old (by assumption) (by assumption)) rfl ?_ | refine s_ldpa (ins_other (by assumption) (by assumption)) rfl ?_ | refine s_ldpa (by assumption) rfl ?_ | refine s_ldpa (ins_prev (by assumption)) rfl ?_ | refine s_ldpa (AHeap.ins_self _ _ _) rfl ?_ | refine s_st1 (by assumption) rfl (by simp) ?_ | refine s_st1 (AHeap.ins_self _ _ _) rfl (by simp) ?_ | refine s_st1 (ins_prev (by assumption)) rfl (by simp) ?_ | refine s_sta (by assumption) rfl rfl rfl ?_ | refine s_sta (AHeap.ins_self _ _ _) rfl rfl rfl ?_ | refine s_field1 rfl ?_ | refine s_cuts (by omega) (by omega) (by omega) ?_ | refine s_cuts_lo (by omega) (by omega) ?_ | refine s_cuts_hi (by omega) (by omega) ?_)
      | refine ⟨by first | exact s_ldp (AHeap.ins_self _ _ _) rfl s_same | exact s_ldp (ins_prev (by assumption)) rfl s_same | exact s_ldp (by assumption) rfl s_same | exact s_ldr rfl s_same, ?_⟩
      | (with_reducible first | refine s_bneq_tt u_bool ?_ | refine s_bneq_tf u_bool ?_ | refine s_bneq_ft u_bool ?_ | refine s_bneq_ff u_bool ?_ | refine s_beql_tt u_bool ?_ | refine s_beql_tf u_bool ?_ | refine s_beql_ft u_bool ?_ | refine s_beql_ff u_bool ?_)
      | simp only [nth_zero, nth_succ, Nat.zero_add, Nat.reduceAdd, List.length_map, AHeap.ins_ins]
    all_goals first
      | exact hkk _ _ trivial
      | exact absurd rfl (by assumption)
  refine JOIN_cut (fun xs τ => True) (fun kk hkk => ?_) (fun xs τ _ => Fin.eqv rfl)
  refine LOOP_intro (fun i => l.length - i) (fun (i : Nat) xs τ => i ≤ l.length ∧ nth xs 1 = I i) (fun i xs τ R ⟨g1, g2⟩ hR => ?_) 0 ⟨by omega, rfl⟩
  simp only [g2]
  repeat' first
    | (with_reducible first | refine s_join ?_ | refine s_ift ?_ | refine s_iff ?_ | refine s_igtt ?_ | refine s_igtf ?_ | refine s_igft ?_ | refine s_igff ?_ | refine s_igu ?_ | refine s_pt ?_ | refine s_pf ?_ | refine s_nott ?_ | refine s_notf ?_ | refine s_not ?_ | refine s_lslm ?_ | refine s_lsl ?_ | refine s_lgl ?_ | refine s_lnl ?_ | refine s_lar ?_ | refine s_lst ?_ | refine s_ncp ?_ | refine s_ncr ?_ | refine s_ncf ?_ | refine s_fap ?_ | refine s_far ?_ | refine s_mkfn ?_ | refine s_cvc ?_ | refine s_cvi ?_ | refine s_cvb ?_ | refine s_or ?_ | refine s_and ?_ | refine s_xor ?_ | refine s_andnot ?_)
    | (with_reducible first | refine BIN_eql_b (fun h => ?_) (fun h => ?_) | refine BIN_neq_b (fun h => ?_) (fun h => ?_) | refine BIN_lss_b (fun h => ?_) (fun h => ?_) | refine BIN_leq_b (fun h => ?_) (fun h => ?_) | refine BIN_gtr_b (fun h => ?_) (fun h => ?_) | refine BIN_geq_b (fun h => ?_) (fun h => ?_) | refine BIN_seql_b (fun h => ?_) (fun h => ?_) | refine BIN_sneq_b (fun h => ?_) (fun h => ?_) | refine s_ldr rfl ?_ | refine s_tup rfl ?_ | refine s_ifb (fun h => ?_) (fun h => ?_) | refine s_shl (by decide) ?_ | refine s_shr (by decide) ?_ | refine s_add (wrap64 (by omega)) ?_ | refine s_sub (wrap64 (by omega)) ?_ | refine s_ixn (by omega) ?_ | refine s_ix0 (by omega) ?_ | refine s_iam (by omega) ?_)
    | refine s_boxag rfl rfl (fun b hb => ?_)
    | (with_reducible first | refine s_ldp (AHeap.ins_self _ _ _) rfl ?_ | refine s_ldp (ins_prev (by assumption)) rfl ?_ | refine s_ldp (by assumption) rfl ?_ | refine s_ldp (ins_old (by assumption) (by assumption)) rfl ?_ | refine s_ldp (ins_other (by assumption) (by assumption)) rfl ?_ | refine s_ldpa (ins_old (by assumption) (by assumption)) rfl ?_ | refine s_ldpa (ins_other (by assumption) (by assumption)) rfl ?_ | refine s_ldpa (by assumption) rfl ?_ | refine s_ldpa (ins_prev (by assumption)) rfl ?_ | refine s_ldpa (AHeap.ins_self _ _ _) rfl ?_ | refine s_st1 (by assumption) rfl (by simp) ?_ | refine s_st1 (AHeap.ins_self _ _ _) rfl (by simp) ?_ | refine s_st1 (ins_prev (by assumption)) rfl (by simp) ?_ | refine s_sta (by assumption) rfl rfl rfl ?_ | refine s_sta (AHeap.ins_self _ _ _) rfl rfl rfl ?_ | refine s_field1 rfl ?_ | refine s_cuts (by omega) (by omega) (by omega) ?_ | refine s_cuts_lo (by omega) (by omega) ?_ | refine s_cuts_hi (by omega) (by omega) ?_)
    | refine ⟨by first | exact s_ldp (AHeap.ins_self _ _ _) rfl s_same | exact s_ldp (ins_prev (by assumption)) rfl s_same | exact s_ldp (by assumption) rfl s_same | exact s_ldr rfl s_same, ?_⟩
    | (with_reducible first | refine s_bneq_tt u_bool ?_ | refine s_bneq_tf u_bool ?_ | refine s_bneq_ft u_bool ?_ | refine s_bneq_ff u_bool ?_ | refine s_beql_tt u_bool ?_ | refine s_beql_tf u_bool ?_ | refine s_beql_ft u_bool ?_ | refine s_beql_ff u_bool ?_)
    | simp only [nth_zero, nth_succ, Nat.zero_add, Nat.reduceAdd, List.length_map, AHeap.ins_ins]
  all_goals first
    | exact absurd rfl (by assumption)
    | exact hR (i + 1) _ _ (by omega) ⟨by omega, rfl⟩
    | exact hkk _ _ trivial)

def markByte (x : UInt8) (k : Int) : UInt8 × Int := (UInt8.ofNat (k % 256).toNat, k + 1)
theorem markByte_bd (x : UInt8) (k : Int) : k ≤ (markByte x k).2 ∧ (markByte x k).2 ≤ k + (1 : Nat) := by simp only [markByte]; omega
theorem u8_mark (k : Int) : IntKind.u8.wrap k = ((UInt8.ofNat (k % 256).toNat).toNat : Nat) := by
  rw [UInt8.toNat_ofNat']
  unfold IntKind.wrap
  simp only [IntKind.signed, IntKind.bits, Bool.false_and]
  simp
  omega

theorem laws_markByteS_c {H : AHeap} {v : AV} {l : List UInt8} {k : Int} (h : ORow 1 (EFlat bcell) H v l) (hle : H.le σ) (hk0 : 0 ≤ k) (hk1 : k ≤ 2 ^ 50) (hl : l.length ≤ 2 ^ 40)
    (hK : ∀ H' σ', ORow 1 (EFlat bcell) H' v (markL markByte l k).1 → Wr H H' σ σ' → K (I (markL markByte l k).2) σ') : ACalls PP G N.laws_markByteS [v, I k] σ K := F.laws_markByteS_ok (by
  unfold F.laws_markByteS
  refine JOIN_cut (fun xs τ => nth xs 0 = I (markL markByte l k).2 ∧ ∃ H', ORow 1 (EFlat bcell) H' v (markL markByte l k).1 ∧ Wr H H' σ τ) (fun kk hkk => ?_) (fun xs τ ⟨e, H', g1, g2⟩ => by rw [e]; exact Fin.mk (hK H' τ g1 g2))
  refine LOOP_intro (fun i => l.length - i) (fun (i : Nat) xs τ => i ≤ l.length ∧ nth xs 0 = I (markL markByte (l.take i) k).2 ∧ nth xs 1 = I i ∧ ∃ Hi, ORow 1 (EFlat bcell) Hi v ((markL markByte (l.take i) k).1 ++ l.drop i) ∧ Wr H Hi σ τ) (fun i xs τ R ⟨g1, g2, g3, Hi, hrow, wr⟩ hR => ?_) 0 ⟨by omega, rfl, rfl, H, h, ⟨hle, fun _ h => h, fun _ _ => rfl⟩⟩
  simp only [g2, g3]
  have hbd := markL_bdi (k := k) (i := i) g1 (fun a _ k => markByte_bd a k)
  generalize hki : (markL markByte (l.take i) k).2 = ki at *
  refine s_join ?_
  refine hrow.lenl ?_
  rw [mark_len g1]
  refine BIN_lss_b (fun hlt => ?_) (fun hlt => ?_)
  rotate_left
  · refine s_iff ?_
    have : i = l.length := by omega
    subst this
    rw [List.take_length] at hki
    rw [List.take_length, List.drop_length, List.append_nil] at hrow
    exact hkk _ _ ⟨by rw [hki]; rfl, Hi, hrow, wr⟩
  have hi : i < l.length := by omega
  obtain ⟨b, rows, He, hr, ev, hb, hz, heb, hle', ⟨rfl, hri⟩, hupd⟩ := hrow.focus (i := i) (by rw [mark_len g1]; exact hi)
  rw [mark_at hi] at hri
  rw [mark_len g1] at ev
  have hb0 : τ b = some (.cells 0 (rows.set i (bcell l[i])).flatten) := by rw [← hri, List.set_getElem_self]; exact wr.le _ _ hb
  simp only [ev]
  refine s_ift ?_
  refine s_join ?_
  refine s_cvi ?_
  rw [u8_mark]
  refine s_iarow hi ?_
  refine s_strow (n := 1) (i := i) (j := 0) hb0 hz hr (by rfl) (by decide) rfl ?_
  refine s_add (wrap64 (by omega)) ?_
  refine s_add (wrap64 (by omega)) ?_
  obtain ⟨H', q1, q2, q3⟩ := hupd .emp (bcell (markByte l[i] ki).1) (markByte l[i] ki).1 ⟨rfl, rfl⟩ rfl (fun _ _ => rfl) τ (τ.ins b (.cells 0 (rows.set i (bcell (markByte l[i] ki).1)).flatten)) wr.le (AHeap.ins_self _ _ _) (AHeap.emp_le _) (fun p hp _ => AHeap.ins_ne _ _ hp)
  subst hki
  rw [mark_set hi] at q1
  refine hR (i + 1) _ _ (by omega) ⟨by omega, by rw [markL_succ hi]; rfl, rfl, H', q1, q2, fun p hp => q3 p (wr.dom p hp), fun p hp => ?_⟩
  have : p ≠ b := by rintro rfl; rw [wr.dom _ hp] at hb; simp at hb
  refine (AHeap.ins_ne _ _ this).trans (wr.frm p hp))

/- CODES -/
def markCode (x : Code) (k : Int) : Code × Int := (⟨mtext k, k + 1, k + 1 + 1, k + 1 + 1 + 1, (markL markIns x.list (k + 1 + 1 + 1 + 1)).1⟩, (markL markIns x.list (k + 1 + 1 + 1 + 1)).2)
theorem markCode_bd {x : Code} (hx : x.list.length ≤ 2 ^ 20) (k : Int) : k ≤ (markCode x k).2 ∧ (markCode x k).2 ≤ k + (5242884 : Nat) := by
  have := markL_bd (m := markIns) (w := 5) (l := x.list) (k := k + 1 + 1 + 1 + 1) fun a _ k => markIns_bd a k
  simp only [markCode]; omega

theorem laws_eqCode_c (x : Code) (hx : x.list.length < 2 ^ 60) : PureF PP G N.laws_eqCode [.ag x.av, .ag x.av] (Bo true) := F.laws_eqCode_ok (by
  unfold F.laws_eqCode
  refine s_boxag rfl rfl (fun b1 hb1 => ?_)
  refine s_boxag rfl rfl (fun b2 hb2 => ?_)
  have d1 := ins_old (y := ABlk.cells 0 x.av) (AHeap.ins_self AHeap.emp b1 (ABlk.cells 0 x.av)) hb2
  have d2 := AHeap.ins_self (AHeap.emp.ins b1 (ABlk.cells 0 x.av)) b2 (ABlk.cells 0 x.av)
  generalize (AHeap.emp.ins b1 (ABlk.cells 0 x.av)).ins b2 (ABlk.cells 0 x.av) = τ at *
  clear hb1 hb2
  repeat' first
    | (with_reducible first | refine s_join ?_ | refine s_ift ?_ | refine s_iff ?_ | refine s_igtt ?_ | refine s_igtf ?_ | refine s_igft ?_ | refine s_igff ?_ | refine s_igu ?_ | refine s_pt ?_ | refine s_pf ?_ | refine s_nott ?_ | refine s_notf ?_ | refine s_not ?_ | refine s_lslm ?_ | refine s_lsl ?_ | refine s_lgl ?_ | refine s_lnl ?_ | refine s_lar ?_ | refine s_lst ?_ | refine s_ncp ?_ | refine s_ncr ?_ | refine s_ncf ?_ | refine s_fap ?_ | refine s_far ?_ | refine s_mkfn ?_ | refine s_cvc ?_ | refine s_cvi ?_ | refine s_cvb ?_ | refine s_or ?_ | refine s_and ?_ | refine s_xor ?_ | refine s_andnot ?_)
    | with_reducible apply PureF.call (laws_eqInsS_c x.list hx)
    | (with_reducible first | refine BIN_eql_b (fun h => ?_) (fun h => ?_) | refine BIN_neq_b (fun h => ?_) (fun h => ?_) | refine BIN_lss_b (fun h => ?_) (fun h => ?_) | refine BIN_leq_b (fun h => ?_) (fun h => ?_) | refine BIN_gtr_b (fun h => ?_) (fun h => ?_) | refine BIN_geq_b (fun h => ?_) (fun h => ?_) | refine BIN_seql_b (fun h => ?_) (fun h => ?_) | refine BIN_sneq_b (fun h => ?_) (fun h => ?_) | refine s_ldr rfl ?_ | refine s_tup rfl ?_ | refine s_ifb (fun h => ?_) (fun h => ?_) | refine s_shl (by decide) ?_ | refine s_shr (by decide) ?_ | refine s_add (wrap64 (by omega)) ?_ | refine s_sub (wrap64 (by omega)) ?_ | refine s_ixn (by omega) ?_ | refine s_ix0 (by omega) ?_ | refine s_iam (by omega) ?_)
    | refine s_boxag rfl rfl (fun b hb => ?_)
    | (with_reducible first | refine s_ldp (AHeap.ins_self _ _ _) rfl ?_ | refine s_ldp (ins_prev (by assumption)) rfl ?_ | refine s_ldp (by assumption) rfl ?_ | refine s_ldp (ins_old (by assumption) (by assumption)) rfl ?_ | refine s_ldp (ins_other (by assumption) (by assumption)) rfl ?_ | refine s_ldpa (ins_old (by assumption) (by assumption)) rfl ?_ | refine s_ldpa (ins_other (by assumption) (by assumption)) rfl ?_ | refine s_ldpa (by assumption) rfl ?_ | refine s_ldpa (ins_prev (by assumption)) rfl ?_ | refine s_ldpa (AHeap.ins_self _ _ _) rfl ?_ | refine s_st1 (by assumption) rfl (by simp) ?_ | refine s_st1 (AHeap.ins_self _ _ _) rfl (by simp) ?_ | refine s_st1 (ins_prev (by assumption)) rfl (by simp) ?_ | refine s_sta (by assumption) rfl rfl rfl ?_ | refine s_sta (AHeap.ins_self _ _ _) rfl rfl rfl ?_ | refine s_field1 rfl ?_ | refine s_cuts (by omega) (by omega) (by omega) ?_ | refine s_cuts_lo (by omega) (by omega) ?_ | refine s_cuts_hi (by omega) (by omega) ?_)
    | refine ⟨by first | exact s_ldp (AHeap.ins_self _ _ _) rfl s_same | exact s_ldp (ins_prev (by assumption)) rfl s_same | exact s_ldp (by assumption) rfl s_same | exact s_ldr rfl s_same, ?_⟩
    | (with_reducible first | refine s_bneq_tt u_bool ?_ | refine s_bneq_tf u_bool ?_ | refine s_bneq_ft u_bool ?_ | refine s_bneq_ff u_bool ?_ | refine s_beql_tt u_bool ?_ | refine s_beql_tf u_bool ?_ | refine s_beql_ft u_bool ?_ | refine s_beql_ff u_bool ?_)
    | simp only [nth_zero, nth_succ, Nat.zero_add, Nat.reduceAdd, List.length_map, AHeap.ins_ins]
  all_goals first
    | exact absurd rfl (by assumption)
    | exact Fin.eqv rfl)
theorem laws_eqCodeS_c (l : List Code) (hl : l.length < 2 ^ 60) (hc : ∀ x ∈ l, x.list.length < 2 ^ 60) : PureF PP G N.laws_eqCodeS [.sl 5 (l.map Code.av), .sl 5 (l.map Code.av)] (Bo true) := F.laws_eqCodeS_ok (by
  unfold F.laws_eqCodeS
  refine JOIN_cut (fun xs τ => True) (fun kk hkk => ?_) (fun xs τ _ => ?_)
  · repeat' first
      | (with_reducible first | refine s_join ?_ | refine s_ift ?_ | refine s_iff ?_ | refine s_igtt ?_ | refine s_igtf ?_ | refine s_igft ?_ | refine s_igff ?_ | refine s_igu ?_ | refine s_pt ?_ | refine s_pf ?_ | refine s_nott ?_ | refine s_notf ?_ | refine s_not ?_ | refine s_lslm ?_ | refine s_lsl ?_ | refine s_lgl ?_ | refine s_lnl ?_ | refine s_lar ?_ | refine s_lst ?_ | refine s_ncp ?_ | refine s_ncr ?_ | refine s_ncf ?_ | refine s_fap ?_ | refine s_far ?_ | refine s_mkfn ?_ | refine s_cvc ?_ | refine s_cvi ?_ | refine s_cvb ?_ | refine s_or ?_ | refine s_and ?_ | refine s_xor ?_ | refine s_andnot ?_)
      | (with_reducible first | refine BIN_eql_b (fun h => ?_) (fun h => ?_) | refine BIN_neq_b (fun h => ?_) (fun h => ?_) | refine BIN_lss_b (fun h => ?_) (fun h => ?_) | refine BIN_leq_b (fun h => ?_) (fun h => ?_) | refine BIN_gtr_b (fun h => ?_) (fun h => ?_) | refine BIN_geq_b (fun h => ?_) (fun h => ?_) | refine BIN_seql_b (fun h => ?_) (fun h => ?_) | refine BIN_sneq_b (fun h => ?_) (fun h => ?_) | refine s_ldr rfl ?_ | refine s_tup rfl ?_ | refine s_ifb (fun h => ?_) (fun h => ?_) | refine s_shl (by decide) ?_ | refine s_shr (by decide) ?_ | refine s_add (wrap64 (by omega)) ?_ | refine s_sub (wrap64 (by omega)) ?_ | refine s_ixn (by omega) ?_ | refine s_ix0 (by omega) ?_ | refine s_iam (by omega) ?_)
      | refine s_boxag rfl rfl (fun b hb => ?_)
      | (with_reducible first | refine s_ldp (AHeap.ins_self _ _ _) rfl ?_ | refine s_ldp (ins_prev (by assumption)) rfl ?_ | refine s_ldp (by assumption) rfl ?_ | refine s_ldp (ins_old (by assumption) (by assumption)) rfl ?_ | refine s_ldp (ins_other (by assumption) (by assumption)) rfl ?_ | refine s_ldpa (ins_old (by assumption) (by assumption)) rfl ?_ | refine s_ldpa (ins_other (by assumption) (by assumption)) rfl ?_ | refine s_ldpa (by assumption) rfl ?_ | refine s_ldpa (ins_prev (by assumption)) rfl ?_ | refine s_ldpa (AHeap.ins_self _ _ _) rfl ?_ | refine s_st1 (by assumption) rfl (by simp) ?_ | refine s_st1 (AHeap.ins_self _ _ _) rfl (by simp) ?_ | refine s_st1 (ins_prev (by assumption)) rfl (by simp) ?_ | refine s_sta (by assumption) rfl rfl rfl ?_ | refine s_sta (AHeap.ins_self _ _ _) rfl rfl rfl ?_ | refine s_field1 rfl ?_ | refine s_cuts (by omega) (by omega) (by omega) ?_ | refine s_cuts_lo (by omega) (by omega) ?_ | refine s_cuts_hi (by omega) (by omega) ?_)
      | refine ⟨by first | exact s_ldp (AHeap.ins_self _ _ _) rfl s_same | exact s_ldp (ins_prev (by assumption)) rfl s_same | exact s_ldp (by assumption) rfl s_same | exact s_ldr rfl s_same, ?_⟩
      | (with_reducible first | refine s_bneq_tt u_bool ?_ | refine s_bneq_tf u_bool ?_ | refine s_bneq_ft u_bool ?_ | refine s_bneq_ff u_bool ?_ | refine s_beql_tt u_bool ?_ | refine s_beql_tf u_bool ?_ | refine s_beql_ft u_bool ?_ | refine s_beql_ff u_bool ?_)
      | simp only [nth_zero, nth_succ, Nat.zero_add, Nat.reduceAdd, List.length_map, AHeap.ins_ins]
    all_goals first
      | exact hkk _ _ trivial
      | exact absurd rfl (by assumption)
  refine JOIN_cut (fun xs τ => True) (fun kk hkk => ?_) (fun xs τ _ => Fin.eqv rfl)
  refine LOOP_intro (fun i => l.length - i) (fun (i : Nat) xs τ => i ≤ l.length ∧ nth xs 1 = I i) (fun i xs τ R ⟨g1, g2⟩ hR => ?_) 0 ⟨by omega, rfl⟩
  simp only [g2]
  repeat' first
    | (with_reducible first | refine s_join ?_ | refine s_ift ?_ | refine s_iff ?_ | refine s_igtt ?_ | refine s_igtf ?_ | refine s_igft ?_ | refine s_igff ?_ | refine s_igu ?_ | refine s_pt ?_ | refine s_pf ?_ | refine s_nott ?_ | refine s_notf ?_ | refine s_not ?_ | refine s_lslm ?_ | refine s_lsl ?_ | refine s_lgl ?_ | refine s_lnl ?_ | refine s_lar ?_ | refine s_lst ?_ | refine s_ncp ?_ | refine s_ncr ?_ | refine s_ncf ?_ | refine s_fap ?_ | refine s_far ?_ | refine s_mkfn ?_ | refine s_cvc ?_ | refine s_cvi ?_ | refine s_cvb ?_ | refine s_or ?_ | refine s_and ?_ | refine s_xor ?_ | refine s_andnot ?_)
    | refine s_ldrA rfl ?_
    | with_reducible apply PureF.call (laws_eqCode_c _ (hc _ (List.getElem_mem _)))
    | (with_reducible first | refine BIN_eql_b (fun h => ?_) (fun h => ?_) | refine BIN_neq_b (fun h => ?_) (fun h => ?_) | refine BIN_lss_b (fun h => ?_) (fun h => ?_) | refine BIN_leq_b (fun h => ?_) (fun h => ?_) | refine BIN_gtr_b (fun h => ?_) (fun h => ?_) | refine BIN_geq_b (fun h => ?_) (fun h => ?_) | refine BIN_seql_b (fun h => ?_) (fun h => ?_) | refine BIN_sneq_b (fun h => ?_) (fun h => ?_) | refine s_ldr rfl ?_ | refine s_tup rfl ?_ | refine s_ifb (fun h => ?_) (fun h => ?_) | refine s_shl (by decide) ?_ | refine s_shr (by decide) ?_ | refine s_add (wrap64 (by omega)) ?_ | refine s_sub (wrap64 (by omega)) ?_ | refine s_ixn (by omega) ?_ | refine s_ix0 (by omega) ?_ | refine s_iam (by omega) ?_)
    | refine s_boxag rfl rfl (fun b hb => ?_)
    | (with_reducible first | refine s_ldp (AHeap.ins_self _ _ _) rfl ?_ | refine s_ldp (ins_prev (by assumption)) rfl ?_ | refine s_ldp (by assumption) rfl ?_ | refine s_ldp (ins_old (by assumption) (by assumption)) rfl ?_ | refine s_ldp (ins_other (by assumption) (by assumption)) rfl ?_ | refine s_ldpa (ins_old (by assumption) (by assumption)) rfl ?_ | refine s_ldpa (ins_other (by assumption) (by assumption)) rfl ?_ | refine s_ldpa (by assumption) rfl ?_ | refine s_ldpa (ins_prev (by assumption)) rfl ?_ | refine s_ldpa (AHeap.ins_self _ _ _) rfl ?_ | refine s_st1 (by assumption) rfl (by simp) ?_ | refine s_st1 (AHeap.ins_self _ _ _) rfl (by simp) ?_ | refine s_st1 (ins_prev (by assumption)) rfl (by simp) ?_ | refine s_sta (by assumption) rfl rfl rfl ?_ | refine s_sta (AHeap.ins_self _ _ _) rfl rfl rfl ?_ | refine s_field1 rfl ?_ | refine s_cuts (by omega) (by omega) (by omega) ?_ | refine s_cuts_lo (by omega) (by omega) ?_ | refine s_cuts_hi (by omega) (by omega) ?_)
    | refine ⟨by first | exact s_ldp (AHeap.ins_self _ _ _) rfl s_same | exact s_ldp (ins_prev (by assumption)) rfl s_same | exact s_ldp (by assumption) rfl s_same | exact s_ldr rfl s_same, ?_⟩
    | (with_reducible first | refine s_bneq_tt u_bool ?_ | refine s_bneq_tf u_bool ?_ | refine s_bneq_ft u_bool ?_ | refine s_bneq_ff u_bool ?_ | refine s_beql_tt u_bool ?_ | refine s_beql_tf u_bool ?_ | refine s_beql_ft u_bool ?_ | refine s_beql_ff u_bool ?_)
    | simp only [nth_zero, nth_succ, Nat.zero_add, Nat.reduceAdd, List.length_map, AHeap.ins_ins]
  · exact hR (i + 1) _ _ (by omega) ⟨by omega, rfl⟩
  · exact hkk _ _ trivial)

theorem laws_markCodeS_c {H : AHeap} {v : AV} {l : List Code} {k : Int} (h : ORow 5 OCode H v l) (hle : H.le σ) (hk0 : 0 ≤ k) (hk1 : k ≤ 2 ^ 40) (hl : l.length ≤ 2 ^ 20) (hc : ∀ x ∈ l, x.list.length ≤ 2 ^ 20)
    (hK : ∀ H' σ', ORow 5 OCode H' v (markL markCode l k).1 → Wr H H' σ σ' → K (I (markL markCode l k).2) σ') : ACalls PP G N.laws_markCodeS [v, I k] σ K := F.laws_markCodeS_ok (by
  unfold F.laws_markCodeS
  refine JOIN_cut (fun xs τ => nth xs 0 = I (markL markCode l k).2 ∧ ∃ H', ORow 5 OCode H' v (markL markCode l k).1 ∧ Wr H H' σ τ) (fun kk hkk => ?_) (fun xs τ ⟨e, H', g1, g2⟩ => by rw [e]; exact Fin.mk (hK H' τ g1 g2))
  refine LOOP_intro (fun i => l.length - i) (fun (i : Nat) xs τ => i ≤ l.length ∧ nth xs 0 = I (markL markCode (l.take i) k).2 ∧ nth xs 1 = I i ∧ ∃ Hi, ORow 5 OCode Hi v ((markL markCode (l.take i) k).1 ++ l.drop i) ∧ Wr H Hi σ τ) (fun i xs τ R ⟨g1, g2, g3, Hi, hrow, wr⟩ hR => ?_) 0 ⟨by omega, rfl, rfl, H, h, ⟨hle, fun _ h => h, fun _ _ => rfl⟩⟩
  simp only [g2, g3]
  have hbd := markL_bdi (k := k) (i := i) g1 (fun a ha k => markCode_bd (hc a ha) k)
  generalize hki : (markL markCode (l.take i) k).2 = ki at *
  refine s_join ?_
  refine hrow.lenl ?_
  rw [mark_len g1]
  refine BIN_lss_b (fun hlt => ?_) (fun hlt => ?_)
  rotate_left
  · refine s_iff ?_
    have : i = l.length := by omega
    subst this
    rw [List.take_length] at hki
    rw [List.take_length, List.drop_length, List.append_nil] at hrow
    exact hkk _ _ ⟨by rw [hki]; rfl, Hi, hrow, wr⟩
  have hi : i < l.length := by omega
  obtain ⟨b, rows, He, hr, ev, hb, hz, heb, hle', ⟨vl, hri, hvl⟩, hupd⟩ := hrow.focus (i := i) (by rw [mark_len g1]; exact hi)
  rw [mark_at hi] at hri hvl
  rw [mark_len g1] at ev
  have hx20 := hc l[i] (List.getElem_mem _)
  have hb0 : τ b = some (.cells 0 (rows.set i [St (bs l[i].name), I l[i].params, I l[i].cells, I l[i].result, vl]).flatten) := by rw [← hri, List.set_getElem_self]; exact wr.le _ _ hb
  simp only [ev]
  refine s_ift ?_
  refine s_join ?_
  repeat' first
    | (with_reducible first | refine s_join ?_ | refine s_ift ?_ | refine s_iff ?_ | refine s_igtt ?_ | refine s_igtf ?_ | refine s_igft ?_ | refine s_igff ?_ | refine s_igu ?_ | refine s_pt ?_ | refine s_pf ?_ | refine s_nott ?_ | refine s_notf ?_ | refine s_not ?_ | refine s_lslm ?_ | refine s_lsl ?_ | refine s_lgl ?_ | refine s_lnl ?_ | refine s_lar ?_ | refine s_lst ?_ | refine s_ncp ?_ | refine s_ncr ?_ | refine s_ncf ?_ | refine s_fap ?_ | refine s_far ?_ | refine s_mkfn ?_ | refine s_cvc ?_ | refine s_cvi ?_ | refine s_cvb ?_ | refine s_or ?_ | refine s_and ?_ | refine s_xor ?_ | refine s_andnot ?_)
    | refine PureF.call (laws_markText_c (by omega)) ?_
    | refine s_iarow hi ?_
    | refine s_fap ?_
    | refine s_strow (n := 5) (i := i) (by first | exact hb0 | exact AHeap.ins_self _ _ _) hz hr (by rfl) (by decide) rfl ?_
    | refine s_ldrow (n := 5) (i := i) (AHeap.ins_self _ _ _) hz hr (by rfl) (by decide) (by rfl) ?_
    | (with_reducible first | refine BIN_eql_b (fun h => ?_) (fun h => ?_) | refine BIN_neq_b (fun h => ?_) (fun h => ?_) | refine BIN_lss_b (fun h => ?_) (fun h => ?_) | refine BIN_leq_b (fun h => ?_) (fun h => ?_) | refine BIN_gtr_b (fun h => ?_) (fun h => ?_) | refine BIN_geq_b (fun h => ?_) (fun h => ?_) | refine BIN_seql_b (fun h => ?_) (fun h => ?_) | refine BIN_sneq_b (fun h => ?_) (fun h => ?_) | refine s_ldr rfl ?_ | refine s_tup rfl ?_ | refine s_ifb (fun h => ?_) (fun h => ?_) | refine s_shl (by decide) ?_ | refine s_shr (by decide) ?_ | refine s_add (wrap64 (by omega)) ?_ | refine s_sub (wrap64 (by omega)) ?_ | refine s_ixn (by omega) ?_ | refine s_ix0 (by omega) ?_ | refine s_iam (by omega) ?_)
    | refine s_boxag rfl rfl (fun b hb => ?_)
    | (with_reducible first | refine s_ldp (AHeap.ins_self _ _ _) rfl ?_ | refine s_ldp (ins_prev (by assumption)) rfl ?_ | refine s_ldp (by assumption) rfl ?_ | refine s_ldp (ins_old (by assumption) (by assumption)) rfl ?_ | refine s_ldp (ins_other (by assumption) (by assumption)) rfl ?_ | refine s_ldpa (ins_old (by assumption) (by assumption)) rfl ?_ | refine s_ldpa (ins_other (by assumption) (by assumption)) rfl ?_ | refine s_ldpa (by assumption) rfl ?_ | refine s_ldpa (ins_prev (by assumption)) rfl ?_ | refine s_ldpa (AHeap.ins_self _ _ _) rfl ?_ | refine s_st1 (by assumption) rfl (by simp) ?_ | refine s_st1 (AHeap.ins_self _ _ _) rfl (by simp) ?_ | refine s_st1 (ins_prev (by assumption)) rfl (by simp) ?_ | refine s_sta (by assumption) rfl rfl rfl ?_ | refine s_sta (AHeap.ins_self _ _ _) rfl rfl rfl ?_ | refine s_field1 rfl ?_ | refine s_cuts (by omega) (by omega) (by omega) ?_ | refine s_cuts_lo (by omega) (by omega) ?_ | refine s_cuts_hi (by omega) (by omega) ?_)
    | refine ⟨by first | exact s_ldp (AHeap.ins_self _ _ _) rfl s_same | exact s_ldp (ins_prev (by assumption)) rfl s_same | exact s_ldp (by assumption) rfl s_same | exact s_ldr rfl s_same, ?_⟩
    | (with_reducible first | refine s_bneq_tt u_bool ?_ | refine s_bneq_tf u_bool ?_ | refine s_bneq_ft u_bool ?_ | refine s_bneq_ff u_bool ?_ | refine s_beql_tt u_bool ?_ | refine s_beql_tf u_bool ?_ | refine s_beql_ft u_bool ?_ | refine s_beql_ff u_bool ?_)
    | simp only [nth_zero, nth_succ, Nat.zero_add, Nat.reduceAdd, List.length_map, AHeap.ins_ins]
  have hHe : He.le τ := fun p x hx => wr.le _ _ (hle' _ _ hx)
  refine laws_markInsS_c hvl (fun p x hx => ?_) (by omega) (by omega) (by omega) fun He' τ' hvl' wr' => ?_
  · have : p ≠ b := by rintro rfl; rw [heb] at hx; simp at hx
    exact (AHeap.ins_ne _ _ this).trans (hHe _ _ hx)
  refine s_add (wrap64 (by omega)) ?_
  have hb1 := (wr'.frm b heb).trans (AHeap.ins_self _ _ _)
  obtain ⟨H', q1, q2, q3⟩ := hupd He' _ (markCode l[i] ki).1 ⟨vl, rfl, hvl'⟩ rfl wr'.dom τ τ' wr.le hb1 wr'.le (fun p hp hp2 => (wr'.frm p hp2).trans (AHeap.ins_ne _ _ hp))
  subst hki
  rw [mark_set hi] at q1
  refine hR (i + 1) _ _ (by omega) ⟨by omega, by rw [markL_succ hi]; rfl, rfl, H', q1, q2, fun p hp => q3 p (wr.dom p hp), fun p hp => ?_⟩
  have h2 := wr.dom _ hp
  have : p ≠ b := by rintro rfl; rw [h2] at hb; simp at hb
  exact ((wr'.frm p (hle'.nn h2)).trans (AHeap.ins_ne _ _ this)).trans (wr.frm p hp))

theorem laws_heldCodeS_c {l : List Code} {k : Int} (hk0 : 0 ≤ k) (hk1 : k ≤ 2 ^ 40) (hl : l.length ≤ 2 ^ 20) (hc : ∀ x ∈ l, x.list.length ≤ 2 ^ 20) : PureF PP G N.laws_heldCodeS [.sl 5 ((markL markCode l k).1.map Code.av), I k] (I (markL markCode l k).2) := F.laws_heldCodeS_ok (by
  unfold F.laws_heldCodeS
  refine JOIN_cut (fun xs τ => nth xs 0 = I (markL markCode l k).2) (fun kk hkk => ?_) (fun xs τ e => by rw [e]; exact Fin.eqv rfl)
  refine LOOP_intro (fun i => l.length - i) (fun (i : Nat) xs τ => i ≤ l.length ∧ nth xs 0 = I (markL markCode (l.take i) k).2 ∧ nth xs 2 = I i) (fun i xs τ R ⟨g1, g2, g3⟩ hR => ?_) 0 ⟨by omega, rfl, rfl⟩
  simp only [g2, g3]
  have hbd := markL_bdi (k := k) (i := i) g1 (fun a ha k => markCode_bd (hc a ha) k)
  have hll := markL_length (m := markCode) (l := l) (k := k)
  refine s_join ?_
  refine s_lslm ?_
  rw [hll]
  refine BIN_lss_b (fun hlt => ?_) (fun hlt => ?_)
  rotate_left
  · refine s_iff ?_
    have : i = l.length := by omega
    subst this
    exact hkk _ _ (by rw [List.take_length]; rfl)
  have hi : i < l.length := by omega
  have hx20 := hc l[i] (List.getElem_mem _)
  have hget := markL_get (m := markCode) (k := k) hi
  have hsucc := markL_succ (m := markCode) (k := k) hi
  generalize (markL markCode (l.take i) k).2 = ki at *
  have hbd2 := markL_bd (m := markIns) (w := 5) (l := l[i].list) (k := ki + 1 + 1 + 1 + 1) fun a _ k => markIns_bd a k
  refine s_ift ?_
  repeat' first
    | (with_reducible first | refine s_join ?_ | refine s_ift ?_ | refine s_iff ?_ | refine s_igtt ?_ | refine s_igtf ?_ | refine s_igft ?_ | refine s_igff ?_ | refine s_igu ?_ | refine s_pt ?_ | refine s_pf ?_ | refine s_nott ?_ | refine s_notf ?_ | refine s_not ?_ | refine s_lslm ?_ | refine s_lsl ?_ | refine s_lgl ?_ | refine s_lnl ?_ | refine s_lar ?_ | refine s_lst ?_ | refine s_ncp ?_ | refine s_ncr ?_ | refine s_ncf ?_ | refine s_fap ?_ | refine s_far ?_ | refine s_mkfn ?_ | refine s_cvc ?_ | refine s_cvi ?_ | refine s_cvb ?_ | refine s_or ?_ | refine s_and ?_ | refine s_xor ?_ | refine s_andnot ?_)
    | refine PureF.call (laws_markText_c (by omega)) ?_
    | refine s_iaL (by omega) hget ?_
    | refine PureF.call (laws_heldInsS_c (l := l[i].list) (k := ki + 1 + 1 + 1 + 1) (by omega) (by omega) (by omega)) ?_
    | (with_reducible first | refine BIN_eql_b (fun h => ?_) (fun h => ?_) | refine BIN_neq_b (fun h => ?_) (fun h => ?_) | refine BIN_lss_b (fun h => ?_) (fun h => ?_) | refine BIN_leq_b (fun h => ?_) (fun h => ?_) | refine BIN_gtr_b (fun h => ?_) (fun h => ?_) | refine BIN_geq_b (fun h => ?_) (fun h => ?_) | refine BIN_seql_b (fun h => ?_) (fun h => ?_) | refine BIN_sneq_b (fun h => ?_) (fun h => ?_) | refine s_ldr rfl ?_ | refine s_tup rfl ?_ | refine s_ifb (fun h => ?_) (fun h => ?_) | refine s_shl (by decide) ?_ | refine s_shr (by decide) ?_ | refine s_add (wrap64 (by omega)) ?_ | refine s_sub (wrap64 (by omega)) ?_ | refine s_ixn (by omega) ?_ | refine s_ix0 (by omega) ?_ | refine s_iam (by omega) ?_)
    | refine s_boxag rfl rfl (fun b hb => ?_)
    | (with_reducible first | refine s_ldp (AHeap.ins_self _ _ _) rfl ?_ | refine s_ldp (ins_prev (by assumption)) rfl ?_ | refine s_ldp (by assumption) rfl ?_ | refine s_ldp (ins_old (by assumption) (by assumption)) rfl ?_ | refine s_ldp (ins_other (by assumption) (by assumption)) rfl ?_ | refine s_ldpa (ins_old (by assumption) (by assumption)) rfl ?_ | refine s_ldpa (ins_other (by assumption) (by assumption)) rfl ?_ | refine s_ldpa (by assumption) rfl ?_ | refine s_ldpa (ins_prev (by assumption)) rfl ?_ | refine s_ldpa (AHeap.ins_self _ _ _) rfl ?_ | refine s_st1 (by assumption) rfl (by simp) ?_ | refine s_st1 (AHeap.ins_self _ _ _) rfl (by simp) ?_ | refine s_st1 (ins_prev (by assumption)) rfl (by simp) ?_ | refine s_sta (by assumption) rfl rfl rfl ?_ | refine s_sta (AHeap.ins_self _ _ _) rfl rfl rfl ?_ | refine s_field1 rfl ?_ | refine s_cuts (by omega) (by omega) (by omega) ?_ | refine s_cuts_lo (by omega) (by omega) ?_ | refine s_cuts_hi (by omega) (by omega) ?_)
    | refine ⟨by first | exact s_ldp (AHeap.ins_self _ _ _) rfl s_same | exact s_ldp (ins_prev (by assumption)) rfl s_same | exact s_ldp (by assumption) rfl s_same | exact s_ldr rfl s_same, ?_⟩
    | (with_reducible first | refine s_bneq_tt u_bool ?_ | refine s_bneq_tf u_bool ?_ | refine s_bneq_ft u_bool ?_ | refine s_bneq_ff u_bool ?_ | refine s_beql_tt u_bool ?_ | refine s_beql_tf u_bool ?_ | refine s_beql_ft u_bool ?_ | refine s_beql_ff u_bool ?_)
    | simp only [nth_zero, nth_succ, Nat.zero_add, Nat.reduceAdd, List.length_map, AHeap.ins_ins]
  all_goals first
    | exact absurd rfl (by assumption)
    | exact hR (i + 1) _ _ (by omega) ⟨by omega, by rw [hsucc]; rfl, rfl⟩
    | omega)

/- OBJECTS -/
def markObject (x : Object) (k : Int) : Object × Int :=
  (⟨x.module, x.print, (markL markNeed x.needs k).1, (markL markGlobal x.globals (markL markNeed x.needs k).2).1, (markL markCode x.procs (markL markGlobal x.globals (markL markNeed x.needs k).2).2).1⟩, (markL markCode x.procs (markL markGlobal x.globals (markL markNeed x.needs k).2).2).2)
structure Object.Small (x : Object) : Prop where
  needs : x.needs.length ≤ 2 ^ 20
  globals : x.globals.length ≤ 2 ^ 20
  procs : x.procs.length ≤ 2 ^ 20
  codes : ∀ c ∈ x.procs, c.list.length ≤ 2 ^ 20

theorem laws_eqObject_c (x : Object) (hx : x.Small) : PureF PP G N.laws_eqObject [.ag x.cells, .ag x.cells] (Bo true) := F.laws_eqObject_ok (by
  unfold F.laws_eqObject
  refine s_boxag rfl rfl (fun b1 hb1 => ?_)
  refine s_boxag rfl rfl (fun b2 hb2 => ?_)
  have d1 := ins_old (y := ABlk.cells 0 x.cells) (AHeap.ins_self AHeap.emp b1 (ABlk.cells 0 x.cells)) hb2
  have d2 := AHeap.ins_self (AHeap.emp.ins b1 (ABlk.cells 0 x.cells)) b2 (ABlk.cells 0 x.cells)
  generalize (AHeap.emp.ins b1 (ABlk.cells 0 x.cells)).ins b2 (ABlk.cells 0 x.cells) = τ at *
  clear hb1 hb2
  have h1 := hx.needs
  have h2 := hx.globals
  have h3 := hx.procs
  have h4 : ∀ c ∈ x.procs, c.list.length < 2 ^ 60 := fun c hc => by have := hx.codes c hc; omega
  repeat' first
    | (with_reducible first | refine s_join ?_ | refine s_ift ?_ | refine s_iff ?_ | refine s_igtt ?_ | refine s_igtf ?_ | refine s_igft ?_ | refine s_igff ?_ | refine s_igu ?_ | refine s_pt ?_ | refine s_pf ?_ | refine s_nott ?_ | refine s_notf ?_ | refine s_not ?_ | refine s_lslm ?_ | refine s_lsl ?_ | refine s_lgl ?_ | refine s_lnl ?_ | refine s_lar ?_ | refine s_lst ?_ | refine s_ncp ?_ | refine s_ncr ?_ | refine s_ncf ?_ | refine s_fap ?_ | refine s_far ?_ | refine s_mkfn ?_ | refine s_cvc ?_ | refine s_cvi ?_ | refine s_cvb ?_ | refine s_or ?_ | refine s_and ?_ | refine s_xor ?_ | refine s_andnot ?_)
    | with_reducible apply PureF.call (laws_eqNeedS_c x.needs (by omega))
    | with_reducible apply PureF.call (laws_eqGlobalS_c x.globals (by omega))
    | with_reducible apply PureF.call (laws_eqCodeS_c x.procs (by omega) h4)
    | (with_reducible first | refine BIN_eql_b (fun h => ?_) (fun h => ?_) | refine BIN_neq_b (fun h => ?_) (fun h => ?_) | refine BIN_lss_b (fun h => ?_) (fun h => ?_) | refine BIN_leq_b (fun h => ?_) (fun h => ?_) | refine BIN_gtr_b (fun h => ?_) (fun h => ?_) | refine BIN_geq_b (fun h => ?_) (fun h => ?_) | refine BIN_seql_b (fun h => ?_) (fun h => ?_) | refine BIN_sneq_b (fun h => ?_) (fun h => ?_) | refine s_ldr rfl ?_ | refine s_tup rfl ?_ | refine s_ifb (fun h => ?_) (fun h => ?_) | refine s_shl (by decide) ?_ | refine s_shr (by decide) ?_ | refine s_add (wrap64 (by omega)) ?_ | refine s_sub (wrap64 (by omega)) ?_ | refine s_ixn (by omega) ?_ | refine s_ix0 (by omega) ?_ | refine s_iam (by omega) ?_)
    | refine s_boxag rfl rfl (fun b hb => ?_)
    | (with_reducible first | refine s_ldp (AHeap.ins_self _ _ _) rfl ?_ | refine s_ldp (ins_prev (by assumption)) rfl ?_ | refine s_ldp (by assumption) rfl ?_ | refine s_ldp (ins_old (by assumption) (by assumption)) rfl ?_ | refine s_ldp (ins_other (by assumption) (by assumption)) rfl ?_ | refine s_ldpa (ins_old (by assumption) (by assumption)) rfl ?_ | refine s_ldpa (ins_other (by assumption) (by assumption)) rfl ?_ | refine s_ldpa (by assumption) rfl ?_ | refine s_ldpa (ins_prev (by assumption)) rfl ?_ | refine s_ldpa (AHeap.ins_self _ _ _) rfl ?_ | refine s_st1 (by assumption) rfl (by simp) ?_ | refine s_st1 (AHeap.ins_self _ _ _) rfl (by simp) ?_ | refine s_st1 (ins_prev (by assumption)) rfl (by simp) ?_ | refine s_sta (by assumption) rfl rfl rfl ?_ | refine s_sta (AHeap.ins_self _ _ _) rfl rfl rfl ?_ | refine s_field1 rfl ?_ | refine s_cuts (by omega) (by omega) (by omega) ?_ | refine s_cuts_lo (by omega) (by omega) ?_ | refine s_cuts_hi (by omega) (by omega) ?_)
    | refine ⟨by first | exact s_ldp (AHeap.ins_self _ _ _) rfl s_same | exact s_ldp (ins_prev (by assumption)) rfl s_same | exact s_ldp (by assumption) rfl s_same | exact s_ldr rfl s_same, ?_⟩
    | (with_reducible first | refine s_bneq_tt u_bool ?_ | refine s_bneq_tf u_bool ?_ | refine s_bneq_ft u_bool ?_ | refine s_bneq_ff u_bool ?_ | refine s_beql_tt u_bool ?_ | refine s_beql_tf u_bool ?_ | refine s_beql_ft u_bool ?_ | refine s_beql_ff u_bool ?_)
    | simp only [nth_zero, nth_succ, Nat.zero_add, Nat.reduceAdd, List.length_map, AHeap.ins_ins]
  all_goals first
    | exact absurd rfl (by assumption)
    | exact Fin.eqv rfl)

theorem laws_heldObject_c {x : Object} {k : Int} (hx : x.Small) (hk0 : 0 ≤ k) (hk1 : k ≤ 2 ^ 20) : PureF PP G N.laws_heldObject [.ag (markObject x k).1.cells, I k] (I (markObject x k).2) := F.laws_heldObject_ok (by
  unfold F.laws_heldObject
  have h1 := hx.needs
  have h2 := hx.globals
  have h3 := hx.procs
  have c1 := markL_bd (m := markNeed) (w := 2) (l := x.needs) (k := k) fun a _ k => markNeed_bd a k
  have c2 := markL_bd (m := markGlobal) (w := 2) (l := x.globals) (k := (markL markNeed x.needs k).2) fun a _ k => markGlobal_bd a k
  have c3 := markL_bd (m := markCode) (w := 5242884) (l := x.procs) (k := (markL markGlobal x.globals (markL markNeed x.needs k).2).2) fun a ha k => markCode_bd (hx.codes a ha) k
  refine s_boxag rfl rfl (fun b1 hb1 => ?_)
  have d1 := AHeap.ins_self AHeap.emp b1 (ABlk.cells 0 (markObject x k).1.cells)
  generalize AHeap.emp.ins b1 (ABlk.cells 0 (markObject x k).1.cells) = τ at *
  refine s_fap ?_
  refine s_ldp d1 rfl ?_
  refine PureF.call (laws_heldNeedS_c hk0 (by omega) (by omega)) ?_
  refine s_join ?_
  refine BIN_lss_b (fun hlt => by omega) (fun hlt => ?_)
  refine s_iff ?_
  refine s_fap ?_
  refine s_ldp d1 rfl ?_
  refine PureF.call (laws_heldGlobalS_c (by omega) (by omega) (by omega)) ?_
  refine s_join ?_
  refine BIN_lss_b (fun hlt => by omega) (fun hlt => ?_)
  refine s_iff ?_
  refine s_fap ?_
  refine s_ldp d1 rfl ?_
  refine PureF.call (laws_heldCodeS_c (by omega) (by omega) (by omega) hx.codes) ?_
  refine s_join ?_
  refine BIN_lss_b (fun hlt => by omega) (fun hlt => ?_)
  refine s_iff ?_
  exact Fin.eqv rfl)

theorem Wr.nn {H H' σ' : AHeap} (w : Wr H H' σ σ') {p : Nat} (hp : H' p ≠ none) : H p ≠ none := fun e => hp (w.dom p e)
theorem laws_markObject_c {H : AHeap} {cs : List AV} {x : Object} {k : Int} (hO : OObject H cs x) (hle : H.le σ) (hx : x.Small) (hk0 : 0 ≤ k) (hk1 : k ≤ 2 ^ 20)
    (hK : ∀ H' σ', OObject H' cs (markObject x k).1 → Wr H H' σ σ' → K (I (markObject x k).2) σ') : ACalls PP G N.laws_markObject [.ag cs, I k] σ K := F.laws_markObject_ok (by
  unfold F.laws_markObject
  obtain ⟨H1, H2, H3, a, b, c, rfl, r1, r2, r3, d12, d13, d23, rfl⟩ := hO
  have h1 := hx.needs
  have h2 := hx.globals
  have h3 := hx.procs
  have c1 := markL_bd (m := markNeed) (w := 2) (l := x.needs) (k := k) fun a _ k => markNeed_bd a k
  have c2 := markL_bd (m := markGlobal) (w := 2) (l := x.globals) (k := (markL markNeed x.needs k).2) fun a _ k => markGlobal_bd a k
  have l1 : H1.le σ := ((AHeap.le_un_left _ _).trans (AHeap.le_un_left _ _)).trans hle
  have l2 : H2.le σ := ((AHeap.le_un_right d12).trans (AHeap.le_un_left _ _)).trans hle
  have l3 : H3.le σ := (AHeap.le_un_right (d13.un_left d23)).trans hle
  refine s_boxag rfl (by simp [r1.none_or, r2.none_or, r3.none_or]) (fun q hq => ?_)
  have e := AHeap.ins_self σ q (ABlk.cells 0 [St (bs x.module), I x.print, a, b, c])
  refine s_fap ?_
  refine s_ldp e rfl ?_
  refine laws_markNeedS_c r1 (l1.ins_new hq) hk0 (by omega) (by omega) fun H1' σ1 g1 w1 => ?_
  have e := (w1.frm q (l1.nn hq)).trans e
  refine s_fap ?_
  refine s_ldp e rfl ?_
  refine laws_markGlobalS_c r2 (fun p y hy => (w1.frm p ((d12 p).resolve_right (by simp [hy]))).trans (l2.ins_new hq _ _ hy)) (by omega) (by omega) (by omega) fun H2' σ2 g2 w2 => ?_
  have e := (w2.frm q (l2.nn hq)).trans e
  refine s_fap ?_
  refine s_ldp e rfl ?_
  refine laws_markCodeS_c r3 (fun p y hy => (w2.frm p ((d23 p).resolve_right (by simp [hy]))).trans ((w1.frm p ((d13 p).resolve_right (by simp [hy]))).trans (l3.ins_new hq _ _ hy))) (by omega) (by omega) (by omega) hx.codes fun H3' σ3 g3 w3 => ?_
  have dd12 : Dis H1' H2' := fun p => (d12 p).imp (w1.dom p) (w2.dom p)
  have dd13 : Dis H1' H3' := fun p => (d13 p).imp (w1.dom p) (w3.dom p)
  have dd23 : Dis H2' H3' := fun p => (d23 p).imp (w2.dom p) (w3.dom p)
  have m2 : H2'.le σ3 := fun p y hy => (w3.frm p ((d23 p).resolve_left (w2.nn (by simp [hy])))).trans (w2.le _ _ hy)
  have m1 : H1'.le σ3 := fun p y hy => (w3.frm p ((d13 p).resolve_left (w1.nn (by simp [hy])))).trans ((w2.frm p ((d12 p).resolve_left (w1.nn (by simp [hy])))).trans (w1.le _ _ hy))
  have hHq : ∀ p, ((H1'.un H2').un H3') p ≠ none → p ≠ q := fun p hp e => by
    subst e
    exact hp (AHeap.un_none.2 ⟨AHeap.un_none.2 ⟨w1.dom _ (l1.nn hq), w2.dom _ (l2.nn hq)⟩, w3.dom _ (l3.nn hq)⟩)
  refine Fin.drop (σ' := σ3.del q) (fun p y hy => ?_) (hK ((H1'.un H2').un H3') _ ⟨H1', H2', H3', a, b, c, rfl, g1, g2, g3, dd12, dd13, dd23, rfl⟩ ⟨fun p y hy => ?_, fun p hp => ?_, fun p hp => ?_⟩)
  · by_cases ep : p = q
    · subst ep; simp [AHeap.del] at hy
    · rwa [AHeap.del_ne _ ep] at hy
  · rw [AHeap.del_ne _ (hHq p (by simp [hy]))]
    exact AHeap.un_le (AHeap.un_le m1 m2) w3.le _ _ hy
  · rw [AHeap.un_none, AHeap.un_none] at hp ⊢
    exact ⟨⟨w1.dom _ hp.1.1, w2.dom _ hp.1.2⟩, w3.dom _ hp.2⟩
  · rw [AHeap.un_none, AHeap.un_none] at hp
    by_cases ep : p = q
    · subst ep; rw [hq]; simp [AHeap.del]
    · rw [AHeap.del_ne _ ep]
      exact (w3.frm p hp.2).trans ((w2.frm p hp.1.2).trans ((w1.frm p hp.1.1).trans (AHeap.ins_ne _ _ ep))))

end Go.Al
