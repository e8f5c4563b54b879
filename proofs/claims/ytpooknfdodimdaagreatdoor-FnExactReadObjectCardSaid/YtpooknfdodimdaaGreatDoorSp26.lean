/- Contracts: the laws compare, mark and look again at flat structs. (Printed by lawgen.py.) -/
import Derived.Test.YtpooknfdodimdaaGreatDoorSp25
set_option linter.unusedVariables false
set_option linter.unusedSimpArgs false
set_option maxRecDepth 100000
set_option maxHeartbeats 4000000
namespace Go.Al
variable {G : Seal} {σ : AHeap} {K : KAV}

theorem s_ldrA {n : Nat} {cs : List AV} (hl : cs.length = n) (hk : K (.ag cs) σ) : LOAD (.agg n) (.rp cs 0) σ K := by
  subst hl
  exact s_ldrn (by omega) (by simpa using hk)
theorem s_iaL {α : Type} {sz k} {l : List α} {f : α → List AV} {i : Nat} {x : α} (h : i < l.length) (hx : l[i] = x) (hk : K (.rp (f x) 0) σ) : IA (.slice sz) (.sl sz (l.map f)) (.sc (.int k (i : Int))) σ K := by
  subst hx; exact s_iam h hk
theorem markL_bdi {α : Type} {m : α → Int → α × Int} {w : Nat} {l : List α} {k : Int} {i : Nat} (hi : i ≤ l.length) (hm : ∀ a ∈ l, ∀ k, k ≤ (m a k).2 ∧ (m a k).2 ≤ k + w) : k ≤ (markL m (l.take i) k).2 ∧ (markL m (l.take i) k).2 ≤ k + w * i := by
  have := markL_bd (m := m) (w := w) (l := l.take i) (k := k) fun a ha => hm a (List.mem_of_mem_take ha)
  rwa [show (l.take i).length = i by simp; omega] at this

def markNeed (x : Need) (k : Int) : Need × Int := (⟨mtext (k), k + 1⟩, k + 1 + 1)
theorem markNeed_bd (x : Need) (k : Int) : k ≤ (markNeed x k).2 ∧ (markNeed x k).2 ≤ k + (2 : Nat) := by simp only [markNeed]; omega
theorem laws_eqNeed_c (x : Need) : PureF PP G N.laws_eqNeed [.ag x.cells, .ag x.cells] (Bo true) := F.laws_eqNeed_ok (by
  unfold F.laws_eqNeed
  refine s_boxag rfl rfl (fun b1 hb1 => ?_)
  refine s_boxag rfl rfl (fun b2 hb2 => ?_)
  have d1 := ins_old (y := ABlk.cells 0 x.cells) (AHeap.ins_self AHeap.emp b1 (ABlk.cells 0 x.cells)) hb2
  have d2 := AHeap.ins_self (AHeap.emp.ins b1 (ABlk.cells 0 x.cells)) b2 (ABlk.cells 0 x.cells)
  generalize (AHeap.emp.ins b1 (ABlk.cells 0 x.cells)).ins b2 (ABlk.cells 0 x.cells) = τ at *
  clear hb1 hb2
  repeat' first
    | (with_reducible first | refine s_join ?_ | refine s_ift ?_ | refine s_iff ?_ | refine s_igtt ?_ | refine s_igtf ?_ | refine s_igft ?_ | refine s_igff ?_ | refine s_igu ?_ | refine s_pt ?_ | refine s_pf ?_ | refine s_nott ?_ | refine s_notf ?_ | refine s_not ?_ | refine s_lslm ?_ | refine s_lsl ?_ | refine s_lgl ?_ | refine s_lnl ?_ | refine s_lar ?_ | refine s_lst ?_ | refine s_ncp ?_ | refine s_ncr ?_ | refine s_ncf ?_ | refine s_fap ?_ | refine s_far ?_ | refine s_mkfn ?_ | refine s_cvc ?_ | refine s_cvi ?_ | refine s_cvb ?_ | refine s_or ?_ | refine s_and ?_ | refine s_xor ?_ | refine s_andnot ?_)
    | (with_reducible first | refine BIN_eql_b (fun h => ?_) (fun h => ?_) | refine BIN_neq_b (fun h => ?_) (fun h => ?_) | refine BIN_lss_b (fun h => ?_) (fun h => ?_) | refine BIN_leq_b (fun h => ?_) (fun h => ?_) | refine BIN_gtr_b (fun h => ?_) (fun h => ?_) | refine BIN_geq_b (fun h => ?_) (fun h => ?_) | refine BIN_seql_b (fun h => ?_) (fun h => ?_) | refine BIN_sneq_b (fun h => ?_) (fun h => ?_) | refine s_ldr rfl ?_ | refine s_tup rfl ?_ | refine s_ifb (fun h => ?_) (fun h => ?_) | refine s_shl (by decide) ?_ | refine s_shr (by decide) ?_ | refine s_add (wrap64 (by omega)) ?_ | refine s_sub (wrap64 (by omega)) ?_ | refine s_ixn (by omega) ?_ | refine s_ix0 (by omega) ?_ | refine s_iam (by omega) ?_)
    | refine s_boxag rfl rfl (fun b hb => ?_)
    | (with_reducible first | refine s_ldp (AHeap.ins_self _ _ _) rfl ?_ | refine s_ldp (ins_prev (by assumption)) rfl ?_ | refine s_ldp (by assumption) rfl ?_ | refine s_ldp (ins_old (by assumption) (by assumption)) rfl ?_ | refine s_ldp (ins_other (by assumption) (by assumption)) rfl ?_ | refine s_ldpa (ins_old (by assumption) (by assumption)) rfl ?_ | refine s_ldpa (ins_other (by assumption) (by assumption)) rfl ?_ | refine s_ldpa (by assumption) rfl ?_ | refine s_ldpa (ins_prev (by assumption)) rfl ?_ | refine s_ldpa (AHeap.ins_self _ _ _) rfl ?_ | refine s_st1 (by assumption) rfl (by simp) ?_ | refine s_st1 (AHeap.ins_self _ _ _) rfl (by simp) ?_ | refine s_st1 (ins_prev (by assumption)) rfl (by simp) ?_ | refine s_sta (by assumption) rfl rfl rfl ?_ | refine s_sta (AHeap.ins_self _ _ _) rfl rfl rfl ?_ | refine s_field1 rfl ?_ | refine s_cuts (by omega) (by omega) (by omega) ?_ | refine s_cuts_lo (by omega) (by omega) ?_ | refine s_cuts_hi (by omega) (by omega) ?_)
    | refine ⟨by first | exact s_ldp (AHeap.ins_self _ _ _) rfl s_same | exact s_ldp (ins_prev (by assumption)) rfl s_same | exact s_ldp (by assumption) rfl s_same | exact s_ldr rfl s_same, ?_⟩
    | (with_reducible first | refine s_bneq_tt u_bool ?_ | refine s_bneq_tf u_bool ?_ | refine s_bneq_ft u_bool ?_ | refine s_bneq_ff u_bool ?_ | refine s_beql_tt u_bool ?_ | refine s_beql_tf u_bool ?_ | refine s_beql_ft u_bool ?_ | refine s_beql_ff u_bool ?_)
    | simp only [nth_zero, nth_succ, Nat.zero_add, Nat.reduceAdd, List.length_map, AHeap.ins_ins]
  all_goals first
    | exact absurd rfl (by assumption)
    | exact Fin.eqv rfl)
theorem laws_eqNeedS_c (l : List Need) (hl : l.length < 2 ^ 60) : PureF PP G N.laws_eqNeedS [.sl 2 (l.map Need.cells), .sl 2 (l.map Need.cells)] (Bo true) := F.laws_eqNeedS_ok (by
  unfold F.laws_eqNeedS
  refine JOIN_cut (fun xs τ => True) (fun kk hkk => ?_) (fun xs τ _ => ?_)
  · repeat' first
      | (with_reducible first | refine s_join ?_ | refine s_ift ?_ | refine s_iff ?_ | refine s_igtt ?_ | refine s_igtf ?_ | refine s_igft ?_ | refine s_igff ?_ | refine s_igu ?_ | refine s_pt ?_ | refine s_pf ?_ | refine s_nott ?_ | refine s_notf ?_ | refine s_not ?_ | refine s_lslm ?_ | refine s_lsl ?_ | refine s_lgl ?_ | refine s_lnl ?_ | refine s_lar ?_ | refine s_lst ?_ | refine s_ncp ?_ | refine s_ncr ?_ | refine s_ncf ?_ | refine s_fap ?_ | refine s_far ?_ | refine s_mkfn ?_ | refine s_cvc ?_ | refine s_cvi ?_ | refine s_cvb ?_ | refine s_or ?_ | refine s_and ?_ | refine s_xor ?_ | refine s_andnot ?_)
      | (with_reducible first | refine BIN_eql_b (fun h => ?_) (fun h => ?_) | refine BIN_neq_b (fun h => ?_) (fun h => ?_) | refine BIN_lss_b (fun h => ?_) (fun h => ?_) | refine BIN_leq_b (fun h => ?_) (fun h => ?_) | refine BIN_gtr_b (fun h => ?_) (fun h => ?_) | refine BIN_geq_b (fun h => ?_) (fun h => ?_) | refine BIN_seql_b (fun h => ?_) (fun h => ?_) | refine BIN_sneq_b (fun h => ?_) (fun h => ?_) | refine s_ldr rfl ?_ | refine s_tup rfl ?_ | refine s_ifb (fun h => ?_) (fun h => ?_) | refine s_shl (by decide) ?_ | refine s_shr (by decide) ?_ | refine s_add (wrap64 (by omega)) ?_ | refine s_sub (wrap64 (by omega)) ?_ | refine s_ixn (by omega) ?_ | refine s_ix0 (by omega) ?_ | refine s_iam (by omega) ?_)
      | refine s_boxag rfl rfl (fun b hb => ?_)
      | (with_reducible first | refine s_ldp (AHeap.ins_self _ _ _) rfl ?_ | refine s_ldp (ins_prev (by assumption)) rfl ?_ | refine s_ldp (by assumption) rfl ?_ | refine s_ldp (ins_old (by assumption) (by assumption)) rfl ?_ | refine s_ldp (ins_other (by assumption) (by assumption)) rfl ?_ | refine s_ldpa (ins_old (by assumption) (by assumption)) rfl ?_ | refine s_ldpa (ins_other (by assumption) (by assumption)) rfl ?_ | refine s_ldpa (by assumption) rfl ?_ | refine s_ldpa (ins_prev (by assumption)) rfl ?_ | refine s_ldpa (AHeap.ins_self _ _ _) rfl ?_ | refine s_st1 (by assumption) rfl (by simp) ?_ | refine s_st1 (AHeap.ins_self _ _ _) rfl (by simp) ?_ | refine s_st1 (ins_prev (by assumption)) rfl (by simp) ?_ | refine s_sta (by assumption) rfl rfl rfl ?_ | refine s_sta (AHeap.ins_self _ _ _) rfl rfl rfl ?_ | refine s_field1 rfl ?_ | refine s_cuts (by omega) (by omega) (by omega) ?_ | refine s_cuts_lo (by omega) (by omega) ?_ | refine s_cuts_hi (by omega) (by omega) ?_)
      | refine ⟨by first | exact s_ldp (AHeap.ins_self _ _ _) rfl s_same | exact s_ldp (ins_prev (by assumption)) rfl s_same | exact s_ldp (by assumption) rfl s_same | exact s_ldr rfl s_same, ?_⟩
      | (with_reducible first | refine s_bneq_tt u_bool ?_ | refine s_bneq_tf u_bool ?_ | refine s_bneq_ft u_bool ?_ | refine s_bneq_ff u_bool ?_ | refine s_beql_tt u_bool ?_ | refine s_beql_tf u_bool ?_ | refine s_beql_ft u_bool ?_ | refine s_beql_ff u_bool ?_)
      | simp only [nth_zero, nth_succ, Nat.zero_add, Nat.reduceAdd, List.length_map, AHeap.ins_ins]
    all_goals first
      | exact hkk _ _ trivial
      | exact absurd rfl (by assumption)
  refine JOIN_cut (fun xs τ => True) (fun kk hkk => ?_) (fun xs τ _ => Fin.eqv rfl)
  refine LOOP_intro (fun i => l.length - i) (fun (i : Nat) xs τ => i ≤ l.length ∧ nth xs 1 = I i) (fun i xs τ R ⟨g1, g2⟩ hR => ?_) 0 ⟨by omega, rfl⟩
  simp only [g2]
  repeat' first
    | (with_reducible first | refine s_join ?_ | refine s_ift ?_ | refine s_iff ?_ | refine s_igtt ?_ | refine s_igtf ?_ | refine s_igft ?_ | refine s_igff ?_ | refine s_igu ?_ | refine s_pt ?_ | refine s_pf ?_ | refine s_nott ?_ | refine s_notf ?_ | refine s_not ?_ | refine s_lslm ?_ | refine s_lsl ?_ | refine s_lgl ?_ | refine s_lnl ?_ | refine s_lar ?_ | refine s_lst ?_ | refine s_ncp ?_ | refine s_ncr ?_ | refine s_ncf ?_ | refine s_fap ?_ | refine s_far ?_ | refine s_mkfn ?_ | refine s_cvc ?_ | refine s_cvi ?_ | refine s_cvb ?_ | refine s_or ?_ | refine s_and ?_ | refine s_xor ?_ | refine s_andnot ?_)
    | refine s_ldrA rfl ?_
    | with_reducible apply PureF.call (laws_eqNeed_c _)
    | (with_reducible first | refine BIN_eql_b (fun h => ?_) (fun h => ?_) | refine BIN_neq_b (fun h => ?_) (fun h => ?_) | refine BIN_lss_b (fun h => ?_) (fun h => ?_) | refine BIN_leq_b (fun h => ?_) (fun h => ?_) | refine BIN_gtr_b (fun h => ?_) (fun h => ?_) | refine BIN_geq_b (fun h => ?_) (fun h => ?_) | refine BIN_seql_b (fun h => ?_) (fun h => ?_) | refine BIN_sneq_b (fun h => ?_) (fun h => ?_) | refine s_ldr rfl ?_ | refine s_tup rfl ?_ | refine s_ifb (fun h => ?_) (fun h => ?_) | refine s_shl (by decide) ?_ | refine s_shr (by decide) ?_ | refine s_add (wrap64 (by omega)) ?_ | refine s_sub (wrap64 (by omega)) ?_ | refine s_ixn (by omega) ?_ | refine s_ix0 (by omega) ?_ | refine s_iam (by omega) ?_)
    | refine s_boxag rfl rfl (fun b hb => ?_)
    | (with_reducible first | refine s_ldp (AHeap.ins_self _ _ _) rfl ?_ | refine s_ldp (ins_prev (by assumption)) rfl ?_ | refine s_ldp (by assumption) rfl ?_ | refine s_ldp (ins_old (by assumption) (by assumption)) rfl ?_ | refine s_ldp (ins_other (by assumption) (by assumption)) rfl ?_ | refine s_ldpa (ins_old (by assumption) (by assumption)) rfl ?_ | refine s_ldpa (ins_other (by assumption) (by assumption)) rfl ?_ | refine s_ldpa (by assumption) rfl ?_ | refine s_ldpa (ins_prev (by assumption)) rfl ?_ | refine s_ldpa (AHeap.ins_self _ _ _) rfl ?_ | refine s_st1 (by assumption) rfl (by simp) ?_ | refine s_st1 (AHeap.ins_self _ _ _) rfl (by simp) ?_ | refine s_st1 (ins_prev (by assumption)) rfl (by simp) ?_ | refine s_sta (by assumption) rfl rfl rfl ?_ | refine s_sta (AHeap.ins_self _ _ _) rfl rfl rfl ?_ | refine s_field1 rfl ?_ | refine s_cuts (by omega) (by omega) (by omega) ?_ | refine s_cuts_lo (by omega) (by omega) ?_ | refine s_cuts_hi (by omega) (by omega) ?_)
    | refine ⟨by first | exact s_ldp (AHeap.ins_self _ _ _) rfl s_same | exact s_ldp (ins_prev (by assumption)) rfl s_same | exact s_ldp (by assumption) rfl s_same | exact s_ldr rfl s_same, ?_⟩
    | (with_reducible first | refine s_bneq_tt u_bool ?_ | refine s_bneq_tf u_bool ?_ | refine s_bneq_ft u_bool ?_ | refine s_bneq_ff u_bool ?_ | refine s_beql_tt u_bool ?_ | refine s_beql_tf u_bool ?_ | refine s_beql_ft u_bool ?_ | refine s_beql_ff u_bool ?_)
    | simp only [nth_zero, nth_succ, Nat.zero_add, Nat.reduceAdd, List.length_map, AHeap.ins_ins]
  · exact hR (i + 1) _ _ (by omega) ⟨by omega, rfl⟩
  · exact hkk _ _ trivial)
theorem laws_markNeedS_c {H : AHeap} {v : AV} {l : List Need} {k : Int} (h : ORow 2 (EFlat Need.cells) H v l) (hle : H.le σ) (hk0 : 0 ≤ k) (hk1 : k ≤ 2 ^ 50) (hl : l.length ≤ 2 ^ 40)
    (hK : ∀ H' σ', ORow 2 (EFlat Need.cells) H' v (markL markNeed l k).1 → Wr H H' σ σ' → K (I (markL markNeed l k).2) σ') : ACalls PP G N.laws_markNeedS [v, I k] σ K := F.laws_markNeedS_ok (by
  unfold F.laws_markNeedS
  refine JOIN_cut (fun xs τ => nth xs 0 = I (markL markNeed l k).2 ∧ ∃ H', ORow 2 (EFlat Need.cells) H' v (markL markNeed l k).1 ∧ Wr H H' σ τ) (fun kk hkk => ?_) (fun xs τ ⟨e, H', g1, g2⟩ => by rw [e]; exact Fin.mk (hK H' τ g1 g2))
  refine LOOP_intro (fun i => l.length - i) (fun (i : Nat) xs τ => i ≤ l.length ∧ nth xs 0 = I (markL markNeed (l.take i) k).2 ∧ nth xs 1 = I i ∧ ∃ Hi, ORow 2 (EFlat Need.cells) Hi v ((markL markNeed (l.take i) k).1 ++ l.drop i) ∧ Wr H Hi σ τ) (fun i xs τ R ⟨g1, g2, g3, Hi, hrow, wr⟩ hR => ?_) 0 ⟨by omega, rfl, rfl, H, h, ⟨hle, fun _ h => h, fun _ _ => rfl⟩⟩
  simp only [g2, g3]
  have hbd := markL_bdi (k := k) (i := i) g1 (fun a _ k => markNeed_bd a k)
  generalize hki : (markL markNeed (l.take i) k).2 = ki at *
  refine s_join ?_
  refine hrow.lenl ?_
  rw [mark_len g1]
  refine BIN_lss_b (fun hlt => ?_) (fun hlt => ?_)
  rotate_left
  · refine s_iff ?_
    have : i = l.length := by omega
    subst this
    rw [List.take_length] at hki
    rw [List.take_length, List.drop_length, List.append_nil] at hrow
    exact hkk _ _ ⟨by rw [hki]; rfl, Hi, hrow, wr⟩
  have hi : i < l.length := by omega
  obtain ⟨b, rows, He, hr, ev, hb, hz, heb, hle', ⟨rfl, hri⟩, hupd⟩ := hrow.focus (i := i) (by rw [mark_len g1]; exact hi)
  rw [mark_at hi] at hri
  rw [mark_len g1] at ev
  have hb0 : τ b = some (.cells 0 (rows.set i l[i].cells).flatten) := by rw [← hri, List.set_getElem_self]; exact wr.le _ _ hb
  simp only [ev]
  refine s_ift ?_
  refine s_join ?_
  repeat' first
    | (with_reducible first | refine s_join ?_ | refine s_ift ?_ | refine s_iff ?_ | refine s_igtt ?_ | refine s_igtf ?_ | refine s_igft ?_ | refine s_igff ?_ | refine s_igu ?_ | refine s_pt ?_ | refine s_pf ?_ | refine s_nott ?_ | refine s_notf ?_ | refine s_not ?_ | refine s_lslm ?_ | refine s_lsl ?_ | refine s_lgl ?_ | refine s_lnl ?_ | refine s_lar ?_ | refine s_lst ?_ | refine s_ncp ?_ | refine s_ncr ?_ | refine s_ncf ?_ | refine s_fap ?_ | refine s_far ?_ | refine s_mkfn ?_ | refine s_cvc ?_ | refine s_cvi ?_ | refine s_cvb ?_ | refine s_or ?_ | refine s_and ?_ | refine s_xor ?_ | refine s_andnot ?_)
    | refine PureF.call (laws_markText_c (by omega)) ?_
    | refine s_iarow hi ?_
    | refine s_fap ?_
    | refine s_strow (n := 2) (i := i) (by first | exact hb0 | exact AHeap.ins_self _ _ _) hz hr (by rfl) (by decide) rfl ?_
    | (with_reducible first | refine BIN_eql_b (fun h => ?_) (fun h => ?_) | refine BIN_neq_b (fun h => ?_) (fun h => ?_) | refine BIN_lss_b (fun h => ?_) (fun h => ?_) | refine BIN_leq_b (fun h => ?_) (fun h => ?_) | refine BIN_gtr_b (fun h => ?_) (fun h => ?_) | refine BIN_geq_b (fun h => ?_) (fun h => ?_) | refine BIN_seql_b (fun h => ?_) (fun h => ?_) | refine BIN_sneq_b (fun h => ?_) (fun h => ?_) | refine s_ldr rfl ?_ | refine s_tup rfl ?_ | refine s_ifb (fun h => ?_) (fun h => ?_) | refine s_shl (by decide) ?_ | refine s_shr (by decide) ?_ | refine s_add (wrap64 (by omega)) ?_ | refine s_sub (wrap64 (by omega)) ?_ | refine s_ixn (by omega) ?_ | refine s_ix0 (by omega) ?_ | refine s_iam (by omega) ?_)
    | refine s_boxag rfl rfl (fun b hb => ?_)
    | (with_reducible first | refine s_ldp (AHeap.ins_self _ _ _) rfl ?_ | refine s_ldp (ins_prev (by assumption)) rfl ?_ | refine s_ldp (by assumption) rfl ?_ | refine s_ldp (ins_old (by assumption) (by assumption)) rfl ?_ | refine s_ldp (ins_other (by assumption) (by assumption)) rfl ?_ | refine s_ldpa (ins_old (by assumption) (by assumption)) rfl ?_ | refine s_ldpa (ins_other (by assumption) (by assumption)) rfl ?_ | refine s_ldpa (by assumption) rfl ?_ | refine s_ldpa (ins_prev (by assumption)) rfl ?_ | refine s_ldpa (AHeap.ins_self _ _ _) rfl ?_ | refine s_st1 (by assumption) rfl (by simp) ?_ | refine s_st1 (AHeap.ins_self _ _ _) rfl (by simp) ?_ | refine s_st1 (ins_prev (by assumption)) rfl (by simp) ?_ | refine s_sta (by assumption) rfl rfl rfl ?_ | refine s_sta (AHeap.ins_self _ _ _) rfl rfl rfl ?_ | refine s_field1 rfl ?_ | refine s_cuts (by omega) (by omega) (by omega) ?_ | refine s_cuts_lo (by omega) (by omega) ?_ | refine s_cuts_hi (by omega) (by omega) ?_)
    | refine ⟨by first | exact s_ldp (AHeap.ins_self _ _ _) rfl s_same | exact s_ldp (ins_prev (by assumption)) rfl s_same | exact s_ldp (by assumption) rfl s_same | exact s_ldr rfl s_same, ?_⟩
    | (with_reducible first | refine s_bneq_tt u_bool ?_ | refine s_bneq_tf u_bool ?_ | refine s_bneq_ft u_bool ?_ | refine s_bneq_ff u_bool ?_ | refine s_beql_tt u_bool ?_ | refine s_beql_tf u_bool ?_ | refine s_beql_ft u_bool ?_ | refine s_beql_ff u_bool ?_)
    | simp only [nth_zero, nth_succ, Nat.zero_add, Nat.reduceAdd, List.length_map, AHeap.ins_ins]
  obtain ⟨H', q1, q2, q3⟩ := hupd .emp (markNeed l[i] ki).1.cells (markNeed l[i] ki).1 ⟨rfl, rfl⟩ rfl (fun _ _ => rfl) τ (τ.ins b (.cells 0 (rows.set i (markNeed l[i] ki).1.cells).flatten)) wr.le (AHeap.ins_self _ _ _) (AHeap.emp_le _) (fun p hp _ => AHeap.ins_ne _ _ hp)
  subst hki
  rw [mark_set hi] at q1
  refine hR (i + 1) _ _ (by omega) ⟨by omega, by rw [markL_succ hi]; rfl, rfl, H', q1, q2, fun p hp => q3 p (wr.dom p hp), fun p hp => ?_⟩
  have : p ≠ b := by rintro rfl; rw [wr.dom _ hp] at hb; simp at hb
  refine (AHeap.ins_ne _ _ this).trans (wr.frm p hp))
theorem laws_heldNeedS_c {l : List Need} {k : Int} (hk0 : 0 ≤ k) (hk1 : k ≤ 2 ^ 50) (hl : l.length ≤ 2 ^ 40) : PureF PP G N.laws_heldNeedS [.sl 2 ((markL markNeed l k).1.map Need.cells), I k] (I (markL markNeed l k).2) := F.laws_heldNeedS_ok (by
  unfold F.laws_heldNeedS
  refine JOIN_cut (fun xs τ => nth xs 0 = I (markL markNeed l k).2) (fun kk hkk => ?_) (fun xs τ e => by rw [e]; exact Fin.eqv rfl)
  refine LOOP_intro (fun i => l.length - i) (fun (i : Nat) xs τ => i ≤ l.length ∧ nth xs 0 = I (markL markNeed (l.take i) k).2 ∧ nth xs 2 = I i) (fun i xs τ R ⟨g1, g2, g3⟩ hR => ?_) 0 ⟨by omega, rfl, rfl⟩
  simp only [g2, g3]
  have hbd := markL_bdi (k := k) (i := i) g1 (fun a _ k => markNeed_bd a k)
  have hll := markL_length (m := markNeed) (l := l) (k := k)
  refine s_join ?_
  refine s_lslm ?_
  rw [hll]
  refine BIN_lss_b (fun hlt => ?_) (fun hlt => ?_)
  rotate_left
  · refine s_iff ?_
    have : i = l.length := by omega
    subst this
    exact hkk _ _ (by rw [List.take_length]; rfl)
  have hi : i < l.length := by omega
  have hget := markL_get (m := markNeed) (k := k) hi
  have hsucc := markL_succ (m := markNeed) (k := k) hi
  generalize (markL markNeed (l.take i) k).2 = ki at *
  refine s_ift ?_
  repeat' first
    | (with_reducible first | refine s_join ?_ | refine s_ift ?_ | refine s_iff ?_ | refine s_igtt ?_ | refine s_igtf ?_ | refine s_igft ?_ | refine s_igff ?_ | refine s_igu ?_ | refine s_pt ?_ | refine s_pf ?_ | refine s_nott ?_ | refine s_notf ?_ | refine s_not ?_ | refine s_lslm ?_ | refine s_lsl ?_ | refine s_lgl ?_ | refine s_lnl ?_ | refine s_lar ?_ | refine s_lst ?_ | refine s_ncp ?_ | refine s_ncr ?_ | refine s_ncf ?_ | refine s_fap ?_ | refine s_far ?_ | refine s_mkfn ?_ | refine s_cvc ?_ | refine s_cvi ?_ | refine s_cvb ?_ | refine s_or ?_ | refine s_and ?_ | refine s_xor ?_ | refine s_andnot ?_)
    | refine PureF.call (laws_markText_c (by omega)) ?_
    | refine s_iaL (by omega) hget ?_
    | (with_reducible first | refine BIN_eql_b (fun h => ?_) (fun h => ?_) | refine BIN_neq_b (fun h => ?_) (fun h => ?_) | refine BIN_lss_b (fun h => ?_) (fun h => ?_) | refine BIN_leq_b (fun h => ?_) (fun h => ?_) | refine BIN_gtr_b (fun h => ?_) (fun h => ?_) | refine BIN_geq_b (fun h => ?_) (fun h => ?_) | refine BIN_seql_b (fun h => ?_) (fun h => ?_) | refine BIN_sneq_b (fun h => ?_) (fun h => ?_) | refine s_ldr rfl ?_ | refine s_tup rfl ?_ | refine s_ifb (fun h => ?_) (fun h => ?_) | refine s_shl (by decide) ?_ | refine s_shr (by decide) ?_ | refine s_add (wrap64 (by omega)) ?_ | refine s_sub (wrap64 (by omega)) ?_ | refine s_ixn (by omega) ?_ | refine s_ix0 (by omega) ?_ | refine s_iam (by omega) ?_)
    | refine s_boxag rfl rfl (fun b hb => ?_)
    | (with_reducible first | refine s_ldp (AHeap.ins_self _ _ _) rfl ?_ | refine s_ldp (ins_prev (by assumption)) rfl ?_ | refine s_ldp (by assumption) rfl ?_ | refine s_ldp (ins_old (by assumption) (by assumption)) rfl ?_ | refine s_ldp (ins_other (by assumption) (by assumption)) rfl ?_ | refine s_ldpa (ins_old (by assumption) (by assumption)) rfl ?_ | refine s_ldpa (ins_other (by assumption) (by assumption)) rfl ?_ | refine s_ldpa (by assumption) rfl ?_ | refine s_ldpa (ins_prev (by assumption)) rfl ?_ | refine s_ldpa (AHeap.ins_self _ _ _) rfl ?_ | refine s_st1 (by assumption) rfl (by simp) ?_ | refine s_st1 (AHeap.ins_self _ _ _) rfl (by simp) ?_ | refine s_st1 (ins_prev (by assumption)) rfl (by simp) ?_ | refine s_sta (by assumption) rfl rfl rfl ?_ | refine s_sta (AHeap.ins_self _ _ _) rfl rfl rfl ?_ | refine s_field1 rfl ?_ | refine s_cuts (by omega) (by omega) (by omega) ?_ | refine s_cuts_lo (by omega) (by omega) ?_ | refine s_cuts_hi (by omega) (by omega) ?_)
    | refine ⟨by first | exact s_ldp (AHeap.ins_self _ _ _) rfl s_same | exact s_ldp (ins_prev (by assumption)) rfl s_same | exact s_ldp (by assumption) rfl s_same | exact s_ldr rfl s_same, ?_⟩
    | (with_reducible first | refine s_bneq_tt u_bool ?_ | refine s_bneq_tf u_bool ?_ | refine s_bneq_ft u_bool ?_ | refine s_bneq_ff u_bool ?_ | refine s_beql_tt u_bool ?_ | refine s_beql_tf u_bool ?_ | refine s_beql_ft u_bool ?_ | refine s_beql_ff u_bool ?_)
    | simp only [nth_zero, nth_succ, Nat.zero_add, Nat.reduceAdd, List.length_map, AHeap.ins_ins]
  all_goals first
    | exact absurd rfl (by assumption)
    | exact hR (i + 1) _ _ (by omega) ⟨by omega, by rw [hsucc]; rfl, rfl⟩)
def markGlobal (x : Global) (k : Int) : Global × Int := (⟨mtext (k), k + 1⟩, k + 1 + 1)
theorem markGlobal_bd (x : Global) (k : Int) : k ≤ (markGlobal x k).2 ∧ (markGlobal x k).2 ≤ k + (2 : Nat) := by simp only [markGlobal]; omega
theorem laws_eqGlobal_c (x : Global) : PureF PP G N.laws_eqGlobal [.ag x.cells, .ag x.cells] (Bo true) := F.laws_eqGlobal_ok (by
  unfold F.laws_eqGlobal
  refine s_boxag rfl rfl (fun b1 hb1 => ?_)
  refine s_boxag rfl rfl (fun b2 hb2 => ?_)
  have d1 := ins_old (y := ABlk.cells 0 x.cells) (AHeap.ins_self AHeap.emp b1 (ABlk.cells 0 x.cells)) hb2
  have d2 := AHeap.ins_self (AHeap.emp.ins b1 (ABlk.cells 0 x.cells)) b2 (ABlk.cells 0 x.cells)
  generalize (AHeap.emp.ins b1 (ABlk.cells 0 x.cells)).ins b2 (ABlk.cells 0 x.cells) = τ at *
  clear hb1 hb2
  repeat' first
    | (with_reducible first | refine s_join ?_ | refine s_ift ?_ | refine s_iff ?_ | refine s_igtt ?_ | refine s_igtf ?_ | refine s_igft ?_ | refine s_igff ?_ | refine s_igu ?_ | refine s_pt ?_ | refine s_pf ?_ | refine s_nott ?_ | refine s_notf ?_ | refine s_not ?_ | refine s_lslm ?_ | refine s_lsl ?_ | refine s_lgl ?_ | refine s_lnl ?_ | refine s_lar ?_ | refine s_lst ?_ | refine s_ncp ?_ | refine s_ncr ?_ | refine s_ncf ?_ | refine s_fap ?_ | refine s_far ?_ | refine s_mkfn ?_ | refine s_cvc ?_ | refine s_cvi ?_ | refine s_cvb ?_ | refine s_or ?_ | refine s_and ?_ | refine s_xor ?_ | refine s_andnot ?_)
    | (with_reducible first | refine BIN_eql_b (fun h => ?_) (fun h => ?_) | refine BIN_neq_b (fun h => ?_) (fun h => ?_) | refine BIN_lss_b (fun h => ?_) (fun h => ?_) | refine BIN_leq_b (fun h => ?_) (fun h => ?_) | refine BIN_gtr_b (fun h => ?_) (fun h => ?_) | refine BIN_geq_b (fun h => ?_) (fun h => ?_) | refine BIN_seql_b (fun h => ?_) (fun h => ?_) | refine BIN_sneq_b (fun h => ?_) (fun h => ?_) | refine s_ldr rfl ?_ | refine s_tup rfl ?_ | refine s_ifb (fun h => ?_) (fun h => ?_) | refine s_shl (by decide) ?_ | refine s_shr (by decide) ?_ | refine s_add (wrap64 (by omega)) ?_ | refine s_sub (wrap64 (by omega)) ?_ | refine s_ixn (by omega) ?_ | refine s_ix0 (by omega) ?_ | refine s_iam (by omega) ?_)
    | refine s_boxag rfl rfl (fun b hb => ?_)
    | (with_reducible first | refine s_ldp (AHeap.ins_self _ _ _) rfl ?_ | refine s_ldp (ins_prev (by assumption)) rfl ?_ | refine s_ldp (by assumption) rfl ?_ | refine s_ldp (ins_old (by assumption) (by assumption)) rfl ?_ | refine s_ldp (ins_other (by assumption) (by assumption)) rfl ?_ | refine s_ldpa (ins_old (by assumption) (by assumption)) rfl ?_ | refine s_ldpa (ins_other (by assumption) (by assumption)) rfl ?_ | refine s_ldpa (by assumption) rfl ?_ | refine s_ldpa (ins_prev (by assumption)) rfl ?_ | refine s_ldpa (AHeap.ins_self _ _ _) rfl ?_ | refine s_st1 (by assumption) rfl (by simp) ?_ | refine s_st1 (AHeap.ins_self _ _ _) rfl (by simp) ?_ | refine s_st1 (ins_prev (by assumption)) rfl (by simp) ?_ | refine s_sta (by assumption) rfl rfl rfl ?_ | refine s_sta (AHeap.ins_self _ _ _) rfl rfl rfl ?_ | refine s_field1 rfl ?_ | refine s_cuts (by omega) (by omega) (by omega) ?_ | refine s_cuts_lo (by omega) (by omega) ?_ | refine s_cuts_hi (by omega) (by omega) ?_)
    | refine ⟨by first | exact s_ldp (AHeap.ins_self _ _ _) rfl s_same | exact s_ldp (ins_prev (by assumption)) rfl s_same | exact s_ldp (by assumption) rfl s_same | exact s_ldr rfl s_same, ?_⟩
    | (with_reducible first | refine s_bneq_tt u_bool ?_ | refine s_bneq_tf u_bool ?_ | refine s_bneq_ft u_bool ?_ | refine s_bneq_ff u_bool ?_ | refine s_beql_tt u_bool ?_ | refine s_beql_tf u_bool ?_ | refine s_beql_ft u_bool ?_ | refine s_beql_ff u_bool ?_)
    | simp only [nth_zero, nth_succ, Nat.zero_add, Nat.reduceAdd, List.length_map, AHeap.ins_ins]
  all_goals first
    | exact absurd rfl (by assumption)
    | exact Fin.eqv rfl)
theorem laws_eqGlobalS_c (l : List Global) (hl : l.length < 2 ^ 60) : PureF PP G N.laws_eqGlobalS [.sl 2 (l.map Global.cells), .sl 2 (l.map Global.cells)] (Bo true) := F.laws_eqGlobalS_ok (by
  unfold F.laws_eqGlobalS
  refine JOIN_cut (fun xs τ => True) (fun kk hkk => ?_) (fun xs τ _ => ?_)
  · repeat' first
      | (with_reducible first | refine s_join ?_ | refine s_ift ?_ | refine s_iff ?_ | refine s_igtt ?_ | refine s_igtf ?_ | refine s_igft ?_ | refine s_igff ?_ | refine s_igu ?_ | refine s_pt ?_ | refine s_pf ?_ | refine s_nott ?_ | refine s_notf ?_ | refine s_not ?_ | refine s_lslm ?_ | refine s_lsl ?_ | refine s_lgl ?_ | refine s_lnl ?_ | refine s_lar ?_ | refine s_lst ?_ | refine s_ncp ?_ | refine s_ncr ?_ | refine s_ncf ?_ | refine s_fap ?_ | refine s_far ?_ | refine s_mkfn ?_ | refine s_cvc ?_ | refine s_cvi ?_ | refine s_cvb ?_ | refine s_or ?_ | refine s_and ?_ | refine s_xor ?_ | refine s_andnot ?_)
      | (with_reducible first | refine BIN_eql_b (fun h => ?_) (fun h => ?_) | refine BIN_neq_b (fun h => ?_) (fun h => ?_) | refine BIN_lss_b (fun h => ?_) (fun h => ?_) | refine BIN_leq_b (fun h => ?_) (fun h => ?_) | refine BIN_gtr_b (fun h => ?_) (fun h => ?_) | refine BIN_geq_b (fun h => ?_) (fun h => ?_) | refine BIN_seql_b (fun h => ?_) (fun h => ?_) | refine BIN_sneq_b (fun h => ?_) (fun h => ?_) | refine s_ldr rfl ?_ | refine s_tup rfl ?_ | refine s_ifb (fun h => ?_) (fun h => ?_) | refine s_shl (by decide) ?_ | refine s_shr (by decide) ?_ | refine s_add (wrap64 (by omega)) ?_ | refine s_sub (wrap64 (by omega)) ?_ | refine s_ixn (by omega) ?_ | refine s_ix0 (by omega) ?_ | refine s_iam (by omega) ?_)
      | refine s_boxag rfl rfl (fun b hb => ?_)
      | (with_reducible first | refine s_ldp (AHeap.ins_self _ _ _) rfl ?_ | refine s_ldp (ins_prev (by assumption)) rfl ?_ | refine s_ldp (by assumption) rfl ?_ | refine s_ldp (ins_old (by assumption) (by assumption)) rfl ?_ | refine s_ldp (ins_other (by assumption) (by assumption)) rfl ?_ | refine s_ldpa (ins_old (by assumption) (by assumption)) rfl ?_ | refine s_ldpa (ins_other (by assumption) (by assumption)) rfl ?_ | refine s_ldpa (by assumption) rfl ?_ | refine s_ldpa (ins_prev (by assumption)) rfl ?_ | refine s_ldpa (AHeap.ins_self _ _ _) rfl ?_ | refine s_st1 (by assumption) rfl (by simp) ?_ | refine s_st1 (AHeap.ins_self _ _ _) rfl (by simp) ?_ | refine s_st1 (ins_prev (by assumption)) rfl (by simp) ?_ | refine s_sta (by assumption) rfl rfl rfl ?_ | refine s_sta (AHeap.ins_self _ _ _) rfl rfl rfl ?_ | refine s_field1 rfl ?_ | refine s_cuts (by omega) (by omega) (by omega) ?_ | refine s_cuts_lo (by omega) (by omega) ?_ | refine s_cuts_hi (by omega) (by omega) ?_)
      | refine ⟨by first | exact s_ldp (AHeap.ins_self _ _ _) rfl s_same | exact s_ldp (ins_prev (by assumption)) rfl s_same | exact s_ldp (by assumption) rfl s_same | exact s_ldr rfl s_same, ?_⟩
      | (with_reducible first | refine s_bneq_tt u_bool ?_ | refine s_bneq_tf u_bool ?_ | refine s_bneq_ft u_bool ?_ | refine s_bneq_ff u_bool ?_ | refine s_beql_tt u_bool ?_ | refine s_beql_tf u_bool ?_ | refine s_beql_ft u_bool ?_ | refine s_beql_ff u_bool ?_)
      | simp only [nth_zero, nth_succ, Nat.zero_add, Nat.reduceAdd, List.length_map, AHeap.ins_ins]
    all_goals first
      | exact hkk _ _ trivial
      | exact absurd rfl (by assumption)
  refine JOIN_cut (fun xs τ => True) (fun kk hkk => ?_) (fun xs τ _ => Fin.eqv rfl)
  refine LOOP_intro (fun i => l.length - i) (fun (i : Nat) xs τ => i ≤ l.length ∧ nth xs 1 = I i) (fun i xs τ R ⟨g1, g2⟩ hR => ?_) 0 ⟨by omega, rfl⟩
  simp only [g2]
  repeat' first
    | (with_reducible first | refine s_join ?_ | refine s_ift ?_ | refine s_iff ?_ | refine s_igtt ?_ | refine s_igtf ?_ | refine s_igft ?_ | refine s_igff ?_ | refine s_igu ?_ | refine s_pt ?_ | refine s_pf ?_ | refine s_nott ?_ | refine s_notf ?_ | refine s_not ?_ | refine s_lslm ?_ | refine s_lsl ?_ | refine s_lgl ?_ | refine s_lnl ?_ | refine s_lar ?_ | refine s_lst ?_ | refine s_ncp ?_ | refine s_ncr ?_ | refine s_ncf ?_ | refine s_fap ?_ | refine s_far ?_ | refine s_mkfn ?_ | refine s_cvc ?_ | refine s_cvi ?_ | refine s_cvb ?_ | refine s_or ?_ | refine s_and ?_ | refine s_xor ?_ | refine s_andnot ?_)
    | refine s_ldrA rfl ?_
    | with_reducible apply PureF.call (laws_eqGlobal_c _)
    | (with_reducible first | refine BIN_eql_b (fun h => ?_) (fun h => ?_) | refine BIN_neq_b (fun h => ?_) (fun h => ?_) | refine BIN_lss_b (fun h => ?_) (fun h => ?_) | refine BIN_leq_b (fun h => ?_) (fun h => ?_) | refine BIN_gtr_b (fun h => ?_) (fun h => ?_) | refine BIN_geq_b (fun h => ?_) (fun h => ?_) | refine BIN_seql_b (fun h => ?_) (fun h => ?_) | refine BIN_sneq_b (fun h => ?_) (fun h => ?_) | refine s_ldr rfl ?_ | refine s_tup rfl ?_ | refine s_ifb (fun h => ?_) (fun h => ?_) | refine s_shl (by decide) ?_ | refine s_shr (by decide) ?_ | refine s_add (wrap64 (by omega)) ?_ | refine s_sub (wrap64 (by omega)) ?_ | refine s_ixn (by omega) ?_ | refine s_ix0 (by omega) ?_ | refine s_iam (by omega) ?_)
    | refine s_boxag rfl rfl (fun b hb => ?_)
    | (with_reducible first | refine s_ldp (AHeap.ins_self _ _ _) rfl ?_ | refine s_ldp (ins_prev (by assumption)) rfl ?_ | refine s_ldp (by assumption) rfl ?_ | refine s_ldp (ins_old (by assumption) (by assumption)) rfl ?_ | refine s_ldp (ins_other (by assumption) (by assumption)) rfl ?_ | refine s_ldpa (ins_old (by assumption) (by assumption)) rfl ?_ | refine s_ldpa (ins_other (by assumption) (by assumption)) rfl ?_ | refine s_ldpa (by assumption) rfl ?_ | refine s_ldpa (ins_prev (by assumption)) rfl ?_ | refine s_ldpa (AHeap.ins_self _ _ _) rfl ?_ | refine s_st1 (by assumption) rfl (by simp) ?_ | refine s_st1 (AHeap.ins_self _ _ _) rfl (by simp) ?_ | refine s_st1 (ins_prev (by assumption)) rfl (by simp) ?_ | refine s_sta (by assumption) rfl rfl rfl ?_ | refine s_sta (AHeap.ins_self _ _ _) rfl rfl rfl ?_ | refine s_field1 rfl ?_ | refine s_cuts (by omega) (by omega) (by omega) ?_ | refine s_cuts_lo (by omega) (by omega) ?_ | refine s_cuts_hi (by omega) (by omega) ?_)
    | refine ⟨by first | exact s_ldp (AHeap.ins_self _ _ _) rfl s_same | exact s_ldp (ins_prev (by assumption)) rfl s_same | exact s_ldp (by assumption) rfl s_same | exact s_ldr rfl s_same, ?_⟩
    | (with_reducible first | refine s_bneq_tt u_bool ?_ | refine s_bneq_tf u_bool ?_ | refine s_bneq_ft u_bool ?_ | refine s_bneq_ff u_bool ?_ | refine s_beql_tt u_bool ?_ | refine s_beql_tf u_bool ?_ | refine s_beql_ft u_bool ?_ | refine s_beql_ff u_bool ?_)
    | simp only [nth_zero, nth_succ, Nat.zero_add, Nat.reduceAdd, List.length_map, AHeap.ins_ins]
  · exact hR (i + 1) _ _ (by omega) ⟨by omega, rfl⟩
  · exact hkk _ _ trivial)
theorem laws_markGlobalS_c {H : AHeap} {v : AV} {l : List Global} {k : Int} (h : ORow 2 (EFlat Global.cells) H v l) (hle : H.le σ) (hk0 : 0 ≤ k) (hk1 : k ≤ 2 ^ 50) (hl : l.length ≤ 2 ^ 40)
    (hK : ∀ H' σ', ORow 2 (EFlat Global.cells) H' v (markL markGlobal l k).1 → Wr H H' σ σ' → K (I (markL markGlobal l k).2) σ') : ACalls PP G N.laws_markGlobalS [v, I k] σ K := F.laws_markGlobalS_ok (by
  unfold F.laws_markGlobalS
  refine JOIN_cut (fun xs τ => nth xs 0 = I (markL markGlobal l k).2 ∧ ∃ H', ORow 2 (EFlat Global.cells) H' v (markL markGlobal l k).1 ∧ Wr H H' σ τ) (fun kk hkk => ?_) (fun xs τ ⟨e, H', g1, g2⟩ => by rw [e]; exact Fin.mk (hK H' τ g1 g2))
  refine LOOP_intro (fun i => l.length - i) (fun (i : Nat) xs τ => i ≤ l.length ∧ nth xs 0 = I (markL markGlobal (l.take i) k).2 ∧ nth xs 1 = I i ∧ ∃ Hi, ORow 2 (EFlat Global.cells) Hi v ((markL markGlobal (l.take i) k).1 ++ l.drop i) ∧ Wr H Hi σ τ) (fun i xs τ R ⟨g1, g2, g3, Hi, hrow, wr⟩ hR => ?_) 0 ⟨by omega, rfl, rfl, H, h, ⟨hle, fun _ h => h, fun _ _ => rfl⟩⟩
  simp only [g2, g3]
  have hbd := markL_bdi (k := k) (i := i) g1 (fun a _ k => markGlobal_bd a k)
  generalize hki : (markL markGlobal (l.take i) k).2 = ki at *
  refine s_join ?_
  refine hrow.lenl ?_
  rw [mark_len g1]
  refine BIN_lss_b (fun hlt => ?_) (fun hlt => ?_)
  rotate_left
  · refine s_iff ?_
    have : i = l.length := by omega
    subst this
    rw [List.take_length] at hki
    rw [List.take_length, List.drop_length, List.append_nil] at hrow
    exact hkk _ _ ⟨by rw [hki]; rfl, Hi, hrow, wr⟩
  have hi : i < l.length := by omega
  obtain ⟨b, rows, He, hr, ev, hb, hz, heb, hle', ⟨rfl, hri⟩, hupd⟩ := hrow.focus (i := i) (by rw [mark_len g1]; exact hi)
  rw [mark_at hi] at hri
  rw [mark_len g1] at ev
  have hb0 : τ b = some (.cells 0 (rows.set i l[i].cells).flatten) := by rw [← hri, List.set_getElem_self]; exact wr.le _ _ hb
  simp only [ev]
  refine s_ift ?_
  refine s_join ?_
  repeat' first
    | (with_reducible first | refine s_join ?_ | refine s_ift ?_ | refine s_iff ?_ | refine s_igtt ?_ | refine s_igtf ?_ | refine s_igft ?_ | refine s_igff ?_ | refine s_igu ?_ | refine s_pt ?_ | refine s_pf ?_ | refine s_nott ?_ | refine s_notf ?_ | refine s_not ?_ | refine s_lslm ?_ | refine s_lsl ?_ | refine s_lgl ?_ | refine s_lnl ?_ | refine s_lar ?_ | refine s_lst ?_ | refine s_ncp ?_ | refine s_ncr ?_ | refine s_ncf ?_ | refine s_fap ?_ | refine s_far ?_ | refine s_mkfn ?_ | refine s_cvc ?_ | refine s_cvi ?_ | refine s_cvb ?_ | refine s_or ?_ | refine s_and ?_ | refine s_xor ?_ | refine s_andnot ?_)
    | refine PureF.call (laws_markText_c (by omega)) ?_
    | refine s_iarow hi ?_
    | refine s_fap ?_
    | refine s_strow (n := 2) (i := i) (by first | exact hb0 | exact AHeap.ins_self _ _ _) hz hr (by rfl) (by decide) rfl ?_
    | (with_reducible first | refine BIN_eql_b (fun h => ?_) (fun h => ?_) | refine BIN_neq_b (fun h => ?_) (fun h => ?_) | refine BIN_lss_b (fun h => ?_) (fun h => ?_) | refine BIN_leq_b (fun h => ?_) (fun h => ?_) | refine BIN_gtr_b (fun h => ?_) (fun h => ?_) | refine BIN_geq_b (fun h => ?_) (fun h => ?_) | refine BIN_seql_b (fun h => ?_) (fun h => ?_) | refine BIN_sneq_b (fun h => ?_) (fun h => ?_) | refine s_ldr rfl ?_ | refine s_tup rfl ?_ | refine s_ifb (fun h => ?_) (fun h => ?_) | refine s_shl (by decide) ?_ | refine s_shr (by decide) ?_ | refine s_add (wrap64 (by omega)) ?_ | refine s_sub (wrap64 (by omega)) ?_ | refine s_ixn (by omega) ?_ | refine s_ix0 (by omega) ?_ | refine s_iam (by omega) ?_)
    | refine s_boxag rfl rfl (fun b hb => ?_)
    | (with_reducible first | refine s_ldp (AHeap.ins_self _ _ _) rfl ?_ | refine s_ldp (ins_prev (by assumption)) rfl ?_ | refine s_ldp (by assumption) rfl ?_ | refine s_ldp (ins_old (by assumption) (by assumption)) rfl ?_ | refine s_ldp (ins_other (by assumption) (by assumption)) rfl ?_ | refine s_ldpa (ins_old (by assumption) (by assumption)) rfl ?_ | refine s_ldpa (ins_other (by assumption) (by assumption)) rfl ?_ | refine s_ldpa (by assumption) rfl ?_ | refine s_ldpa (ins_prev (by assumption)) rfl ?_ | refine s_ldpa (AHeap.ins_self _ _ _) rfl ?_ | refine s_st1 (by assumption) rfl (by simp) ?_ | refine s_st1 (AHeap.ins_self _ _ _) rfl (by simp) ?_ | refine s_st1 (ins_prev (by assumption)) rfl (by simp) ?_ | refine s_sta (by assumption) rfl rfl rfl ?_ | refine s_sta (AHeap.ins_self _ _ _) rfl rfl rfl ?_ | refine s_field1 rfl ?_ | refine s_cuts (by omega) (by omega) (by omega) ?_ | refine s_cuts_lo (by omega) (by omega) ?_ | refine s_cuts_hi (by omega) (by omega) ?_)
    | refine ⟨by first | exact s_ldp (AHeap.ins_self _ _ _) rfl s_same | exact s_ldp (ins_prev (by assumption)) rfl s_same | exact s_ldp (by assumption) rfl s_same | exact s_ldr rfl s_same, ?_⟩
    | (with_reducible first | refine s_bneq_tt u_bool ?_ | refine s_bneq_tf u_bool ?_ | refine s_bneq_ft u_bool ?_ | refine s_bneq_ff u_bool ?_ | refine s_beql_tt u_bool ?_ | refine s_beql_tf u_bool ?_ | refine s_beql_ft u_bool ?_ | refine s_beql_ff u_bool ?_)
    | simp only [nth_zero, nth_succ, Nat.zero_add, Nat.reduceAdd, List.length_map, AHeap.ins_ins]
  obtain ⟨H', q1, q2, q3⟩ := hupd .emp (markGlobal l[i] ki).1.cells (markGlobal l[i] ki).1 ⟨rfl, rfl⟩ rfl (fun _ _ => rfl) τ (τ.ins b (.cells 0 (rows.set i (markGlobal l[i] ki).1.cells).flatten)) wr.le (AHeap.ins_self _ _ _) (AHeap.emp_le _) (fun p hp _ => AHeap.ins_ne _ _ hp)
  subst hki
  rw [mark_set hi] at q1
  refine hR (i + 1) _ _ (by omega) ⟨by omega, by rw [markL_succ hi]; rfl, rfl, H', q1, q2, fun p hp => q3 p (wr.dom p hp), fun p hp => ?_⟩
  have : p ≠ b := by rintro rfl; rw [wr.dom _ hp] at hb; simp at hb
  refine (AHeap.ins_ne _ _ this).trans (wr.frm p hp))
theorem laws_heldGlobalS_c {l : List Global} {k : Int} (hk0 : 0 ≤ k) (hk1 : k ≤ 2 ^ 50) (hl : l.length ≤ 2 ^ 40) : PureF PP G N.laws_heldGlobalS [.sl 2 ((markL markGlobal l k).1.map Global.cells), I k] (I (markL markGlobal l k).2) := F.laws_heldGlobalS_ok (by
  unfold F.laws_heldGlobalS
  refine JOIN_cut (fun xs τ => nth xs 0 = I (markL markGlobal l k).2) (fun kk hkk => ?_) (fun xs τ e => by rw [e]; exact Fin.eqv rfl)
  refine LOOP_intro (fun i => l.length - i) (fun (i : Nat) xs τ => i ≤ l.length ∧ nth xs 0 = I (markL markGlobal (l.take i) k).2 ∧ nth xs 2 = I i) (fun i xs τ R ⟨g1, g2, g3⟩ hR => ?_) 0 ⟨by omega, rfl, rfl⟩
  simp only [g2, g3]
  have hbd := markL_bdi (k := k) (i := i) g1 (fun a _ k => markGlobal_bd a k)
  have hll := markL_length (m := markGlobal) (l := l) (k := k)
  refine s_join ?_
  refine s_lslm ?_
  rw [hll]
  refine BIN_lss_b (fun hlt => ?_) (fun hlt => ?_)
  rotate_left
  · refine s_iff ?_
    have : i = l.length := by omega
    subst this
    exact hkk _ _ (by rw [List.take_length]; rfl)
  have hi : i < l.length := by omega
  have hget := markL_get (m := markGlobal) (k := k) hi
  have hsucc := markL_succ (m := markGlobal) (k := k) hi
  generalize (markL markGlobal (l.take i) k).2 = ki at *
  refine s_ift ?_
  repeat' first
    | (with_reducible first | refine s_join ?_ | refine s_ift ?_ | refine s_iff ?_ | refine s_igtt ?_ | refine s_igtf ?_ | refine s_igft ?_ | refine s_igff ?_ | refine s_igu ?_ | refine s_pt ?_ | refine s_pf ?_ | refine s_nott ?_ | refine s_notf ?_ | refine s_not ?_ | refine s_lslm ?_ | refine s_lsl ?_ | refine s_lgl ?_ | refine s_lnl ?_ | refine s_lar ?_ | refine s_lst ?_ | refine s_ncp ?_ | refine s_ncr ?_ | refine s_ncf ?_ | refine s_fap ?_ | refine s_far ?_ | refine s_mkfn ?_ | refine s_cvc ?_ | refine s_cvi ?_ | refine s_cvb ?_ | refine s_or ?_ | refine s_and ?_ | refine s_xor ?_ | refine s_andnot ?_)
    | refine PureF.call (laws_markText_c (by omega)) ?_
    | refine s_iaL (by omega) hget ?_
    | (with_reducible first | refine BIN_eql_b (fun h => ?_) (fun h => ?_) | refine BIN_neq_b (fun h => ?_) (fun h => ?_) | refine BIN_lss_b (fun h => ?_) (fun h => ?_) | refine BIN_leq_b (fun h => ?_) (fun h => ?_) | refine BIN_gtr_b (fun h => ?_) (fun h => ?_) | refine BIN_geq_b (fun h => ?_) (fun h => ?_) | refine BIN_seql_b (fun h => ?_) (fun h => ?_) | refine BIN_sneq_b (fun h => ?_) (fun h => ?_) | refine s_ldr rfl ?_ | refine s_tup rfl ?_ | refine s_ifb (fun h => ?_) (fun h => ?_) | refine s_shl (by decide) ?_ | refine s_shr (by decide) ?_ | refine s_add (wrap64 (by omega)) ?_ | refine s_sub (wrap64 (by omega)) ?_ | refine s_ixn (by omega) ?_ | refine s_ix0 (by omega) ?_ | refine s_iam (by omega) ?_)
    | refine s_boxag rfl rfl (fun b hb => ?_)
    | (with_reducible first | refine s_ldp (AHeap.ins_self _ _ _) rfl ?_ | refine s_ldp (ins_prev (by assumption)) rfl ?_ | refine s_ldp (by assumption) rfl ?_ | refine s_ldp (ins_old (by assumption) (by assumption)) rfl ?_ | refine s_ldp (ins_other (by assumption) (by assumption)) rfl ?_ | refine s_ldpa (ins_old (by assumption) (by assumption)) rfl ?_ | refine s_ldpa (ins_other (by assumption) (by assumption)) rfl ?_ | refine s_ldpa (by assumption) rfl ?_ | refine s_ldpa (ins_prev (by assumption)) rfl ?_ | refine s_ldpa (AHeap.ins_self _ _ _) rfl ?_ | refine s_st1 (by assumption) rfl (by simp) ?_ | refine s_st1 (AHeap.ins_self _ _ _) rfl (by simp) ?_ | refine s_st1 (ins_prev (by assumption)) rfl (by simp) ?_ | refine s_sta (by assumption) rfl rfl rfl ?_ | refine s_sta (AHeap.ins_self _ _ _) rfl rfl rfl ?_ | refine s_field1 rfl ?_ | refine s_cuts (by omega) (by omega) (by omega) ?_ | refine s_cuts_lo (by omega) (by omega) ?_ | refine s_cuts_hi (by omega) (by omega) ?_)
    | refine ⟨by first | exact s_ldp (AHeap.ins_self _ _ _) rfl s_same | exact s_ldp (ins_prev (by assumption)) rfl s_same | exact s_ldp (by assumption) rfl s_same | exact s_ldr rfl s_same, ?_⟩
    | (with_reducible first | refine s_bneq_tt u_bool ?_ | refine s_bneq_tf u_bool ?_ | refine s_bneq_ft u_bool ?_ | refine s_bneq_ff u_bool ?_ | refine s_beql_tt u_bool ?_ | refine s_beql_tf u_bool ?_ | refine s_beql_ft u_bool ?_ | refine s_beql_ff u_bool ?_)
    | simp only [nth_zero, nth_succ, Nat.zero_add, Nat.reduceAdd, List.length_map, AHeap.ins_ins]
  all_goals first
    | exact absurd rfl (by assumption)
    | exact hR (i + 1) _ _ (by omega) ⟨by omega, by rw [hsucc]; rfl, rfl⟩)
def markIns (x : Ins) (k : Int) : Ins × Int := (⟨k, k + 1, k + 1 + 1, mtext (k + 1 + 1 + 1), mtext (k + 1 + 1 + 1 + 1)⟩, k + 1 + 1 + 1 + 1 + 1)
theorem markIns_bd (x : Ins) (k : Int) : k ≤ (markIns x k).2 ∧ (markIns x k).2 ≤ k + (5 : Nat) := by simp only [markIns]; omega
theorem laws_eqIns_c (x : Ins) : PureF PP G N.laws_eqIns [.ag x.cells, .ag x.cells] (Bo true) := F.laws_eqIns_ok (by
  unfold F.laws_eqIns
  refine s_boxag rfl rfl (fun b1 hb1 => ?_)
  refine s_boxag rfl rfl (fun b2 hb2 => ?_)
  have d1 := ins_old (y := ABlk.cells 0 x.cells) (AHeap.ins_self AHeap.emp b1 (ABlk.cells 0 x.cells)) hb2
  have d2 := AHeap.ins_self (AHeap.emp.ins b1 (ABlk.cells 0 x.cells)) b2 (ABlk.cells 0 x.cells)
  generalize (AHeap.emp.ins b1 (ABlk.cells 0 x.cells)).ins b2 (ABlk.cells 0 x.cells) = τ at *
  clear hb1 hb2
  repeat' first
    | (with_reducible first | refine s_join ?_ | refine s_ift ?_ | refine s_iff ?_ | refine s_igtt ?_ | refine s_igtf ?_ | refine s_igft ?_ | refine s_igff ?_ | refine s_igu ?_ | refine s_pt ?_ | refine s_pf ?_ | refine s_nott ?_ | refine s_notf ?_ | refine s_not ?_ | refine s_lslm ?_ | refine s_lsl ?_ | refine s_lgl ?_ | refine s_lnl ?_ | refine s_lar ?_ | refine s_lst ?_ | refine s_ncp ?_ | refine s_ncr ?_ | refine s_ncf ?_ | refine s_fap ?_ | refine s_far ?_ | refine s_mkfn ?_ | refine s_cvc ?_ | refine s_cvi ?_ | refine s_cvb ?_ | refine s_or ?_ | refine s_and ?_ | refine s_xor ?_ | refine s_andnot ?_)
    | (with_reducible first | refine BIN_eql_b (fun h => ?_) (fun h => ?_) | refine BIN_neq_b (fun h => ?_) (fun h => ?_) | refine BIN_lss_b (fun h => ?_) (fun h => ?_) | refine BIN_leq_b (fun h => ?_) (fun h => ?_) | refine BIN_gtr_b (fun h => ?_) (fun h => ?_) | refine BIN_geq_b (fun h => ?_) (fun h => ?_) | refine BIN_seql_b (fun h => ?_) (fun h => ?_) | refine BIN_sneq_b (fun h => ?_) (fun h => ?_) | refine s_ldr rfl ?_ | refine s_tup rfl ?_ | refine s_ifb (fun h => ?_) (fun h => ?_) | refine s_shl (by decide) ?_ | refine s_shr (by decide) ?_ | refine s_add (wrap64 (by omega)) ?_ | refine s_sub (wrap64 (by omega)) ?_ | refine s_ixn (by omega) ?_ | refine s_ix0 (by omega) ?_ | refine s_iam (by omega) ?_)
    | refine s_boxag rfl rfl (fun b hb => ?_)
    | (with_reducible first | refine s_ldp (AHeap.ins_self _ _ _) rfl ?_ | refine s_ldp (ins_prev (by assumption)) rfl ?_ | refine s_ldp (by assumption) rfl ?_ | refine s_ldp (ins_old (by assumption) (by assumption)) rfl ?_ | refine s_ldp (ins_other (by assumption) (by assumption)) rfl ?_ | refine s_ldpa (ins_old (by assumption) (by assumption)) rfl ?_ | refine s_ldpa (ins_other (by assumption) (by assumption)) rfl ?_ | refine s_ldpa (by assumption) rfl ?_ | refine s_ldpa (ins_prev (by assumption)) rfl ?_ | refine s_ldpa (AHeap.ins_self _ _ _) rfl ?_ | refine s_st1 (by assumption) rfl (by simp) ?_ | refine s_st1 (AHeap.ins_self _ _ _) rfl (by simp) ?_ | refine s_st1 (ins_prev (by assumption)) rfl (by simp) ?_ | refine s_sta (by assumption) rfl rfl rfl ?_ | refine s_sta (AHeap.ins_self _ _ _) rfl rfl rfl ?_ | refine s_field1 rfl ?_ | refine s_cuts (by omega) (by omega) (by omega) ?_ | refine s_cuts_lo (by omega) (by omega) ?_ | refine s_cuts_hi (by omega) (by omega) ?_)
    | refine ⟨by first | exact s_ldp (AHeap.ins_self _ _ _) rfl s_same | exact s_ldp (ins_prev (by assumption)) rfl s_same | exact s_ldp (by assumption) rfl s_same | exact s_ldr rfl s_same, ?_⟩
    | (with_reducible first | refine s_bneq_tt u_bool ?_ | refine s_bneq_tf u_bool ?_ | refine s_bneq_ft u_bool ?_ | refine s_bneq_ff u_bool ?_ | refine s_beql_tt u_bool ?_ | refine s_beql_tf u_bool ?_ | refine s_beql_ft u_bool ?_ | refine s_beql_ff u_bool ?_)
    | simp only [nth_zero, nth_succ, Nat.zero_add, Nat.reduceAdd, List.length_map, AHeap.ins_ins]
  all_goals first
    | exact absurd rfl (by assumption)
    | exact Fin.eqv rfl)
theorem laws_eqInsS_c (l : List Ins) (hl : l.length < 2 ^ 60) : PureF PP G N.laws_eqInsS [.sl 5 (l.map Ins.cells), .sl 5 (l.map Ins.cells)] (Bo true) := F.laws_eqInsS_ok (by
  unfold F.laws_eqInsS
  refine JOIN_cut (fun xs τ => True) (fun kk hkk => ?_) (fun xs τ _ => ?_)
  · repeat' first
      | (with_reducible first | refine s_join ?_ | refine s_ift ?_ | refine s_iff ?_ | refine s_igtt ?_ | refine s_igtf ?_ | refine s_igft ?_ | refine s_igff ?_ | refine s_igu ?_ | refine s_pt ?_ | refine s_pf ?_ | refine s_nott ?_ | refine s_notf ?_ | refine s_not ?_ | refine s_lslm ?_ | refine s_lsl ?_ | refine s_lgl ?_ | refine s_lnl ?_ | refine s_lar ?_ | refine s_lst ?_ | refine s_ncp ?_ | refine s_ncr ?_ | refine s_ncf ?_ | refine s_fap ?_ | refine s_far ?_ | refine s_mkfn ?_ | refine s_cvc ?_ | refine s_cvi ?_ | refine s_cvb ?_ | refine s_or ?_ | refine s_and ?_ | refine s_xor ?_ | refine s_andnot ?_)
      | (with_reducible first | refine BIN_eql_b (fun h => ?_) (fun h => ?_) | refine BIN_neq_b (fun h => ?_) (fun h => ?_) | refine BIN_lss_b (fun h => ?_) (fun h => ?_) | refine BIN_leq_b (fun h => ?_) (fun h => ?_) | refine BIN_gtr_b (fun h => ?_) (fun h => ?_) | refine BIN_geq_b (fun h => ?_) (fun h => ?_) | refine BIN_seql_b (fun h => ?_) (fun h => ?_) | refine BIN_sneq_b (fun h => ?_) (fun h => ?_) | refine s_ldr rfl ?_ | refine s_tup rfl ?_ | refine s_ifb (fun h => ?_) (fun h => ?_) | refine s_shl (by decide) ?_ | refine s_shr (by decide) ?_ | refine s_add (wrap64 (by omega)) ?_ | refine s_sub (wrap64 (by omega)) ?_ | refine s_ixn (by omega) ?_ | refine s_ix0 (by omega) ?_ | refine s_iam (by omega) ?_)
      | refine s_boxag rfl rfl (fun b hb => ?_)
      | (with_reducible first | refine s_ldp (AHeap.ins_self _ _ _) rfl ?_ | refine s_ldp (ins_prev (by assumption)) rfl ?_ | refine s_ldp (by assumption) rfl ?_ | refine s_ldp (ins_old (by assumption) (by assumption)) rfl ?_ | refine s_ldp (ins_other (by assumption) (by assumption)) rfl ?_ | refine s_ldpa (ins_old (by assumption) (by assumption)) rfl ?_ | refine s_ldpa (ins_other (by assumption) (by assumption)) rfl ?_ | refine s_ldpa (by assumption) rfl ?_ | refine s_ldpa (ins_prev (by assumption)) rfl ?_ | refine s_ldpa (AHeap.ins_self _ _ _) rfl ?_ | refine s_st1 (by assumption) rfl (by simp) ?_ | refine s_st1 (AHeap.ins_self _ _ _) rfl (by simp) ?_ | refine s_st1 (ins_prev (by assumption)) rfl (by simp) ?_ | refine s_sta (by assumption) rfl rfl rfl ?_ | refine s_sta (AHeap.ins_self _ _ _) rfl rfl rfl ?_ | refine s_field1 rfl ?_ | refine s_cuts (by omega) (by omega) (by omega) ?_ | refine s_cuts_lo (by omega) (by omega) ?_ | refine s_cuts_hi (by omega) (by omega) ?_)
      | refine ⟨by first | exact s_ldp (AHeap.ins_self _ _ _) rfl s_same | exact s_ldp (ins_prev (by assumption)) rfl s_same | exact s_ldp (by assumption) rfl s_same | exact s_ldr rfl s_same, ?_⟩
      | (with_reducible first | refine s_bneq_tt u_bool ?_ | refine s_bneq_tf u_bool ?_ | refine s_bneq_ft u_bool ?_ | refine s_bneq_ff u_bool ?_ | refine s_beql_tt u_bool ?_ | refine s_beql_tf u_bool ?_ | refine s_beql_ft u_bool ?_ | refine s_beql_ff u_bool ?_)
      | simp only [nth_zero, nth_succ, Nat.zero_add, Nat.reduceAdd, List.length_map, AHeap.ins_ins]
    all_goals first
      | exact hkk _ _ trivial
      | exact absurd rfl (by assumption)
  refine JOIN_cut (fun xs τ => True) (fun kk hkk => ?_) (fun xs τ _ => Fin.eqv rfl)
  refine LOOP_intro (fun i => l.length - i) (fun (i : Nat) xs τ => i ≤ l.length ∧ nth xs 1 = I i) (fun i xs τ R ⟨g1, g2⟩ hR => ?_) 0 ⟨by omega, rfl⟩
  simp only [g2]
  repeat' first
    | (with_reducible first | refine s_join ?_ | refine s_ift ?_ | refine s_iff ?_ | refine s_igtt ?_ | refine s_igtf ?_ | refine s_igft ?_ | refine s_igff ?_ | refine s_igu ?_ | refine s_pt ?_ | refine s_pf ?_ | refine s_nott ?_ | refine s_notf ?_ | refine s_not ?_ | refine s_lslm ?_ | refine s_lsl ?_ | refine s_lgl ?_ | refine s_lnl ?_ | refine s_lar ?_ | refine s_lst ?_ | refine s_ncp ?_ | refine s_ncr ?_ | refine s_ncf ?_ | refine s_fap ?_ | refine s_far ?_ | refine s_mkfn ?_ | refine s_cvc ?_ | refine s_cvi ?_ | refine s_cvb ?_ | refine s_or ?_ | refine s_and ?_ | refine s_xor ?_ | refine s_andnot ?_)
    | refine s_ldrA rfl ?_
    | with_reducible apply PureF.call (laws_eqIns_c _)
    | (with_reducible first | refine BIN_eql_b (fun h => ?_) (fun h => ?_) | refine BIN_neq_b (fun h => ?_) (fun h => ?_) | refine BIN_lss_b (fun h => ?_) (fun h => ?_) | refine BIN_leq_b (fun h => ?_) (fun h => ?_) | refine BIN_gtr_b (fun h => ?_) (fun h => ?_) | refine BIN_geq_b (fun h => ?_) (fun h => ?_) | refine BIN_seql_b (fun h => ?_) (fun h => ?_) | refine BIN_sneq_b (fun h => ?_) (fun h => ?_) | refine s_ldr rfl ?_ | refine s_tup rfl ?_ | refine s_ifb (fun h => ?_) (fun h => ?_) | refine s_shl (by decide) ?_ | refine s_shr (by decide) ?_ | refine s_add (wrap64 (by omega)) ?_ | refine s_sub (wrap64 (by omega)) ?_ | refine s_ixn (by omega) ?_ | refine s_ix0 (by omega) ?_ | refine s_iam (by omega) ?_)
    | refine s_boxag rfl rfl (fun b hb => ?_)
    | (with_reducible first | refine s_ldp (AHeap.ins_self _ _ _) rfl ?_ | refine s_ldp (ins_prev (by assumption)) rfl ?_ | refine s_ldp (by assumption) rfl ?_ | refine s_ldp (ins_old (by assumption) (by assumption)) rfl ?_ | refine s_ldp (ins_other (by assumption) (by assumption)) rfl ?_ | refine s_ldpa (ins_old (by assumption) (by assumption)) rfl ?_ | refine s_ldpa (ins_other (by assumption) (by assumption)) rfl ?_ | refine s_ldpa (by assumption) rfl ?_ | refine s_ldpa (ins_prev (by assumption)) rfl ?_ | refine s_ldpa (AHeap.ins_self _ _ _) rfl ?_ | refine s_st1 (by assumption) rfl (by simp) ?_ | refine s_st1 (AHeap.ins_self _ _ _) rfl (by simp) ?_ | refine s_st1 (ins_prev (by assumption)) rfl (by simp) ?_ | refine s_sta (by assumption) rfl rfl rfl ?_ | refine s_sta (AHeap.ins_self _ _ _) rfl rfl rfl ?_ | refine s_field1 rfl ?_ | refine s_cuts (by omega) (by omega) (by omega) ?_ | refine s_cuts_lo (by omega) (by omega) ?_ | refine s_cuts_hi (by omega) (by omega) ?_)
    | refine ⟨by first | exact s_ldp (AHeap.ins_self _ _ _) rfl s_same | exact s_ldp (ins_prev (by assumption)) rfl s_same | exact s_ldp (by assumption) rfl s_same | exact s_ldr rfl s_same, ?_⟩
    | (with_reducible first | refine s_bneq_tt u_bool ?_ | refine s_bneq_tf u_bool ?_ | refine s_bneq_ft u_bool ?_ | refine s_bneq_ff u_bool ?_ | refine s_beql_tt u_bool ?_ | refine s_beql_tf u_bool ?_ | refine s_beql_ft u_bool ?_ | refine s_beql_ff u_bool ?_)
    | simp only [nth_zero, nth_succ, Nat.zero_add, Nat.reduceAdd, List.length_map, AHeap.ins_ins]
  · exact hR (i + 1) _ _ (by omega) ⟨by omega, rfl⟩
  · exact hkk _ _ trivial)
theorem laws_markInsS_c {H : AHeap} {v : AV} {l : List Ins} {k : Int} (h : ORow 5 (EFlat Ins.cells) H v l) (hle : H.le σ) (hk0 : 0 ≤ k) (hk1 : k ≤ 2 ^ 50) (hl : l.length ≤ 2 ^ 40)
    (hK : ∀ H' σ', ORow 5 (EFlat Ins.cells) H' v (markL markIns l k).1 → Wr H H' σ σ' → K (I (markL markIns l k).2) σ') : ACalls PP G N.laws_markInsS [v, I k] σ K := F.laws_markInsS_ok (by
  unfold F.laws_markInsS
  refine JOIN_cut (fun xs τ => nth xs 0 = I (markL markIns l k).2 ∧ ∃ H', ORow 5 (EFlat Ins.cells) H' v (markL markIns l k).1 ∧ Wr H H' σ τ) (fun kk hkk => ?_) (fun xs τ ⟨e, H', g1, g2⟩ => by rw [e]; exact Fin.mk (hK H' τ g1 g2))
  refine LOOP_intro (fun i => l.length - i) (fun (i : Nat) xs τ => i ≤ l.length ∧ nth xs 0 = I (markL markIns (l.take i) k).2 ∧ nth xs 1 = I i ∧ ∃ Hi, ORow 5 (EFlat Ins.cells) Hi v ((markL markIns (l.take i) k).1 ++ l.drop i) ∧ Wr H Hi σ τ) (fun i xs τ R ⟨g1, g2, g3, Hi, hrow, wr⟩ hR => ?_) 0 ⟨by omega, rfl, rfl, H, h, ⟨hle, fun _ h => h, fun _ _ => rfl⟩⟩
  simp only [g2, g3]
  have hbd := markL_bdi (k := k) (i := i) g1 (fun a _ k => markIns_bd a k)
  generalize hki : (markL markIns (l.take i) k).2 = ki at *
  refine s_join ?_
  refine hrow.lenl ?_
  rw [mark_len g1]
  refine BIN_lss_b (fun hlt => ?_) (fun hlt => ?_)
  rotate_left
  · refine s_iff ?_
    have : i = l.length := by omega
    subst this
    rw [List.take_length] at hki
    rw [List.take_length, List.drop_length, List.append_nil] at hrow
    exact hkk _ _ ⟨by rw [hki]; rfl, Hi, hrow, wr⟩
  have hi : i < l.length := by omega
  obtain ⟨b, rows, He, hr, ev, hb, hz, heb, hle', ⟨rfl, hri⟩, hupd⟩ := hrow.focus (i := i) (by rw [mark_len g1]; exact hi)
  rw [mark_at hi] at hri
  rw [mark_len g1] at ev
  have hb0 : τ b = some (.cells 0 (rows.set i l[i].cells).flatten) := by rw [← hri, List.set_getElem_self]; exact wr.le _ _ hb
  simp only [ev]
  refine s_ift ?_
  refine s_join ?_
  repeat' first
    | (with_reducible first | refine s_join ?_ | refine s_ift ?_ | refine s_iff ?_ | refine s_igtt ?_ | refine s_igtf ?_ | refine s_igft ?_ | refine s_igff ?_ | refine s_igu ?_ | refine s_pt ?_ | refine s_pf ?_ | refine s_nott ?_ | refine s_notf ?_ | refine s_not ?_ | refine s_lslm ?_ | refine s_lsl ?_ | refine s_lgl ?_ | refine s_lnl ?_ | refine s_lar ?_ | refine s_lst ?_ | refine s_ncp ?_ | refine s_ncr ?_ | refine s_ncf ?_ | refine s_fap ?_ | refine s_far ?_ | refine s_mkfn ?_ | refine s_cvc ?_ | refine s_cvi ?_ | refine s_cvb ?_ | refine s_or ?_ | refine s_and ?_ | refine s_xor ?_ | refine s_andnot ?_)
    | refine PureF.call (laws_markText_c (by omega)) ?_
    | refine s_iarow hi ?_
    | refine s_fap ?_
    | refine s_strow (n := 5) (i := i) (by first | exact hb0 | exact AHeap.ins_self _ _ _) hz hr (by rfl) (by decide) rfl ?_
    | (with_reducible first | refine BIN_eql_b (fun h => ?_) (fun h => ?_) | refine BIN_neq_b (fun h => ?_) (fun h => ?_) | refine BIN_lss_b (fun h => ?_) (fun h => ?_) | refine BIN_leq_b (fun h => ?_) (fun h => ?_) | refine BIN_gtr_b (fun h => ?_) (fun h => ?_) | refine BIN_geq_b (fun h => ?_) (fun h => ?_) | refine BIN_seql_b (fun h => ?_) (fun h => ?_) | refine BIN_sneq_b (fun h => ?_) (fun h => ?_) | refine s_ldr rfl ?_ | refine s_tup rfl ?_ | refine s_ifb (fun h => ?_) (fun h => ?_) | refine s_shl (by decide) ?_ | refine s_shr (by decide) ?_ | refine s_add (wrap64 (by omega)) ?_ | refine s_sub (wrap64 (by omega)) ?_ | refine s_ixn (by omega) ?_ | refine s_ix0 (by omega) ?_ | refine s_iam (by omega) ?_)
    | refine s_boxag rfl rfl (fun b hb => ?_)
    | (with_reducible first | refine s_ldp (AHeap.ins_self _ _ _) rfl ?_ | refine s_ldp (ins_prev (by assumption)) rfl ?_ | refine s_ldp (by assumption) rfl ?_ | refine s_ldp (ins_old (by assumption) (by assumption)) rfl ?_ | refine s_ldp (ins_other (by assumption) (by assumption)) rfl ?_ | refine s_ldpa (ins_old (by assumption) (by assumption)) rfl ?_ | refine s_ldpa (ins_other (by assumption) (by assumption)) rfl ?_ | refine s_ldpa (by assumption) rfl ?_ | refine s_ldpa (ins_prev (by assumption)) rfl ?_ | refine s_ldpa (AHeap.ins_self _ _ _) rfl ?_ | refine s_st1 (by assumption) rfl (by simp) ?_ | refine s_st1 (AHeap.ins_self _ _ _) rfl (by simp) ?_ | refine s_st1 (ins_prev (by assumption)) rfl (by simp) ?_ | refine s_sta (by assumption) rfl rfl rfl ?_ | refine s_sta (AHeap.ins_self _ _ _) rfl rfl rfl ?_ | refine s_field1 rfl ?_ | refine s_cuts (by omega) (by omega) (by omega) ?_ | refine s_cuts_lo (by omega) (by omega) ?_ | refine s_cuts_hi (by omega) (by omega) ?_)
    | refine ⟨by first | exact s_ldp (AHeap.ins_self _ _ _) rfl s_same | exact s_ldp (ins_prev (by assumption)) rfl s_same | exact s_ldp (by assumption) rfl s_same | exact s_ldr rfl s_same, ?_⟩
    | (with_reducible first | refine s_bneq_tt u_bool ?_ | refine s_bneq_tf u_bool ?_ | refine s_bneq_ft u_bool ?_ | refine s_bneq_ff u_bool ?_ | refine s_beql_tt u_bool ?_ | refine s_beql_tf u_bool ?_ | refine s_beql_ft u_bool ?_ | refine s_beql_ff u_bool ?_)
    | simp only [nth_zero, nth_succ, Nat.zero_add, Nat.reduceAdd, List.length_map, AHeap.ins_ins]
  obtain ⟨H', q1, q2, q3⟩ := hupd .emp (markIns l[i] ki).1.cells (markIns l[i] ki).1 ⟨rfl, rfl⟩ rfl (fun _ _ => rfl) τ (τ.ins b (.cells 0 (rows.set i (markIns l[i] ki).1.cells).flatten)) wr.le (AHeap.ins_self _ _ _) (AHeap.emp_le _) (fun p hp _ => AHeap.ins_ne _ _ hp)
  subst hki
  rw [mark_set hi] at q1
  refine hR (i + 1) _ _ (by omega) ⟨by omega, by rw [markL_succ hi]; rfl, rfl, H', q1, q2, fun p hp => q3 p (wr.dom p hp), fun p hp => ?_⟩
  have : p ≠ b := by rintro rfl; rw [wr.dom _ hp] at hb; simp at hb
  refine (AHeap.ins_ne _ _ this).trans (wr.frm p hp))
theorem laws_heldInsS_c {l : List Ins} {k : Int} (hk0 : 0 ≤ k) (hk1 : k ≤ 2 ^ 50) (hl : l.length ≤ 2 ^ 40) : PureF PP G N.laws_heldInsS [.sl 5 ((markL markIns l k).1.map Ins.cells), I k] (I (markL markIns l k).2) := F.laws_heldInsS_ok (by
  unfold F.laws_heldInsS
  refine JOIN_cut (fun xs τ => nth xs 0 = I (markL markIns l k).2) (fun kk hkk => ?_) (fun xs τ e => by rw [e]; exact Fin.eqv rfl)
  refine LOOP_intro (fun i => l.length - i) (fun (i : Nat) xs τ => i ≤ l.length ∧ nth xs 0 = I (markL markIns (l.take i) k).2 ∧ nth xs 2 = I i) (fun i xs τ R ⟨g1, g2, g3⟩ hR => ?_) 0 ⟨by omega, rfl, rfl⟩
  simp only [g2, g3]
  have hbd := markL_bdi (k := k) (i := i) g1 (fun a _ k => markIns_bd a k)
  have hll := markL_length (m := markIns) (l := l) (k := k)
  refine s_join ?_
  refine s_lslm ?_
  rw [hll]
  refine BIN_lss_b (fun hlt => ?_) (fun hlt => ?_)
  rotate_left
  · refine s_iff ?_
    have : i = l.length := by omega
    subst this
    exact hkk _ _ (by rw [List.take_length]; rfl)
  have hi : i < l.length := by omega
  have hget := markL_get (m := markIns) (k := k) hi
  have hsucc := markL_succ (m := markIns) (k := k) hi
  generalize (markL markIns (l.take i) k).2 = ki at *
  refine s_ift ?_
  repeat' first
    | (with_reducible first | refine s_join ?_ | refine s_ift ?_ | refine s_iff ?_ | refine s_igtt ?_ | refine s_igtf ?_ | refine s_igft ?_ | refine s_igff ?_ | refine s_igu ?_ | refine s_pt ?_ | refine s_pf ?_ | refine s_nott ?_ | refine s_notf ?_ | refine s_not ?_ | refine s_lslm ?_ | refine s_lsl ?_ | refine s_lgl ?_ | refine s_lnl ?_ | refine s_lar ?_ | refine s_lst ?_ | refine s_ncp ?_ | refine s_ncr ?_ | refine s_ncf ?_ | refine s_fap ?_ | refine s_far ?_ | refine s_mkfn ?_ | refine s_cvc ?_ | refine s_cvi ?_ | refine s_cvb ?_ | refine s_or ?_ | refine s_and ?_ | refine s_xor ?_ | refine s_andnot ?_)
    | refine PureF.call (laws_markText_c (by omega)) ?_
    | refine s_iaL (by omega) hget ?_
    | (with_reducible first | refine BIN_eql_b (fun h => ?_) (fun h => ?_) | refine BIN_neq_b (fun h => ?_) (fun h => ?_) | refine BIN_lss_b (fun h => ?_) (fun h => ?_) | refine BIN_leq_b (fun h => ?_) (fun h => ?_) | refine BIN_gtr_b (fun h => ?_) (fun h => ?_) | refine BIN_geq_b (fun h => ?_) (fun h => ?_) | refine BIN_seql_b (fun h => ?_) (fun h => ?_) | refine BIN_sneq_b (fun h => ?_) (fun h => ?_) | refine s_ldr rfl ?_ | refine s_tup rfl ?_ | refine s_ifb (fun h => ?_) (fun h => ?_) | refine s_shl (by decide) ?_ | refine s_shr (by decide) ?_ | refine s_add (wrap64 (by omega)) ?_ | refine s_sub (wrap64 (by omega)) ?_ | refine s_ixn (by omega) ?_ | refine s_ix0 (by omega) ?_ | refine s_iam (by omega) ?_)
    | refine s_boxag rfl rfl (fun b hb => ?_)
    | (with_reducible first | refine s_ldp (AHeap.ins_self _ _ _) rfl ?_ | refine s_ldp (ins_prev (by assumption)) rfl ?_ | refine s_ldp (by assumption) rfl ?_ | refine s_ldp (ins_old (by assumption) (by assumption)) rfl ?_ | refine s_ldp (ins_other (by assumption) (by assumption)) rfl ?_ | refine s_ldpa (ins_old (by assumption) (by assumption)) rfl ?_ | refine s_ldpa (ins_other (by assumption) (by assumption)) rfl ?_ | refine s_ldpa (by assumption) rfl ?_ | refine s_ldpa (ins_prev (by assumption)) rfl ?_ | refine s_ldpa (AHeap.ins_self _ _ _) rfl ?_ | refine s_st1 (by assumption) rfl (by simp) ?_ | refine s_st1 (AHeap.ins_self _ _ _) rfl (by simp) ?_ | refine s_st1 (ins_prev (by assumption)) rfl (by simp) ?_ | refine s_sta (by assumption) rfl rfl rfl ?_ | refine s_sta (AHeap.ins_self _ _ _) rfl rfl rfl ?_ | refine s_field1 rfl ?_ | refine s_cuts (by omega) (by omega) (by omega) ?_ | refine s_cuts_lo (by omega) (by omega) ?_ | refine s_cuts_hi (by omega) (by omega) ?_)
    | refine ⟨by first | exact s_ldp (AHeap.ins_self _ _ _) rfl s_same | exact s_ldp (ins_prev (by assumption)) rfl s_same | exact s_ldp (by assumption) rfl s_same | exact s_ldr rfl s_same, ?_⟩
    | (with_reducible first | refine s_bneq_tt u_bool ?_ | refine s_bneq_tf u_bool ?_ | refine s_bneq_ft u_bool ?_ | refine s_bneq_ff u_bool ?_ | refine s_beql_tt u_bool ?_ | refine s_beql_tf u_bool ?_ | refine s_beql_ft u_bool ?_ | refine s_beql_ff u_bool ?_)
    | simp only [nth_zero, nth_succ, Nat.zero_add, Nat.reduceAdd, List.length_map, AHeap.ins_ins]
  all_goals first
    | exact absurd rfl (by assumption)
    | exact hR (i + 1) _ _ (by omega) ⟨by omega, by rw [hsucc]; rfl, rfl⟩)

end Go.Al
