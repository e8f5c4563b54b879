/- Contracts: the program reads an object; its lists lie in rows of their own. -/
import Derived.Test.YtpooknfdodimdaaGreatDoorSp22
set_option linter.unusedVariables false
set_option linter.unusedSimpArgs false
set_option maxRecDepth 100000
set_option maxHeartbeats 4000000
namespace Go.Al
variable {G : Seal} {σ : AHeap} {K : KAV}

theorem ins_nn {τ : AHeap} {p c : Nat} {y : ABlk} (h : τ p ≠ none) : (τ.ins c y) p ≠ none := by
  by_cases e : p = c
  · subst e; simp
  · rw [AHeap.ins_ne _ _ e]; exact h
theorem Need.eview : EView 2 (EFlat Need.cells) Need.cells := EFlat.view (fun _ => rfl) (fun _ => rfl)
theorem Global.eview : EView 2 (EFlat Global.cells) Global.cells := EFlat.view (fun _ => rfl) (fun _ => rfl)
/-- an object whose lists lie in rows of their own -/
def OObject (H : AHeap) (r : List AV) (o : Object) : Prop :=
  ∃ H1 H2 H3 x y z, r = [St (bs o.module), I o.print, x, y, z] ∧ ORow 2 (EFlat Need.cells) H1 x o.needs ∧ ORow 2 (EFlat Global.cells) H2 y o.globals ∧ ORow 5 OCode H3 z o.procs ∧ Dis H1 H2 ∧ Dis H1 H3 ∧ Dis H2 H3 ∧ H = (H1.un H2).un H3
theorem OObject.view : EView 5 OObject Object.cells := fun H r a ⟨H1, H2, H3, x, y, z, h1, h2, h3, h4, h5, h6, h7, h8⟩ => by
  subst h1
  have l1 : H1.le H := by rw [h8]; exact (AHeap.le_un_left _ _).trans (AHeap.le_un_left _ _)
  have l2 : H2.le H := by rw [h8]; exact (AHeap.le_un_right h5).trans (AHeap.le_un_left _ _)
  have l3 : H3.le H := by rw [h8]; exact AHeap.le_un_right (h6.un_left h7)
  refine ⟨rfl, rfl, rfl, fun j hj => ?_⟩
  match j, hj with
  | 0, _ => exact .refl _
  | 1, _ => exact .refl _
  | 2, _ => exact (h2.view Need.eview).mono l1
  | 3, _ => exact (h3.view Global.eview).mono l2
  | 4, _ => exact (h4.view OCode.view).mono l3
theorem OObject.zero : OObject .emp [St (bs []), I 0, .nl, .nl, .nl] obj0 := ⟨.emp, .emp, .emp, .nl, .nl, .nl, rfl, .nl, .nl, .nl, .emp_left _, .emp_left _, .emp_left _, rfl⟩

theorem impl_readObject_c (hT : GTab G) (t : List UInt8) (hl : t.length < 2 ^ 60) : ACalls PP G N.impl_readObject [St (bs t)] .emp fun r τ =>
    ∃ (o : Object) (ok : Bool) (cs : List AV), r = .tu [.ag cs, Bo ok] ∧ OObject τ cs o ∧ (ok = true → readM t = some o ∧ objectM o = true) ∧ (ok = false → ∀ o', readM t = some o' → objectM o' = false) := F.impl_readObject_ok (by
  unfold F.impl_readObject
  refine s_new fun v1 hv1 => ?_
  refine s_build (cs := [St (bs t), I 0, Bo false]) rfl ?_
  refine s_boxag rfl rfl (fun b hvb => ?_)
  have d1 := ins_old (y := rdI t 0 false) (AHeap.ins_self AHeap.emp v1 (ABlk.cells 0 [St (bs []), I 0, .nl, .nl, .nl])) hvb
  have dB := AHeap.ins_self (AHeap.emp.ins v1 (ABlk.cells 0 [St (bs []), I 0, .nl, .nl, .nl])) b (rdI t 0 false)
  have nB1 : b ≠ v1 := Ne.symm (ne_of_none (AHeap.ins_self AHeap.emp v1 (ABlk.cells 0 [St (bs []), I 0, .nl, .nl, .nl])) hvb)
  refine impl_reader_head_c (h := [79, 79, 49]) dB (by omega) hl (by simp) fun hv i0 b0 x p1 p2 => ?_
  have d1 := ins_other (y := rdI t i0 (b0 || decide (hv ≠ [79, 79, 49]))) d1 (Ne.symm nB1)
  have dB := AHeap.ins_self ((AHeap.emp.ins v1 (ABlk.cells 0 [St (bs []), I 0, .nl, .nl, .nl])).ins b (rdI t 0 false)) b (rdI t i0 (b0 || decide (hv ≠ [79, 79, 49])))
  generalize hσ : ((AHeap.emp.ins v1 (ABlk.cells 0 [St (bs []), I 0, .nl, .nl, .nl])).ins b (rdI t 0 false)).ins b (rdI t i0 (b0 || decide (hv ≠ [79, 79, 49]))) = σ0 at *
  clear hσ
  refine rt_f dB p1 hl fun m i1 b1 τ1 p3 p4 p5 dB k1 => ?_
  have d1 := (k1 _ (Ne.symm nB1)).trans d1
  refine rn_f (n := 8) dB p3 hl (by omega) fun prb i2 b2 τ2 p6 p7 p8 dB k2 => ?_
  have d1 := (k2 _ (Ne.symm nB1)).trans d1
  generalize beI prb = pr at *
  refine s_build (cs := [St (bs m), I pr, .nl, .nl, .nl]) rfl ?_
  refine s_new fun o hbo => ?_
  refine s_sta (AHeap.ins_self _ _ _) rfl rfl rfl ?_
  rw [AHeap.ins_ins]
  have n1o := ne_of_none d1 hbo
  have nBo := ne_of_none dB hbo
  have d1 := ins_other (y := ABlk.cells 0 [St (bs m), I pr, .nl, .nl, .nl]) d1 n1o
  have dB := ins_other (y := ABlk.cells 0 [St (bs m), I pr, .nl, .nl, .nl]) dB nBo
  have dO := AHeap.ins_self τ2 o (ABlk.cells 0 [St (bs m), I pr, .nl, .nl, .nl])
  generalize hτ : τ2.ins o (ABlk.cells 0 [St (bs m), I pr, .nl, .nl, .nl]) = τ3 at *
  clear hτ hbo
  -- the needs
  refine JOIN_cut (fun _ τ => ∃ (cn : Nat) (x : AV) (ns : List Need) (i' : Nat) (bad' : Bool) (iN : Nat) (bN : Bool), τ v1 = some (.cells 0 [St (bs []), I 0, .nl, .nl, .nl]) ∧ τ b = some (rdI t i' bad') ∧ τ o = some (.cells 0 [St (bs m), I pr, x, .nl, .nl]) ∧ OT 2 (EFlat Need.cells) .emp [v1, b, o] x ns τ ∧ i' ≤ t.length ∧
      Rd.To (Rd.number 1) b2 (t.drop i2) cn bN (t.drop iN) ∧ Rd.To (Rd.many Rd.need cn) bN (t.drop iN) ns bad' (t.drop i') ∧ ns.length < 256 ∧ ∀ y ∈ ns, y.module.length < 2 ^ 60) (fun kk hkk => ?_) (fun xs τ ⟨cn, x, ns, i3, b3, iN, bN, d1, dB, dO, hgt, q1, q2, q3, q4, q5⟩ => ?_)
  · refine rn_f (n := 1) dB p6 hl (by omega) fun nb iN bN τ4 r1 r2 r3 dB k3 => ?_
    have d1 := (k3 _ (Ne.symm nB1)).trans d1
    have dO := (k3 _ (Ne.symm nBo)).trans dO
    have hr := beI_le1 r2
    obtain ⟨cn, hN⟩ : ∃ cn : Nat, beI nb = cn := ⟨(beI nb).toNat, by omega⟩
    rw [hN] at r3 hr
    simp only [hN]
    refine LOOP_intro (fun i => cn - i) (fun (i : Nat) ys τ => i ≤ cn ∧ nth ys 0 = I (i : Nat) ∧ ∃ (x : AV) (ns : List Need) (i' : Nat) (bad' : Bool), τ v1 = some (.cells 0 [St (bs []), I 0, .nl, .nl, .nl]) ∧ τ b = some (rdI t i' bad') ∧ τ o = some (.cells 0 [St (bs m), I pr, x, .nl, .nl]) ∧ OT 2 (EFlat Need.cells) .emp [v1, b, o] x ns τ ∧ i' ≤ t.length ∧
      Rd.To (Rd.many Rd.need i) bN (t.drop iN) ns bad' (t.drop i') ∧ ns.length = i ∧ ∀ y ∈ ns, y.module.length < 2 ^ 60) (fun i ys τ R ⟨g1, g2, x, ns, i', bad', d1, dB, dO, hgt, g3, g4, g5, g6⟩ hR => ?_) 0 ⟨by omega, rfl, .nl, [], iN, bN, d1, dB, dO, .nil, r1, .ret _ _ _, rfl, by simp⟩
    simp only [g2]
    repeat' first
      | (with_reducible first | refine s_join ?_ | refine s_ift ?_ | refine s_iff ?_ | refine s_igtt ?_ | refine s_igtf ?_ | refine s_igft ?_ | refine s_igff ?_ | refine s_igu ?_ | refine s_pt ?_ | refine s_pf ?_ | refine s_nott ?_ | refine s_notf ?_ | refine s_not ?_ | refine s_lslm ?_ | refine s_lsl ?_ | refine s_lgl ?_ | refine s_lnl ?_ | refine s_lar ?_ | refine s_lst ?_ | refine s_ncp ?_ | refine s_ncr ?_ | refine s_ncf ?_ | refine s_fap ?_ | refine s_far ?_ | refine s_mkfn ?_ | refine s_cvc ?_ | refine s_cvi ?_ | refine s_cvb ?_ | refine s_or ?_ | refine s_and ?_ | refine s_xor ?_ | refine s_andnot ?_)
      | (with_reducible first | refine BIN_eql_b (fun h => ?_) (fun h => ?_) | refine BIN_neq_b (fun h => ?_) (fun h => ?_) | refine BIN_lss_b (fun h => ?_) (fun h => ?_) | refine BIN_leq_b (fun h => ?_) (fun h => ?_) | refine BIN_gtr_b (fun h => ?_) (fun h => ?_) | refine BIN_geq_b (fun h => ?_) (fun h => ?_) | refine BIN_seql_b (fun h => ?_) (fun h => ?_) | refine BIN_sneq_b (fun h => ?_) (fun h => ?_) | refine s_ldr rfl ?_ | refine s_tup rfl ?_ | refine s_ifb (fun h => ?_) (fun h => ?_) | refine s_shl (by decide) ?_ | refine s_shr (by decide) ?_ | refine s_add (wrap64 (by omega)) ?_ | refine s_sub (wrap64 (by omega)) ?_ | refine s_ixn (by omega) ?_ | refine s_ix0 (by omega) ?_ | refine s_iam (by omega) ?_)
      | refine s_boxag rfl rfl (fun b hb => ?_)
      | (with_reducible first | refine s_ldp (AHeap.ins_self _ _ _) rfl ?_ | refine s_ldp (ins_prev (by assumption)) rfl ?_ | refine s_ldp (by assumption) rfl ?_ | refine s_ldp (ins_old (by assumption) (by assumption)) rfl ?_ | refine s_ldp (ins_other (by assumption) (by assumption)) rfl ?_ | refine s_ldpa (ins_old (by assumption) (by assumption)) rfl ?_ | refine s_ldpa (ins_other (by assumption) (by assumption)) rfl ?_ | refine s_ldpa (by assumption) rfl ?_ | refine s_ldpa (ins_prev (by assumption)) rfl ?_ | refine s_ldpa (AHeap.ins_self _ _ _) rfl ?_ | refine s_st1 (by assumption) rfl (by simp) ?_ | refine s_st1 (AHeap.ins_self _ _ _) rfl (by simp) ?_ | refine s_st1 (ins_prev (by assumption)) rfl (by simp) ?_ | refine s_sta (by assumption) rfl rfl rfl ?_ | refine s_sta (AHeap.ins_self _ _ _) rfl rfl rfl ?_ | refine s_field1 rfl ?_ | refine s_cuts (by omega) (by omega) (by omega) ?_ | refine s_cuts_lo (by omega) (by omega) ?_ | refine s_cuts_hi (by omega) (by omega) ?_)
      | refine ⟨by first | exact s_ldp (AHeap.ins_self _ _ _) rfl s_same | exact s_ldp (ins_prev (by assumption)) rfl s_same | exact s_ldp (by assumption) rfl s_same | exact s_ldr rfl s_same, ?_⟩
      | (with_reducible first | refine s_bneq_tt u_bool ?_ | refine s_bneq_tf u_bool ?_ | refine s_bneq_ft u_bool ?_ | refine s_bneq_ff u_bool ?_ | refine s_beql_tt u_bool ?_ | refine s_beql_tf u_bool ?_ | refine s_beql_ft u_bool ?_ | refine s_beql_ff u_bool ?_)
      | simp only [nth_zero, nth_succ, Nat.zero_add, Nat.reduceAdd, List.length_map, AHeap.ins_ins]
    rotate_left
    · have : i = cn := by omega
      subst this
      exact hkk _ _ ⟨i, x, ns, i', bad', iN, bN, d1, dB, dO, hgt, g3, r3, g4, by omega, g6⟩
    refine rt_f dB g3 hl fun mm i4 b4 τ5 s1 s2 s3 dB k4 => ?_
    have d1 := (k4 _ (Ne.symm nB1)).trans d1
    have dO := (k4 _ (Ne.symm nBo)).trans dO
    have hgt := hgt.other (.inr (by simp)) k4
    refine ⟨s_ldp dO rfl s_same, ?_⟩
    refine rn_f (n := 8) dB s1 hl (by omega) fun pp i5 b5 τ6 s4 s4' s5 dB k5 => ?_
    have d1 := (k5 _ (Ne.symm nB1)).trans d1
    have dO := (k5 _ (Ne.symm nBo)).trans dO
    have hgt := hgt.other (.inr (by simp)) k5
    refine ⟨s_ldp dO rfl s_same, ?_⟩
    refine s_build (cs := [St (bs mm), I (beI pp)]) rfl ?_
    refine s_lit rfl fun b6 hb6 => ?_
    refine ⟨s_ldp (ins_old dO hb6) rfl s_same, ?_⟩
    refine (hgt.new (y := ABlk.cells ((([[St (bs mm), I (beI pp)]] : List (List AV)).length) * 2) []) hb6).appl (bytes := 24) (a := ⟨mm, beI pp⟩) (fun p hp => by
      rcases hp with hp | hp
      · exact absurd rfl hp
      simp only [List.mem_cons, List.not_mem_nil, or_false] at hp
      rcases hp with rfl | rfl | rfl
      · rw [ins_old d1 hb6]; simp
      · rw [ins_old dB hb6]; simp
      · rw [ins_old dO hb6]; simp) rfl (by omega) (by omega) (by omega) fun x' τ7 hgt7 k7 => ?_
    have d1 := (k7 v1 (by simp)).trans (ins_old d1 hb6)
    have dB := (k7 b (by simp)).trans (ins_old dB hb6)
    have dO := (k7 o (by simp)).trans (ins_old dO hb6)
    refine s_fap ?_
    refine s_st1 dO hgt7.cell1 (by simp) ?_
    refine s_add (wrap64 (by omega)) ?_
    refine hR (i + 1) _ _ (by omega) ⟨by omega, by rfl, x', ns ++ [⟨mm, beI pp⟩], i5, b5, ins_other d1 n1o, ins_other dB nBo, AHeap.ins_self _ _ _, hgt7.ins (by simp), s4, g4.snoc (s3.then (s5.then (.ret _ _ _))), by simp [g5], ?_⟩
    intro y hy
    simp only [List.mem_append, List.mem_singleton] at hy
    rcases hy with hy | rfl
    · exact g6 y hy
    · show mm.length < 2 ^ 60; omega
  obtain ⟨H1, hx, hx2, hx3⟩ := hgt
  have hx1 := hx.none_or
  have hps : ∀ p, H1 p ≠ none → p ≠ v1 ∧ p ≠ b ∧ p ≠ o := fun p hp => ⟨fun e => hp (hx2 p (.inr (by simp [e]))), fun e => hp (hx2 p (.inr (by simp [e]))), fun e => hp (hx2 p (.inr (by simp [e])))⟩
  -- the globals
  refine JOIN_cut (fun _ τ => ∃ (cg : Nat) (y : AV) (gs : List Global) (i' : Nat) (bad' : Bool) (iG : Nat) (bG : Bool), τ v1 = some (.cells 0 [St (bs []), I 0, .nl, .nl, .nl]) ∧ τ b = some (rdI t i' bad') ∧ τ o = some (.cells 0 [St (bs m), I pr, x, y, .nl]) ∧ H1.le τ ∧ OT 2 (EFlat Global.cells) H1 [v1, b, o] y gs τ ∧ i' ≤ t.length ∧
      Rd.To (Rd.number 1) b3 (t.drop i3) cg bG (t.drop iG) ∧ Rd.To (Rd.many Rd.global cg) bG (t.drop iG) gs bad' (t.drop i') ∧ gs.length < 256 ∧ ∀ y ∈ gs, y.name.length < 2 ^ 60) (fun kk hkk => ?_) (fun xs τ ⟨cg, y, gs, i6, b6, iG, bG, d1, dB, dO, hH1, hgt, u1, u2, u3, u4, u5⟩ => ?_)
  · refine rn_f (n := 1) dB q1 hl (by omega) fun nb iN bN τ4 r1 r2 r3 dB k3 => ?_
    have d1 := (k3 _ (Ne.symm nB1)).trans d1
    have dO := (k3 _ (Ne.symm nBo)).trans dO
    have hH1 : H1.le τ4 := fun p z hz => (k3 p (hps p (by simp [hz])).2.1).trans (hx3 p z hz)
    have hr := beI_le1 r2
    obtain ⟨cn, hN⟩ : ∃ cn : Nat, beI nb = cn := ⟨(beI nb).toNat, by omega⟩
    rw [hN] at r3 hr
    simp only [hN]
    refine LOOP_intro (fun i => cn - i) (fun (i : Nat) ys τ => i ≤ cn ∧ nth ys 0 = I (i : Nat) ∧ ∃ (y : AV) (gs : List Global) (i' : Nat) (bad' : Bool), τ v1 = some (.cells 0 [St (bs []), I 0, .nl, .nl, .nl]) ∧ τ b = some (rdI t i' bad') ∧ τ o = some (.cells 0 [St (bs m), I pr, x, y, .nl]) ∧ H1.le τ ∧ OT 2 (EFlat Global.cells) H1 [v1, b, o] y gs τ ∧ i' ≤ t.length ∧
      Rd.To (Rd.many Rd.global i) bN (t.drop iN) gs bad' (t.drop i') ∧ gs.length = i ∧ ∀ y ∈ gs, y.name.length < 2 ^ 60) (fun i ys τ R ⟨g1, g2, y, gs, i', bad', d1, dB, dO, hH1, hgt, g3, g4, g5, g6⟩ hR => ?_) 0 ⟨by omega, rfl, .nl, [], iN, bN, d1, dB, dO, hH1, .nil, r1, .ret _ _ _, rfl, by simp⟩
    simp only [g2]
    repeat' first
      | (with_reducible first | refine s_join ?_ | refine s_ift ?_ | refine s_iff ?_ | refine s_igtt ?_ | refine s_igtf ?_ | refine s_igft ?_ | refine s_igff ?_ | refine s_igu ?_ | refine s_pt ?_ | refine s_pf ?_ | refine s_nott ?_ | refine s_notf ?_ | refine s_not ?_ | refine s_lslm ?_ | refine s_lsl ?_ | refine s_lgl ?_ | refine s_lnl ?_ | refine s_lar ?_ | refine s_lst ?_ | refine s_ncp ?_ | refine s_ncr ?_ | refine s_ncf ?_ | refine s_fap ?_ | refine s_far ?_ | refine s_mkfn ?_ | refine s_cvc ?_ | refine s_cvi ?_ | refine s_cvb ?_ | refine s_or ?_ | refine s_and ?_ | refine s_xor ?_ | refine s_andnot ?_)
      | (with_reducible first | refine BIN_eql_b (fun h => ?_) (fun h => ?_) | refine BIN_neq_b (fun h => ?_) (fun h => ?_) | refine BIN_lss_b (fun h => ?_) (fun h => ?_) | refine BIN_leq_b (fun h => ?_) (fun h => ?_) | refine BIN_gtr_b (fun h => ?_) (fun h => ?_) | refine BIN_geq_b (fun h => ?_) (fun h => ?_) | refine BIN_seql_b (fun h => ?_) (fun h => ?_) | refine BIN_sneq_b (fun h => ?_) (fun h => ?_) | refine s_ldr rfl ?_ | refine s_tup rfl ?_ | refine s_ifb (fun h => ?_) (fun h => ?_) | refine s_shl (by decide) ?_ | refine s_shr (by decide) ?_ | refine s_add (wrap64 (by omega)) ?_ | refine s_sub (wrap64 (by omega)) ?_ | refine s_ixn (by omega) ?_ | refine s_ix0 (by omega) ?_ | refine s_iam (by omega) ?_)
      | refine s_boxag rfl rfl (fun b hb => ?_)
      | (with_reducible first | refine s_ldp (AHeap.ins_self _ _ _) rfl ?_ | refine s_ldp (ins_prev (by assumption)) rfl ?_ | refine s_ldp (by assumption) rfl ?_ | refine s_ldp (ins_old (by assumption) (by assumption)) rfl ?_ | refine s_ldp (ins_other (by assumption) (by assumption)) rfl ?_ | refine s_ldpa (ins_old (by assumption) (by assumption)) rfl ?_ | refine s_ldpa (ins_other (by assumption) (by assumption)) rfl ?_ | refine s_ldpa (by assumption) rfl ?_ | refine s_ldpa (ins_prev (by assumption)) rfl ?_ | refine s_ldpa (AHeap.ins_self _ _ _) rfl ?_ | refine s_st1 (by assumption) rfl (by simp) ?_ | refine s_st1 (AHeap.ins_self _ _ _) rfl (by simp) ?_ | refine s_st1 (ins_prev (by assumption)) rfl (by simp) ?_ | refine s_sta (by assumption) rfl rfl rfl ?_ | refine s_sta (AHeap.ins_self _ _ _) rfl rfl rfl ?_ | refine s_field1 rfl ?_ | refine s_cuts (by omega) (by omega) (by omega) ?_ | refine s_cuts_lo (by omega) (by omega) ?_ | refine s_cuts_hi (by omega) (by omega) ?_)
      | refine ⟨by first | exact s_ldp (AHeap.ins_self _ _ _) rfl s_same | exact s_ldp (ins_prev (by assumption)) rfl s_same | exact s_ldp (by assumption) rfl s_same | exact s_ldr rfl s_same, ?_⟩
      | (with_reducible first | refine s_bneq_tt u_bool ?_ | refine s_bneq_tf u_bool ?_ | refine s_bneq_ft u_bool ?_ | refine s_bneq_ff u_bool ?_ | refine s_beql_tt u_bool ?_ | refine s_beql_tf u_bool ?_ | refine s_beql_ft u_bool ?_ | refine s_beql_ff u_bool ?_)
      | simp only [nth_zero, nth_succ, Nat.zero_add, Nat.reduceAdd, List.length_map, AHeap.ins_ins]
    rotate_left
    · have : i = cn := by omega
      subst this
      exact hkk _ _ ⟨i, y, gs, i', bad', iN, bN, d1, dB, dO, hH1, hgt, g3, r3, g4, by omega, g6⟩
    refine rt_f dB g3 hl fun mm i4 b4 τ5 s1 s2 s3 dB k4 => ?_
    have d1 := (k4 _ (Ne.symm nB1)).trans d1
    have dO := (k4 _ (Ne.symm nBo)).trans dO
    have hH1 : H1.le τ5 := fun p z hz => (k4 p (hps p (by simp [hz])).2.1).trans (hH1 p z hz)
    have hgt := hgt.other (.inr (by simp)) k4
    refine ⟨s_ldp dO rfl s_same, ?_⟩
    refine rn_f (n := 1) dB s1 hl (by omega) fun pp i5 b5 τ6 s4 s4' s5 dB k5 => ?_
    have d1 := (k5 _ (Ne.symm nB1)).trans d1
    have dO := (k5 _ (Ne.symm nBo)).trans dO
    have hH1 : H1.le τ6 := fun p z hz => (k5 p (hps p (by simp [hz])).2.1).trans (hH1 p z hz)
    have hgt := hgt.other (.inr (by simp)) k5
    refine ⟨s_ldp dO rfl s_same, ?_⟩
    refine s_build (cs := [St (bs mm), I (beI pp)]) rfl ?_
    refine s_lit rfl fun b6 hb6 => ?_
    refine ⟨s_ldp (ins_old dO hb6) rfl s_same, ?_⟩
    refine (hgt.new (y := ABlk.cells ((([[St (bs mm), I (beI pp)]] : List (List AV)).length) * 2) []) hb6).appl (bytes := 24) (a := ⟨mm, beI pp⟩) (fun p hp => by
      rcases hp with hp | hp
      · obtain ⟨z, hz⟩ := Option.ne_none_iff_exists'.1 hp
        exact ins_nn (by rw [hH1 p z hz]; simp)
      simp only [List.mem_cons, List.not_mem_nil, or_false] at hp
      rcases hp with rfl | rfl | rfl
      · rw [ins_old d1 hb6]; simp
      · rw [ins_old dB hb6]; simp
      · rw [ins_old dO hb6]; simp) rfl (by omega) (by omega) (by omega) fun x' τ7 hgt7 k7 => ?_
    have d1 := (k7 v1 (by simp)).trans (ins_old d1 hb6)
    have dB := (k7 b (by simp)).trans (ins_old dB hb6)
    have dO := (k7 o (by simp)).trans (ins_old dO hb6)
    have hH1 : H1.le τ7 := fun p z hz => (k7 p (.inl (by simp [hz]))).trans (ins_old (hH1 p z hz) hb6)
    refine s_fap ?_
    refine s_st1 dO hgt7.cell1 (by simp) ?_
    refine s_add (wrap64 (by omega)) ?_
    refine hR (i + 1) _ _ (by omega) ⟨by omega, by rfl, x', gs ++ [⟨mm, beI pp⟩], i5, b5, ins_other d1 n1o, ins_other dB nBo, AHeap.ins_self _ _ _, fun p z hz => ins_other (hH1 p z hz) (hps p (by simp [hz])).2.2, hgt7.ins (by simp), s4, g4.snoc (s3.then (s5.then (.ret _ _ _))), by simp [g5], ?_⟩
    intro y hy
    simp only [List.mem_append, List.mem_singleton] at hy
    rcases hy with hy | rfl
    · exact g6 y hy
    · show mm.length < 2 ^ 60; omega
  obtain ⟨H2, hy, hy2, hy3⟩ := hgt
  have hy1 := hy.none_or
  have hd12 : Dis H1 H2 := fun p => by
    by_cases hp : H1 p = none
    · exact .inl hp
    · exact .inr (hy2 p (.inl hp))
  have hps2 : ∀ p, H2 p ≠ none → p ≠ v1 ∧ p ≠ b ∧ p ≠ o := fun p hp => ⟨fun e => hp (hy2 p (.inr (by simp [e]))), fun e => hp (hy2 p (.inr (by simp [e]))), fun e => hp (hy2 p (.inr (by simp [e])))⟩
  have hB : ∀ p, (H1.un H2) p ≠ none → p ≠ v1 ∧ p ≠ b ∧ p ≠ o := fun p hp => by
    by_cases h : H1 p = none
    · exact hps2 p fun e => hp (AHeap.un_none.2 ⟨h, e⟩)
    · exact hps p h
  have hH : (H1.un H2).le τ := AHeap.un_le hH1 hy3
  generalize hBase : H1.un H2 = B at *
  -- the procedures
  refine JOIN_cut (fun _ τ => ∃ (cp : Nat) (z : AV) (cs : List Code) (i' : Nat) (bad' : Bool) (iP : Nat) (bP : Bool), τ v1 = some (.cells 0 [St (bs []), I 0, .nl, .nl, .nl]) ∧ τ b = some (rdI t i' bad') ∧ τ o = some (.cells 0 [St (bs m), I pr, x, y, z]) ∧ B.le τ ∧ OT 5 OCode B [v1, b, o] z cs τ ∧ i' ≤ t.length ∧
      Rd.To (Rd.number 1) b6 (t.drop i6) cp bP (t.drop iP) ∧ Rd.To (Rd.many Rd.code cp) bP (t.drop iP) cs bad' (t.drop i') ∧ cs.length < 256 ∧ ∀ c ∈ cs, c.Fine) (fun kk hkk => ?_) (fun xs τ ⟨cp, z, cs, i7, b7, iP, bP, d1, dB, dO, hH, hgt, w1, w2, w3, w4, w5⟩ => ?_)
  · refine rn_f (n := 1) dB u1 hl (by omega) fun nb iN bN τ4 r1 r2 r3 dB k3 => ?_
    have d1 := (k3 _ (Ne.symm nB1)).trans d1
    have dO := (k3 _ (Ne.symm nBo)).trans dO
    have hH : B.le τ4 := fun p z hz => (k3 p (hB p (by simp [hz])).2.1).trans (hH p z hz)
    have hr := beI_le1 r2
    obtain ⟨cn, hN⟩ : ∃ cn : Nat, beI nb = cn := ⟨(beI nb).toNat, by omega⟩
    rw [hN] at r3 hr
    simp only [hN]
    refine LOOP_intro (fun i => cn - i) (fun (i : Nat) ys τ => i ≤ cn ∧ nth ys 0 = I (i : Nat) ∧ ∃ (z : AV) (cs : List Code) (i' : Nat) (bad' : Bool), τ v1 = some (.cells 0 [St (bs []), I 0, .nl, .nl, .nl]) ∧ τ b = some (rdI t i' bad') ∧ τ o = some (.cells 0 [St (bs m), I pr, x, y, z]) ∧ B.le τ ∧ OT 5 OCode B [v1, b, o] z cs τ ∧ i' ≤ t.length ∧
      Rd.To (Rd.many Rd.code i) bN (t.drop iN) cs bad' (t.drop i') ∧ cs.length = i ∧ ∀ c ∈ cs, c.Fine) (fun i ys τ R ⟨g1, g2, z, cs, i', bad', d1, dB, dO, hH, hgt, g3, g4, g5, g6⟩ hR => ?_) 0 ⟨by omega, rfl, .nl, [], iN, bN, d1, dB, dO, hH, .nil, r1, .ret _ _ _, rfl, by simp⟩
    simp only [g2]
    repeat' first
      | (with_reducible first | refine s_join ?_ | refine s_ift ?_ | refine s_iff ?_ | refine s_igtt ?_ | refine s_igtf ?_ | refine s_igft ?_ | refine s_igff ?_ | refine s_igu ?_ | refine s_pt ?_ | refine s_pf ?_ | refine s_nott ?_ | refine s_notf ?_ | refine s_not ?_ | refine s_lslm ?_ | refine s_lsl ?_ | refine s_lgl ?_ | refine s_lnl ?_ | refine s_lar ?_ | refine s_lst ?_ | refine s_ncp ?_ | refine s_ncr ?_ | refine s_ncf ?_ | refine s_fap ?_ | refine s_far ?_ | refine s_mkfn ?_ | refine s_cvc ?_ | refine s_cvi ?_ | refine s_cvb ?_ | refine s_or ?_ | refine s_and ?_ | refine s_xor ?_ | refine s_andnot ?_)
      | (with_reducible first | refine BIN_eql_b (fun h => ?_) (fun h => ?_) | refine BIN_neq_b (fun h => ?_) (fun h => ?_) | refine BIN_lss_b (fun h => ?_) (fun h => ?_) | refine BIN_leq_b (fun h => ?_) (fun h => ?_) | refine BIN_gtr_b (fun h => ?_) (fun h => ?_) | refine BIN_geq_b (fun h => ?_) (fun h => ?_) | refine BIN_seql_b (fun h => ?_) (fun h => ?_) | refine BIN_sneq_b (fun h => ?_) (fun h => ?_) | refine s_ldr rfl ?_ | refine s_tup rfl ?_ | refine s_ifb (fun h => ?_) (fun h => ?_) | refine s_shl (by decide) ?_ | refine s_shr (by decide) ?_ | refine s_add (wrap64 (by omega)) ?_ | refine s_sub (wrap64 (by omega)) ?_ | refine s_ixn (by omega) ?_ | refine s_ix0 (by omega) ?_ | refine s_iam (by omega) ?_)
      | refine s_boxag rfl rfl (fun b hb => ?_)
      | (with_reducible first | refine s_ldp (AHeap.ins_self _ _ _) rfl ?_ | refine s_ldp (ins_prev (by assumption)) rfl ?_ | refine s_ldp (by assumption) rfl ?_ | refine s_ldp (ins_old (by assumption) (by assumption)) rfl ?_ | refine s_ldp (ins_other (by assumption) (by assumption)) rfl ?_ | refine s_ldpa (ins_old (by assumption) (by assumption)) rfl ?_ | refine s_ldpa (ins_other (by assumption) (by assumption)) rfl ?_ | refine s_ldpa (by assumption) rfl ?_ | refine s_ldpa (ins_prev (by assumption)) rfl ?_ | refine s_ldpa (AHeap.ins_self _ _ _) rfl ?_ | refine s_st1 (by assumption) rfl (by simp) ?_ | refine s_st1 (AHeap.ins_self _ _ _) rfl (by simp) ?_ | refine s_st1 (ins_prev (by assumption)) rfl (by simp) ?_ | refine s_sta (by assumption) rfl rfl rfl ?_ | refine s_sta (AHeap.ins_self _ _ _) rfl rfl rfl ?_ | refine s_field1 rfl ?_ | refine s_cuts (by omega) (by omega) (by omega) ?_ | refine s_cuts_lo (by omega) (by omega) ?_ | refine s_cuts_hi (by omega) (by omega) ?_)
      | refine ⟨by first | exact s_ldp (AHeap.ins_self _ _ _) rfl s_same | exact s_ldp (ins_prev (by assumption)) rfl s_same | exact s_ldp (by assumption) rfl s_same | exact s_ldr rfl s_same, ?_⟩
      | (with_reducible first | refine s_bneq_tt u_bool ?_ | refine s_bneq_tf u_bool ?_ | refine s_bneq_ft u_bool ?_ | refine s_bneq_ff u_bool ?_ | refine s_beql_tt u_bool ?_ | refine s_beql_tf u_bool ?_ | refine s_beql_ft u_bool ?_ | refine s_beql_ff u_bool ?_)
      | simp only [nth_zero, nth_succ, Nat.zero_add, Nat.reduceAdd, List.length_map, AHeap.ins_ins]
    rotate_left
    · have : i = cn := by omega
      subst this
      exact hkk _ _ ⟨i, z, cs, i', bad', iN, bN, d1, dB, dO, hH, hgt, g3, r3, g4, by omega, g6⟩
    refine impl_reader_code_c dB g3 hl fun rc c He i4 b4 s1 s2 s3 s4 s5 => ?_
    have hBHe : ∀ p, (B p ≠ none ∨ p ∈ [v1, b, o]) → He p = none := fun p hp => (s5 p).resolve_left (by
      rcases hp with hp | hp
      · obtain ⟨z, hz⟩ := Option.ne_none_iff_exists'.1 hp
        rw [hH p z hz]; simp
      simp only [List.mem_cons, List.not_mem_nil, or_false] at hp
      rcases hp with rfl | rfl | rfl
      · rw [d1]; simp
      · rw [dB]; simp
      · rw [dO]; simp)
    have hdis : Dis (τ.ins b (rdI t i4 b4)) He := fun p => by
      by_cases hp : p = b
      · subst hp; exact .inr (hBHe p (.inr (by simp)))
      · rw [AHeap.ins_ne _ _ hp]; exact s5 p
    have hle := AHeap.le_un_left (τ.ins b (rdI t i4 b4)) He
    have hle2 := AHeap.le_un_right hdis
    have d1 := hle _ _ (ins_other (y := rdI t i4 b4) d1 (Ne.symm nB1))
    have dO := hle _ _ (ins_other (y := rdI t i4 b4) dO (Ne.symm nBo))
    have hH : B.le ((τ.ins b (rdI t i4 b4)).un He) := fun p z hz => hle _ _ (ins_other (hH p z hz) (hB p (by simp [hz])).2.1)
    have hgt : ∃ H, ORow 5 OCode H z cs ∧ (∀ p, (B p ≠ none ∨ p ∈ [v1, b, o] ∨ He p ≠ none) → H p = none) ∧ H.le ((τ.ins b (rdI t i4 b4)).un He) := by
      obtain ⟨H, e1, e2, e3⟩ := hgt
      refine ⟨H, e1, fun p hp => ?_, fun p z hz => hle _ _ ?_⟩
      · rcases hp with hp | hp | hp
        · exact e2 p (.inl hp)
        · exact e2 p (.inr hp)
        · rcases s5 p with h | h
          · exact e3.nn h
          · exact absurd h hp
      · have : p ≠ b := fun e => by rw [e2 p (.inr (by simp [e]))] at hz; simp at hz
        rw [AHeap.ins_ne _ _ this]; exact e3 _ _ hz
    have dB := hle _ _ (AHeap.ins_self τ b (rdI t i4 b4))
    generalize (τ.ins b (rdI t i4 b4)).un He = τ5 at *
    refine ⟨s_ldp dO rfl s_same, ?_⟩
    obtain ⟨vl, hrc, hvl⟩ := id s4
    have hrc1 : rc.all AV.cell1 = true := by rw [hrc]; simp [hvl.none_or]
    have hrcl : rc.length = 5 := by rw [hrc]; rfl
    refine s_lit (y := rc) (ys := []) (lit_ag hrcl hrc1) fun b6 hb6 => ?_
    refine ⟨s_ldp (ins_old dO hb6) rfl s_same, ?_⟩
    obtain ⟨H, e1, e2, e3⟩ := hgt
    refine OT.appo (He := He) (F := B) (ps := [v1, b, o]) (bytes := 64) (a := c) ⟨H, e1, e2, e3.ins_new hb6⟩ s4 (hle2.ins_new hb6) hBHe (fun p hp => by
      rcases hp with hp | hp
      · obtain ⟨z, hz⟩ := Option.ne_none_iff_exists'.1 hp
        exact ins_nn (by rw [hH p z hz]; simp)
      simp only [List.mem_cons, List.not_mem_nil, or_false] at hp
      rcases hp with rfl | rfl | rfl
      · rw [ins_old d1 hb6]; simp
      · rw [ins_old dB hb6]; simp
      · rw [ins_old dO hb6]; simp) hrcl (by omega) (by omega) (by omega) fun x' τ7 hgt7 k7 => ?_
    have d1 := (k7 v1 (by simp)).trans (ins_old d1 hb6)
    have dB := (k7 b (by simp)).trans (ins_old dB hb6)
    have dO := (k7 o (by simp)).trans (ins_old dO hb6)
    have hH : B.le τ7 := fun p z hz => (k7 p (.inl (by simp [hz]))).trans (ins_old (hH p z hz) hb6)
    refine s_fap ?_
    refine s_st1 dO hgt7.cell1 (by simp) ?_
    refine s_add (wrap64 (by omega)) ?_
    refine hR (i + 1) _ _ (by omega) ⟨by omega, by rfl, x', cs ++ [c], i4, b4, ins_other d1 n1o, ins_other dB nBo, AHeap.ins_self _ _ _, fun p z hz => ins_other (hH p z hz) (hB p (by simp [hz])).2.2, hgt7.ins (by simp), s1, g4.snoc s3, by simp [g5], ?_⟩
    intro y hy
    simp only [List.mem_append, List.mem_singleton] at hy
    rcases hy with hy | rfl
    · exact g6 y hy
    · exact s2
  obtain ⟨H3, hz, hz2, hz3⟩ := hgt
  have hz1 := hz.none_or
  subst hBase
  have hO : OObject ((H1.un H2).un H3) [St (bs m), I pr, x, y, z] ⟨m, pr, ns, gs, cs⟩ := by
    refine ⟨H1, H2, H3, x, y, z, rfl, hx, hy, hz, hd12, fun p => ?_, fun p => ?_, rfl⟩
    · by_cases hp : H1 p = none
      · exact .inl hp
      · exact .inr (hz2 p (.inl fun e => hp (AHeap.un_none.1 e).1))
    · by_cases hp : H2 p = none
      · exact .inl hp
      · exact .inr (hz2 p (.inl fun e => hp (AHeap.un_none.1 e).2))
  have hOle : ((H1.un H2).un H3).le τ := AHeap.un_le hH hz3
  have hps3 : ∀ p, ((H1.un H2).un H3) p ≠ none → p ≠ v1 := fun p hp => by
    by_cases h : (H1.un H2) p = none
    · exact fun e => hp (AHeap.un_none.2 ⟨h, hz2 p (.inr (by simp [e]))⟩)
    · exact (hB p h).1
  have hfine : Object.Fine ⟨m, pr, ns, gs, cs⟩ := ⟨by show m.length < 2 ^ 60; omega, by show ns.length < 2 ^ 60; omega, by show gs.length < 2 ^ 60; omega, by show cs.length < 2 ^ 60; omega, q5, u5, w5⟩
  have hview : View τ (.ag [St (bs m), I pr, x, y, z]) (.ag (Object.cells ⟨m, pr, ns, gs, cs⟩)) := by
    refine .ag _ _ rfl fun j hj => ((OObject.view _ _ _ hO).2.2.2 j hj).mono hOle |> fun h => ?_
    have e1 : ∀ l : List AV, l.getD j .un = l.getD j .un := fun _ => rfl
    exact h
  generalize hO' : (⟨m, pr, ns, gs, cs⟩ : Object) = O at *
  have hto : Rd.To Rd.object (b0 || decide (hv ≠ [79, 79, 49])) (t.drop i0) O b7 (t.drop i7) := by
    rw [← hO']
    refine p5.then (p8.then (q2.then ?_))
    rw [Int.toNat_natCast]
    refine q3.then (u2.then ?_)
    rw [Int.toNat_natCast]
    refine u3.then (w2.then ?_)
    rw [Int.toNat_natCast]
    exact w3.then (.ret _ _ _)
  refine s_ldpa dO rfl ?_
  have hcells : ([St (bs m), I pr, x, y, z] : List AV).all AV.cell1 = true := by simp [hx1, hy1, hz1]
  have hend : ∀ (ok : Bool), (ok = true → readM t = some O ∧ objectM O = true) → (ok = false → ∀ o', readM t = some o' → objectM o' = false) →
      STORE 5 (.pt v1 0) (.ag [St (bs m), I pr, x, y, z]) τ fun u380 s381 => LOAD (.agg 5) (.pt v1 0) s381 fun r382 s383 => Fin (fun r τ => ∃ (o : Object) (ok : Bool) (cs : List AV), r = .tu [.ag cs, Bo ok] ∧ OObject τ cs o ∧ (ok = true → readM t = some o ∧ objectM o = true) ∧ (ok = false → ∀ o', readM t = some o' → objectM o' = false)) (.tu [r382, Bo ok]) s383 := fun ok h1 h2 => by
    refine s_sta d1 rfl rfl hcells ?_
    refine s_ldpa (AHeap.ins_self _ _ _) rfl ?_
    refine Fin.drop (σ' := (H1.un H2).un H3) (fun p q hq => ?_) ⟨O, ok, _, rfl, hO, h1, h2⟩
    rw [AHeap.ins_ne _ _ (hps3 p (by simp [hq]))]; exact hOle _ _ hq
  refine impl_reader_ends_c dB ?_
  refine ⟨s_ldpa dO rfl s_same, ?_⟩
  have hrd : b7 = false → readM t = match Rd.object (t.drop 3) with | some (o, []) => some o | _ => none := by
    intro h7
    have h0 := (hto.1 h7).1
    simp only [Bool.or_eq_false_iff, decide_eq_false_iff_not, Decidable.not_not] at h0
    have h1 := (p2.1 h0.1).2
    simp only [Rd.bytes] at h1
    split at h1
    · rename_i hc
      simp only [Option.some.injEq, Prod.mk.injEq] at h1
      unfold readM
      rw [if_pos ⟨by simpa using hc, by rw [← h0.2, ← h1.1]; rfl⟩]
      rfl
    · simp at h1
  have hi0 : b7 = false → t.drop i0 = t.drop 3 := by
    intro h7
    have h0 := (hto.1 h7).1
    simp only [Bool.or_eq_false_iff, decide_eq_false_iff_not, Decidable.not_not] at h0
    have h1 := (p2.1 h0.1).2
    simp only [Rd.bytes] at h1
    split at h1
    · simp only [Option.some.injEq, Prod.mk.injEq] at h1
      exact h1.2.symm
    · simp at h1
  cases b7 with
  | true =>
    have hnone : ∀ o', readM t = some o' → objectM o' = false := fun o' ho' => by
      exfalso
      have hne : readM t = none := by
        unfold readM
        split
        · rename_i hc
          have hby : Rd.bytes ([79, 79, 49] : List UInt8).length (t.drop 0) = some (t.take 3, t.drop 3) := by
            simp only [Rd.bytes, List.drop_zero]
            rw [if_pos (by simpa using hc.1)]; rfl
          have hb0 : b0 = false := by
            cases hb : b0 with
            | false => rfl
            | true => rcases p2.2 hb with e | e
                      · simp at e
                      · rw [hby] at e; simp at e
          have h1 := (p2.1 hb0).2
          rw [hby] at h1
          simp only [Option.some.injEq, Prod.mk.injEq] at h1
          rcases hto.2 rfl with e | e
          · rw [hb0, ← h1.1, hc.2] at e; simp at e
          · rw [← h1.2] at e; rw [e]
        · rfl
      rw [hne] at ho'; simp at ho'
    simp only [Bool.not_true, Bool.false_and]
    repeat' first
      | (with_reducible first | refine s_join ?_ | refine s_ift ?_ | refine s_iff ?_ | refine s_igtt ?_ | refine s_igtf ?_ | refine s_igft ?_ | refine s_igff ?_ | refine s_igu ?_ | refine s_pt ?_ | refine s_pf ?_ | refine s_nott ?_ | refine s_notf ?_ | refine s_not ?_ | refine s_lslm ?_ | refine s_lsl ?_ | refine s_lgl ?_ | refine s_lnl ?_ | refine s_lar ?_ | refine s_lst ?_ | refine s_ncp ?_ | refine s_ncr ?_ | refine s_ncf ?_ | refine s_fap ?_ | refine s_far ?_ | refine s_mkfn ?_ | refine s_cvc ?_ | refine s_cvi ?_ | refine s_cvb ?_ | refine s_or ?_ | refine s_and ?_ | refine s_xor ?_ | refine s_andnot ?_)
      | (with_reducible first | refine BIN_eql_b (fun h => ?_) (fun h => ?_) | refine BIN_neq_b (fun h => ?_) (fun h => ?_) | refine BIN_lss_b (fun h => ?_) (fun h => ?_) | refine BIN_leq_b (fun h => ?_) (fun h => ?_) | refine BIN_gtr_b (fun h => ?_) (fun h => ?_) | refine BIN_geq_b (fun h => ?_) (fun h => ?_) | refine BIN_seql_b (fun h => ?_) (fun h => ?_) | refine BIN_sneq_b (fun h => ?_) (fun h => ?_) | refine s_ldr rfl ?_ | refine s_tup rfl ?_ | refine s_ifb (fun h => ?_) (fun h => ?_) | refine s_shl (by decide) ?_ | refine s_shr (by decide) ?_ | refine s_add (wrap64 (by omega)) ?_ | refine s_sub (wrap64 (by omega)) ?_ | refine s_ixn (by omega) ?_ | refine s_ix0 (by omega) ?_ | refine s_iam (by omega) ?_)
      | refine s_boxag rfl rfl (fun b hb => ?_)
      | (with_reducible first | refine s_ldp (AHeap.ins_self _ _ _) rfl ?_ | refine s_ldp (ins_prev (by assumption)) rfl ?_ | refine s_ldp (by assumption) rfl ?_ | refine s_ldp (ins_old (by assumption) (by assumption)) rfl ?_ | refine s_ldp (ins_other (by assumption) (by assumption)) rfl ?_ | refine s_ldpa (ins_old (by assumption) (by assumption)) rfl ?_ | refine s_ldpa (ins_other (by assumption) (by assumption)) rfl ?_ | refine s_ldpa (by assumption) rfl ?_ | refine s_ldpa (ins_prev (by assumption)) rfl ?_ | refine s_ldpa (AHeap.ins_self _ _ _) rfl ?_ | refine s_st1 (by assumption) rfl (by simp) ?_ | refine s_st1 (AHeap.ins_self _ _ _) rfl (by simp) ?_ | refine s_st1 (ins_prev (by assumption)) rfl (by simp) ?_ | refine s_sta (by assumption) rfl rfl rfl ?_ | refine s_sta (AHeap.ins_self _ _ _) rfl rfl rfl ?_ | refine s_field1 rfl ?_ | refine s_cuts (by omega) (by omega) (by omega) ?_ | refine s_cuts_lo (by omega) (by omega) ?_ | refine s_cuts_hi (by omega) (by omega) ?_)
      | refine ⟨by first | exact s_ldp (AHeap.ins_self _ _ _) rfl s_same | exact s_ldp (ins_prev (by assumption)) rfl s_same | exact s_ldp (by assumption) rfl s_same | exact s_ldr rfl s_same, ?_⟩
      | (with_reducible first | refine s_bneq_tt u_bool ?_ | refine s_bneq_tf u_bool ?_ | refine s_bneq_ft u_bool ?_ | refine s_bneq_ff u_bool ?_ | refine s_beql_tt u_bool ?_ | refine s_beql_tf u_bool ?_ | refine s_beql_ft u_bool ?_ | refine s_beql_ff u_bool ?_)
      | simp only [nth_zero, nth_succ, Nat.zero_add, Nat.reduceAdd, List.length_map, AHeap.ins_ins]
    refine ⟨s_ldpa dO rfl s_same, ?_⟩
    refine s_pf ?_
    exact hend false (by simp) fun _ => hnone
  | false =>
    have hrd := hrd rfl
    have hsome := (hto.1 rfl).2
    rw [hi0 rfl] at hsome
    rw [hsome] at hrd
    by_cases hi : i7 = t.length
    · rw [decide_eq_true hi]
      simp only [Bool.not_false, Bool.true_and]
      have hdrop : t.drop i7 = [] := by rw [hi, List.drop_length]
      rw [hdrop] at hrd
      refine s_join ?_
      refine s_igtt ?_
      refine s_ldpa dO rfl ?_
      refine s_join ?_
      refine s_igtt ?_
      refine (impl_ObjectOK_c hT O hfine).borrow (.cons hview .nil) (.sc _) ?_
      refine ⟨s_ldpa dO rfl s_same, ?_⟩
      cases hob : objectM O with
      | true =>
        refine s_pt ?_
        exact hend true (fun _ => ⟨hrd, hob⟩) (by simp)
      | false =>
        refine s_pt ?_
        exact hend false (by simp) (fun _ o' ho' => by rw [hrd] at ho'; simp at ho'; rw [← ho']; exact hob)
    · rw [decide_eq_false hi]
      simp only [Bool.not_false, Bool.true_and]
      repeat' first
        | (with_reducible first | refine s_join ?_ | refine s_ift ?_ | refine s_iff ?_ | refine s_igtt ?_ | refine s_igtf ?_ | refine s_igft ?_ | refine s_igff ?_ | refine s_igu ?_ | refine s_pt ?_ | refine s_pf ?_ | refine s_nott ?_ | refine s_notf ?_ | refine s_not ?_ | refine s_lslm ?_ | refine s_lsl ?_ | refine s_lgl ?_ | refine s_lnl ?_ | refine s_lar ?_ | refine s_lst ?_ | refine s_ncp ?_ | refine s_ncr ?_ | refine s_ncf ?_ | refine s_fap ?_ | refine s_far ?_ | refine s_mkfn ?_ | refine s_cvc ?_ | refine s_cvi ?_ | refine s_cvb ?_ | refine s_or ?_ | refine s_and ?_ | refine s_xor ?_ | refine s_andnot ?_)
        | (with_reducible first | refine BIN_eql_b (fun h => ?_) (fun h => ?_) | refine BIN_neq_b (fun h => ?_) (fun h => ?_) | refine BIN_lss_b (fun h => ?_) (fun h => ?_) | refine BIN_leq_b (fun h => ?_) (fun h => ?_) | refine BIN_gtr_b (fun h => ?_) (fun h => ?_) | refine BIN_geq_b (fun h => ?_) (fun h => ?_) | refine BIN_seql_b (fun h => ?_) (fun h => ?_) | refine BIN_sneq_b (fun h => ?_) (fun h => ?_) | refine s_ldr rfl ?_ | refine s_tup rfl ?_ | refine s_ifb (fun h => ?_) (fun h => ?_) | refine s_shl (by decide) ?_ | refine s_shr (by decide) ?_ | refine s_add (wrap64 (by omega)) ?_ | refine s_sub (wrap64 (by omega)) ?_ | refine s_ixn (by omega) ?_ | refine s_ix0 (by omega) ?_ | refine s_iam (by omega) ?_)
        | refine s_boxag rfl rfl (fun b hb => ?_)
        | (with_reducible first | refine s_ldp (AHeap.ins_self _ _ _) rfl ?_ | refine s_ldp (ins_prev (by assumption)) rfl ?_ | refine s_ldp (by assumption) rfl ?_ | refine s_ldp (ins_old (by assumption) (by assumption)) rfl ?_ | refine s_ldp (ins_other (by assumption) (by assumption)) rfl ?_ | refine s_ldpa (ins_old (by assumption) (by assumption)) rfl ?_ | refine s_ldpa (ins_other (by assumption) (by assumption)) rfl ?_ | refine s_ldpa (by assumption) rfl ?_ | refine s_ldpa (ins_prev (by assumption)) rfl ?_ | refine s_ldpa (AHeap.ins_self _ _ _) rfl ?_ | refine s_st1 (by assumption) rfl (by simp) ?_ | refine s_st1 (AHeap.ins_self _ _ _) rfl (by simp) ?_ | refine s_st1 (ins_prev (by assumption)) rfl (by simp) ?_ | refine s_sta (by assumption) rfl rfl rfl ?_ | refine s_sta (AHeap.ins_self _ _ _) rfl rfl rfl ?_ | refine s_field1 rfl ?_ | refine s_cuts (by omega) (by omega) (by omega) ?_ | refine s_cuts_lo (by omega) (by omega) ?_ | refine s_cuts_hi (by omega) (by omega) ?_)
        | refine ⟨by first | exact s_ldp (AHeap.ins_self _ _ _) rfl s_same | exact s_ldp (ins_prev (by assumption)) rfl s_same | exact s_ldp (by assumption) rfl s_same | exact s_ldr rfl s_same, ?_⟩
        | (with_reducible first | refine s_bneq_tt u_bool ?_ | refine s_bneq_tf u_bool ?_ | refine s_bneq_ft u_bool ?_ | refine s_bneq_ff u_bool ?_ | refine s_beql_tt u_bool ?_ | refine s_beql_tf u_bool ?_ | refine s_beql_ft u_bool ?_ | refine s_beql_ff u_bool ?_)
        | simp only [nth_zero, nth_succ, Nat.zero_add, Nat.reduceAdd, List.length_map, AHeap.ins_ins]
      refine ⟨s_ldpa dO rfl s_same, ?_⟩
      refine s_pf ?_
      refine hend false (by simp) fun _ o' ho' => ?_
      obtain ⟨ch, rr, hcr⟩ : ∃ ch rr, t.drop i7 = ch :: rr := by
        cases hd : t.drop i7 with
        | nil => have := congrArg List.length hd; simp at this; omega
        | cons c r => exact ⟨c, r, rfl⟩
      rw [hcr] at hrd
      rw [hrd] at ho'; simp at ho')

end Go.Al
