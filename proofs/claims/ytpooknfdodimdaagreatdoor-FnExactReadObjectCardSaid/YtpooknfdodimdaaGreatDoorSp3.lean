/- Contracts: searching with functions. (The theorems on IndexFunc, ContainsFunc, areAll were printed by hof.py.) -/
import Derived.Test.YtpooknfdodimdaaGreatDoorSp2
set_option linter.unusedVariables false
set_option linter.unusedSimpArgs false
namespace Go.Al
variable {G : Seal}

structure Need where
  module : List UInt8
  print : Int
structure Global where
  name : List UInt8
  length : Int
structure Ins where
  op : Int
  a : Int
  b : Int
  mod : List UInt8
  name : List UInt8
structure Code where
  name : List UInt8
  params : Int
  cells : Int
  result : Int
  list : List Ins
structure Object where
  module : List UInt8
  print : Int
  needs : List Need
  globals : List Global
  procs : List Code

abbrev bcell (c : UInt8) : List AV := [U8 c.toNat]
abbrev Need.cells (x : Need) : List AV := [St (bs x.module), I x.print]
abbrev Global.cells (x : Global) : List AV := [St (bs x.name), I x.length]
abbrev Ins.cells (x : Ins) : List AV := [I x.op, I x.a, I x.b, St (bs x.mod), St (bs x.name)]
abbrev Code.av (x : Code) : List AV := [St (bs x.name), I x.params, I x.cells, I x.result, .sl 5 (x.list.map Ins.cells)]
abbrev Object.cells (x : Object) : List AV := [St (bs x.module), I x.print, .sl 2 (x.needs.map Need.cells), .sl 2 (x.globals.map Global.cells), .sl 5 (x.procs.map Code.av)]

def indexM {α : Type} (p : α → Bool) (l : List α) : Int := match l.findIdx? p with | some i => i | none => -1
theorem indexM_at {α : Type} {p : α → Bool} {l : List α} {i : Nat} (hi : i < l.length) (h : ∀ k (hk : k < l.length), k < i → p l[k] = false) (he : p l[i] = true) : indexM p l = i := by
  have : l.findIdx? p = some i := by
    rw [List.findIdx?_eq_some_iff_getElem]
    exact ⟨hi, he, fun j hj => by simp [h j (by omega) hj]⟩
  simp [indexM, this]
theorem indexM_none {α : Type} {p : α → Bool} {l : List α} (h : ∀ k (hk : k < l.length), p l[k] = false) : indexM p l = -1 := by
  have : l.findIdx? p = none := by
    rw [List.findIdx?_eq_none_iff]
    intro x hx
    obtain ⟨k, hk, rfl⟩ := List.getElem_of_mem hx
    exact h k hk
  simp [indexM, this]
theorem any_of_index {α : Type} {p : α → Bool} {l : List α} : l.any p = decide (indexM p l ≥ 0) := by
  unfold indexM
  cases h : l.findIdx? p with
  | none =>
    rw [List.findIdx?_eq_none_iff] at h
    simp
    exact h
  | some i =>
    rw [List.findIdx?_eq_some_iff_getElem] at h
    obtain ⟨hi, hp, _⟩ := h
    simp
    exact ⟨l[i], List.getElem_mem _, hp⟩
theorem cellsN_one {v : AV} (h : v.cell1 = true) : v.cellsN 1 = some [v] := by
  cases v <;> simp_all [AV.cellsN, AV.cell1]

theorem IndexFunc_byte_byte_c (l : List UInt8) (f : AV) (p : UInt8 → Bool) (hl : l.length < 2 ^ 60) (hf : ∀ x ∈ l, FnP PP G f [U8 x.toNat] (Bo (p x))) : PureF PP G N.slices_IndexFunc_byte_byte [.sl 1 (l.map bcell), f] (I (indexM p l)) := F.slices_IndexFunc_byte_byte_ok (by
  unfold F.slices_IndexFunc_byte_byte
  refine s_join ?_
  refine s_lslm ?_
  refine LOOP_intro (fun i => l.length - i) (fun (i : Nat) xs σ => i ≤ l.length ∧ σ = .emp ∧ nth xs 2 = I i ∧ (∀ k (hk : k < l.length), k < i → p l[k] = false)) (fun i xs σ R ⟨h1, h2, h3, h4⟩ hR => ?_) 0 ⟨by omega, rfl, rfl, fun _ _ h => by omega⟩
  subst h2
  simp only [h3]
  repeat' first
    | (with_reducible first | refine s_join ?_ | refine s_ift ?_ | refine s_iff ?_ | refine s_igtt ?_ | refine s_igtf ?_ | refine s_igft ?_ | refine s_igff ?_ | refine s_igu ?_ | refine s_pt ?_ | refine s_pf ?_ | refine s_nott ?_ | refine s_notf ?_ | refine s_not ?_ | refine s_lslm ?_ | refine s_lsl ?_ | refine s_lgl ?_ | refine s_lnl ?_ | refine s_lar ?_ | refine s_lst ?_ | refine s_ncp ?_ | refine s_ncr ?_ | refine s_ncf ?_ | refine s_fap ?_ | refine s_far ?_ | refine s_mkfn ?_ | refine s_cvc ?_ | refine s_cvi ?_ | refine s_cvb ?_ | refine s_or ?_ | refine s_and ?_ | refine s_xor ?_ | refine s_andnot ?_)
    | with_reducible refine s_ldr rfl ?_
    | with_reducible refine FnP.callb (hf _ (List.getElem_mem _)) (fun h => ?_) (fun h => ?_)
    | (with_reducible first | refine BIN_eql_b (fun h => ?_) (fun h => ?_) | refine BIN_neq_b (fun h => ?_) (fun h => ?_) | refine BIN_lss_b (fun h => ?_) (fun h => ?_) | refine BIN_leq_b (fun h => ?_) (fun h => ?_) | refine BIN_gtr_b (fun h => ?_) (fun h => ?_) | refine BIN_geq_b (fun h => ?_) (fun h => ?_) | refine BIN_seql_b (fun h => ?_) (fun h => ?_) | refine BIN_sneq_b (fun h => ?_) (fun h => ?_) | refine s_ldr rfl ?_ | refine s_tup rfl ?_ | refine s_ifb (fun h => ?_) (fun h => ?_) | refine s_shl (by decide) ?_ | refine s_shr (by decide) ?_ | refine s_add (wrap64 (by omega)) ?_ | refine s_sub (wrap64 (by omega)) ?_ | refine s_ixn (by omega) ?_ | refine s_ix0 (by omega) ?_ | refine s_iam (by omega) ?_)
    | refine s_boxag rfl rfl (fun b hb => ?_)
    | (with_reducible first | refine s_ldp (AHeap.ins_self _ _ _) rfl ?_ | refine s_ldp (ins_prev (by assumption)) rfl ?_ | refine s_ldp (by assumption) rfl ?_ | refine s_ldp (ins_old (by assumption) (by assumption)) rfl ?_ | refine s_ldp (ins_other (by assumption) (by assumption)) rfl ?_ | refine s_ldpa (ins_old (by assumption) (by assumption)) rfl ?_ | refine s_ldpa (ins_other (by assumption) (by assumption)) rfl ?_ | refine s_ldpa (by assumption) rfl ?_ | refine s_ldpa (ins_prev (by assumption)) rfl ?_ | refine s_ldpa (AHeap.ins_self _ _ _) rfl ?_ | refine s_st1 (by assumption) rfl (by simp) ?_ | refine s_st1 (AHeap.ins_self _ _ _) rfl (by simp) ?_ | refine s_st1 (ins_prev (by assumption)) rfl (by simp) ?_ | refine s_sta (by assumption) rfl rfl rfl ?_ | refine s_sta (AHeap.ins_self _ _ _) rfl rfl rfl ?_ | refine s_field1 rfl ?_ | refine s_cuts (by omega) (by omega) (by omega) ?_ | refine s_cuts_lo (by omega) (by omega) ?_ | refine s_cuts_hi (by omega) (by omega) ?_)
    | refine ⟨by first | exact s_ldp (AHeap.ins_self _ _ _) rfl s_same | exact s_ldp (ins_prev (by assumption)) rfl s_same | exact s_ldp (by assumption) rfl s_same | exact s_ldr rfl s_same, ?_⟩
    | (with_reducible first | refine s_bneq_tt u_bool ?_ | refine s_bneq_tf u_bool ?_ | refine s_bneq_ft u_bool ?_ | refine s_bneq_ff u_bool ?_ | refine s_beql_tt u_bool ?_ | refine s_beql_tf u_bool ?_ | refine s_beql_ft u_bool ?_ | refine s_beql_ff u_bool ?_)
    | simp only [nth_zero, nth_succ, Nat.zero_add, Nat.reduceAdd, List.length_map, AHeap.ins_ins]
  · exact Fin.eqv (by rw [indexM_at (by omega) h4 h])
  · refine hR (i + 1) _ _ (by omega) ⟨by omega, rfl, by simp, fun k hk hk1 => ?_⟩
    by_cases hki : k = i
    · subst hki; exact h
    · exact h4 k hk (by omega)
  · exact Fin.eqv (by rw [indexM_none fun k hk => h4 k hk (by omega)]))


theorem ContainsFunc_byte_byte_c (l : List UInt8) (f : AV) (p : UInt8 → Bool) (hl : l.length < 2 ^ 60) (hf : ∀ x ∈ l, FnP PP G f [U8 x.toNat] (Bo (p x))) : PureF PP G N.slices_ContainsFunc_byte_byte [.sl 1 (l.map bcell), f] (Bo (l.any p)) := F.slices_ContainsFunc_byte_byte_ok (by
  unfold F.slices_ContainsFunc_byte_byte
  repeat' first
    | (with_reducible first | refine s_join ?_ | refine s_ift ?_ | refine s_iff ?_ | refine s_igtt ?_ | refine s_igtf ?_ | refine s_igft ?_ | refine s_igff ?_ | refine s_igu ?_ | refine s_pt ?_ | refine s_pf ?_ | refine s_nott ?_ | refine s_notf ?_ | refine s_not ?_ | refine s_lslm ?_ | refine s_lsl ?_ | refine s_lgl ?_ | refine s_lnl ?_ | refine s_lar ?_ | refine s_lst ?_ | refine s_ncp ?_ | refine s_ncr ?_ | refine s_ncf ?_ | refine s_fap ?_ | refine s_far ?_ | refine s_mkfn ?_ | refine s_cvc ?_ | refine s_cvi ?_ | refine s_cvb ?_ | refine s_or ?_ | refine s_and ?_ | refine s_xor ?_ | refine s_andnot ?_)
    | with_reducible apply PureF.call (IndexFunc_byte_byte_c l f p hl hf)
    | (with_reducible first | refine BIN_eql_b (fun h => ?_) (fun h => ?_) | refine BIN_neq_b (fun h => ?_) (fun h => ?_) | refine BIN_lss_b (fun h => ?_) (fun h => ?_) | refine BIN_leq_b (fun h => ?_) (fun h => ?_) | refine BIN_gtr_b (fun h => ?_) (fun h => ?_) | refine BIN_geq_b (fun h => ?_) (fun h => ?_) | refine BIN_seql_b (fun h => ?_) (fun h => ?_) | refine BIN_sneq_b (fun h => ?_) (fun h => ?_) | refine s_ldr rfl ?_ | refine s_tup rfl ?_ | refine s_ifb (fun h => ?_) (fun h => ?_) | refine s_shl (by decide) ?_ | refine s_shr (by decide) ?_ | refine s_add (wrap64 (by omega)) ?_ | refine s_sub (wrap64 (by omega)) ?_ | refine s_ixn (by omega) ?_ | refine s_ix0 (by omega) ?_ | refine s_iam (by omega) ?_)
    | refine s_boxag rfl rfl (fun b hb => ?_)
    | (with_reducible first | refine s_ldp (AHeap.ins_self _ _ _) rfl ?_ | refine s_ldp (ins_prev (by assumption)) rfl ?_ | refine s_ldp (by assumption) rfl ?_ | refine s_ldp (ins_old (by assumption) (by assumption)) rfl ?_ | refine s_ldp (ins_other (by assumption) (by assumption)) rfl ?_ | refine s_ldpa (ins_old (by assumption) (by assumption)) rfl ?_ | refine s_ldpa (ins_other (by assumption) (by assumption)) rfl ?_ | refine s_ldpa (by assumption) rfl ?_ | refine s_ldpa (ins_prev (by assumption)) rfl ?_ | refine s_ldpa (AHeap.ins_self _ _ _) rfl ?_ | refine s_st1 (by assumption) rfl (by simp) ?_ | refine s_st1 (AHeap.ins_self _ _ _) rfl (by simp) ?_ | refine s_st1 (ins_prev (by assumption)) rfl (by simp) ?_ | refine s_sta (by assumption) rfl rfl rfl ?_ | refine s_sta (AHeap.ins_self _ _ _) rfl rfl rfl ?_ | refine s_field1 rfl ?_ | refine s_cuts (by omega) (by omega) (by omega) ?_ | refine s_cuts_lo (by omega) (by omega) ?_ | refine s_cuts_hi (by omega) (by omega) ?_)
    | refine ⟨by first | exact s_ldp (AHeap.ins_self _ _ _) rfl s_same | exact s_ldp (ins_prev (by assumption)) rfl s_same | exact s_ldp (by assumption) rfl s_same | exact s_ldr rfl s_same, ?_⟩
    | (with_reducible first | refine s_bneq_tt u_bool ?_ | refine s_bneq_tf u_bool ?_ | refine s_bneq_ft u_bool ?_ | refine s_bneq_ff u_bool ?_ | refine s_beql_tt u_bool ?_ | refine s_beql_tf u_bool ?_ | refine s_beql_ft u_bool ?_ | refine s_beql_ff u_bool ?_)
    | simp only [nth_zero, nth_succ, Nat.zero_add, Nat.reduceAdd, List.length_map, AHeap.ins_ins]
  all_goals exact Fin.eqv (by rw [any_of_index]; simp_all))


theorem areAll_byte_c (l : List UInt8) (f : AV) (p : UInt8 → Bool) (hl : l.length < 2 ^ 60) (h1 : f.cell1 = true) (hf : ∀ x ∈ l, FnP PP G f [U8 x.toNat] (Bo (p x))) : PureF PP G N.impl_areAll_byte [.sl 1 (l.map bcell), f] (Bo (l.all p)) := F.impl_areAll_byte_ok (by
  unfold F.impl_areAll_byte
  refine s_box1 (cellsN_one h1) fun b hb => ?_
  refine s_mkfn ?_
  have inner : ∀ x ∈ l, FnP PP G (.fn (.func N.impl_areAll_byte_1) [] [.rp [f] 0]) [U8 x.toNat] (Bo (!p x)) := fun x hx => FnP.of (F.impl_areAll_byte_1_ok (by
    unfold F.impl_areAll_byte_1
    repeat' first
      | (with_reducible first | refine s_join ?_ | refine s_ift ?_ | refine s_iff ?_ | refine s_igtt ?_ | refine s_igtf ?_ | refine s_igft ?_ | refine s_igff ?_ | refine s_igu ?_ | refine s_pt ?_ | refine s_pf ?_ | refine s_nott ?_ | refine s_notf ?_ | refine s_not ?_ | refine s_lslm ?_ | refine s_lsl ?_ | refine s_lgl ?_ | refine s_lnl ?_ | refine s_lar ?_ | refine s_lst ?_ | refine s_ncp ?_ | refine s_ncr ?_ | refine s_ncf ?_ | refine s_fap ?_ | refine s_far ?_ | refine s_mkfn ?_ | refine s_cvc ?_ | refine s_cvi ?_ | refine s_cvb ?_ | refine s_or ?_ | refine s_and ?_ | refine s_xor ?_ | refine s_andnot ?_)
      | with_reducible refine FnP.callb (hf _ hx) (fun h => ?_) (fun h => ?_)
      | (with_reducible first | refine BIN_eql_b (fun h => ?_) (fun h => ?_) | refine BIN_neq_b (fun h => ?_) (fun h => ?_) | refine BIN_lss_b (fun h => ?_) (fun h => ?_) | refine BIN_leq_b (fun h => ?_) (fun h => ?_) | refine BIN_gtr_b (fun h => ?_) (fun h => ?_) | refine BIN_geq_b (fun h => ?_) (fun h => ?_) | refine BIN_seql_b (fun h => ?_) (fun h => ?_) | refine BIN_sneq_b (fun h => ?_) (fun h => ?_) | refine s_ldr rfl ?_ | refine s_tup rfl ?_ | refine s_ifb (fun h => ?_) (fun h => ?_) | refine s_shl (by decide) ?_ | refine s_shr (by decide) ?_ | refine s_add (wrap64 (by omega)) ?_ | refine s_sub (wrap64 (by omega)) ?_ | refine s_ixn (by omega) ?_ | refine s_ix0 (by omega) ?_ | refine s_iam (by omega) ?_)
      | refine s_boxag rfl rfl (fun b hb => ?_)
      | (with_reducible first | refine s_ldp (AHeap.ins_self _ _ _) rfl ?_ | refine s_ldp (ins_prev (by assumption)) rfl ?_ | refine s_ldp (by assumption) rfl ?_ | refine s_ldp (ins_old (by assumption) (by assumption)) rfl ?_ | refine s_ldp (ins_other (by assumption) (by assumption)) rfl ?_ | refine s_ldpa (ins_old (by assumption) (by assumption)) rfl ?_ | refine s_ldpa (ins_other (by assumption) (by assumption)) rfl ?_ | refine s_ldpa (by assumption) rfl ?_ | refine s_ldpa (ins_prev (by assumption)) rfl ?_ | refine s_ldpa (AHeap.ins_self _ _ _) rfl ?_ | refine s_st1 (by assumption) rfl (by simp) ?_ | refine s_st1 (AHeap.ins_self _ _ _) rfl (by simp) ?_ | refine s_st1 (ins_prev (by assumption)) rfl (by simp) ?_ | refine s_sta (by assumption) rfl rfl rfl ?_ | refine s_sta (AHeap.ins_self _ _ _) rfl rfl rfl ?_ | refine s_field1 rfl ?_ | refine s_cuts (by omega) (by omega) (by omega) ?_ | refine s_cuts_lo (by omega) (by omega) ?_ | refine s_cuts_hi (by omega) (by omega) ?_)
      | refine ⟨by first | exact s_ldp (AHeap.ins_self _ _ _) rfl s_same | exact s_ldp (ins_prev (by assumption)) rfl s_same | exact s_ldp (by assumption) rfl s_same | exact s_ldr rfl s_same, ?_⟩
      | (with_reducible first | refine s_bneq_tt u_bool ?_ | refine s_bneq_tf u_bool ?_ | refine s_bneq_ft u_bool ?_ | refine s_bneq_ff u_bool ?_ | refine s_beql_tt u_bool ?_ | refine s_beql_tf u_bool ?_ | refine s_beql_ft u_bool ?_ | refine s_beql_ff u_bool ?_)
      | simp only [nth_zero, nth_succ, Nat.zero_add, Nat.reduceAdd, List.length_map, AHeap.ins_ins]
    all_goals exact Fin.eqv (by simp [h])))
  refine (ContainsFunc_byte_byte_c l _ (fun x => !p x) hl inner).borrow (.cons (.refl _) (.cons (.fn _ [] [] _ _ rfl (by simp) rfl fun j hj => ?_) .nil)) (.sc _) ?_
  · have : j = 0 := by simpa using hj
    subst this
    exact .pt b 0 [f] [f] (AHeap.ins_self _ _ _) (by simp) fun j hj => .refl _
  · refine s_not ?_
    exact Fin.eqv (by simp [List.all_eq_not_any_not]))


theorem IndexFunc_impl_Need_impl_Need_c (l : List Need) (f : AV) (p : Need → Bool) (hl : l.length < 2 ^ 60) (hf : ∀ x ∈ l, FnP PP G f [.ag x.cells] (Bo (p x))) : PureF PP G N.slices_IndexFunc_impl_Need_impl_Need [.sl 2 (l.map Need.cells), f] (I (indexM p l)) := F.slices_IndexFunc_impl_Need_impl_Need_ok (by
  unfold F.slices_IndexFunc_impl_Need_impl_Need
  refine s_join ?_
  refine s_lslm ?_
  refine LOOP_intro (fun i => l.length - i) (fun (i : Nat) xs σ => i ≤ l.length ∧ σ = .emp ∧ nth xs 2 = I i ∧ (∀ k (hk : k < l.length), k < i → p l[k] = false)) (fun i xs σ R ⟨h1, h2, h3, h4⟩ hR => ?_) 0 ⟨by omega, rfl, rfl, fun _ _ h => by omega⟩
  subst h2
  simp only [h3]
  repeat' first
    | (with_reducible first | refine s_join ?_ | refine s_ift ?_ | refine s_iff ?_ | refine s_igtt ?_ | refine s_igtf ?_ | refine s_igft ?_ | refine s_igff ?_ | refine s_igu ?_ | refine s_pt ?_ | refine s_pf ?_ | refine s_nott ?_ | refine s_notf ?_ | refine s_not ?_ | refine s_lslm ?_ | refine s_lsl ?_ | refine s_lgl ?_ | refine s_lnl ?_ | refine s_lar ?_ | refine s_lst ?_ | refine s_ncp ?_ | refine s_ncr ?_ | refine s_ncf ?_ | refine s_fap ?_ | refine s_far ?_ | refine s_mkfn ?_ | refine s_cvc ?_ | refine s_cvi ?_ | refine s_cvb ?_ | refine s_or ?_ | refine s_and ?_ | refine s_xor ?_ | refine s_andnot ?_)
    | with_reducible refine s_lda rfl ?_
    | with_reducible refine FnP.callb (hf _ (List.getElem_mem _)) (fun h => ?_) (fun h => ?_)
    | (with_reducible first | refine BIN_eql_b (fun h => ?_) (fun h => ?_) | refine BIN_neq_b (fun h => ?_) (fun h => ?_) | refine BIN_lss_b (fun h => ?_) (fun h => ?_) | refine BIN_leq_b (fun h => ?_) (fun h => ?_) | refine BIN_gtr_b (fun h => ?_) (fun h => ?_) | refine BIN_geq_b (fun h => ?_) (fun h => ?_) | refine BIN_seql_b (fun h => ?_) (fun h => ?_) | refine BIN_sneq_b (fun h => ?_) (fun h => ?_) | refine s_ldr rfl ?_ | refine s_tup rfl ?_ | refine s_ifb (fun h => ?_) (fun h => ?_) | refine s_shl (by decide) ?_ | refine s_shr (by decide) ?_ | refine s_add (wrap64 (by omega)) ?_ | refine s_sub (wrap64 (by omega)) ?_ | refine s_ixn (by omega) ?_ | refine s_ix0 (by omega) ?_ | refine s_iam (by omega) ?_)
    | refine s_boxag rfl rfl (fun b hb => ?_)
    | (with_reducible first | refine s_ldp (AHeap.ins_self _ _ _) rfl ?_ | refine s_ldp (ins_prev (by assumption)) rfl ?_ | refine s_ldp (by assumption) rfl ?_ | refine s_ldp (ins_old (by assumption) (by assumption)) rfl ?_ | refine s_ldp (ins_other (by assumption) (by assumption)) rfl ?_ | refine s_ldpa (ins_old (by assumption) (by assumption)) rfl ?_ | refine s_ldpa (ins_other (by assumption) (by assumption)) rfl ?_ | refine s_ldpa (by assumption) rfl ?_ | refine s_ldpa (ins_prev (by assumption)) rfl ?_ | refine s_ldpa (AHeap.ins_self _ _ _) rfl ?_ | refine s_st1 (by assumption) rfl (by simp) ?_ | refine s_st1 (AHeap.ins_self _ _ _) rfl (by simp) ?_ | refine s_st1 (ins_prev (by assumption)) rfl (by simp) ?_ | refine s_sta (by assumption) rfl rfl rfl ?_ | refine s_sta (AHeap.ins_self _ _ _) rfl rfl rfl ?_ | refine s_field1 rfl ?_ | refine s_cuts (by omega) (by omega) (by omega) ?_ | refine s_cuts_lo (by omega) (by omega) ?_ | refine s_cuts_hi (by omega) (by omega) ?_)
    | refine ⟨by first | exact s_ldp (AHeap.ins_self _ _ _) rfl s_same | exact s_ldp (ins_prev (by assumption)) rfl s_same | exact s_ldp (by assumption) rfl s_same | exact s_ldr rfl s_same, ?_⟩
    | (with_reducible first | refine s_bneq_tt u_bool ?_ | refine s_bneq_tf u_bool ?_ | refine s_bneq_ft u_bool ?_ | refine s_bneq_ff u_bool ?_ | refine s_beql_tt u_bool ?_ | refine s_beql_tf u_bool ?_ | refine s_beql_ft u_bool ?_ | refine s_beql_ff u_bool ?_)
    | simp only [nth_zero, nth_succ, Nat.zero_add, Nat.reduceAdd, List.length_map, AHeap.ins_ins]
  · exact Fin.eqv (by rw [indexM_at (by omega) h4 h])
  · refine hR (i + 1) _ _ (by omega) ⟨by omega, rfl, by simp, fun k hk hk1 => ?_⟩
    by_cases hki : k = i
    · subst hki; exact h
    · exact h4 k hk (by omega)
  · exact Fin.eqv (by rw [indexM_none fun k hk => h4 k hk (by omega)]))


theorem ContainsFunc_impl_Need_impl_Need_c (l : List Need) (f : AV) (p : Need → Bool) (hl : l.length < 2 ^ 60) (hf : ∀ x ∈ l, FnP PP G f [.ag x.cells] (Bo (p x))) : PureF PP G N.slices_ContainsFunc_impl_Need_impl_Need [.sl 2 (l.map Need.cells), f] (Bo (l.any p)) := F.slices_ContainsFunc_impl_Need_impl_Need_ok (by
  unfold F.slices_ContainsFunc_impl_Need_impl_Need
  repeat' first
    | (with_reducible first | refine s_join ?_ | refine s_ift ?_ | refine s_iff ?_ | refine s_igtt ?_ | refine s_igtf ?_ | refine s_igft ?_ | refine s_igff ?_ | refine s_igu ?_ | refine s_pt ?_ | refine s_pf ?_ | refine s_nott ?_ | refine s_notf ?_ | refine s_not ?_ | refine s_lslm ?_ | refine s_lsl ?_ | refine s_lgl ?_ | refine s_lnl ?_ | refine s_lar ?_ | refine s_lst ?_ | refine s_ncp ?_ | refine s_ncr ?_ | refine s_ncf ?_ | refine s_fap ?_ | refine s_far ?_ | refine s_mkfn ?_ | refine s_cvc ?_ | refine s_cvi ?_ | refine s_cvb ?_ | refine s_or ?_ | refine s_and ?_ | refine s_xor ?_ | refine s_andnot ?_)
    | with_reducible apply PureF.call (IndexFunc_impl_Need_impl_Need_c l f p hl hf)
    | (with_reducible first | refine BIN_eql_b (fun h => ?_) (fun h => ?_) | refine BIN_neq_b (fun h => ?_) (fun h => ?_) | refine BIN_lss_b (fun h => ?_) (fun h => ?_) | refine BIN_leq_b (fun h => ?_) (fun h => ?_) | refine BIN_gtr_b (fun h => ?_) (fun h => ?_) | refine BIN_geq_b (fun h => ?_) (fun h => ?_) | refine BIN_seql_b (fun h => ?_) (fun h => ?_) | refine BIN_sneq_b (fun h => ?_) (fun h => ?_) | refine s_ldr rfl ?_ | refine s_tup rfl ?_ | refine s_ifb (fun h => ?_) (fun h => ?_) | refine s_shl (by decide) ?_ | refine s_shr (by decide) ?_ | refine s_add (wrap64 (by omega)) ?_ | refine s_sub (wrap64 (by omega)) ?_ | refine s_ixn (by omega) ?_ | refine s_ix0 (by omega) ?_ | refine s_iam (by omega) ?_)
    | refine s_boxag rfl rfl (fun b hb => ?_)
    | (with_reducible first | refine s_ldp (AHeap.ins_self _ _ _) rfl ?_ | refine s_ldp (ins_prev (by assumption)) rfl ?_ | refine s_ldp (by assumption) rfl ?_ | refine s_ldp (ins_old (by assumption) (by assumption)) rfl ?_ | refine s_ldp (ins_other (by assumption) (by assumption)) rfl ?_ | refine s_ldpa (ins_old (by assumption) (by assumption)) rfl ?_ | refine s_ldpa (ins_other (by assumption) (by assumption)) rfl ?_ | refine s_ldpa (by assumption) rfl ?_ | refine s_ldpa (ins_prev (by assumption)) rfl ?_ | refine s_ldpa (AHeap.ins_self _ _ _) rfl ?_ | refine s_st1 (by assumption) rfl (by simp) ?_ | refine s_st1 (AHeap.ins_self _ _ _) rfl (by simp) ?_ | refine s_st1 (ins_prev (by assumption)) rfl (by simp) ?_ | refine s_sta (by assumption) rfl rfl rfl ?_ | refine s_sta (AHeap.ins_self _ _ _) rfl rfl rfl ?_ | refine s_field1 rfl ?_ | refine s_cuts (by omega) (by omega) (by omega) ?_ | refine s_cuts_lo (by omega) (by omega) ?_ | refine s_cuts_hi (by omega) (by omega) ?_)
    | refine ⟨by first | exact s_ldp (AHeap.ins_self _ _ _) rfl s_same | exact s_ldp (ins_prev (by assumption)) rfl s_same | exact s_ldp (by assumption) rfl s_same | exact s_ldr rfl s_same, ?_⟩
    | (with_reducible first | refine s_bneq_tt u_bool ?_ | refine s_bneq_tf u_bool ?_ | refine s_bneq_ft u_bool ?_ | refine s_bneq_ff u_bool ?_ | refine s_beql_tt u_bool ?_ | refine s_beql_tf u_bool ?_ | refine s_beql_ft u_bool ?_ | refine s_beql_ff u_bool ?_)
    | simp only [nth_zero, nth_succ, Nat.zero_add, Nat.reduceAdd, List.length_map, AHeap.ins_ins]
  all_goals exact Fin.eqv (by rw [any_of_index]; simp_all))


theorem areAll_impl_Need_c (l : List Need) (f : AV) (p : Need → Bool) (hl : l.length < 2 ^ 60) (h1 : f.cell1 = true) (hf : ∀ x ∈ l, FnP PP G f [.ag x.cells] (Bo (p x))) : PureF PP G N.impl_areAll_impl_Need [.sl 2 (l.map Need.cells), f] (Bo (l.all p)) := F.impl_areAll_impl_Need_ok (by
  unfold F.impl_areAll_impl_Need
  refine s_box1 (cellsN_one h1) fun b hb => ?_
  refine s_mkfn ?_
  have inner : ∀ x ∈ l, FnP PP G (.fn (.func N.impl_areAll_impl_Need_1) [] [.rp [f] 0]) [.ag x.cells] (Bo (!p x)) := fun x hx => FnP.of (F.impl_areAll_impl_Need_1_ok (by
    unfold F.impl_areAll_impl_Need_1
    repeat' first
      | (with_reducible first | refine s_join ?_ | refine s_ift ?_ | refine s_iff ?_ | refine s_igtt ?_ | refine s_igtf ?_ | refine s_igft ?_ | refine s_igff ?_ | refine s_igu ?_ | refine s_pt ?_ | refine s_pf ?_ | refine s_nott ?_ | refine s_notf ?_ | refine s_not ?_ | refine s_lslm ?_ | refine s_lsl ?_ | refine s_lgl ?_ | refine s_lnl ?_ | refine s_lar ?_ | refine s_lst ?_ | refine s_ncp ?_ | refine s_ncr ?_ | refine s_ncf ?_ | refine s_fap ?_ | refine s_far ?_ | refine s_mkfn ?_ | refine s_cvc ?_ | refine s_cvi ?_ | refine s_cvb ?_ | refine s_or ?_ | refine s_and ?_ | refine s_xor ?_ | refine s_andnot ?_)
      | with_reducible refine FnP.callb (hf _ hx) (fun h => ?_) (fun h => ?_)
      | (with_reducible first | refine BIN_eql_b (fun h => ?_) (fun h => ?_) | refine BIN_neq_b (fun h => ?_) (fun h => ?_) | refine BIN_lss_b (fun h => ?_) (fun h => ?_) | refine BIN_leq_b (fun h => ?_) (fun h => ?_) | refine BIN_gtr_b (fun h => ?_) (fun h => ?_) | refine BIN_geq_b (fun h => ?_) (fun h => ?_) | refine BIN_seql_b (fun h => ?_) (fun h => ?_) | refine BIN_sneq_b (fun h => ?_) (fun h => ?_) | refine s_ldr rfl ?_ | refine s_tup rfl ?_ | refine s_ifb (fun h => ?_) (fun h => ?_) | refine s_shl (by decide) ?_ | refine s_shr (by decide) ?_ | refine s_add (wrap64 (by omega)) ?_ | refine s_sub (wrap64 (by omega)) ?_ | refine s_ixn (by omega) ?_ | refine s_ix0 (by omega) ?_ | refine s_iam (by omega) ?_)
      | refine s_boxag rfl rfl (fun b hb => ?_)
      | (with_reducible first | refine s_ldp (AHeap.ins_self _ _ _) rfl ?_ | refine s_ldp (ins_prev (by assumption)) rfl ?_ | refine s_ldp (by assumption) rfl ?_ | refine s_ldp (ins_old (by assumption) (by assumption)) rfl ?_ | refine s_ldp (ins_other (by assumption) (by assumption)) rfl ?_ | refine s_ldpa (ins_old (by assumption) (by assumption)) rfl ?_ | refine s_ldpa (ins_other (by assumption) (by assumption)) rfl ?_ | refine s_ldpa (by assumption) rfl ?_ | refine s_ldpa (ins_prev (by assumption)) rfl ?_ | refine s_ldpa (AHeap.ins_self _ _ _) rfl ?_ | refine s_st1 (by assumption) rfl (by simp) ?_ | refine s_st1 (AHeap.ins_self _ _ _) rfl (by simp) ?_ | refine s_st1 (ins_prev (by assumption)) rfl (by simp) ?_ | refine s_sta (by assumption) rfl rfl rfl ?_ | refine s_sta (AHeap.ins_self _ _ _) rfl rfl rfl ?_ | refine s_field1 rfl ?_ | refine s_cuts (by omega) (by omega) (by omega) ?_ | refine s_cuts_lo (by omega) (by omega) ?_ | refine s_cuts_hi (by omega) (by omega) ?_)
      | refine ⟨by first | exact s_ldp (AHeap.ins_self _ _ _) rfl s_same | exact s_ldp (ins_prev (by assumption)) rfl s_same | exact s_ldp (by assumption) rfl s_same | exact s_ldr rfl s_same, ?_⟩
      | (with_reducible first | refine s_bneq_tt u_bool ?_ | refine s_bneq_tf u_bool ?_ | refine s_bneq_ft u_bool ?_ | refine s_bneq_ff u_bool ?_ | refine s_beql_tt u_bool ?_ | refine s_beql_tf u_bool ?_ | refine s_beql_ft u_bool ?_ | refine s_beql_ff u_bool ?_)
      | simp only [nth_zero, nth_succ, Nat.zero_add, Nat.reduceAdd, List.length_map, AHeap.ins_ins]
    all_goals exact Fin.eqv (by simp [h])))
  refine (ContainsFunc_impl_Need_impl_Need_c l _ (fun x => !p x) hl inner).borrow (.cons (.refl _) (.cons (.fn _ [] [] _ _ rfl (by simp) rfl fun j hj => ?_) .nil)) (.sc _) ?_
  · have : j = 0 := by simpa using hj
    subst this
    exact .pt b 0 [f] [f] (AHeap.ins_self _ _ _) (by simp) fun j hj => .refl _
  · refine s_not ?_
    exact Fin.eqv (by simp [List.all_eq_not_any_not]))


theorem IndexFunc_impl_Ins_impl_Ins_c (l : List Ins) (f : AV) (p : Ins → Bool) (hl : l.length < 2 ^ 60) (hf : ∀ x ∈ l, FnP PP G f [.ag x.cells] (Bo (p x))) : PureF PP G N.slices_IndexFunc_impl_Ins_impl_Ins [.sl 5 (l.map Ins.cells), f] (I (indexM p l)) := F.slices_IndexFunc_impl_Ins_impl_Ins_ok (by
  unfold F.slices_IndexFunc_impl_Ins_impl_Ins
  refine s_join ?_
  refine s_lslm ?_
  refine LOOP_intro (fun i => l.length - i) (fun (i : Nat) xs σ => i ≤ l.length ∧ σ = .emp ∧ nth xs 2 = I i ∧ (∀ k (hk : k < l.length), k < i → p l[k] = false)) (fun i xs σ R ⟨h1, h2, h3, h4⟩ hR => ?_) 0 ⟨by omega, rfl, rfl, fun _ _ h => by omega⟩
  subst h2
  simp only [h3]
  repeat' first
    | (with_reducible first | refine s_join ?_ | refine s_ift ?_ | refine s_iff ?_ | refine s_igtt ?_ | refine s_igtf ?_ | refine s_igft ?_ | refine s_igff ?_ | refine s_igu ?_ | refine s_pt ?_ | refine s_pf ?_ | refine s_nott ?_ | refine s_notf ?_ | refine s_not ?_ | refine s_lslm ?_ | refine s_lsl ?_ | refine s_lgl ?_ | refine s_lnl ?_ | refine s_lar ?_ | refine s_lst ?_ | refine s_ncp ?_ | refine s_ncr ?_ | refine s_ncf ?_ | refine s_fap ?_ | refine s_far ?_ | refine s_mkfn ?_ | refine s_cvc ?_ | refine s_cvi ?_ | refine s_cvb ?_ | refine s_or ?_ | refine s_and ?_ | refine s_xor ?_ | refine s_andnot ?_)
    | with_reducible refine s_lda rfl ?_
    | with_reducible refine FnP.callb (hf _ (List.getElem_mem _)) (fun h => ?_) (fun h => ?_)
    | (with_reducible first | refine BIN_eql_b (fun h => ?_) (fun h => ?_) | refine BIN_neq_b (fun h => ?_) (fun h => ?_) | refine BIN_lss_b (fun h => ?_) (fun h => ?_) | refine BIN_leq_b (fun h => ?_) (fun h => ?_) | refine BIN_gtr_b (fun h => ?_) (fun h => ?_) | refine BIN_geq_b (fun h => ?_) (fun h => ?_) | refine BIN_seql_b (fun h => ?_) (fun h => ?_) | refine BIN_sneq_b (fun h => ?_) (fun h => ?_) | refine s_ldr rfl ?_ | refine s_tup rfl ?_ | refine s_ifb (fun h => ?_) (fun h => ?_) | refine s_shl (by decide) ?_ | refine s_shr (by decide) ?_ | refine s_add (wrap64 (by omega)) ?_ | refine s_sub (wrap64 (by omega)) ?_ | refine s_ixn (by omega) ?_ | refine s_ix0 (by omega) ?_ | refine s_iam (by omega) ?_)
    | refine s_boxag rfl rfl (fun b hb => ?_)
    | (with_reducible first | refine s_ldp (AHeap.ins_self _ _ _) rfl ?_ | refine s_ldp (ins_prev (by assumption)) rfl ?_ | refine s_ldp (by assumption) rfl ?_ | refine s_ldp (ins_old (by assumption) (by assumption)) rfl ?_ | refine s_ldp (ins_other (by assumption) (by assumption)) rfl ?_ | refine s_ldpa (ins_old (by assumption) (by assumption)) rfl ?_ | refine s_ldpa (ins_other (by assumption) (by assumption)) rfl ?_ | refine s_ldpa (by assumption) rfl ?_ | refine s_ldpa (ins_prev (by assumption)) rfl ?_ | refine s_ldpa (AHeap.ins_self _ _ _) rfl ?_ | refine s_st1 (by assumption) rfl (by simp) ?_ | refine s_st1 (AHeap.ins_self _ _ _) rfl (by simp) ?_ | refine s_st1 (ins_prev (by assumption)) rfl (by simp) ?_ | refine s_sta (by assumption) rfl rfl rfl ?_ | refine s_sta (AHeap.ins_self _ _ _) rfl rfl rfl ?_ | refine s_field1 rfl ?_ | refine s_cuts (by omega) (by omega) (by omega) ?_ | refine s_cuts_lo (by omega) (by omega) ?_ | refine s_cuts_hi (by omega) (by omega) ?_)
    | refine ⟨by first | exact s_ldp (AHeap.ins_self _ _ _) rfl s_same | exact s_ldp (ins_prev (by assumption)) rfl s_same | exact s_ldp (by assumption) rfl s_same | exact s_ldr rfl s_same, ?_⟩
    | (with_reducible first | refine s_bneq_tt u_bool ?_ | refine s_bneq_tf u_bool ?_ | refine s_bneq_ft u_bool ?_ | refine s_bneq_ff u_bool ?_ | refine s_beql_tt u_bool ?_ | refine s_beql_tf u_bool ?_ | refine s_beql_ft u_bool ?_ | refine s_beql_ff u_bool ?_)
    | simp only [nth_zero, nth_succ, Nat.zero_add, Nat.reduceAdd, List.length_map, AHeap.ins_ins]
  · exact Fin.eqv (by rw [indexM_at (by omega) h4 h])
  · refine hR (i + 1) _ _ (by omega) ⟨by omega, rfl, by simp, fun k hk hk1 => ?_⟩
    by_cases hki : k = i
    · subst hki; exact h
    · exact h4 k hk (by omega)
  · exact Fin.eqv (by rw [indexM_none fun k hk => h4 k hk (by omega)]))


end Go.Al
