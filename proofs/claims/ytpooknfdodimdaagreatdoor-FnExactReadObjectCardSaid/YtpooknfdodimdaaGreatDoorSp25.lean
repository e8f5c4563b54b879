/- Contracts: what the laws do with texts and bytes; writing into owned rows. -/
import Derived.Test.YtpooknfdodimdaaGreatDoorSp24
set_option linter.unusedVariables false
set_option linter.unusedSimpArgs false
set_option maxRecDepth 100000
set_option maxHeartbeats 4000000
namespace Go.Al
variable {G : Seal} {σ : AHeap} {K : KAV}

/-- the digits of a number ahead of a text -/
def mdig (k : Nat) (out : List UInt8) : List UInt8 := if h : k = 0 then out else mdig (k / 10) (UInt8.ofNat (48 + k % 10) :: out)
termination_by k
decreasing_by omega
def mtext (k : Int) : List UInt8 := if k ≤ 0 then [109, 48] else 109 :: mdig k.toNat []

theorem laws_markText_c {k : Int} (hk : k < 2 ^ 62) : PureF PP G N.laws_markText [I k] (St (bs (mtext k))) := F.laws_markText_ok (by
  unfold F.laws_markText
  refine JOIN_cut (fun xs τ => 0 < k) (fun kk hkk => ?_) (fun xs τ hpos => ?_)
  · repeat' first
      | (with_reducible first | refine s_join ?_ | refine s_ift ?_ | refine s_iff ?_ | refine s_igtt ?_ | refine s_igtf ?_ | refine s_igft ?_ | refine s_igff ?_ | refine s_igu ?_ | refine s_pt ?_ | refine s_pf ?_ | refine s_nott ?_ | refine s_notf ?_ | refine s_not ?_ | refine s_lslm ?_ | refine s_lsl ?_ | refine s_lgl ?_ | refine s_lnl ?_ | refine s_lar ?_ | refine s_lst ?_ | refine s_ncp ?_ | refine s_ncr ?_ | refine s_ncf ?_ | refine s_fap ?_ | refine s_far ?_ | refine s_mkfn ?_ | refine s_cvc ?_ | refine s_cvi ?_ | refine s_cvb ?_ | refine s_or ?_ | refine s_and ?_ | refine s_xor ?_ | refine s_andnot ?_)
      | (with_reducible first | refine BIN_eql_b (fun h => ?_) (fun h => ?_) | refine BIN_neq_b (fun h => ?_) (fun h => ?_) | refine BIN_lss_b (fun h => ?_) (fun h => ?_) | refine BIN_leq_b (fun h => ?_) (fun h => ?_) | refine BIN_gtr_b (fun h => ?_) (fun h => ?_) | refine BIN_geq_b (fun h => ?_) (fun h => ?_) | refine BIN_seql_b (fun h => ?_) (fun h => ?_) | refine BIN_sneq_b (fun h => ?_) (fun h => ?_) | refine s_ldr rfl ?_ | refine s_tup rfl ?_ | refine s_ifb (fun h => ?_) (fun h => ?_) | refine s_shl (by decide) ?_ | refine s_shr (by decide) ?_ | refine s_add (wrap64 (by omega)) ?_ | refine s_sub (wrap64 (by omega)) ?_ | refine s_ixn (by omega) ?_ | refine s_ix0 (by omega) ?_ | refine s_iam (by omega) ?_)
      | refine s_boxag rfl rfl (fun b hb => ?_)
      | (with_reducible first | refine s_ldp (AHeap.ins_self _ _ _) rfl ?_ | refine s_ldp (ins_prev (by assumption)) rfl ?_ | refine s_ldp (by assumption) rfl ?_ | refine s_ldp (ins_old (by assumption) (by assumption)) rfl ?_ | refine s_ldp (ins_other (by assumption) (by assumption)) rfl ?_ | refine s_ldpa (ins_old (by assumption) (by assumption)) rfl ?_ | refine s_ldpa (ins_other (by assumption) (by assumption)) rfl ?_ | refine s_ldpa (by assumption) rfl ?_ | refine s_ldpa (ins_prev (by assumption)) rfl ?_ | refine s_ldpa (AHeap.ins_self _ _ _) rfl ?_ | refine s_st1 (by assumption) rfl (by simp) ?_ | refine s_st1 (AHeap.ins_self _ _ _) rfl (by simp) ?_ | refine s_st1 (ins_prev (by assumption)) rfl (by simp) ?_ | refine s_sta (by assumption) rfl rfl rfl ?_ | refine s_sta (AHeap.ins_self _ _ _) rfl rfl rfl ?_ | refine s_field1 rfl ?_ | refine s_cuts (by omega) (by omega) (by omega) ?_ | refine s_cuts_lo (by omega) (by omega) ?_ | refine s_cuts_hi (by omega) (by omega) ?_)
      | refine ⟨by first | exact s_ldp (AHeap.ins_self _ _ _) rfl s_same | exact s_ldp (ins_prev (by assumption)) rfl s_same | exact s_ldp (by assumption) rfl s_same | exact s_ldr rfl s_same, ?_⟩
      | (with_reducible first | refine s_bneq_tt u_bool ?_ | refine s_bneq_tf u_bool ?_ | refine s_bneq_ft u_bool ?_ | refine s_bneq_ff u_bool ?_ | refine s_beql_tt u_bool ?_ | refine s_beql_tf u_bool ?_ | refine s_beql_ft u_bool ?_ | refine s_beql_ff u_bool ?_)
      | simp only [nth_zero, nth_succ, Nat.zero_add, Nat.reduceAdd, List.length_map, AHeap.ins_ins]
    · exact Fin.eqv (by simp [mtext, h])
    · exact hkk _ _ (by omega)
  obtain ⟨m, rfl⟩ : ∃ m : Nat, k = m := ⟨k.toNat, by omega⟩
  refine JOIN_cut (fun xs τ => ∃ out, nth xs 1 = St (bs out) ∧ mdig m [] = out ∧ out.length ≤ m) (fun kk hkk => ?_) (fun xs τ ⟨out, h1, h2, h3⟩ => ?_)
  · refine LOOP_intro (fun j => j) (fun (j : Nat) xs τ => ∃ out, nth xs 0 = I j ∧ nth xs 1 = St (bs out) ∧ mdig m [] = mdig j out ∧ out.length + j ≤ m) (fun j xs τ R ⟨out, h1, h2, h3, h4⟩ hR => ?_) m ⟨[], rfl, rfl, rfl, by simp⟩
    simp only [h1, h2]
    repeat' first
      | (with_reducible first | refine s_join ?_ | refine s_ift ?_ | refine s_iff ?_ | refine s_igtt ?_ | refine s_igtf ?_ | refine s_igft ?_ | refine s_igff ?_ | refine s_igu ?_ | refine s_pt ?_ | refine s_pf ?_ | refine s_nott ?_ | refine s_notf ?_ | refine s_not ?_ | refine s_lslm ?_ | refine s_lsl ?_ | refine s_lgl ?_ | refine s_lnl ?_ | refine s_lar ?_ | refine s_lst ?_ | refine s_ncp ?_ | refine s_ncr ?_ | refine s_ncf ?_ | refine s_fap ?_ | refine s_far ?_ | refine s_mkfn ?_ | refine s_cvc ?_ | refine s_cvi ?_ | refine s_cvb ?_ | refine s_or ?_ | refine s_and ?_ | refine s_xor ?_ | refine s_andnot ?_)
      | (with_reducible first | refine BIN_eql_b (fun h => ?_) (fun h => ?_) | refine BIN_neq_b (fun h => ?_) (fun h => ?_) | refine BIN_lss_b (fun h => ?_) (fun h => ?_) | refine BIN_leq_b (fun h => ?_) (fun h => ?_) | refine BIN_gtr_b (fun h => ?_) (fun h => ?_) | refine BIN_geq_b (fun h => ?_) (fun h => ?_) | refine BIN_seql_b (fun h => ?_) (fun h => ?_) | refine BIN_sneq_b (fun h => ?_) (fun h => ?_) | refine s_ldr rfl ?_ | refine s_tup rfl ?_ | refine s_ifb (fun h => ?_) (fun h => ?_) | refine s_shl (by decide) ?_ | refine s_shr (by decide) ?_ | refine s_add (wrap64 (by omega)) ?_ | refine s_sub (wrap64 (by omega)) ?_ | refine s_ixn (by omega) ?_ | refine s_ix0 (by omega) ?_ | refine s_iam (by omega) ?_)
      | refine s_boxag rfl rfl (fun b hb => ?_)
      | (with_reducible first | refine s_ldp (AHeap.ins_self _ _ _) rfl ?_ | refine s_ldp (ins_prev (by assumption)) rfl ?_ | refine s_ldp (by assumption) rfl ?_ | refine s_ldp (ins_old (by assumption) (by assumption)) rfl ?_ | refine s_ldp (ins_other (by assumption) (by assumption)) rfl ?_ | refine s_ldpa (ins_old (by assumption) (by assumption)) rfl ?_ | refine s_ldpa (ins_other (by assumption) (by assumption)) rfl ?_ | refine s_ldpa (by assumption) rfl ?_ | refine s_ldpa (ins_prev (by assumption)) rfl ?_ | refine s_ldpa (AHeap.ins_self _ _ _) rfl ?_ | refine s_st1 (by assumption) rfl (by simp) ?_ | refine s_st1 (AHeap.ins_self _ _ _) rfl (by simp) ?_ | refine s_st1 (ins_prev (by assumption)) rfl (by simp) ?_ | refine s_sta (by assumption) rfl rfl rfl ?_ | refine s_sta (AHeap.ins_self _ _ _) rfl rfl rfl ?_ | refine s_field1 rfl ?_ | refine s_cuts (by omega) (by omega) (by omega) ?_ | refine s_cuts_lo (by omega) (by omega) ?_ | refine s_cuts_hi (by omega) (by omega) ?_)
      | refine ⟨by first | exact s_ldp (AHeap.ins_self _ _ _) rfl s_same | exact s_ldp (ins_prev (by assumption)) rfl s_same | exact s_ldp (by assumption) rfl s_same | exact s_ldr rfl s_same, ?_⟩
      | (with_reducible first | refine s_bneq_tt u_bool ?_ | refine s_bneq_tf u_bool ?_ | refine s_bneq_ft u_bool ?_ | refine s_bneq_ff u_bool ?_ | refine s_beql_tt u_bool ?_ | refine s_beql_tf u_bool ?_ | refine s_beql_ft u_bool ?_ | refine s_beql_ff u_bool ?_)
      | simp only [nth_zero, nth_succ, Nat.zero_add, Nat.reduceAdd, List.length_map, AHeap.ins_ins]
    · refine s_rem (by decide) ?_
      have e1 : ((j : Nat) : Int).tmod 10 = ((j % 10 : Nat) : Int) := by rw [Int.tmod_eq_emod_of_nonneg (by omega)]; omega
      rw [e1]
      refine s_add (wrap64 (by omega)) ?_
      refine s_cvi ?_
      have e2 : IntKind.u8.wrap (48 + ((j % 10 : Nat) : Int)) = ((UInt8.ofNat (48 + j % 10)).toNat : Nat) := by
        rw [UInt8.toNat_ofNat']
        unfold IntKind.wrap
        simp only [IntKind.signed, IntKind.bits, Bool.false_and]
        simp
      rw [e2]
      refine s_lit (y := [U8 ((UInt8.ofNat (48 + j % 10)).toNat : Nat)]) (ys := []) rfl fun b hb => ?_
      have e3 : CONV .ofBytes (.gl b 1 [[U8 ((UInt8.ofNat (48 + j % 10)).toNat : Nat)]]) = CONV .ofBytes (.sl 1 ([UInt8.ofNat (48 + j % 10)].map bcell)) := rfl
      rw [e3]
      refine s_cvo ?_
      refine s_sadd (by simp; omega) ?_
      refine s_quo (by decide) ?_
      have e4 : IntKind.i64.wrap (((j : Nat) : Int).tdiv 10) = ((j / 10 : Nat) : Int) := by rw [Int.tdiv_eq_ediv_of_nonneg (by omega), wrap64 (by omega)]; omega
      rw [e4]
      refine hR (j / 10) _ _ (by omega) ⟨UInt8.ofNat (48 + j % 10) :: out, rfl, rfl, ?_, ?_⟩
      · rw [h3]
        conv => lhs; unfold mdig
        rw [dif_neg (by omega)]
      · simp only [List.length_cons]; omega
    · refine hkk _ _ ⟨out, rfl, ?_, by omega⟩
      have : j = 0 := by omega
      subst this
      rw [h3]; unfold mdig; simp
  simp only [h1]
  refine s_sadd (by simp; omega) ?_
  refine Fin.eqv ?_
  simp [mtext, h2, show ¬ m = 0 by omega])

/- WRITING INTO ROWS -/
theorem OList.focus {α : Type} {E : AHeap → List AV → α → Prop} {H : AHeap} {rs : List (List AV)} {l : List α} (h : OList E H rs l) : ∀ i (hi : i < l.length) (hr : i < rs.length), ∃ He, E He rs[i] l[i] ∧ He.le H ∧
    ∀ He' r' a', E He' r' a' → (∀ p, He p = none → He' p = none) → ∃ H', OList E H' (rs.set i r') (l.set i a') ∧ (∀ p, H p = none → H' p = none) ∧ (∀ p, He p ≠ none → H' p = He' p) ∧ (∀ p, He p = none → H' p = H p) := by
  induction h with
  | nil => intro i hi; simp at hi
  | @cons H1 H2 r a rs l he ht hd ih =>
    intro i hi hr
    cases i with
    | zero =>
      refine ⟨H1, he, AHeap.le_un_left _ _, fun He' r' a' h1 h2 => ⟨He'.un H2, .cons h1 ht fun p => (hd p).imp (h2 p) id, fun p hp => ?_, fun p hp => ?_, fun p hp => ?_⟩⟩
      · rw [AHeap.un_none] at hp ⊢; exact ⟨h2 p hp.1, hp.2⟩
      · have h3 : H2 p = none := (hd p).resolve_left hp
        simp only [AHeap.un]; cases He' p <;> simp [h3]
      · simp [AHeap.un, hp, h2 p hp]
    | succ i =>
      obtain ⟨He, h1, h2, h3⟩ := ih i (by simpa using hi) (by simpa using hr)
      refine ⟨He, h1, h2.trans (AHeap.le_un_right hd), fun He' r' a' q1 q2 => ?_⟩
      obtain ⟨H', g1, g2, g3, g4⟩ := h3 He' r' a' q1 q2
      refine ⟨H1.un H', .cons he g1 fun p => (hd p).imp id (g2 p), fun p hp => ?_, fun p hp => ?_, fun p hp => ?_⟩
      · rw [AHeap.un_none] at hp ⊢; exact ⟨hp.1, g2 p hp.2⟩
      · have : H1 p = none := (hd p).resolve_right fun e => hp (h2.nn e)
        simp only [AHeap.un, this]; exact g3 p hp
      · simp only [AHeap.un, g4 p hp]

/-- the element at i of a row, and the row with it replaced -/
theorem ORow.focus {α : Type} {n : Nat} {E : AHeap → List AV → α → Prop} {H : AHeap} {v : AV} {l : List α} (h : ORow n E H v l) {i : Nat} (hi : i < l.length) : ∃ (b : Nat) (rows : List (List AV)) (He : AHeap), ∃ hr : i < rows.length, v = .ar b n 0 l.length ∧ H b = some (.cells 0 rows.flatten) ∧ (∀ r ∈ rows, r.length = n) ∧ He b = none ∧ He.le H ∧ E He rows[i] l[i] ∧
    ∀ He' r' a', E He' r' a' → r'.length = n → (∀ p, He p = none → He' p = none) → ∀ σ σ' : AHeap, H.le σ → σ' b = some (.cells 0 (rows.set i r').flatten) → He'.le σ' → (∀ p, p ≠ b → He p = none → σ' p = σ p) → ∃ H', ORow n E H' v (l.set i a') ∧ H'.le σ' ∧ ∀ p, H p = none → H' p = none := by
  cases h with
  | nl => simp at hi
  | @ar Hr b rows l ho hb hz =>
    have hl := ho.length
    obtain ⟨He, h1, h2, h3⟩ := ho.focus i hi (by omega)
    refine ⟨b, rows, He, by omega, by rw [hl], AHeap.ins_self _ _ _, hz, h2.nn hb, fun p x hx => ?_, h1, fun He' r' a' q1 q2 q3 σ σ' s1 s2 s3 s4 => ?_⟩
    · have : p ≠ b := by rintro rfl; rw [h2.nn hb] at hx; simp at hx
      rw [AHeap.ins_ne _ _ this]; exact h2 _ _ hx
    obtain ⟨H', g1, g2, g3, g4⟩ := h3 He' r' a' q1 q3
    refine ⟨H'.ins b (.cells 0 (rows.set i r').flatten), ?_, fun p x hx => ?_, fun p hp => ?_⟩
    · have key := ORow.ar (n := n) (b := b) g1 (g2 b hb) (fun r hr => by
        rcases List.mem_or_eq_of_mem_set hr with h | h
        · exact hz r h
        · rw [h]; exact q2)
      rw [List.length_set] at key
      exact key
    · by_cases e : p = b
      · subst e; rw [AHeap.ins_self] at hx; rw [← hx]; exact s2
      · rw [AHeap.ins_ne _ _ e] at hx
        by_cases hp : He p = none
        · rw [s4 p e hp]
          rw [g4 p hp] at hx
          exact s1 _ _ (by rw [AHeap.ins_ne _ _ e]; exact hx)
        · rw [g3 p hp] at hx; exact s3 _ _ hx
    · have e : p ≠ b := by rintro rfl; simp at hp
      rw [AHeap.ins_ne _ _ e] at hp ⊢
      exact g2 p hp

theorem flat_set {n i j : Nat} {r : List AV} {x : AV} (hr : r.length = n) (hj : j < n) : ∀ {rows : List (List AV)}, (∀ r ∈ rows, r.length = n) → i < rows.length → (rows.set i r).flatten.set (0 + i * n + j) x = (rows.set i (r.set j x)).flatten := by
  induction i with
  | zero =>
    intro rows hz hi
    cases rows with
    | nil => simp at hi
    | cons a rows => simp [List.set_append, hr, hj]
  | succ i ih =>
    intro rows hz hi
    cases rows with
    | nil => simp at hi
    | cons a rows =>
      have ha : a.length = n := hz a (by simp)
      have := ih (rows := rows) (fun r h => hz r (by simp [h])) (by simpa using hi)
      simp only [List.set_cons_succ, List.flatten_cons, List.set_append, ha]
      have e : ¬ (0 + (i + 1) * n + j < n) := by rw [Nat.add_mul]; omega
      rw [if_neg e, ← this]
      congr 2
      rw [Nat.add_mul]; omega
theorem flat_get {n i j : Nat} {r : List AV} (hr : r.length = n) (hj : j < n) : ∀ {rows : List (List AV)}, (∀ r ∈ rows, r.length = n) → i < rows.length → (rows.set i r).flatten[0 + i * n + j]? = r[j]? := by
  induction i with
  | zero =>
    intro rows hz hi
    cases rows with
    | nil => simp at hi
    | cons a rows => simp [List.getElem?_append, hr, hj]
  | succ i ih =>
    intro rows hz hi
    cases rows with
    | nil => simp at hi
    | cons a rows =>
      have ha : a.length = n := hz a (by simp)
      have := ih (rows := rows) (fun r h => hz r (by simp [h])) (by simpa using hi)
      simp only [List.set_cons_succ, List.flatten_cons, List.getElem?_append, ha]
      have e : ¬ (0 + (i + 1) * n + j < n) := by rw [Nat.add_mul]; omega
      rw [if_neg e, ← this]
      congr 1
      rw [Nat.add_mul]; omega
theorem s_strow {b n i j : Nat} {rows : List (List AV)} {r : List AV} {v : AV} (hb : σ b = some (.cells 0 (rows.set i r).flatten)) (hz : ∀ r ∈ rows, r.length = n) (hi : i < rows.length) (hr : r.length = n) (hj : j < n) (hv : v.cell1 = true)
    (hk : K .un (σ.ins b (.cells 0 (rows.set i (r.set j v)).flatten))) : STORE 1 (.pt b (0 + i * n + j)) v σ K := by
  refine s_st1 hb hv ?_ (by rw [flat_set hr hj hz hi]; exact hk)
  have h2 := flat_get (j := j) hr hj hz hi
  rw [List.getElem?_eq_getElem (l := r) (by omega)] at h2
  exact (List.getElem?_eq_some_iff.1 h2).1
theorem s_ldrow {b n i j : Nat} {rows : List (List AV)} {r : List AV} {v : AV} (hb : σ b = some (.cells 0 (rows.set i r).flatten)) (hz : ∀ r ∈ rows, r.length = n) (hi : i < rows.length) (hr : r.length = n) (hj : j < n) (hv : r[j]? = some v) (hk : K v σ) : LOAD .one (.pt b (0 + i * n + j)) σ K :=
  s_ldp hb (by rw [flat_get hr hj hz hi]; exact hv) hk
theorem s_iarow {k : IntKind} {b n len i : Nat} (h : i < len) (hk : K (.pt b (0 + i * n)) σ) : IA (.slice n) (.ar b n 0 len) (.sc (.int k (i : Int))) σ K :=
  s_iaar (by omega) (by omega) (by simpa using hk)
theorem ORow.lenl {α : Type} {n : Nat} {E : AHeap → List AV → α → Prop} {H : AHeap} {v : AV} {l : List α} (h : ORow n E H v l) (hk : K (I l.length) σ) : LENL v σ K := by
  cases h with
  | nl => exact hk
  | ar ho _ _ => have := ho.length; simpa [LENL, this] using hk

/-- only H is written; it becomes H' -/
structure Wr (H H' σ σ' : AHeap) : Prop where
  le : H'.le σ'
  dom : ∀ p, H p = none → H' p = none
  frm : ∀ p, H p = none → σ' p = σ p

/-- marking one by one, with a count -/
def markL {α : Type} (m : α → Int → α × Int) : List α → Int → List α × Int
  | [], k => ([], k)
  | a :: l, k => ((m a k).1 :: (markL m l (m a k).2).1, (markL m l (m a k).2).2)
theorem markL_length {α : Type} {m : α → Int → α × Int} {l : List α} {k : Int} : (markL m l k).1.length = l.length := by
  induction l generalizing k with
  | nil => rfl
  | cons a l ih => simp [markL, ih]
theorem markL_append {α : Type} {m : α → Int → α × Int} {l l' : List α} {k : Int} : markL m (l ++ l') k = ((markL m l k).1 ++ (markL m l' (markL m l k).2).1, (markL m l' (markL m l k).2).2) := by
  induction l generalizing k with
  | nil => rfl
  | cons a l ih => simp [markL, ih]
theorem markL_succ {α : Type} {m : α → Int → α × Int} {l : List α} {k : Int} {i : Nat} (hi : i < l.length) : markL m (l.take (i + 1)) k = ((markL m (l.take i) k).1 ++ [(m l[i] (markL m (l.take i) k).2).1], (m l[i] (markL m (l.take i) k).2).2) := by
  rw [List.take_succ_eq_append_getElem hi, markL_append]; rfl
theorem markL_get {α : Type} {m : α → Int → α × Int} {l : List α} {k : Int} {i : Nat} (hi : i < l.length) : (markL m l k).1[i]'(by rw [markL_length]; exact hi) = (m l[i] (markL m (l.take i) k).2).1 := by
  have h1 : markL m l k = markL m (l.take i ++ l[i] :: l.drop (i + 1)) k := by rw [← List.drop_eq_getElem_cons hi, List.take_append_drop]
  have h2 : (markL m l k).1[i]? = some (m l[i] (markL m (l.take i) k).2).1 := by
    rw [h1, markL_append]
    have e : (markL m (l.take i) k).1.length = i := by rw [markL_length]; simp; omega
    rw [List.getElem?_append_right (by omega), e]
    simp [markL]
  have h3 := List.getElem?_eq_getElem (l := (markL m l k).1) (i := i) (by rw [markL_length]; exact hi)
  rw [h3] at h2
  exact Option.some.inj h2
theorem markL_bd {α : Type} {m : α → Int → α × Int} {w : Nat} {l : List α} {k : Int} (hm : ∀ a ∈ l, ∀ k, k ≤ (m a k).2 ∧ (m a k).2 ≤ k + w) : k ≤ (markL m l k).2 ∧ (markL m l k).2 ≤ k + w * l.length := by
  induction l generalizing k with
  | nil => simp [markL]
  | cons a l ih =>
    have h1 := hm a (by simp) k
    have h2 := ih (k := (m a k).2) fun b hb => hm b (by simp [hb])
    simp only [markL, List.length_cons]
    rw [show (w : Int) * ((l.length + 1 : Nat) : Int) = w * l.length + w by rw [Int.natCast_add, Int.mul_add]; omega]
    omega
/-- one step on -/
theorem mark_set {α : Type} {m : α → Int → α × Int} {l : List α} {k : Int} {i : Nat} (hi : i < l.length) : ((markL m (l.take i) k).1 ++ l.drop i).set i (m l[i] (markL m (l.take i) k).2).1 = (markL m (l.take (i + 1)) k).1 ++ l.drop (i + 1) := by
  have e : (markL m (l.take i) k).1.length = i := by rw [markL_length]; simp; omega
  rw [markL_succ hi, List.set_append, if_neg (by omega), e, Nat.sub_self]
  have e2 : l.drop i = l[i] :: l.drop (i + 1) := List.drop_eq_getElem_cons hi
  rw [e2]
  simp only [List.set_cons_zero, List.append_assoc, List.singleton_append]
theorem mark_at {α : Type} {m : α → Int → α × Int} {l : List α} {k : Int} {i : Nat} (hi : i < l.length) {h : i < ((markL m (l.take i) k).1 ++ l.drop i).length} : ((markL m (l.take i) k).1 ++ l.drop i)[i] = l[i] := by
  have e : (markL m (l.take i) k).1.length = i := by rw [markL_length]; simp; omega
  rw [List.getElem_append_right (by omega)]
  simp [e]
theorem mark_len {α : Type} {m : α → Int → α × Int} {l : List α} {k : Int} {i : Nat} (hi : i ≤ l.length) : ((markL m (l.take i) k).1 ++ l.drop i).length = l.length := by
  simp [markL_length]; omega

end Go.Al
