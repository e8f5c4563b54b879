/- Contracts: the reference reads an object. -/
import Derived.Test.YtpooknfdodimdaaGreatDoorSp19
set_option linter.unusedVariables false
set_option linter.unusedSimpArgs false
set_option maxRecDepth 100000
set_option maxHeartbeats 4000000
namespace Go.Al
variable {G : Seal} {σ : AHeap} {K : KAV}

/-- a growing list whose block is none of some -/
def GT (n : Nat) (ps : List Nat) (v : AV) (xs : List (List AV)) (τ : AHeap) : Prop :=
  (v = .nl ∧ xs = []) ∨ ∃ b x r, xs = x :: r ∧ v = .gl b n (x :: r) ∧ b ∉ ps ∧ τ b = some (.cells ((x :: r).length * n) [])
theorem GT.nil {n : Nat} {ps : List Nat} {τ : AHeap} : GT n ps .nl [] τ := .inl ⟨rfl, rfl⟩
theorem GT.other {n : Nat} {ps : List Nat} {v : AV} {xs : List (List AV)} {τ τ' : AHeap} {b : Nat} (h : GT n ps v xs τ) (hb : b ∈ ps) (hk : ∀ c, c ≠ b → τ' c = τ c) : GT n ps v xs τ' := by
  refine h.imp id ?_
  rintro ⟨c, x, r, e1, e2, e3, e4⟩
  exact ⟨c, x, r, e1, e2, e3, by rw [hk c (fun e => e3 (e ▸ hb))]; exact e4⟩
theorem GT.ins {n : Nat} {ps : List Nat} {v : AV} {xs : List (List AV)} {τ : AHeap} {b : Nat} {y : ABlk} (h : GT n ps v xs τ) (hb : b ∈ ps) : GT n ps v xs (τ.ins b y) := h.other hb fun c hc => AHeap.ins_ne _ _ hc
theorem GT.new {n : Nat} {ps : List Nat} {v : AV} {xs : List (List AV)} {τ : AHeap} {b : Nat} {y : ABlk} (h : GT n ps v xs τ) (hb : τ b = none) : GT n ps v xs (τ.ins b y) := by
  refine h.imp id ?_
  rintro ⟨c, x, r, e1, e2, e3, e4⟩
  exact ⟨c, x, r, e1, e2, e3, ins_old e4 hb⟩
theorem GT.app {n bytes : Nat} {ps : List Nat} {v : AV} {xs ys : List (List AV)} {τ : AHeap} (h : GT n ps v xs τ) (hps : ∀ p ∈ ps, τ p ≠ none) (hn : 0 < n) (hb : (xs.length + ys.length) * bytes ≤ 70368744177664) (hl : xs.length + ys.length ≤ 70368744177664)
    (hk : ∀ v' τ', GT n ps v' (xs ++ ys) τ' → (∀ p, p ∈ ps → τ' p = τ p) → K v' τ') : APP false n bytes v (some ys) τ K := by
  have h0 := h
  rcases h with ⟨rfl, rfl⟩ | ⟨c, x, r, rfl, rfl, h3, h4⟩
  · refine ⟨hn, ?_⟩
    refine ⟨by simpa using hb, by simpa using hl, ?_⟩
    cases ys with
    | nil => exact hk _ _ .nil (fun _ _ => rfl)
    | cons y r =>
      intro b hbn
      have hnp : b ∉ ps := fun e => hps b e hbn
      exact hk _ _ (.inr ⟨b, y, r, rfl, rfl, hnp, AHeap.ins_self _ _ _⟩) fun p hp => AHeap.ins_ne _ _ (fun e => hnp (e ▸ hp))
  · refine ⟨hn, ?_⟩
    refine ⟨rfl, hb, hl, ?_⟩
    cases ys with
    | nil => exact hk _ _ (by simpa using h0) (fun _ _ => rfl)
    | cons y r' =>
      refine ⟨h4, fun b' hb' => ?_⟩
      have hnp : b' ∉ ps := by
        rcases hb' with rfl | hb'
        · exact h3
        · exact fun e => hps b' e hb'
      refine hk _ _ (.inr ⟨b', x, r ++ y :: r', rfl, rfl, hnp, AHeap.ins_self _ _ _⟩) fun p hp => ?_
      rw [AHeap.ins_ne _ _ (show p ≠ b' from fun e => hnp (e ▸ hp)), AHeap.del_ne _ (show p ≠ c from fun e => h3 (e ▸ hp))]
theorem GT.appl {n bytes : Nat} {ps : List Nat} {v : AV} {xs : List (List AV)} {y : List AV} {b : Nat} {τ : AHeap} (h : GT n ps v xs τ) (hps : ∀ p ∈ ps, τ p ≠ none) (hn : 0 < n) (hb : (xs.length + 1) * bytes ≤ 70368744177664) (hl : xs.length + 1 ≤ 70368744177664)
    (hk : ∀ v' τ', GT n ps v' (xs ++ [y]) τ' → (∀ p, p ∈ ps → τ' p = τ p) → K v' τ') : APPL false n bytes v (.gl b n [y]) τ K := by
  have : srcH n (.gl b n [y]) τ = some [y] := by simp [srcH, srcA]
  rw [APPL, this]; exact h.app hps hn hb hl hk
theorem GT.cell1 {n : Nat} {ps : List Nat} {v : AV} {xs : List (List AV)} {τ : AHeap} (h : GT n ps v xs τ) : v.cell1 = true := by
  rcases h with ⟨rfl, rfl⟩ | ⟨c, y, r, rfl, rfl, _⟩ <;> rfl
/-- read as data -/
theorem GT.viewm {α : Type} {n : Nat} {ps : List Nat} {v : AV} {f : α → List AV} {l : List α} {τ : AHeap} (h : GT n ps v (l.map f) τ) (hf : ∀ a, (f a).length = n) (h1 : ∀ a, (f a).all AV.cell1 = true) {τ' : AHeap} : View τ' v (.sl n (l.map f)) := by
  rcases h with ⟨rfl, h2⟩ | ⟨c, y, r, h2, rfl, _⟩
  · rw [h2]; exact .nl n
  · rw [← h2]; exact View.gl_sl (by simpa using fun a _ => hf a) (by simpa using fun a _ => h1 a)

theorem one_f {b : Nat} {t : List UInt8} {i : Nat} {bad : Bool} (hb : σ b = some (rdS t i bad)) (hi : i ≤ t.length) (hl : t.length < 2 ^ 60)
    (hk : ∀ v i' bad' τ, i' ≤ t.length → v.length ≤ 1 → Rd.To (Rd.number 1) bad (t.drop i) (beI v) bad' (t.drop i') → τ b = some (rdS t i' bad') → (∀ c, c ≠ b → τ c = σ c) → K (I (beI v)) τ) : ACalls PP G N.spec_l03Reader_one [.pt b 0] σ K :=
  spec_l03Reader_one_c hb hi hl fun v i' bad' h1 h2 h3 => hk v i' bad' _ h1 h2 h3 (AHeap.ins_self _ _ _) fun c hc => AHeap.ins_ne _ _ hc
theorem eight_f {b : Nat} {t : List UInt8} {i : Nat} {bad : Bool} (hb : σ b = some (rdS t i bad)) (hi : i ≤ t.length) (hl : t.length < 2 ^ 60)
    (hk : ∀ v i' bad' τ, i' ≤ t.length → Rd.To (Rd.number 8) bad (t.drop i) v bad' (t.drop i') → τ b = some (rdS t i' bad') → (∀ c, c ≠ b → τ c = σ c) → K (I v) τ) : ACalls PP G N.spec_l03Reader_eight [.pt b 0] σ K :=
  spec_l03Reader_eight_c hb hi hl fun v i' bad' h1 h2 h3 => hk v i' bad' _ h1 h3 (AHeap.ins_self _ _ _) fun c hc => AHeap.ins_ne _ _ hc
theorem text_f {b : Nat} {t : List UInt8} {i : Nat} {bad : Bool} (hb : σ b = some (rdS t i bad)) (hi : i ≤ t.length) (hl : t.length < 2 ^ 60)
    (hk : ∀ v i' bad' τ, i' ≤ t.length → v.length < 256 → Rd.To Rd.text bad (t.drop i) v bad' (t.drop i') → τ b = some (rdS t i' bad') → (∀ c, c ≠ b → τ c = σ c) → K (St (bs v)) τ) : ACalls PP G N.spec_l03Reader_text [.pt b 0] σ K :=
  spec_l03Reader_text_c hb hi hl fun v i' bad' h1 h2 h3 => hk v i' bad' _ h1 h2 h3 (AHeap.ins_self _ _ _) fun c hc => AHeap.ins_ne _ _ hc

/-- what a reader may read: an object with its bytes gone -/
def readM (l : List UInt8) : Option Object := if 3 ≤ l.length ∧ l.take 3 = [79, 79, 49] then (match Rd.object (l.drop 3) with | some (o, []) => some o | _ => none) else none

/-- a row of a code, its list wherever it lies -/
def CRow (r : List AV) (c : Code) : Prop := ∃ vl, r = [St (bs c.name), I c.params, I c.cells, I c.result, vl] ∧ vl.cell1 = true ∧ ∀ τ, View τ vl (.sl 5 (c.list.map Ins.cells))

theorem crow_view {ps : List Nat} {v : AV} {rs : List (List AV)} {cs : List Code} {τ : AHeap} (h : GT 5 ps v rs τ) (hl : rs.length = cs.length) (hr : ∀ i (h1 : i < rs.length) (h2 : i < cs.length), CRow rs[i] cs[i]) {τ' : AHeap} : View τ' v (.sl 5 (cs.map Code.av)) := by
  rcases h with ⟨rfl, rfl⟩ | ⟨c, y, r, rfl, rfl, _⟩
  · have : cs = [] := List.length_eq_zero_iff.1 (by simpa using hl.symm)
    subst this; exact .nl 5
  · refine .gl c 5 _ _ (by simp [← hl]) (by simp) (by simp) fun i j hi hj => ?_
    have hi2 : i < cs.length := by omega
    obtain ⟨vl, e1, e2, e3⟩ := hr i hi hi2
    have h1 : (y :: r).getD i [] = (y :: r)[i] := by rw [List.getD_eq_getElem?_getD, List.getElem?_eq_getElem hi]; rfl
    have h2 : (cs.map Code.av).getD i [] = cs[i].av := by simp [List.getD, hi2]
    rw [h1, h2, e1]
    match j, hj with
    | 0, _ => exact .refl _
    | 1, _ => exact .refl _
    | 2, _ => exact .refl _
    | 3, _ => exact .refl _
    | 4, _ => exact e3 τ'

theorem take3 (l : List UInt8) : ((l.map bcell).take 3) = (l.take 3).map bcell := by rw [List.map_take]

def blkOf : AV → List Nat
  | .gl b _ _ => [b]
  | _ => []
theorem GT.same {n : Nat} {ps : List Nat} {v : AV} {xs : List (List AV)} {τ τ' : AHeap} (h : GT n ps v xs τ) (hk : ∀ p, p ∈ blkOf v → τ' p = τ p) : GT n ps v xs τ' := by
  refine h.imp id ?_
  rintro ⟨c, x, r, e1, rfl, e3, e4⟩
  exact ⟨c, x, r, e1, rfl, e3, by rw [hk c (by simp [blkOf])]; exact e4⟩
theorem GT.add {n : Nat} {ps : List Nat} {v : AV} {xs : List (List AV)} {τ : AHeap} {c : Nat} (h : GT n ps v xs τ) (hc : τ c = none) : GT n (c :: ps) v xs τ := by
  refine h.imp id ?_
  rintro ⟨b, x, r, e1, e2, e3, e4⟩
  refine ⟨b, x, r, e1, e2, ?_, e4⟩
  simp only [List.mem_cons, not_or]
  exact ⟨fun e => by subst e; rw [hc] at e4; simp at e4, e3⟩
theorem GT.sub {n : Nat} {ps qs : List Nat} {v : AV} {xs : List (List AV)} {τ : AHeap} (h : GT n ps v xs τ) (hs : ∀ p, p ∈ qs → p ∈ ps) : GT n qs v xs τ := by
  refine h.imp id ?_
  rintro ⟨b, x, r, e1, e2, e3, e4⟩
  exact ⟨b, x, r, e1, e2, fun e => e3 (hs _ e), e4⟩
theorem GT.some {n : Nat} {ps : List Nat} {v : AV} {xs : List (List AV)} {τ : AHeap} (h : GT n ps v xs τ) : ∀ p, p ∈ blkOf v → τ p ≠ none := by
  rcases h with ⟨rfl, _⟩ | ⟨c, x, r, _, rfl, _, e4⟩
  · intro p hp; simp [blkOf] at hp
  · intro p hp; simp [blkOf] at hp; subst hp; rw [e4]; simp
theorem cellsN_ag {n : Nat} {cs : List AV} (hl : cs.length = n) (h1 : cs.all AV.cell1 = true) : (AV.ag cs).cellsN n = Option.some cs := by simp only [AV.cellsN, hl, h1, decide_true, Bool.and_self, if_true]
theorem lit_ag {n : Nat} {cs : List AV} (hl : cs.length = n) (h1 : cs.all AV.cell1 = true) : [AV.ag cs].mapM (AV.cellsN n) = Option.some [cs] := by simp [cellsN_ag hl h1]

theorem obj_view {τ : AHeap} {o : Object} {x y z : AV} (hx : View τ x (.sl 2 (o.needs.map Need.cells))) (hy : View τ y (.sl 2 (o.globals.map Global.cells))) (hz : View τ z (.sl 5 (o.procs.map Code.av))) :
    View τ (.ag [St (bs o.module), I o.print, x, y, z]) (.ag o.cells) := .ag _ _ rfl fun j hj => match j, hj with
    | 0, _ => .refl _
    | 1, _ => .refl _
    | 2, _ => hx
    | 3, _ => hy
    | 4, _ => hz
theorem pair_view {τ : AHeap} {x x' : AV} {b : Bool} (h : View τ x x') : View τ (.tu [x, Bo b]) (.tu [x', Bo b]) := .tu _ _ rfl fun j hj => match j, hj with
    | 0, _ => h
    | 1, _ => .refl _
def obj0 : Object := ⟨[], 0, [], [], []⟩
theorem obj0_view {τ : AHeap} : View τ (.ag [St (bs []), I 0, .nl, .nl, .nl]) (.ag obj0.cells) := obj_view (o := obj0) (.nl 2) (.nl 2) (.nl 5)

theorem spec_l04Read_c (t : List UInt8) (hl : t.length < 2 ^ 60) : ACalls PP G N.spec_l04Read [.sl 1 (t.map bcell)] .emp fun r τ =>
    τ = .emp ∧ ∃ (o : Object) (ok : Bool), r = .tu [.ag o.cells, Bo ok] ∧ (ok = true → readM t = some o ∧ objectM o = true) ∧ (ok = false → ∀ o', readM t = some o' → objectM o' = false) := F.spec_l04Read_ok (by
  unfold F.spec_l04Read
  refine s_new fun v1 hv1 => ?_
  refine s_build (cs := [.sl 1 (t.map bcell), I 0, Bo false]) rfl ?_
  refine s_boxag rfl rfl (fun v5 hv5 => ?_)
  have d1 := ins_old (y := ABlk.cells 0 [.sl 1 (t.map bcell), I 0, Bo false]) (AHeap.ins_self AHeap.emp v1 (ABlk.cells 0 [St (bs []), I 0, .nl, .nl, .nl])) hv5
  have d5 := AHeap.ins_self (AHeap.emp.ins v1 (ABlk.cells 0 [St (bs []), I 0, .nl, .nl, .nl])) v5 (ABlk.cells 0 [.sl 1 (t.map bcell), I 0, Bo false])
  have n15 : v1 ≠ v5 := ne_of_none (AHeap.ins_self AHeap.emp v1 (ABlk.cells 0 [St (bs []), I 0, .nl, .nl, .nl])) hv5
  generalize hσ : (AHeap.emp.ins v1 (ABlk.cells 0 [St (bs []), I 0, .nl, .nl, .nl])).ins v5 (ABlk.cells 0 [.sl 1 (t.map bcell), I 0, Bo false]) = σ0 at *
  clear hσ hv1 hv5
  refine JOIN_cut (fun _ σ => σ = σ0 ∧ 3 ≤ t.length ∧ t.take 3 = [79, 79, 49]) (fun kk hkk => ?_) (fun xs σ ⟨hs, h3, h4⟩ => ?_)
  · repeat' first
      | (with_reducible first | refine s_join ?_ | refine s_ift ?_ | refine s_iff ?_ | refine s_igtt ?_ | refine s_igtf ?_ | refine s_igft ?_ | refine s_igff ?_ | refine s_igu ?_ | refine s_pt ?_ | refine s_pf ?_ | refine s_nott ?_ | refine s_notf ?_ | refine s_not ?_ | refine s_lslm ?_ | refine s_lsl ?_ | refine s_lgl ?_ | refine s_lnl ?_ | refine s_lar ?_ | refine s_lst ?_ | refine s_ncp ?_ | refine s_ncr ?_ | refine s_ncf ?_ | refine s_fap ?_ | refine s_far ?_ | refine s_mkfn ?_ | refine s_cvc ?_ | refine s_cvi ?_ | refine s_cvb ?_ | refine s_or ?_ | refine s_and ?_ | refine s_xor ?_ | refine s_andnot ?_)
      | refine s_cutlm_hi (by omega) (by omega) ?_
      | refine s_cvo ?_
      | refine s_build rfl ?_
      | (with_reducible first | refine BIN_eql_b (fun h => ?_) (fun h => ?_) | refine BIN_neq_b (fun h => ?_) (fun h => ?_) | refine BIN_lss_b (fun h => ?_) (fun h => ?_) | refine BIN_leq_b (fun h => ?_) (fun h => ?_) | refine BIN_gtr_b (fun h => ?_) (fun h => ?_) | refine BIN_geq_b (fun h => ?_) (fun h => ?_) | refine BIN_seql_b (fun h => ?_) (fun h => ?_) | refine BIN_sneq_b (fun h => ?_) (fun h => ?_) | refine s_ldr rfl ?_ | refine s_tup rfl ?_ | refine s_ifb (fun h => ?_) (fun h => ?_) | refine s_shl (by decide) ?_ | refine s_shr (by decide) ?_ | refine s_add (wrap64 (by omega)) ?_ | refine s_sub (wrap64 (by omega)) ?_ | refine s_ixn (by omega) ?_ | refine s_ix0 (by omega) ?_ | refine s_iam (by omega) ?_)
      | refine s_boxag rfl rfl (fun b hb => ?_)
      | (with_reducible first | refine s_ldp (AHeap.ins_self _ _ _) rfl ?_ | refine s_ldp (ins_prev (by assumption)) rfl ?_ | refine s_ldp (by assumption) rfl ?_ | refine s_ldp (ins_old (by assumption) (by assumption)) rfl ?_ | refine s_ldp (ins_other (by assumption) (by assumption)) rfl ?_ | refine s_ldpa (ins_old (by assumption) (by assumption)) rfl ?_ | refine s_ldpa (ins_other (by assumption) (by assumption)) rfl ?_ | refine s_ldpa (by assumption) rfl ?_ | refine s_ldpa (ins_prev (by assumption)) rfl ?_ | refine s_ldpa (AHeap.ins_self _ _ _) rfl ?_ | refine s_st1 (by assumption) rfl (by simp) ?_ | refine s_st1 (AHeap.ins_self _ _ _) rfl (by simp) ?_ | refine s_st1 (ins_prev (by assumption)) rfl (by simp) ?_ | refine s_sta (by assumption) rfl rfl rfl ?_ | refine s_sta (AHeap.ins_self _ _ _) rfl rfl rfl ?_ | refine s_field1 rfl ?_ | refine s_cuts (by omega) (by omega) (by omega) ?_ | refine s_cuts_lo (by omega) (by omega) ?_ | refine s_cuts_hi (by omega) (by omega) ?_)
      | refine ⟨by first | exact s_ldp (AHeap.ins_self _ _ _) rfl s_same | exact s_ldp (ins_prev (by assumption)) rfl s_same | exact s_ldp (by assumption) rfl s_same | exact s_ldr rfl s_same, ?_⟩
      | (with_reducible first | refine s_bneq_tt u_bool ?_ | refine s_bneq_tf u_bool ?_ | refine s_bneq_ft u_bool ?_ | refine s_bneq_ff u_bool ?_ | refine s_beql_tt u_bool ?_ | refine s_beql_tf u_bool ?_ | refine s_beql_ft u_bool ?_ | refine s_beql_ff u_bool ?_)
      | simp only [nth_zero, nth_succ, Nat.zero_add, Nat.reduceAdd, List.length_map, AHeap.ins_ins]
    all_goals first
      | exact hkk _ _ ⟨rfl, by omega, by first | assumption | (simp only [Decidable.not_not] at *; assumption)⟩
      | (refine Fin.view (pair_view obj0_view) ⟨rfl, obj0, false, rfl, by simp, fun _ o' ho' => ?_⟩
         exfalso
         clear hkk
         unfold readM at ho'
         split at ho'
         · rename_i hc
           first
             | omega
             | exact absurd hc.2 (by assumption)
         · simp at ho')
  subst hs
  repeat' first
    | (with_reducible first | refine s_gjoin ?_ | refine s_ift ?_ | refine s_iff ?_ | refine s_igtt ?_ | refine s_igtf ?_ | refine s_igft ?_ | refine s_igff ?_ | refine s_igu ?_ | refine s_pt ?_ | refine s_pf ?_ | refine s_nott ?_ | refine s_notf ?_ | refine s_not ?_ | refine s_lslm ?_ | refine s_lsl ?_ | refine s_lgl ?_ | refine s_lnl ?_ | refine s_lar ?_ | refine s_lst ?_ | refine s_ncp ?_ | refine s_ncr ?_ | refine s_ncf ?_ | refine s_fap ?_ | refine s_far ?_ | refine s_mkfn ?_ | refine s_cvc ?_ | refine s_cvi ?_ | refine s_cvb ?_ | refine s_or ?_ | refine s_and ?_ | refine s_xor ?_ | refine s_andnot ?_)
    | (with_reducible first | refine BIN_eql_b (fun h => ?_) (fun h => ?_) | refine BIN_neq_b (fun h => ?_) (fun h => ?_) | refine BIN_lss_b (fun h => ?_) (fun h => ?_) | refine BIN_leq_b (fun h => ?_) (fun h => ?_) | refine BIN_gtr_b (fun h => ?_) (fun h => ?_) | refine BIN_geq_b (fun h => ?_) (fun h => ?_) | refine BIN_seql_b (fun h => ?_) (fun h => ?_) | refine BIN_sneq_b (fun h => ?_) (fun h => ?_) | refine s_ldr rfl ?_ | refine s_tup rfl ?_ | refine s_ifb (fun h => ?_) (fun h => ?_) | refine s_shl (by decide) ?_ | refine s_shr (by decide) ?_ | refine s_add (wrap64 (by omega)) ?_ | refine s_sub (wrap64 (by omega)) ?_ | refine s_ixn (by omega) ?_ | refine s_ix0 (by omega) ?_ | refine s_iam (by omega) ?_)
    | refine s_boxag rfl rfl (fun b hb => ?_)
    | (with_reducible first | refine s_ldp (AHeap.ins_self _ _ _) rfl ?_ | refine s_ldp (ins_prev (by assumption)) rfl ?_ | refine s_ldp (by assumption) rfl ?_ | refine s_ldp (ins_old (by assumption) (by assumption)) rfl ?_ | refine s_ldp (ins_other (by assumption) (by assumption)) rfl ?_ | refine s_ldpa (ins_old (by assumption) (by assumption)) rfl ?_ | refine s_ldpa (ins_other (by assumption) (by assumption)) rfl ?_ | refine s_ldpa (by assumption) rfl ?_ | refine s_ldpa (ins_prev (by assumption)) rfl ?_ | refine s_ldpa (AHeap.ins_self _ _ _) rfl ?_ | refine s_st1 (by assumption) rfl (by simp) ?_ | refine s_st1 (AHeap.ins_self _ _ _) rfl (by simp) ?_ | refine s_st1 (ins_prev (by assumption)) rfl (by simp) ?_ | refine s_sta (by assumption) rfl rfl rfl ?_ | refine s_sta (AHeap.ins_self _ _ _) rfl rfl rfl ?_ | refine s_field1 rfl ?_ | refine s_cuts (by omega) (by omega) (by omega) ?_ | refine s_cuts_lo (by omega) (by omega) ?_ | refine s_cuts_hi (by omega) (by omega) ?_)
    | refine ⟨by first | exact s_ldp (AHeap.ins_self _ _ _) rfl s_same | exact s_ldp (ins_prev (by assumption)) rfl s_same | exact s_ldp (by assumption) rfl s_same | exact s_ldr rfl s_same, ?_⟩
    | (with_reducible first | refine s_bneq_tt u_bool ?_ | refine s_bneq_tf u_bool ?_ | refine s_bneq_ft u_bool ?_ | refine s_bneq_ff u_bool ?_ | refine s_beql_tt u_bool ?_ | refine s_beql_tf u_bool ?_ | refine s_beql_ft u_bool ?_ | refine s_beql_ff u_bool ?_)
    | simp only [nth_zero, nth_succ, Nat.zero_add, Nat.reduceAdd, List.length_map, AHeap.ins_ins]
  have d5 := AHeap.ins_self σ v5 (rdS t 3 false)
  have d1 := ins_other (y := rdS t 3 false) d1 n15
  refine text_f (σ := σ.ins v5 (rdS t 3 false)) d5 (by omega) hl fun m i1 b1 τ1 p1 p2 p3 d5 k1 => ?_
  have d1 := (k1 _ n15).trans d1
  refine eight_f d5 p1 hl fun pr i2 b2 τ2 p4 p5 d5 k2 => ?_
  have d1 := (k2 _ n15).trans d1
  refine s_build (cs := [St (bs m), I pr, .nl, .nl, .nl]) rfl ?_
  refine s_new fun o hbo => ?_
  refine s_sta (AHeap.ins_self _ _ _) rfl rfl rfl ?_
  rw [AHeap.ins_ins]
  have n1o := ne_of_none d1 hbo
  have n5o := ne_of_none d5 hbo
  have d1 := ins_other (y := ABlk.cells 0 [St (bs m), I pr, .nl, .nl, .nl]) d1 n1o
  have d5 := ins_other (y := ABlk.cells 0 [St (bs m), I pr, .nl, .nl, .nl]) d5 n5o
  have dO := AHeap.ins_self τ2 o (ABlk.cells 0 [St (bs m), I pr, .nl, .nl, .nl])
  generalize hτ : τ2.ins o (ABlk.cells 0 [St (bs m), I pr, .nl, .nl, .nl]) = τ3 at *
  clear hτ hbo
  -- the needs
  refine JOIN_cut (fun _ τ => ∃ (cn : Nat) (x : AV) (ns : List Need) (i' : Nat) (bad' : Bool) (iN : Nat) (bN : Bool), τ v1 = some (.cells 0 [St (bs []), I 0, .nl, .nl, .nl]) ∧ τ v5 = some (rdS t i' bad') ∧ τ o = some (.cells 0 [St (bs m), I pr, x, .nl, .nl]) ∧ GT 2 [v1, v5, o] x (ns.map Need.cells) τ ∧ i' ≤ t.length ∧
      Rd.To (Rd.number 1) b2 (t.drop i2) cn bN (t.drop iN) ∧ Rd.To (Rd.many Rd.need cn) bN (t.drop iN) ns bad' (t.drop i') ∧ ns.length < 256 ∧ ∀ y ∈ ns, y.module.length < 2 ^ 60) (fun kk hkk => ?_) (fun xs τ ⟨cn, x, ns, i3, b3, iN, bN, d1, d5, dO, hgt, q1, q2, q3, q4, q5⟩ => ?_)
  · refine one_f d5 p4 hl fun nb iN bN τ4 r1 r2 r3 d5 k3 => ?_
    have d1 := (k3 _ n15).trans d1
    have dO := (k3 _ (fun e => n5o e.symm)).trans dO
    have hr := beI_le1 r2
    obtain ⟨cn, hN⟩ : ∃ cn : Nat, beI nb = cn := ⟨(beI nb).toNat, by omega⟩
    rw [hN] at r3 hr
    simp only [hN]
    refine LOOP_intro (fun i => cn - i) (fun (i : Nat) ys τ => i ≤ cn ∧ nth ys 0 = I (cn - i : Nat) ∧ ∃ (x : AV) (ns : List Need) (i' : Nat) (bad' : Bool), τ v1 = some (.cells 0 [St (bs []), I 0, .nl, .nl, .nl]) ∧ τ v5 = some (rdS t i' bad') ∧ τ o = some (.cells 0 [St (bs m), I pr, x, .nl, .nl]) ∧ GT 2 [v1, v5, o] x (ns.map Need.cells) τ ∧ i' ≤ t.length ∧
      Rd.To (Rd.many Rd.need i) bN (t.drop iN) ns bad' (t.drop i') ∧ ns.length = i ∧ ∀ y ∈ ns, y.module.length < 2 ^ 60) (fun i ys τ R ⟨g1, g2, x, ns, i', bad', d1, d5, dO, hgt, g3, g4, g5, g6⟩ hR => ?_) 0 ⟨by omega, rfl, .nl, [], iN, bN, d1, d5, dO, .nil, r1, .ret _ _ _, rfl, by simp⟩
    simp only [g2]
    cases bad' with
    | true =>
      repeat' first
        | (with_reducible first | refine s_join ?_ | refine s_ift ?_ | refine s_iff ?_ | refine s_igtt ?_ | refine s_igtf ?_ | refine s_igft ?_ | refine s_igff ?_ | refine s_igu ?_ | refine s_pt ?_ | refine s_pf ?_ | refine s_nott ?_ | refine s_notf ?_ | refine s_not ?_ | refine s_lslm ?_ | refine s_lsl ?_ | refine s_lgl ?_ | refine s_lnl ?_ | refine s_lar ?_ | refine s_lst ?_ | refine s_ncp ?_ | refine s_ncr ?_ | refine s_ncf ?_ | refine s_fap ?_ | refine s_far ?_ | refine s_mkfn ?_ | refine s_cvc ?_ | refine s_cvi ?_ | refine s_cvb ?_ | refine s_or ?_ | refine s_and ?_ | refine s_xor ?_ | refine s_andnot ?_)
        | (with_reducible first | refine BIN_eql_b (fun h => ?_) (fun h => ?_) | refine BIN_neq_b (fun h => ?_) (fun h => ?_) | refine BIN_lss_b (fun h => ?_) (fun h => ?_) | refine BIN_leq_b (fun h => ?_) (fun h => ?_) | refine BIN_gtr_b (fun h => ?_) (fun h => ?_) | refine BIN_geq_b (fun h => ?_) (fun h => ?_) | refine BIN_seql_b (fun h => ?_) (fun h => ?_) | refine BIN_sneq_b (fun h => ?_) (fun h => ?_) | refine s_ldr rfl ?_ | refine s_tup rfl ?_ | refine s_ifb (fun h => ?_) (fun h => ?_) | refine s_shl (by decide) ?_ | refine s_shr (by decide) ?_ | refine s_add (wrap64 (by omega)) ?_ | refine s_sub (wrap64 (by omega)) ?_ | refine s_ixn (by omega) ?_ | refine s_ix0 (by omega) ?_ | refine s_iam (by omega) ?_)
        | refine s_boxag rfl rfl (fun b hb => ?_)
        | (with_reducible first | refine s_ldp (AHeap.ins_self _ _ _) rfl ?_ | refine s_ldp (ins_prev (by assumption)) rfl ?_ | refine s_ldp (by assumption) rfl ?_ | refine s_ldp (ins_old (by assumption) (by assumption)) rfl ?_ | refine s_ldp (ins_other (by assumption) (by assumption)) rfl ?_ | refine s_ldpa (ins_old (by assumption) (by assumption)) rfl ?_ | refine s_ldpa (ins_other (by assumption) (by assumption)) rfl ?_ | refine s_ldpa (by assumption) rfl ?_ | refine s_ldpa (ins_prev (by assumption)) rfl ?_ | refine s_ldpa (AHeap.ins_self _ _ _) rfl ?_ | refine s_st1 (by assumption) rfl (by simp) ?_ | refine s_st1 (AHeap.ins_self _ _ _) rfl (by simp) ?_ | refine s_st1 (ins_prev (by assumption)) rfl (by simp) ?_ | refine s_sta (by assumption) rfl rfl rfl ?_ | refine s_sta (AHeap.ins_self _ _ _) rfl rfl rfl ?_ | refine s_field1 rfl ?_ | refine s_cuts (by omega) (by omega) (by omega) ?_ | refine s_cuts_lo (by omega) (by omega) ?_ | refine s_cuts_hi (by omega) (by omega) ?_)
        | refine ⟨by first | exact s_ldp (AHeap.ins_self _ _ _) rfl s_same | exact s_ldp (ins_prev (by assumption)) rfl s_same | exact s_ldp (by assumption) rfl s_same | exact s_ldr rfl s_same, ?_⟩
        | (with_reducible first | refine s_bneq_tt u_bool ?_ | refine s_bneq_tf u_bool ?_ | refine s_bneq_ft u_bool ?_ | refine s_bneq_ff u_bool ?_ | refine s_beql_tt u_bool ?_ | refine s_beql_tf u_bool ?_ | refine s_beql_ft u_bool ?_ | refine s_beql_ff u_bool ?_)
        | simp only [nth_zero, nth_succ, Nat.zero_add, Nat.reduceAdd, List.length_map, AHeap.ins_ins]
      all_goals exact hkk _ _ ⟨cn, x, ns, i', true, iN, bN, d1, d5, dO, hgt, g3, r3, g4.many_bad g1, by omega, g6⟩
    | false =>
      repeat' first
        | (with_reducible first | refine s_join ?_ | refine s_ift ?_ | refine s_iff ?_ | refine s_igtt ?_ | refine s_igtf ?_ | refine s_igft ?_ | refine s_igff ?_ | refine s_igu ?_ | refine s_pt ?_ | refine s_pf ?_ | refine s_nott ?_ | refine s_notf ?_ | refine s_not ?_ | refine s_lslm ?_ | refine s_lsl ?_ | refine s_lgl ?_ | refine s_lnl ?_ | refine s_lar ?_ | refine s_lst ?_ | refine s_ncp ?_ | refine s_ncr ?_ | refine s_ncf ?_ | refine s_fap ?_ | refine s_far ?_ | refine s_mkfn ?_ | refine s_cvc ?_ | refine s_cvi ?_ | refine s_cvb ?_ | refine s_or ?_ | refine s_and ?_ | refine s_xor ?_ | refine s_andnot ?_)
        | (with_reducible first | refine BIN_eql_b (fun h => ?_) (fun h => ?_) | refine BIN_neq_b (fun h => ?_) (fun h => ?_) | refine BIN_lss_b (fun h => ?_) (fun h => ?_) | refine BIN_leq_b (fun h => ?_) (fun h => ?_) | refine BIN_gtr_b (fun h => ?_) (fun h => ?_) | refine BIN_geq_b (fun h => ?_) (fun h => ?_) | refine BIN_seql_b (fun h => ?_) (fun h => ?_) | refine BIN_sneq_b (fun h => ?_) (fun h => ?_) | refine s_ldr rfl ?_ | refine s_tup rfl ?_ | refine s_ifb (fun h => ?_) (fun h => ?_) | refine s_shl (by decide) ?_ | refine s_shr (by decide) ?_ | refine s_add (wrap64 (by omega)) ?_ | refine s_sub (wrap64 (by omega)) ?_ | refine s_ixn (by omega) ?_ | refine s_ix0 (by omega) ?_ | refine s_iam (by omega) ?_)
        | refine s_boxag rfl rfl (fun b hb => ?_)
        | (with_reducible first | refine s_ldp (AHeap.ins_self _ _ _) rfl ?_ | refine s_ldp (ins_prev (by assumption)) rfl ?_ | refine s_ldp (by assumption) rfl ?_ | refine s_ldp (ins_old (by assumption) (by assumption)) rfl ?_ | refine s_ldp (ins_other (by assumption) (by assumption)) rfl ?_ | refine s_ldpa (ins_old (by assumption) (by assumption)) rfl ?_ | refine s_ldpa (ins_other (by assumption) (by assumption)) rfl ?_ | refine s_ldpa (by assumption) rfl ?_ | refine s_ldpa (ins_prev (by assumption)) rfl ?_ | refine s_ldpa (AHeap.ins_self _ _ _) rfl ?_ | refine s_st1 (by assumption) rfl (by simp) ?_ | refine s_st1 (AHeap.ins_self _ _ _) rfl (by simp) ?_ | refine s_st1 (ins_prev (by assumption)) rfl (by simp) ?_ | refine s_sta (by assumption) rfl rfl rfl ?_ | refine s_sta (AHeap.ins_self _ _ _) rfl rfl rfl ?_ | refine s_field1 rfl ?_ | refine s_cuts (by omega) (by omega) (by omega) ?_ | refine s_cuts_lo (by omega) (by omega) ?_ | refine s_cuts_hi (by omega) (by omega) ?_)
        | refine ⟨by first | exact s_ldp (AHeap.ins_self _ _ _) rfl s_same | exact s_ldp (ins_prev (by assumption)) rfl s_same | exact s_ldp (by assumption) rfl s_same | exact s_ldr rfl s_same, ?_⟩
        | (with_reducible first | refine s_bneq_tt u_bool ?_ | refine s_bneq_tf u_bool ?_ | refine s_bneq_ft u_bool ?_ | refine s_bneq_ff u_bool ?_ | refine s_beql_tt u_bool ?_ | refine s_beql_tf u_bool ?_ | refine s_beql_ft u_bool ?_ | refine s_beql_ff u_bool ?_)
        | simp only [nth_zero, nth_succ, Nat.zero_add, Nat.reduceAdd, List.length_map, AHeap.ins_ins]
      rotate_left
      · have : i = cn := by omega
        subst this
        exact hkk _ _ ⟨i, x, ns, i', false, iN, bN, d1, d5, dO, hgt, g3, r3, g4, by omega, g6⟩
      refine text_f d5 g3 hl fun mm i4 b4 τ5 s1 s2 s3 d5 k4 => ?_
      have d1 := (k4 _ n15).trans d1
      have dO := (k4 _ (Ne.symm n5o)).trans dO
      have hgt := hgt.other (by simp) k4
      refine ⟨s_ldp dO rfl s_same, ?_⟩
      refine eight_f d5 s1 hl fun pp i5 b5 τ6 s4 s5 d5 k5 => ?_
      have d1 := (k5 _ n15).trans d1
      have dO := (k5 _ (Ne.symm n5o)).trans dO
      have hgt := hgt.other (by simp) k5
      refine ⟨s_ldp dO rfl s_same, ?_⟩
      refine s_build (cs := [St (bs mm), I pp]) rfl ?_
      refine s_lit rfl fun b6 hb6 => ?_
      refine ⟨s_ldp (ins_old dO hb6) rfl s_same, ?_⟩
      refine (hgt.new hb6).appl (fun p hp => by
        simp only [List.mem_cons, List.not_mem_nil, or_false] at hp
        rcases hp with rfl | rfl | rfl
        · rw [ins_old d1 hb6]; simp
        · rw [ins_old d5 hb6]; simp
        · rw [ins_old dO hb6]; simp) (by omega) (by simp; omega) (by simp; omega) fun x' τ7 hgt7 k7 => ?_
      have d1 := (k7 v1 (by simp)).trans (ins_old d1 hb6)
      have d5 := (k7 v5 (by simp)).trans (ins_old d5 hb6)
      have dO := (k7 o (by simp)).trans (ins_old dO hb6)
      refine s_fap ?_
      refine s_st1 dO hgt7.cell1 (by simp) ?_
      refine s_sub (wrap64 (by omega)) ?_
      have ecast : ((cn - i : Nat) : Int) - 1 = ((cn - (i + 1) : Nat) : Int) := by omega
      refine hR (i + 1) _ _ (by omega) ⟨by omega, by rw [← ecast]; rfl, x', ns ++ [⟨mm, pp⟩], i5, b5, ins_other d1 n1o, ins_other d5 n5o, AHeap.ins_self _ _ _, ?_, s4, g4.snoc (s3.then (s5.then (.ret _ _ _))), by simp [g5], ?_⟩
      · rw [List.map_append]; exact hgt7.ins (by simp)
      · intro y hy
        simp only [List.mem_append, List.mem_singleton] at hy
        rcases hy with hy | rfl
        · exact g6 y hy
        · show mm.length < 2 ^ 60; omega
  have hx1 := hgt.cell1
  have hxv : ∀ τ', View τ' x (.sl 2 (ns.map Need.cells)) := fun τ' => hgt.viewm (fun _ => rfl) (fun _ => rfl)
  clear hgt
  -- the globals
  refine JOIN_cut (fun _ τ => ∃ (cg : Nat) (y : AV) (gs : List Global) (i' : Nat) (bad' : Bool) (iG : Nat) (bG : Bool), τ v1 = some (.cells 0 [St (bs []), I 0, .nl, .nl, .nl]) ∧ τ v5 = some (rdS t i' bad') ∧ τ o = some (.cells 0 [St (bs m), I pr, x, y, .nl]) ∧ GT 2 [v1, v5, o] y (gs.map Global.cells) τ ∧ i' ≤ t.length ∧
      Rd.To (Rd.number 1) b3 (t.drop i3) cg bG (t.drop iG) ∧ Rd.To (Rd.many Rd.global cg) bG (t.drop iG) gs bad' (t.drop i') ∧ gs.length < 256 ∧ ∀ y ∈ gs, y.name.length < 2 ^ 60) (fun kk hkk => ?_) (fun xs τ ⟨cg, y, gs, i6, b6, iG, bG, d1, d5, dO, hgt, u1, u2, u3, u4, u5⟩ => ?_)
  · refine one_f d5 q1 hl fun nb iN bN τ4 r1 r2 r3 d5 k3 => ?_
    have d1 := (k3 _ n15).trans d1
    have dO := (k3 _ (fun e => n5o e.symm)).trans dO
    have hr := beI_le1 r2
    obtain ⟨cn, hN⟩ : ∃ cn : Nat, beI nb = cn := ⟨(beI nb).toNat, by omega⟩
    rw [hN] at r3 hr
    simp only [hN]
    refine LOOP_intro (fun i => cn - i) (fun (i : Nat) ys τ => i ≤ cn ∧ nth ys 0 = I (cn - i : Nat) ∧ ∃ (y : AV) (gs : List Global) (i' : Nat) (bad' : Bool), τ v1 = some (.cells 0 [St (bs []), I 0, .nl, .nl, .nl]) ∧ τ v5 = some (rdS t i' bad') ∧ τ o = some (.cells 0 [St (bs m), I pr, x, y, .nl]) ∧ GT 2 [v1, v5, o] y (gs.map Global.cells) τ ∧ i' ≤ t.length ∧
      Rd.To (Rd.many Rd.global i) bN (t.drop iN) gs bad' (t.drop i') ∧ gs.length = i ∧ ∀ y ∈ gs, y.name.length < 2 ^ 60) (fun i ys τ R ⟨g1, g2, y, gs, i', bad', d1, d5, dO, hgt, g3, g4, g5, g6⟩ hR => ?_) 0 ⟨by omega, rfl, .nl, [], iN, bN, d1, d5, dO, .nil, r1, .ret _ _ _, rfl, by simp⟩
    simp only [g2]
    cases bad' with
    | true =>
      repeat' first
        | (with_reducible first | refine s_join ?_ | refine s_ift ?_ | refine s_iff ?_ | refine s_igtt ?_ | refine s_igtf ?_ | refine s_igft ?_ | refine s_igff ?_ | refine s_igu ?_ | refine s_pt ?_ | refine s_pf ?_ | refine s_nott ?_ | refine s_notf ?_ | refine s_not ?_ | refine s_lslm ?_ | refine s_lsl ?_ | refine s_lgl ?_ | refine s_lnl ?_ | refine s_lar ?_ | refine s_lst ?_ | refine s_ncp ?_ | refine s_ncr ?_ | refine s_ncf ?_ | refine s_fap ?_ | refine s_far ?_ | refine s_mkfn ?_ | refine s_cvc ?_ | refine s_cvi ?_ | refine s_cvb ?_ | refine s_or ?_ | refine s_and ?_ | refine s_xor ?_ | refine s_andnot ?_)
        | (with_reducible first | refine BIN_eql_b (fun h => ?_) (fun h => ?_) | refine BIN_neq_b (fun h => ?_) (fun h => ?_) | refine BIN_lss_b (fun h => ?_) (fun h => ?_) | refine BIN_leq_b (fun h => ?_) (fun h => ?_) | refine BIN_gtr_b (fun h => ?_) (fun h => ?_) | refine BIN_geq_b (fun h => ?_) (fun h => ?_) | refine BIN_seql_b (fun h => ?_) (fun h => ?_) | refine BIN_sneq_b (fun h => ?_) (fun h => ?_) | refine s_ldr rfl ?_ | refine s_tup rfl ?_ | refine s_ifb (fun h => ?_) (fun h => ?_) | refine s_shl (by decide) ?_ | refine s_shr (by decide) ?_ | refine s_add (wrap64 (by omega)) ?_ | refine s_sub (wrap64 (by omega)) ?_ | refine s_ixn (by omega) ?_ | refine s_ix0 (by omega) ?_ | refine s_iam (by omega) ?_)
        | refine s_boxag rfl rfl (fun b hb => ?_)
        | (with_reducible first | refine s_ldp (AHeap.ins_self _ _ _) rfl ?_ | refine s_ldp (ins_prev (by assumption)) rfl ?_ | refine s_ldp (by assumption) rfl ?_ | refine s_ldp (ins_old (by assumption) (by assumption)) rfl ?_ | refine s_ldp (ins_other (by assumption) (by assumption)) rfl ?_ | refine s_ldpa (ins_old (by assumption) (by assumption)) rfl ?_ | refine s_ldpa (ins_other (by assumption) (by assumption)) rfl ?_ | refine s_ldpa (by assumption) rfl ?_ | refine s_ldpa (ins_prev (by assumption)) rfl ?_ | refine s_ldpa (AHeap.ins_self _ _ _) rfl ?_ | refine s_st1 (by assumption) rfl (by simp) ?_ | refine s_st1 (AHeap.ins_self _ _ _) rfl (by simp) ?_ | refine s_st1 (ins_prev (by assumption)) rfl (by simp) ?_ | refine s_sta (by assumption) rfl rfl rfl ?_ | refine s_sta (AHeap.ins_self _ _ _) rfl rfl rfl ?_ | refine s_field1 rfl ?_ | refine s_cuts (by omega) (by omega) (by omega) ?_ | refine s_cuts_lo (by omega) (by omega) ?_ | refine s_cuts_hi (by omega) (by omega) ?_)
        | refine ⟨by first | exact s_ldp (AHeap.ins_self _ _ _) rfl s_same | exact s_ldp (ins_prev (by assumption)) rfl s_same | exact s_ldp (by assumption) rfl s_same | exact s_ldr rfl s_same, ?_⟩
        | (with_reducible first | refine s_bneq_tt u_bool ?_ | refine s_bneq_tf u_bool ?_ | refine s_bneq_ft u_bool ?_ | refine s_bneq_ff u_bool ?_ | refine s_beql_tt u_bool ?_ | refine s_beql_tf u_bool ?_ | refine s_beql_ft u_bool ?_ | refine s_beql_ff u_bool ?_)
        | simp only [nth_zero, nth_succ, Nat.zero_add, Nat.reduceAdd, List.length_map, AHeap.ins_ins]
      all_goals exact hkk _ _ ⟨cn, y, gs, i', true, iN, bN, d1, d5, dO, hgt, g3, r3, g4.many_bad g1, by omega, g6⟩
    | false =>
      repeat' first
        | (with_reducible first | refine s_join ?_ | refine s_ift ?_ | refine s_iff ?_ | refine s_igtt ?_ | refine s_igtf ?_ | refine s_igft ?_ | refine s_igff ?_ | refine s_igu ?_ | refine s_pt ?_ | refine s_pf ?_ | refine s_nott ?_ | refine s_notf ?_ | refine s_not ?_ | refine s_lslm ?_ | refine s_lsl ?_ | refine s_lgl ?_ | refine s_lnl ?_ | refine s_lar ?_ | refine s_lst ?_ | refine s_ncp ?_ | refine s_ncr ?_ | refine s_ncf ?_ | refine s_fap ?_ | refine s_far ?_ | refine s_mkfn ?_ | refine s_cvc ?_ | refine s_cvi ?_ | refine s_cvb ?_ | refine s_or ?_ | refine s_and ?_ | refine s_xor ?_ | refine s_andnot ?_)
        | (with_reducible first | refine BIN_eql_b (fun h => ?_) (fun h => ?_) | refine BIN_neq_b (fun h => ?_) (fun h => ?_) | refine BIN_lss_b (fun h => ?_) (fun h => ?_) | refine BIN_leq_b (fun h => ?_) (fun h => ?_) | refine BIN_gtr_b (fun h => ?_) (fun h => ?_) | refine BIN_geq_b (fun h => ?_) (fun h => ?_) | refine BIN_seql_b (fun h => ?_) (fun h => ?_) | refine BIN_sneq_b (fun h => ?_) (fun h => ?_) | refine s_ldr rfl ?_ | refine s_tup rfl ?_ | refine s_ifb (fun h => ?_) (fun h => ?_) | refine s_shl (by decide) ?_ | refine s_shr (by decide) ?_ | refine s_add (wrap64 (by omega)) ?_ | refine s_sub (wrap64 (by omega)) ?_ | refine s_ixn (by omega) ?_ | refine s_ix0 (by omega) ?_ | refine s_iam (by omega) ?_)
        | refine s_boxag rfl rfl (fun b hb => ?_)
        | (with_reducible first | refine s_ldp (AHeap.ins_self _ _ _) rfl ?_ | refine s_ldp (ins_prev (by assumption)) rfl ?_ | refine s_ldp (by assumption) rfl ?_ | refine s_ldp (ins_old (by assumption) (by assumption)) rfl ?_ | refine s_ldp (ins_other (by assumption) (by assumption)) rfl ?_ | refine s_ldpa (ins_old (by assumption) (by assumption)) rfl ?_ | refine s_ldpa (ins_other (by assumption) (by assumption)) rfl ?_ | refine s_ldpa (by assumption) rfl ?_ | refine s_ldpa (ins_prev (by assumption)) rfl ?_ | refine s_ldpa (AHeap.ins_self _ _ _) rfl ?_ | refine s_st1 (by assumption) rfl (by simp) ?_ | refine s_st1 (AHeap.ins_self _ _ _) rfl (by simp) ?_ | refine s_st1 (ins_prev (by assumption)) rfl (by simp) ?_ | refine s_sta (by assumption) rfl rfl rfl ?_ | refine s_sta (AHeap.ins_self _ _ _) rfl rfl rfl ?_ | refine s_field1 rfl ?_ | refine s_cuts (by omega) (by omega) (by omega) ?_ | refine s_cuts_lo (by omega) (by omega) ?_ | refine s_cuts_hi (by omega) (by omega) ?_)
        | refine ⟨by first | exact s_ldp (AHeap.ins_self _ _ _) rfl s_same | exact s_ldp (ins_prev (by assumption)) rfl s_same | exact s_ldp (by assumption) rfl s_same | exact s_ldr rfl s_same, ?_⟩
        | (with_reducible first | refine s_bneq_tt u_bool ?_ | refine s_bneq_tf u_bool ?_ | refine s_bneq_ft u_bool ?_ | refine s_bneq_ff u_bool ?_ | refine s_beql_tt u_bool ?_ | refine s_beql_tf u_bool ?_ | refine s_beql_ft u_bool ?_ | refine s_beql_ff u_bool ?_)
        | simp only [nth_zero, nth_succ, Nat.zero_add, Nat.reduceAdd, List.length_map, AHeap.ins_ins]
      rotate_left
      · have : i = cn := by omega
        subst this
        exact hkk _ _ ⟨i, y, gs, i', false, iN, bN, d1, d5, dO, hgt, g3, r3, g4, by omega, g6⟩
      refine text_f d5 g3 hl fun mm i4 b4 τ5 s1 s2 s3 d5 k4 => ?_
      have d1 := (k4 _ n15).trans d1
      have dO := (k4 _ (Ne.symm n5o)).trans dO
      have hgt := hgt.other (by simp) k4
      refine ⟨s_ldp dO rfl s_same, ?_⟩
      refine one_f d5 s1 hl fun pp i5 b5 τ6 s4 s4' s5 d5 k5 => ?_
      have d1 := (k5 _ n15).trans d1
      have dO := (k5 _ (Ne.symm n5o)).trans dO
      have hgt := hgt.other (by simp) k5
      refine ⟨s_ldp dO rfl s_same, ?_⟩
      refine s_build (cs := [St (bs mm), I (beI pp)]) rfl ?_
      refine s_lit rfl fun b6 hb6 => ?_
      refine ⟨s_ldp (ins_old dO hb6) rfl s_same, ?_⟩
      refine (hgt.new hb6).appl (fun p hp => by
        simp only [List.mem_cons, List.not_mem_nil, or_false] at hp
        rcases hp with rfl | rfl | rfl
        · rw [ins_old d1 hb6]; simp
        · rw [ins_old d5 hb6]; simp
        · rw [ins_old dO hb6]; simp) (by omega) (by simp; omega) (by simp; omega) fun x' τ7 hgt7 k7 => ?_
      have d1 := (k7 v1 (by simp)).trans (ins_old d1 hb6)
      have d5 := (k7 v5 (by simp)).trans (ins_old d5 hb6)
      have dO := (k7 o (by simp)).trans (ins_old dO hb6)
      refine s_fap ?_
      refine s_st1 dO hgt7.cell1 (by simp) ?_
      refine s_sub (wrap64 (by omega)) ?_
      have ecast : ((cn - i : Nat) : Int) - 1 = ((cn - (i + 1) : Nat) : Int) := by omega
      refine hR (i + 1) _ _ (by omega) ⟨by omega, by rw [← ecast]; rfl, x', gs ++ [⟨mm, beI pp⟩], i5, b5, ins_other d1 n1o, ins_other d5 n5o, AHeap.ins_self _ _ _, ?_, s4, g4.snoc (s3.then (s5.then (.ret _ _ _))), by simp [g5], ?_⟩
      · rw [List.map_append]; exact hgt7.ins (by simp)
      · intro y hy
        simp only [List.mem_append, List.mem_singleton] at hy
        rcases hy with hy | rfl
        · exact g6 y hy
        · show mm.length < 2 ^ 60; omega
  have hy1 := hgt.cell1
  have hyv : ∀ τ', View τ' y (.sl 2 (gs.map Global.cells)) := fun τ' => hgt.viewm (fun _ => rfl) (fun _ => rfl)
  clear hgt
  -- the procedures
  refine JOIN_cut (fun _ τ => ∃ (cp : Nat) (z : AV) (rs : List (List AV)) (cs : List Code) (i' : Nat) (bad' : Bool) (iP : Nat) (bP : Bool), τ v1 = some (.cells 0 [St (bs []), I 0, .nl, .nl, .nl]) ∧ τ v5 = some (rdS t i' bad') ∧ τ o = some (.cells 0 [St (bs m), I pr, x, y, z]) ∧ GT 5 [v1, v5, o] z rs τ ∧ i' ≤ t.length ∧
      Rd.To (Rd.number 1) b6 (t.drop i6) cp bP (t.drop iP) ∧ Rd.To (Rd.many Rd.code cp) bP (t.drop iP) cs bad' (t.drop i') ∧ cs.length < 256 ∧ rs.length = cs.length ∧ (∀ i (h1 : i < rs.length) (h2 : i < cs.length), CRow rs[i] cs[i]) ∧ ∀ c ∈ cs, c.Fine) (fun kk hkk => ?_) (fun xs τ ⟨cp, z, rs, cs, i7, b7, iP, bP, d1, d5, dO, hgt, w1, w2, w3, w4, w5, w6, w7⟩ => ?_)
  · refine one_f d5 u1 hl fun nb iN bN τ4 r1 r2 r3 d5 k3 => ?_
    have d1 := (k3 _ n15).trans d1
    have dO := (k3 _ (fun e => n5o e.symm)).trans dO
    have hr := beI_le1 r2
    obtain ⟨cn, hN⟩ : ∃ cn : Nat, beI nb = cn := ⟨(beI nb).toNat, by omega⟩
    rw [hN] at r3 hr
    simp only [hN]
    refine LOOP_intro (fun i => cn - i) (fun (i : Nat) ys τ => i ≤ cn ∧ nth ys 0 = I (cn - i : Nat) ∧ ∃ (z : AV) (rs : List (List AV)) (cs : List Code) (i' : Nat) (bad' : Bool), τ v1 = some (.cells 0 [St (bs []), I 0, .nl, .nl, .nl]) ∧ τ v5 = some (rdS t i' bad') ∧ τ o = some (.cells 0 [St (bs m), I pr, x, y, z]) ∧ GT 5 [v1, v5, o] z rs τ ∧ i' ≤ t.length ∧
      Rd.To (Rd.many Rd.code i) bN (t.drop iN) cs bad' (t.drop i') ∧ cs.length = i ∧ rs.length = cs.length ∧ (∀ i (h1 : i < rs.length) (h2 : i < cs.length), CRow rs[i] cs[i]) ∧ ∀ c ∈ cs, c.Fine) (fun i ys τ R ⟨g1, g2, z, rs, cs, i', bad', d1, d5, dO, hgt, g3, g4, g5, g6, g7, g8⟩ hR => ?_) 0 ⟨by omega, rfl, .nl, [], [], iN, bN, d1, d5, dO, .nil, r1, .ret _ _ _, rfl, rfl, fun i h => by simp at h, by simp⟩
    simp only [g2]
    cases bad' with
    | true =>
      repeat' first
        | (with_reducible first | refine s_join ?_ | refine s_ift ?_ | refine s_iff ?_ | refine s_igtt ?_ | refine s_igtf ?_ | refine s_igft ?_ | refine s_igff ?_ | refine s_igu ?_ | refine s_pt ?_ | refine s_pf ?_ | refine s_nott ?_ | refine s_notf ?_ | refine s_not ?_ | refine s_lslm ?_ | refine s_lsl ?_ | refine s_lgl ?_ | refine s_lnl ?_ | refine s_lar ?_ | refine s_lst ?_ | refine s_ncp ?_ | refine s_ncr ?_ | refine s_ncf ?_ | refine s_fap ?_ | refine s_far ?_ | refine s_mkfn ?_ | refine s_cvc ?_ | refine s_cvi ?_ | refine s_cvb ?_ | refine s_or ?_ | refine s_and ?_ | refine s_xor ?_ | refine s_andnot ?_)
        | (with_reducible first | refine BIN_eql_b (fun h => ?_) (fun h => ?_) | refine BIN_neq_b (fun h => ?_) (fun h => ?_) | refine BIN_lss_b (fun h => ?_) (fun h => ?_) | refine BIN_leq_b (fun h => ?_) (fun h => ?_) | refine BIN_gtr_b (fun h => ?_) (fun h => ?_) | refine BIN_geq_b (fun h => ?_) (fun h => ?_) | refine BIN_seql_b (fun h => ?_) (fun h => ?_) | refine BIN_sneq_b (fun h => ?_) (fun h => ?_) | refine s_ldr rfl ?_ | refine s_tup rfl ?_ | refine s_ifb (fun h => ?_) (fun h => ?_) | refine s_shl (by decide) ?_ | refine s_shr (by decide) ?_ | refine s_add (wrap64 (by omega)) ?_ | refine s_sub (wrap64 (by omega)) ?_ | refine s_ixn (by omega) ?_ | refine s_ix0 (by omega) ?_ | refine s_iam (by omega) ?_)
        | refine s_boxag rfl rfl (fun b hb => ?_)
        | (with_reducible first | refine s_ldp (AHeap.ins_self _ _ _) rfl ?_ | refine s_ldp (ins_prev (by assumption)) rfl ?_ | refine s_ldp (by assumption) rfl ?_ | refine s_ldp (ins_old (by assumption) (by assumption)) rfl ?_ | refine s_ldp (ins_other (by assumption) (by assumption)) rfl ?_ | refine s_ldpa (ins_old (by assumption) (by assumption)) rfl ?_ | refine s_ldpa (ins_other (by assumption) (by assumption)) rfl ?_ | refine s_ldpa (by assumption) rfl ?_ | refine s_ldpa (ins_prev (by assumption)) rfl ?_ | refine s_ldpa (AHeap.ins_self _ _ _) rfl ?_ | refine s_st1 (by assumption) rfl (by simp) ?_ | refine s_st1 (AHeap.ins_self _ _ _) rfl (by simp) ?_ | refine s_st1 (ins_prev (by assumption)) rfl (by simp) ?_ | refine s_sta (by assumption) rfl rfl rfl ?_ | refine s_sta (AHeap.ins_self _ _ _) rfl rfl rfl ?_ | refine s_field1 rfl ?_ | refine s_cuts (by omega) (by omega) (by omega) ?_ | refine s_cuts_lo (by omega) (by omega) ?_ | refine s_cuts_hi (by omega) (by omega) ?_)
        | refine ⟨by first | exact s_ldp (AHeap.ins_self _ _ _) rfl s_same | exact s_ldp (ins_prev (by assumption)) rfl s_same | exact s_ldp (by assumption) rfl s_same | exact s_ldr rfl s_same, ?_⟩
        | (with_reducible first | refine s_bneq_tt u_bool ?_ | refine s_bneq_tf u_bool ?_ | refine s_bneq_ft u_bool ?_ | refine s_bneq_ff u_bool ?_ | refine s_beql_tt u_bool ?_ | refine s_beql_tf u_bool ?_ | refine s_beql_ft u_bool ?_ | refine s_beql_ff u_bool ?_)
        | simp only [nth_zero, nth_succ, Nat.zero_add, Nat.reduceAdd, List.length_map, AHeap.ins_ins]
      all_goals exact hkk _ _ ⟨cn, z, rs, cs, i', true, iN, bN, d1, d5, dO, hgt, g3, r3, g4.many_bad g1, by omega, g6, g7, g8⟩
    | false =>
      repeat' first
        | (with_reducible first | refine s_join ?_ | refine s_ift ?_ | refine s_iff ?_ | refine s_igtt ?_ | refine s_igtf ?_ | refine s_igft ?_ | refine s_igff ?_ | refine s_igu ?_ | refine s_pt ?_ | refine s_pf ?_ | refine s_nott ?_ | refine s_notf ?_ | refine s_not ?_ | refine s_lslm ?_ | refine s_lsl ?_ | refine s_lgl ?_ | refine s_lnl ?_ | refine s_lar ?_ | refine s_lst ?_ | refine s_ncp ?_ | refine s_ncr ?_ | refine s_ncf ?_ | refine s_fap ?_ | refine s_far ?_ | refine s_mkfn ?_ | refine s_cvc ?_ | refine s_cvi ?_ | refine s_cvb ?_ | refine s_or ?_ | refine s_and ?_ | refine s_xor ?_ | refine s_andnot ?_)
        | (with_reducible first | refine BIN_eql_b (fun h => ?_) (fun h => ?_) | refine BIN_neq_b (fun h => ?_) (fun h => ?_) | refine BIN_lss_b (fun h => ?_) (fun h => ?_) | refine BIN_leq_b (fun h => ?_) (fun h => ?_) | refine BIN_gtr_b (fun h => ?_) (fun h => ?_) | refine BIN_geq_b (fun h => ?_) (fun h => ?_) | refine BIN_seql_b (fun h => ?_) (fun h => ?_) | refine BIN_sneq_b (fun h => ?_) (fun h => ?_) | refine s_ldr rfl ?_ | refine s_tup rfl ?_ | refine s_ifb (fun h => ?_) (fun h => ?_) | refine s_shl (by decide) ?_ | refine s_shr (by decide) ?_ | refine s_add (wrap64 (by omega)) ?_ | refine s_sub (wrap64 (by omega)) ?_ | refine s_ixn (by omega) ?_ | refine s_ix0 (by omega) ?_ | refine s_iam (by omega) ?_)
        | refine s_boxag rfl rfl (fun b hb => ?_)
        | (with_reducible first | refine s_ldp (AHeap.ins_self _ _ _) rfl ?_ | refine s_ldp (ins_prev (by assumption)) rfl ?_ | refine s_ldp (by assumption) rfl ?_ | refine s_ldp (ins_old (by assumption) (by assumption)) rfl ?_ | refine s_ldp (ins_other (by assumption) (by assumption)) rfl ?_ | refine s_ldpa (ins_old (by assumption) (by assumption)) rfl ?_ | refine s_ldpa (ins_other (by assumption) (by assumption)) rfl ?_ | refine s_ldpa (by assumption) rfl ?_ | refine s_ldpa (ins_prev (by assumption)) rfl ?_ | refine s_ldpa (AHeap.ins_self _ _ _) rfl ?_ | refine s_st1 (by assumption) rfl (by simp) ?_ | refine s_st1 (AHeap.ins_self _ _ _) rfl (by simp) ?_ | refine s_st1 (ins_prev (by assumption)) rfl (by simp) ?_ | refine s_sta (by assumption) rfl rfl rfl ?_ | refine s_sta (AHeap.ins_self _ _ _) rfl rfl rfl ?_ | refine s_field1 rfl ?_ | refine s_cuts (by omega) (by omega) (by omega) ?_ | refine s_cuts_lo (by omega) (by omega) ?_ | refine s_cuts_hi (by omega) (by omega) ?_)
        | refine ⟨by first | exact s_ldp (AHeap.ins_self _ _ _) rfl s_same | exact s_ldp (ins_prev (by assumption)) rfl s_same | exact s_ldp (by assumption) rfl s_same | exact s_ldr rfl s_same, ?_⟩
        | (with_reducible first | refine s_bneq_tt u_bool ?_ | refine s_bneq_tf u_bool ?_ | refine s_bneq_ft u_bool ?_ | refine s_bneq_ff u_bool ?_ | refine s_beql_tt u_bool ?_ | refine s_beql_tf u_bool ?_ | refine s_beql_ft u_bool ?_ | refine s_beql_ff u_bool ?_)
        | simp only [nth_zero, nth_succ, Nat.zero_add, Nat.reduceAdd, List.length_map, AHeap.ins_ins]
      rotate_left
      · have : i = cn := by omega
        subst this
        exact hkk _ _ ⟨i, z, rs, cs, i', false, iN, bN, d1, d5, dO, hgt, g3, r3, g4, by omega, g6, g7, g8⟩
      refine text_f d5 g3 hl fun nm i4 b4 τ5 s1 s2 s3 d5 k4 => ?_
      have d1 := (k4 _ n15).trans d1
      have dO := (k4 _ (Ne.symm n5o)).trans dO
      have hz := hgt.other (by simp) k4
      refine one_f d5 s1 hl fun pa i5 b5 τ6 s4 s4' s5 d5 k5 => ?_
      have d1 := (k5 _ n15).trans d1
      have dO := (k5 _ (Ne.symm n5o)).trans dO
      have hz := hz.other (by simp) k5
      refine s_build (cs := [St (bs nm), I (beI pa), I 0, I 0, .nl]) rfl ?_
      refine s_new fun c hbc => ?_
      refine s_sta (AHeap.ins_self _ _ _) rfl rfl rfl ?_
      rw [AHeap.ins_ins]
      have n1c := ne_of_none d1 hbc
      have n5c := ne_of_none d5 hbc
      have nOc := ne_of_none dO hbc
      have hz := (hz.add hbc).new (y := ABlk.cells 0 [St (bs nm), I (beI pa), I 0, I 0, .nl]) hbc
      have d1 := ins_other (y := ABlk.cells 0 [St (bs nm), I (beI pa), I 0, I 0, .nl]) d1 n1c
      have d5 := ins_other (y := ABlk.cells 0 [St (bs nm), I (beI pa), I 0, I 0, .nl]) d5 n5c
      have dO := ins_other (y := ABlk.cells 0 [St (bs nm), I (beI pa), I 0, I 0, .nl]) dO nOc
      have dC := AHeap.ins_self τ6 c (ABlk.cells 0 [St (bs nm), I (beI pa), I 0, I 0, .nl])
      generalize hτ : τ6.ins c (ABlk.cells 0 [St (bs nm), I (beI pa), I 0, I 0, .nl]) = τ7 at *
      clear hτ hbc
      refine one_f d5 s4 hl fun ch i6 b6 τ8 s6 s6' s7 d5 k6 => ?_
      have d1 := (k6 _ n15).trans d1
      have dO := (k6 _ (Ne.symm n5o)).trans dO
      have dC := (k6 _ (Ne.symm n5c)).trans dC
      have hz := hz.other (by simp) k6
      have hra := beI_le1 s6'
      obtain ⟨ca, hca⟩ : ∃ ca : Nat, beI ch = ca := ⟨(beI ch).toNat, by omega⟩
      rw [hca] at s7 hra
      simp only [hca]
      refine s_mul (wrap64 (by omega)) ?_
      refine s_fap ?_
      refine s_st1 dC rfl (by simp) ?_
      have d1 := ins_other (y := ABlk.cells 0 [St (bs nm), I (beI pa), I ((ca : Int) * 256), I 0, .nl]) d1 n1c
      have d5 := ins_other (y := ABlk.cells 0 [St (bs nm), I (beI pa), I ((ca : Int) * 256), I 0, .nl]) d5 n5c
      have dO := ins_other (y := ABlk.cells 0 [St (bs nm), I (beI pa), I ((ca : Int) * 256), I 0, .nl]) dO nOc
      have dC := AHeap.ins_self τ8 c (ABlk.cells 0 [St (bs nm), I (beI pa), I ((ca : Int) * 256), I 0, .nl])
      have hz := hz.ins (y := ABlk.cells 0 [St (bs nm), I (beI pa), I ((ca : Int) * 256), I 0, .nl]) (b := c) (by simp)
      refine s_fap ?_
      refine s_ldp dC rfl ?_
      refine one_f d5 s6 hl fun cl i8 b8 τ9 s8 s8' s9 d5 k8 => ?_
      have d1 := (k8 _ n15).trans d1
      have dO := (k8 _ (Ne.symm n5o)).trans dO
      have dC := (k8 _ (Ne.symm n5c)).trans dC
      have hz := hz.other (by simp) k8
      have hrb := beI_le1 s8'
      obtain ⟨cb, hcb⟩ : ∃ cb : Nat, beI cl = cb := ⟨(beI cl).toNat, by omega⟩
      rw [hcb] at s9 hrb
      simp only [hcb]
      refine ⟨s_ldp dC rfl s_same, ?_⟩
      refine s_add (wrap64 (by omega)) ?_
      have s9 := s7.number_succ s9
      rw [accI_low _ _ (by omega) (by omega)] at s9
      have ecells : (ca : Int) * 256 + cb = ((ca * 256 + cb : Nat) : Int) := by omega
      rw [ecells]
      generalize hcc : ca * 256 + cb = cc at *
      refine s_fap ?_
      refine s_st1 dC rfl (by simp) ?_
      have d1 := ins_other (y := ABlk.cells 0 [St (bs nm), I (beI pa), I cc, I 0, .nl]) d1 n1c
      have d5 := ins_other (y := ABlk.cells 0 [St (bs nm), I (beI pa), I cc, I 0, .nl]) d5 n5c
      have dO := ins_other (y := ABlk.cells 0 [St (bs nm), I (beI pa), I cc, I 0, .nl]) dO nOc
      have dC := AHeap.ins_self τ9 c (ABlk.cells 0 [St (bs nm), I (beI pa), I cc, I 0, .nl])
      have hz := hz.ins (y := ABlk.cells 0 [St (bs nm), I (beI pa), I cc, I 0, .nl]) (b := c) (by simp)
      refine one_f d5 s8 hl fun rv i9 b9 τ10 t1 t1' t2 d5 k9 => ?_
      have d1 := (k9 _ n15).trans d1
      have dO := (k9 _ (Ne.symm n5o)).trans dO
      have dC := (k9 _ (Ne.symm n5c)).trans dC
      have hz := hz.other (by simp) k9
      refine s_fap ?_
      refine s_st1 dC rfl (by simp) ?_
      have d1 := ins_other (y := ABlk.cells 0 [St (bs nm), I (beI pa), I cc, I (beI rv), .nl]) d1 n1c
      have d5 := ins_other (y := ABlk.cells 0 [St (bs nm), I (beI pa), I cc, I (beI rv), .nl]) d5 n5c
      have dO := ins_other (y := ABlk.cells 0 [St (bs nm), I (beI pa), I cc, I (beI rv), .nl]) dO nOc
      have dC := AHeap.ins_self τ10 c (ABlk.cells 0 [St (bs nm), I (beI pa), I cc, I (beI rv), .nl])
      have hz := hz.ins (y := ABlk.cells 0 [St (bs nm), I (beI pa), I cc, I (beI rv), .nl]) (b := c) (by simp)
      refine one_f d5 t1 hl fun kh i10 b10 τ11 t3 t3' t4 d5 k10 => ?_
      have d1 := (k10 _ n15).trans d1
      have dO := (k10 _ (Ne.symm n5o)).trans dO
      have dC := (k10 _ (Ne.symm n5c)).trans dC
      have hz := hz.other (by simp) k10
      have hrc := beI_le1 t3'
      obtain ⟨ka, hka⟩ : ∃ ka : Nat, beI kh = ka := ⟨(beI kh).toNat, by omega⟩
      rw [hka] at t4 hrc
      simp only [hka]
      refine s_mul (wrap64 (by omega)) ?_
      refine one_f d5 t3 hl fun kl i11 b11 τ12 t5 t5' t6 d5 k11 => ?_
      have d1 := (k11 _ n15).trans d1
      have dO := (k11 _ (Ne.symm n5o)).trans dO
      have dC := (k11 _ (Ne.symm n5c)).trans dC
      have hz := hz.other (by simp) k11
      have hrd := beI_le1 t5'
      obtain ⟨kb, hkb⟩ : ∃ kb : Nat, beI kl = kb := ⟨(beI kl).toNat, by omega⟩
      rw [hkb] at t6 hrd
      simp only [hkb]
      refine s_add (wrap64 (by omega)) ?_
      have t6 := t4.number_succ t6
      rw [accI_low _ _ (by omega) (by omega)] at t6
      have ecells : (ka : Int) * 256 + kb = ((ka * 256 + kb : Nat) : Int) := by omega
      rw [ecells]
      have hkn : ka * 256 + kb < 65536 := by omega
      generalize hkc : ka * 256 + kb = kn at *
      -- the instructions
      refine JOIN_cut (fun _ τ => ∃ (w : AV) (ins : List Ins) (i' : Nat) (bad' : Bool), τ v1 = some (.cells 0 [St (bs []), I 0, .nl, .nl, .nl]) ∧ τ v5 = some (rdS t i' bad') ∧ τ o = some (.cells 0 [St (bs m), I pr, x, y, z]) ∧ τ c = some (.cells 0 [St (bs nm), I (beI pa), I cc, I (beI rv), w]) ∧ GT 5 [c, v1, v5, o] z rs τ ∧
        GT 5 ([c, v1, v5, o] ++ blkOf z) w (ins.map Ins.cells) τ ∧ i' ≤ t.length ∧ Rd.To (Rd.many Rd.ins kn) b11 (t.drop i11) ins bad' (t.drop i') ∧ ins.length < 65536 ∧ ∀ q ∈ ins, q.mod.length < 2 ^ 60 ∧ q.name.length < 2 ^ 60) (fun kk2 hkk2 => ?_) (fun xs τ ⟨w, ins, i12, b12, d1, d5, dO, dC, hz, hw, a1, a2, a3, a4⟩ => ?_)
      · clear hkk hR
        refine LOOP_intro (fun j => kn - j) (fun (j : Nat) ws τ => j ≤ kn ∧ nth ws 0 = I (kn - j : Nat) ∧ ∃ (w : AV) (ins : List Ins) (i' : Nat) (bad' : Bool), τ v1 = some (.cells 0 [St (bs []), I 0, .nl, .nl, .nl]) ∧ τ v5 = some (rdS t i' bad') ∧ τ o = some (.cells 0 [St (bs m), I pr, x, y, z]) ∧ τ c = some (.cells 0 [St (bs nm), I (beI pa), I cc, I (beI rv), w]) ∧ GT 5 [c, v1, v5, o] z rs τ ∧
          GT 5 ([c, v1, v5, o] ++ blkOf z) w (ins.map Ins.cells) τ ∧ i' ≤ t.length ∧ Rd.To (Rd.many Rd.ins j) b11 (t.drop i11) ins bad' (t.drop i') ∧ ins.length = j ∧ ∀ q ∈ ins, q.mod.length < 2 ^ 60 ∧ q.name.length < 2 ^ 60) (fun j ws τ R ⟨g1, g2, w, ins, ii, bad', d1, d5, dO, dC, hz, hw, g3, g4, g5, g6⟩ hR => ?_) 0 ⟨by omega, rfl, .nl, [], i11, b11, d1, d5, dO, dC, hz, .nil, t5, .ret _ _ _, rfl, by simp⟩
        simp only [g2]
        cases bad' with
        | true =>
          repeat' first
            | (with_reducible first | refine s_join ?_ | refine s_ift ?_ | refine s_iff ?_ | refine s_igtt ?_ | refine s_igtf ?_ | refine s_igft ?_ | refine s_igff ?_ | refine s_igu ?_ | refine s_pt ?_ | refine s_pf ?_ | refine s_nott ?_ | refine s_notf ?_ | refine s_not ?_ | refine s_lslm ?_ | refine s_lsl ?_ | refine s_lgl ?_ | refine s_lnl ?_ | refine s_lar ?_ | refine s_lst ?_ | refine s_ncp ?_ | refine s_ncr ?_ | refine s_ncf ?_ | refine s_fap ?_ | refine s_far ?_ | refine s_mkfn ?_ | refine s_cvc ?_ | refine s_cvi ?_ | refine s_cvb ?_ | refine s_or ?_ | refine s_and ?_ | refine s_xor ?_ | refine s_andnot ?_)
            | (with_reducible first | refine BIN_eql_b (fun h => ?_) (fun h => ?_) | refine BIN_neq_b (fun h => ?_) (fun h => ?_) | refine BIN_lss_b (fun h => ?_) (fun h => ?_) | refine BIN_leq_b (fun h => ?_) (fun h => ?_) | refine BIN_gtr_b (fun h => ?_) (fun h => ?_) | refine BIN_geq_b (fun h => ?_) (fun h => ?_) | refine BIN_seql_b (fun h => ?_) (fun h => ?_) | refine BIN_sneq_b (fun h => ?_) (fun h => ?_) | refine s_ldr rfl ?_ | refine s_tup rfl ?_ | refine s_ifb (fun h => ?_) (fun h => ?_) | refine s_shl (by decide) ?_ | refine s_shr (by decide) ?_ | refine s_add (wrap64 (by omega)) ?_ | refine s_sub (wrap64 (by omega)) ?_ | refine s_ixn (by omega) ?_ | refine s_ix0 (by omega) ?_ | refine s_iam (by omega) ?_)
            | refine s_boxag rfl rfl (fun b hb => ?_)
            | (with_reducible first | refine s_ldp (AHeap.ins_self _ _ _) rfl ?_ | refine s_ldp (ins_prev (by assumption)) rfl ?_ | refine s_ldp (by assumption) rfl ?_ | refine s_ldp (ins_old (by assumption) (by assumption)) rfl ?_ | refine s_ldp (ins_other (by assumption) (by assumption)) rfl ?_ | refine s_ldpa (ins_old (by assumption) (by assumption)) rfl ?_ | refine s_ldpa (ins_other (by assumption) (by assumption)) rfl ?_ | refine s_ldpa (by assumption) rfl ?_ | refine s_ldpa (ins_prev (by assumption)) rfl ?_ | refine s_ldpa (AHeap.ins_self _ _ _) rfl ?_ | refine s_st1 (by assumption) rfl (by simp) ?_ | refine s_st1 (AHeap.ins_self _ _ _) rfl (by simp) ?_ | refine s_st1 (ins_prev (by assumption)) rfl (by simp) ?_ | refine s_sta (by assumption) rfl rfl rfl ?_ | refine s_sta (AHeap.ins_self _ _ _) rfl rfl rfl ?_ | refine s_field1 rfl ?_ | refine s_cuts (by omega) (by omega) (by omega) ?_ | refine s_cuts_lo (by omega) (by omega) ?_ | refine s_cuts_hi (by omega) (by omega) ?_)
            | refine ⟨by first | exact s_ldp (AHeap.ins_self _ _ _) rfl s_same | exact s_ldp (ins_prev (by assumption)) rfl s_same | exact s_ldp (by assumption) rfl s_same | exact s_ldr rfl s_same, ?_⟩
            | (with_reducible first | refine s_bneq_tt u_bool ?_ | refine s_bneq_tf u_bool ?_ | refine s_bneq_ft u_bool ?_ | refine s_bneq_ff u_bool ?_ | refine s_beql_tt u_bool ?_ | refine s_beql_tf u_bool ?_ | refine s_beql_ft u_bool ?_ | refine s_beql_ff u_bool ?_)
            | simp only [nth_zero, nth_succ, Nat.zero_add, Nat.reduceAdd, List.length_map, AHeap.ins_ins]
          all_goals exact hkk2 _ _ ⟨w, ins, ii, true, d1, d5, dO, dC, hz, hw, g3, g4.many_bad g1, by omega, g6⟩
        | false =>
          repeat' first
            | (with_reducible first | refine s_join ?_ | refine s_ift ?_ | refine s_iff ?_ | refine s_igtt ?_ | refine s_igtf ?_ | refine s_igft ?_ | refine s_igff ?_ | refine s_igu ?_ | refine s_pt ?_ | refine s_pf ?_ | refine s_nott ?_ | refine s_notf ?_ | refine s_not ?_ | refine s_lslm ?_ | refine s_lsl ?_ | refine s_lgl ?_ | refine s_lnl ?_ | refine s_lar ?_ | refine s_lst ?_ | refine s_ncp ?_ | refine s_ncr ?_ | refine s_ncf ?_ | refine s_fap ?_ | refine s_far ?_ | refine s_mkfn ?_ | refine s_cvc ?_ | refine s_cvi ?_ | refine s_cvb ?_ | refine s_or ?_ | refine s_and ?_ | refine s_xor ?_ | refine s_andnot ?_)
            | (with_reducible first | refine BIN_eql_b (fun h => ?_) (fun h => ?_) | refine BIN_neq_b (fun h => ?_) (fun h => ?_) | refine BIN_lss_b (fun h => ?_) (fun h => ?_) | refine BIN_leq_b (fun h => ?_) (fun h => ?_) | refine BIN_gtr_b (fun h => ?_) (fun h => ?_) | refine BIN_geq_b (fun h => ?_) (fun h => ?_) | refine BIN_seql_b (fun h => ?_) (fun h => ?_) | refine BIN_sneq_b (fun h => ?_) (fun h => ?_) | refine s_ldr rfl ?_ | refine s_tup rfl ?_ | refine s_ifb (fun h => ?_) (fun h => ?_) | refine s_shl (by decide) ?_ | refine s_shr (by decide) ?_ | refine s_add (wrap64 (by omega)) ?_ | refine s_sub (wrap64 (by omega)) ?_ | refine s_ixn (by omega) ?_ | refine s_ix0 (by omega) ?_ | refine s_iam (by omega) ?_)
            | refine s_boxag rfl rfl (fun b hb => ?_)
            | (with_reducible first | refine s_ldp (AHeap.ins_self _ _ _) rfl ?_ | refine s_ldp (ins_prev (by assumption)) rfl ?_ | refine s_ldp (by assumption) rfl ?_ | refine s_ldp (ins_old (by assumption) (by assumption)) rfl ?_ | refine s_ldp (ins_other (by assumption) (by assumption)) rfl ?_ | refine s_ldpa (ins_old (by assumption) (by assumption)) rfl ?_ | refine s_ldpa (ins_other (by assumption) (by assumption)) rfl ?_ | refine s_ldpa (by assumption) rfl ?_ | refine s_ldpa (ins_prev (by assumption)) rfl ?_ | refine s_ldpa (AHeap.ins_self _ _ _) rfl ?_ | refine s_st1 (by assumption) rfl (by simp) ?_ | refine s_st1 (AHeap.ins_self _ _ _) rfl (by simp) ?_ | refine s_st1 (ins_prev (by assumption)) rfl (by simp) ?_ | refine s_sta (by assumption) rfl rfl rfl ?_ | refine s_sta (AHeap.ins_self _ _ _) rfl rfl rfl ?_ | refine s_field1 rfl ?_ | refine s_cuts (by omega) (by omega) (by omega) ?_ | refine s_cuts_lo (by omega) (by omega) ?_ | refine s_cuts_hi (by omega) (by omega) ?_)
            | refine ⟨by first | exact s_ldp (AHeap.ins_self _ _ _) rfl s_same | exact s_ldp (ins_prev (by assumption)) rfl s_same | exact s_ldp (by assumption) rfl s_same | exact s_ldr rfl s_same, ?_⟩
            | (with_reducible first | refine s_bneq_tt u_bool ?_ | refine s_bneq_tf u_bool ?_ | refine s_bneq_ft u_bool ?_ | refine s_bneq_ff u_bool ?_ | refine s_beql_tt u_bool ?_ | refine s_beql_tf u_bool ?_ | refine s_beql_ft u_bool ?_ | refine s_beql_ff u_bool ?_)
            | simp only [nth_zero, nth_succ, Nat.zero_add, Nat.reduceAdd, List.length_map, AHeap.ins_ins]
          rotate_left
          · have : j = kn := by omega
            subst this
            exact hkk2 _ _ ⟨w, ins, ii, false, d1, d5, dO, dC, hz, hw, g3, g4, by omega, g6⟩
          refine one_f d5 g3 hl fun opb j1 c1 τ13 p6 p6' p7 d5 m1 => ?_
          have d1 := (m1 _ n15).trans d1
          have dO := (m1 _ (Ne.symm n5o)).trans dO
          have dC := (m1 _ (Ne.symm n5c)).trans dC
          have hz := hz.other (by simp) m1
          have hw := hw.other (by simp) m1
          refine eight_f d5 p6 hl fun av j2 c2 τ14 p8 p9 d5 m2 => ?_
          have d1 := (m2 _ n15).trans d1
          have dO := (m2 _ (Ne.symm n5o)).trans dO
          have dC := (m2 _ (Ne.symm n5c)).trans dC
          have hz := hz.other (by simp) m2
          have hw := hw.other (by simp) m2
          refine s_build (cs := [I (beI opb), I av, I 0, St (bs []), St (bs [])]) rfl ?_
          refine s_new fun e hbe => ?_
          refine s_sta (AHeap.ins_self _ _ _) rfl rfl rfl ?_
          rw [AHeap.ins_ins]
          have n1e := ne_of_none d1 hbe
          have n5e := ne_of_none d5 hbe
          have nOe := ne_of_none dO hbe
          have nCe := ne_of_none dC hbe
          have hz := (hz.add hbe).new (y := ABlk.cells 0 [I (beI opb), I av, I 0, St (bs []), St (bs [])]) hbe
          have hw := (hw.add hbe).new (y := ABlk.cells 0 [I (beI opb), I av, I 0, St (bs []), St (bs [])]) hbe
          have d1 := ins_other (y := ABlk.cells 0 [I (beI opb), I av, I 0, St (bs []), St (bs [])]) d1 n1e
          have d5 := ins_other (y := ABlk.cells 0 [I (beI opb), I av, I 0, St (bs []), St (bs [])]) d5 n5e
          have dO := ins_other (y := ABlk.cells 0 [I (beI opb), I av, I 0, St (bs []), St (bs [])]) dO nOe
          have dC := ins_other (y := ABlk.cells 0 [I (beI opb), I av, I 0, St (bs []), St (bs [])]) dC nCe
          have dE := AHeap.ins_self τ14 e (ABlk.cells 0 [I (beI opb), I av, I 0, St (bs []), St (bs [])])
          generalize hτ : τ14.ins e (ABlk.cells 0 [I (beI opb), I av, I 0, St (bs []), St (bs [])]) = τ15 at *
          clear hτ hbe
          refine JOIN_cut (fun _ τ => ∃ (q : Ins) (i' : Nat) (bad' : Bool), τ v1 = some (.cells 0 [St (bs []), I 0, .nl, .nl, .nl]) ∧ τ v5 = some (rdS t i' bad') ∧ τ o = some (.cells 0 [St (bs m), I pr, x, y, z]) ∧ τ c = some (.cells 0 [St (bs nm), I (beI pa), I cc, I (beI rv), w]) ∧ τ e = some (.cells 0 q.cells) ∧
            GT 5 [e, c, v1, v5, o] z rs τ ∧ GT 5 (e :: ([c, v1, v5, o] ++ blkOf z)) w (ins.map Ins.cells) τ ∧ i' ≤ t.length ∧ Rd.To Rd.ins false (t.drop ii) q bad' (t.drop i') ∧ q.mod.length < 2 ^ 60 ∧ q.name.length < 2 ^ 60) (fun kk3 hkk3 => ?_) (fun xs τ ⟨q, j3, c3, d1, d5, dO, dC, dE, hz, hw, f1, f2, f3, f4⟩ => ?_)
          · clear hkk2 hR
            repeat' first
              | (with_reducible first | refine s_join ?_ | refine s_ift ?_ | refine s_iff ?_ | refine s_igtt ?_ | refine s_igtf ?_ | refine s_igft ?_ | refine s_igff ?_ | refine s_igu ?_ | refine s_pt ?_ | refine s_pf ?_ | refine s_nott ?_ | refine s_notf ?_ | refine s_not ?_ | refine s_lslm ?_ | refine s_lsl ?_ | refine s_lgl ?_ | refine s_lnl ?_ | refine s_lar ?_ | refine s_lst ?_ | refine s_ncp ?_ | refine s_ncr ?_ | refine s_ncf ?_ | refine s_fap ?_ | refine s_far ?_ | refine s_mkfn ?_ | refine s_cvc ?_ | refine s_cvi ?_ | refine s_cvb ?_ | refine s_or ?_ | refine s_and ?_ | refine s_xor ?_ | refine s_andnot ?_)
              | (with_reducible first | refine BIN_eql_b (fun h => ?_) (fun h => ?_) | refine BIN_neq_b (fun h => ?_) (fun h => ?_) | refine BIN_lss_b (fun h => ?_) (fun h => ?_) | refine BIN_leq_b (fun h => ?_) (fun h => ?_) | refine BIN_gtr_b (fun h => ?_) (fun h => ?_) | refine BIN_geq_b (fun h => ?_) (fun h => ?_) | refine BIN_seql_b (fun h => ?_) (fun h => ?_) | refine BIN_sneq_b (fun h => ?_) (fun h => ?_) | refine s_ldr rfl ?_ | refine s_tup rfl ?_ | refine s_ifb (fun h => ?_) (fun h => ?_) | refine s_shl (by decide) ?_ | refine s_shr (by decide) ?_ | refine s_add (wrap64 (by omega)) ?_ | refine s_sub (wrap64 (by omega)) ?_ | refine s_ixn (by omega) ?_ | refine s_ix0 (by omega) ?_ | refine s_iam (by omega) ?_)
              | refine s_boxag rfl rfl (fun b hb => ?_)
              | (with_reducible first | refine s_ldp (AHeap.ins_self _ _ _) rfl ?_ | refine s_ldp (ins_prev (by assumption)) rfl ?_ | refine s_ldp (by assumption) rfl ?_ | refine s_ldp (ins_old (by assumption) (by assumption)) rfl ?_ | refine s_ldp (ins_other (by assumption) (by assumption)) rfl ?_ | refine s_ldpa (ins_old (by assumption) (by assumption)) rfl ?_ | refine s_ldpa (ins_other (by assumption) (by assumption)) rfl ?_ | refine s_ldpa (by assumption) rfl ?_ | refine s_ldpa (ins_prev (by assumption)) rfl ?_ | refine s_ldpa (AHeap.ins_self _ _ _) rfl ?_ | refine s_st1 (by assumption) rfl (by simp) ?_ | refine s_st1 (AHeap.ins_self _ _ _) rfl (by simp) ?_ | refine s_st1 (ins_prev (by assumption)) rfl (by simp) ?_ | refine s_sta (by assumption) rfl rfl rfl ?_ | refine s_sta (AHeap.ins_self _ _ _) rfl rfl rfl ?_ | refine s_field1 rfl ?_ | refine s_cuts (by omega) (by omega) (by omega) ?_ | refine s_cuts_lo (by omega) (by omega) ?_ | refine s_cuts_hi (by omega) (by omega) ?_)
              | refine ⟨by first | exact s_ldp (AHeap.ins_self _ _ _) rfl s_same | exact s_ldp (ins_prev (by assumption)) rfl s_same | exact s_ldp (by assumption) rfl s_same | exact s_ldr rfl s_same, ?_⟩
              | (with_reducible first | refine s_bneq_tt u_bool ?_ | refine s_bneq_tf u_bool ?_ | refine s_bneq_ft u_bool ?_ | refine s_bneq_ff u_bool ?_ | refine s_beql_tt u_bool ?_ | refine s_beql_tf u_bool ?_ | refine s_beql_ft u_bool ?_ | refine s_beql_ff u_bool ?_)
              | simp only [nth_zero, nth_succ, Nat.zero_add, Nat.reduceAdd, List.length_map, AHeap.ins_ins]
            rotate_right
            · refine hkk3 _ _ ⟨⟨beI opb, av, 0, [], []⟩, j2, c2, d1, d5, dO, dC, dE, hz, hw, p8, ?_, by simp, by simp⟩
              refine p7.then (p9.then ?_)
              rw [if_neg (by simp only [placedM, Bool.or_eq_true, decide_eq_true_eq]; omega)]
              exact .ret _ _ _
            all_goals
              have hpl : placedM (beI opb) = true := by simp only [placedM, Bool.or_eq_true, decide_eq_true_eq]; omega
              refine one_f d5 p8 hl fun bb j4 c4 τ16 f1 f1' f2 d5 m3 => ?_
              have d1 := (m3 _ n15).trans d1
              have dO := (m3 _ (Ne.symm n5o)).trans dO
              have dC := (m3 _ (Ne.symm n5c)).trans dC
              have dE := (m3 _ (Ne.symm n5e)).trans dE
              have hz := hz.other (by simp) m3
              have hw := hw.other (by simp) m3
              refine s_fap ?_
              refine s_st1 dE rfl (by simp) ?_
              have d1 := ins_other (y := ABlk.cells 0 [I (beI opb), I av, I (beI bb), St (bs []), St (bs [])]) d1 n1e
              have d5 := ins_other (y := ABlk.cells 0 [I (beI opb), I av, I (beI bb), St (bs []), St (bs [])]) d5 n5e
              have dO := ins_other (y := ABlk.cells 0 [I (beI opb), I av, I (beI bb), St (bs []), St (bs [])]) dO nOe
              have dC := ins_other (y := ABlk.cells 0 [I (beI opb), I av, I (beI bb), St (bs []), St (bs [])]) dC nCe
              have dE := AHeap.ins_self τ16 e (ABlk.cells 0 [I (beI opb), I av, I (beI bb), St (bs []), St (bs [])])
              have hz := hz.ins (y := ABlk.cells 0 [I (beI opb), I av, I (beI bb), St (bs []), St (bs [])]) (b := e) (by simp)
              have hw := hw.ins (y := ABlk.cells 0 [I (beI opb), I av, I (beI bb), St (bs []), St (bs [])]) (b := e) (by simp)
              refine text_f d5 f1 hl fun md j5 c5 τ17 f3 f3' f4 d5 m4 => ?_
              have d1 := (m4 _ n15).trans d1
              have dO := (m4 _ (Ne.symm n5o)).trans dO
              have dC := (m4 _ (Ne.symm n5c)).trans dC
              have dE := (m4 _ (Ne.symm n5e)).trans dE
              have hz := hz.other (by simp) m4
              have hw := hw.other (by simp) m4
              refine s_fap ?_
              refine s_st1 dE rfl (by simp) ?_
              have d1 := ins_other (y := ABlk.cells 0 [I (beI opb), I av, I (beI bb), St (bs md), St (bs [])]) d1 n1e
              have d5 := ins_other (y := ABlk.cells 0 [I (beI opb), I av, I (beI bb), St (bs md), St (bs [])]) d5 n5e
              have dO := ins_other (y := ABlk.cells 0 [I (beI opb), I av, I (beI bb), St (bs md), St (bs [])]) dO nOe
              have dC := ins_other (y := ABlk.cells 0 [I (beI opb), I av, I (beI bb), St (bs md), St (bs [])]) dC nCe
              have dE := AHeap.ins_self τ17 e (ABlk.cells 0 [I (beI opb), I av, I (beI bb), St (bs md), St (bs [])])
              have hz := hz.ins (y := ABlk.cells 0 [I (beI opb), I av, I (beI bb), St (bs md), St (bs [])]) (b := e) (by simp)
              have hw := hw.ins (y := ABlk.cells 0 [I (beI opb), I av, I (beI bb), St (bs md), St (bs [])]) (b := e) (by simp)
              refine text_f d5 f3 hl fun ne j6 c6 τ18 f5 f5' f6 d5 m5 => ?_
              have d1 := (m5 _ n15).trans d1
              have dO := (m5 _ (Ne.symm n5o)).trans dO
              have dC := (m5 _ (Ne.symm n5c)).trans dC
              have dE := (m5 _ (Ne.symm n5e)).trans dE
              have hz := hz.other (by simp) m5
              have hw := hw.other (by simp) m5
              refine s_fap ?_
              refine s_st1 dE rfl (by simp) ?_
              have d1 := ins_other (y := ABlk.cells 0 [I (beI opb), I av, I (beI bb), St (bs md), St (bs ne)]) d1 n1e
              have d5 := ins_other (y := ABlk.cells 0 [I (beI opb), I av, I (beI bb), St (bs md), St (bs ne)]) d5 n5e
              have dO := ins_other (y := ABlk.cells 0 [I (beI opb), I av, I (beI bb), St (bs md), St (bs ne)]) dO nOe
              have dC := ins_other (y := ABlk.cells 0 [I (beI opb), I av, I (beI bb), St (bs md), St (bs ne)]) dC nCe
              have dE := AHeap.ins_self τ18 e (ABlk.cells 0 [I (beI opb), I av, I (beI bb), St (bs md), St (bs ne)])
              have hz := hz.ins (y := ABlk.cells 0 [I (beI opb), I av, I (beI bb), St (bs md), St (bs ne)]) (b := e) (by simp)
              have hw := hw.ins (y := ABlk.cells 0 [I (beI opb), I av, I (beI bb), St (bs md), St (bs ne)]) (b := e) (by simp)
              refine hkk3 _ _ ⟨⟨beI opb, av, beI bb, md, ne⟩, j6, c6, d1, d5, dO, dC, dE, hz, hw, f5, ?_, by simp only; omega, by simp only; omega⟩
              refine p7.then (p9.then ?_)
              rw [if_pos hpl]
              exact f2.then (f4.then (f6.then (.ret _ _ _)))
          refine s_fap ?_
          refine s_ldp dC rfl ?_
          refine s_ldpa dE rfl ?_
          refine s_lit rfl fun b6 hb6 => ?_
          have hz := hz.new (y := ABlk.cells ((([q.cells] : List (List AV)).length) * 5) []) hb6
          refine (hw.new hb6).appl (fun p hp => by
            simp only [List.mem_cons, List.mem_append, List.not_mem_nil, or_false] at hp
            rcases hp with rfl | (rfl | rfl | rfl | rfl) | hp
            · rw [ins_old dE hb6]; simp
            · rw [ins_old dC hb6]; simp
            · rw [ins_old d1 hb6]; simp
            · rw [ins_old d5 hb6]; simp
            · rw [ins_old dO hb6]; simp
            · exact hz.some p hp) (by omega) (by simp; omega) (by simp; omega) fun w' τ19 hw7 k7 => ?_
          have d1 := (k7 v1 (by simp)).trans (ins_old d1 hb6)
          have d5 := (k7 v5 (by simp)).trans (ins_old d5 hb6)
          have dO := (k7 o (by simp)).trans (ins_old dO hb6)
          have dC := (k7 c (by simp)).trans (ins_old dC hb6)
          have hz := hz.same (fun p hp => k7 p (by simp [hp]))
          refine s_fap ?_
          refine s_st1 dC hw7.cell1 (by simp) ?_
          refine s_sub (wrap64 (by omega)) ?_
          have ecast : ((kn - j : Nat) : Int) - 1 = ((kn - (j + 1) : Nat) : Int) := by omega
          refine hR (j + 1) _ _ (by omega) ⟨by omega, by rw [← ecast]; rfl, w', ins ++ [q], j3, c3, ins_other d1 n1c, ins_other d5 n5c, ins_other dO nOc, AHeap.ins_self _ _ _, (hz.ins (by simp)).sub (by simp), ?_, f1, g4.snoc f2, by simp [g5], ?_⟩
          · rw [List.map_append]
            exact (hw7.ins (by simp)).sub (fun p hp => List.mem_cons_of_mem _ hp)
          · intro y hy
            simp only [List.mem_append, List.mem_singleton] at hy
            rcases hy with hy | rfl
            · exact g6 y hy
            · exact ⟨f3, f4⟩
      have hw1 := hw.cell1
      refine s_fap ?_
      refine s_ldp dO rfl ?_
      refine s_ldpa dC rfl ?_
      refine s_lit (lit_ag rfl (by simp [hw1])) fun b13 hb13 => ?_
      refine (hz.new hb13).appl (fun p hp => by
        simp only [List.mem_cons, List.not_mem_nil, or_false] at hp
        rcases hp with rfl | rfl | rfl | rfl
        · rw [ins_old dC hb13]; simp
        · rw [ins_old d1 hb13]; simp
        · rw [ins_old d5 hb13]; simp
        · rw [ins_old dO hb13]; simp) (by omega) (by omega) (by omega) fun z' τ20 hz7 k7 => ?_
      have d1 := (k7 v1 (by simp)).trans (ins_old d1 hb13)
      have d5 := (k7 v5 (by simp)).trans (ins_old d5 hb13)
      have dO := (k7 o (by simp)).trans (ins_old dO hb13)
      refine s_fap ?_
      refine s_st1 dO hz7.cell1 (by simp) ?_
      refine s_sub (wrap64 (by omega)) ?_
      have ecast : ((cn - i : Nat) : Int) - 1 = ((cn - (i + 1) : Nat) : Int) := by omega
      refine hR (i + 1) _ _ (by omega) ⟨by omega, by rw [← ecast]; rfl, z', rs ++ [[St (bs nm), I (beI pa), I cc, I (beI rv), w]], cs ++ [⟨nm, beI pa, cc, beI rv, ins⟩], i12, b12, ins_other d1 n1o, ins_other d5 n5o, AHeap.ins_self _ _ _, (hz7.ins (by simp)).sub (fun p hp => List.mem_cons_of_mem _ hp), a1, ?_, by simp [g5], by simp [g6], ?_, ?_⟩
      · refine g4.snoc (s3.then (s5.then (s9.then (t2.then (t6.then ?_)))))
        rw [Int.toNat_natCast]
        exact a2.then (.ret _ _ _)
      · intro k h1 h2
        simp only [List.length_append, List.length_singleton] at h1 h2
        by_cases hk : k < rs.length
        · rw [List.getElem_append_left hk, List.getElem_append_left (by omega)]
          exact g7 k hk (by omega)
        · have e1 : k = rs.length := by omega
          subst e1
          rw [List.getElem_append_right (Nat.le_refl _), List.getElem_append_right (by omega)]
          simp only [Nat.sub_self, g6, List.getElem_singleton]
          exact ⟨w, rfl, hw1, fun τ' => hw.viewm (fun _ => rfl) (fun _ => rfl)⟩
      · intro q hq
        simp only [List.mem_append, List.mem_singleton] at hq
        rcases hq with hq | rfl
        · exact g8 q hq
        · exact ⟨show nm.length < 2 ^ 60 by omega, show ins.length < 2 ^ 60 by omega, a4⟩
  have hz1 := hgt.cell1
  obtain ⟨O, hO⟩ : ∃ O : Object, O = ⟨m, pr, ns, gs, cs⟩ := ⟨_, rfl⟩
  have hview : ∀ τ', View τ' (.ag [St (bs m), I pr, x, y, z]) (.ag O.cells) := fun τ' => by
    have hc : View τ' z (.sl 5 (cs.map Code.av)) := crow_view hgt w5 w6
    have hv : View τ' (.ag [St (bs m), I pr, x, y, z]) (.ag (Object.mk m pr ns gs cs).cells) := obj_view (o := Object.mk m pr ns gs cs) (hxv τ') (hyv τ') hc
    rw [hO]
    exact hv
  have hfine : O.Fine := by
    subst hO
    exact ⟨show m.length < 2 ^ 60 by omega, show ns.length < 2 ^ 60 by omega, show gs.length < 2 ^ 60 by omega, show cs.length < 2 ^ 60 by omega, q5, u5, w7⟩
  have hto : Rd.To Rd.object false (t.drop 3) O b7 (t.drop i7) := by
    subst hO
    refine p3.then (p5.then (q2.then ?_))
    rw [Int.toNat_natCast]
    refine q3.then (u2.then ?_)
    rw [Int.toNat_natCast]
    refine u3.then (w2.then ?_)
    rw [Int.toNat_natCast]
    exact w3.then (.ret _ _ _)
  refine s_ldpa dO rfl ?_
  have hcells : ([St (bs m), I pr, x, y, z] : List AV).all AV.cell1 = true := by simp [hx1, hy1, hz1]
  have hend : ∀ (ok : Bool) (τ' : AHeap), τ' v1 = some (.cells 0 [St (bs []), I 0, .nl, .nl, .nl]) → (ok = true → readM t = some O ∧ objectM O = true) → (ok = false → ∀ o', readM t = some o' → objectM o' = false) →
      STORE 5 (.pt v1 0) (.ag [St (bs m), I pr, x, y, z]) τ' fun u380 s381 => LOAD (.agg 5) (.pt v1 0) s381 fun r382 s383 => Fin (fun r τ => τ = .emp ∧ ∃ (o : Object) (ok : Bool), r = .tu [.ag o.cells, Bo ok] ∧ (ok = true → readM t = some o ∧ objectM o = true) ∧ (ok = false → ∀ o', readM t = some o' → objectM o' = false)) (.tu [r382, Bo ok]) s383 := fun ok τ' d1 h1 h2 => by
    refine s_sta d1 rfl rfl hcells ?_
    refine s_ldpa (AHeap.ins_self _ _ _) rfl ?_
    exact Fin.view (pair_view (hview _)) ⟨rfl, O, ok, rfl, h1, h2⟩
  cases b7 with
  | true =>
    have hnone : Rd.object (t.drop 3) = none := (hto.2 rfl).resolve_left (by simp)
    repeat' first
      | (with_reducible first | refine s_join ?_ | refine s_ift ?_ | refine s_iff ?_ | refine s_igtt ?_ | refine s_igtf ?_ | refine s_igft ?_ | refine s_igff ?_ | refine s_igu ?_ | refine s_pt ?_ | refine s_pf ?_ | refine s_nott ?_ | refine s_notf ?_ | refine s_not ?_ | refine s_lslm ?_ | refine s_lsl ?_ | refine s_lgl ?_ | refine s_lnl ?_ | refine s_lar ?_ | refine s_lst ?_ | refine s_ncp ?_ | refine s_ncr ?_ | refine s_ncf ?_ | refine s_fap ?_ | refine s_far ?_ | refine s_mkfn ?_ | refine s_cvc ?_ | refine s_cvi ?_ | refine s_cvb ?_ | refine s_or ?_ | refine s_and ?_ | refine s_xor ?_ | refine s_andnot ?_)
      | (with_reducible first | refine BIN_eql_b (fun h => ?_) (fun h => ?_) | refine BIN_neq_b (fun h => ?_) (fun h => ?_) | refine BIN_lss_b (fun h => ?_) (fun h => ?_) | refine BIN_leq_b (fun h => ?_) (fun h => ?_) | refine BIN_gtr_b (fun h => ?_) (fun h => ?_) | refine BIN_geq_b (fun h => ?_) (fun h => ?_) | refine BIN_seql_b (fun h => ?_) (fun h => ?_) | refine BIN_sneq_b (fun h => ?_) (fun h => ?_) | refine s_ldr rfl ?_ | refine s_tup rfl ?_ | refine s_ifb (fun h => ?_) (fun h => ?_) | refine s_shl (by decide) ?_ | refine s_shr (by decide) ?_ | refine s_add (wrap64 (by omega)) ?_ | refine s_sub (wrap64 (by omega)) ?_ | refine s_ixn (by omega) ?_ | refine s_ix0 (by omega) ?_ | refine s_iam (by omega) ?_)
      | refine s_boxag rfl rfl (fun b hb => ?_)
      | (with_reducible first | refine s_ldp (AHeap.ins_self _ _ _) rfl ?_ | refine s_ldp (ins_prev (by assumption)) rfl ?_ | refine s_ldp (by assumption) rfl ?_ | refine s_ldp (ins_old (by assumption) (by assumption)) rfl ?_ | refine s_ldp (ins_other (by assumption) (by assumption)) rfl ?_ | refine s_ldpa (ins_old (by assumption) (by assumption)) rfl ?_ | refine s_ldpa (ins_other (by assumption) (by assumption)) rfl ?_ | refine s_ldpa (by assumption) rfl ?_ | refine s_ldpa (ins_prev (by assumption)) rfl ?_ | refine s_ldpa (AHeap.ins_self _ _ _) rfl ?_ | refine s_st1 (by assumption) rfl (by simp) ?_ | refine s_st1 (AHeap.ins_self _ _ _) rfl (by simp) ?_ | refine s_st1 (ins_prev (by assumption)) rfl (by simp) ?_ | refine s_sta (by assumption) rfl rfl rfl ?_ | refine s_sta (AHeap.ins_self _ _ _) rfl rfl rfl ?_ | refine s_field1 rfl ?_ | refine s_cuts (by omega) (by omega) (by omega) ?_ | refine s_cuts_lo (by omega) (by omega) ?_ | refine s_cuts_hi (by omega) (by omega) ?_)
      | refine ⟨by first | exact s_ldp (AHeap.ins_self _ _ _) rfl s_same | exact s_ldp (ins_prev (by assumption)) rfl s_same | exact s_ldp (by assumption) rfl s_same | exact s_ldr rfl s_same, ?_⟩
      | (with_reducible first | refine s_bneq_tt u_bool ?_ | refine s_bneq_tf u_bool ?_ | refine s_bneq_ft u_bool ?_ | refine s_bneq_ff u_bool ?_ | refine s_beql_tt u_bool ?_ | refine s_beql_tf u_bool ?_ | refine s_beql_ft u_bool ?_ | refine s_beql_ff u_bool ?_)
      | simp only [nth_zero, nth_succ, Nat.zero_add, Nat.reduceAdd, List.length_map, AHeap.ins_ins]
    refine ⟨s_ldpa dO rfl s_same, ?_⟩
    refine hend false _ d1 (by simp) fun _ o' ho' => ?_
    simp [readM, hnone] at ho'
  | false =>
    have hsome := (hto.1 rfl).2
    repeat' first
      | (with_reducible first | refine s_join ?_ | refine s_ift ?_ | refine s_iff ?_ | refine s_igtt ?_ | refine s_igtf ?_ | refine s_igft ?_ | refine s_igff ?_ | refine s_igu ?_ | refine s_pt ?_ | refine s_pf ?_ | refine s_nott ?_ | refine s_notf ?_ | refine s_not ?_ | refine s_lslm ?_ | refine s_lsl ?_ | refine s_lgl ?_ | refine s_lnl ?_ | refine s_lar ?_ | refine s_lst ?_ | refine s_ncp ?_ | refine s_ncr ?_ | refine s_ncf ?_ | refine s_fap ?_ | refine s_far ?_ | refine s_mkfn ?_ | refine s_cvc ?_ | refine s_cvi ?_ | refine s_cvb ?_ | refine s_or ?_ | refine s_and ?_ | refine s_xor ?_ | refine s_andnot ?_)
      | (with_reducible first | refine BIN_eql_b (fun h => ?_) (fun h => ?_) | refine BIN_neq_b (fun h => ?_) (fun h => ?_) | refine BIN_lss_b (fun h => ?_) (fun h => ?_) | refine BIN_leq_b (fun h => ?_) (fun h => ?_) | refine BIN_gtr_b (fun h => ?_) (fun h => ?_) | refine BIN_geq_b (fun h => ?_) (fun h => ?_) | refine BIN_seql_b (fun h => ?_) (fun h => ?_) | refine BIN_sneq_b (fun h => ?_) (fun h => ?_) | refine s_ldr rfl ?_ | refine s_tup rfl ?_ | refine s_ifb (fun h => ?_) (fun h => ?_) | refine s_shl (by decide) ?_ | refine s_shr (by decide) ?_ | refine s_add (wrap64 (by omega)) ?_ | refine s_sub (wrap64 (by omega)) ?_ | refine s_ixn (by omega) ?_ | refine s_ix0 (by omega) ?_ | refine s_iam (by omega) ?_)
      | refine s_boxag rfl rfl (fun b hb => ?_)
      | (with_reducible first | refine s_ldp (AHeap.ins_self _ _ _) rfl ?_ | refine s_ldp (ins_prev (by assumption)) rfl ?_ | refine s_ldp (by assumption) rfl ?_ | refine s_ldp (ins_old (by assumption) (by assumption)) rfl ?_ | refine s_ldp (ins_other (by assumption) (by assumption)) rfl ?_ | refine s_ldpa (ins_old (by assumption) (by assumption)) rfl ?_ | refine s_ldpa (ins_other (by assumption) (by assumption)) rfl ?_ | refine s_ldpa (by assumption) rfl ?_ | refine s_ldpa (ins_prev (by assumption)) rfl ?_ | refine s_ldpa (AHeap.ins_self _ _ _) rfl ?_ | refine s_st1 (by assumption) rfl (by simp) ?_ | refine s_st1 (AHeap.ins_self _ _ _) rfl (by simp) ?_ | refine s_st1 (ins_prev (by assumption)) rfl (by simp) ?_ | refine s_sta (by assumption) rfl rfl rfl ?_ | refine s_sta (AHeap.ins_self _ _ _) rfl rfl rfl ?_ | refine s_field1 rfl ?_ | refine s_cuts (by omega) (by omega) (by omega) ?_ | refine s_cuts_lo (by omega) (by omega) ?_ | refine s_cuts_hi (by omega) (by omega) ?_)
      | refine ⟨by first | exact s_ldp (AHeap.ins_self _ _ _) rfl s_same | exact s_ldp (ins_prev (by assumption)) rfl s_same | exact s_ldp (by assumption) rfl s_same | exact s_ldr rfl s_same, ?_⟩
      | (with_reducible first | refine s_bneq_tt u_bool ?_ | refine s_bneq_tf u_bool ?_ | refine s_bneq_ft u_bool ?_ | refine s_bneq_ff u_bool ?_ | refine s_beql_tt u_bool ?_ | refine s_beql_tf u_bool ?_ | refine s_beql_ft u_bool ?_ | refine s_beql_ff u_bool ?_)
      | simp only [nth_zero, nth_succ, Nat.zero_add, Nat.reduceAdd, List.length_map, AHeap.ins_ins]
    · have hi : i7 = t.length := by omega
      have hdrop : t.drop i7 = [] := by rw [hi, List.drop_length]
      rw [hdrop] at hsome
      have hr : readM t = some O := by simp [readM, hsome, h3, h4]
      refine (spec_ObjectOK_c O hfine).borrow (.cons (hview _) .nil) (.sc _) ?_
      refine ⟨s_ldpa dO rfl s_same, ?_⟩
      cases hob : objectM O with
      | true =>
        refine s_pt ?_
        exact hend true _ d1 (fun _ => ⟨hr, hob⟩) (by simp)
      | false =>
        refine s_pt ?_
        exact hend false _ d1 (by simp) (fun _ o' ho' => by rw [hr] at ho'; simp at ho'; rw [← ho']; exact hob)
    · refine ⟨s_ldpa dO rfl s_same, ?_⟩
      refine s_pf ?_
      refine hend false _ d1 (by simp) fun _ o' ho' => ?_
      have hi : i7 < t.length := by omega
      obtain ⟨ch, rr, hcr⟩ : ∃ ch rr, t.drop i7 = ch :: rr := by
        cases hd : t.drop i7 with
        | nil => have := congrArg List.length hd; simp at this; omega
        | cons c r => exact ⟨c, r, rfl⟩
      rw [hcr] at hsome
      simp [readM, hsome] at ho')

end Go.Al
