/- Contracts: the program reads a code; its list lies in a row of its own. -/
import Derived.Test.YtpooknfdodimdaaGreatDoorSp21
set_option linter.unusedVariables false
set_option linter.unusedSimpArgs false
set_option maxRecDepth 100000
set_option maxHeartbeats 4000000
namespace Go.Al
variable {G : Seal} {σ : AHeap} {K : KAV}

/-- an owned row that grows: it lies neither in F's blocks nor in these -/
def OT {α : Type} (n : Nat) (E : AHeap → List AV → α → Prop) (F : AHeap) (ps : List Nat) (v : AV) (l : List α) (τ : AHeap) : Prop :=
  ∃ H, ORow n E H v l ∧ (∀ p, (F p ≠ none ∨ p ∈ ps) → H p = none) ∧ H.le τ
section
variable {α : Type} {n : Nat} {E : AHeap → List AV → α → Prop} {F : AHeap} {ps : List Nat} {v : AV} {l : List α} {τ τ' : AHeap}
theorem OT.nil : OT n E F ps .nl [] τ := ⟨.emp, .nl, fun _ _ => rfl, AHeap.emp_le _⟩
theorem OT.keep (h : OT n E F ps v l τ) (hk : ∀ p, F p = none → p ∉ ps → τ p ≠ none → τ' p = τ p) : OT n E F ps v l τ' := by
  obtain ⟨H, h1, h2, h3⟩ := h
  refine ⟨H, h1, h2, fun p x hx => ?_⟩
  have hn : ¬ (F p ≠ none ∨ p ∈ ps) := fun e => by rw [h2 p e] at hx; simp at hx
  simp only [not_or, Decidable.not_not] at hn
  rw [hk p hn.1 hn.2 (by rw [h3 _ _ hx]; simp)]; exact h3 _ _ hx
theorem OT.other {b : Nat} (h : OT n E F ps v l τ) (hb : F b ≠ none ∨ b ∈ ps) (hk : ∀ c, c ≠ b → τ' c = τ c) : OT n E F ps v l τ' :=
  h.keep fun p h1 h2 _ => hk p fun e => by subst e; exact hb.elim (fun e => e h1) h2
theorem OT.ins {b : Nat} {y : ABlk} (h : OT n E F ps v l τ) (hb : b ∈ ps) : OT n E F ps v l (τ.ins b y) := h.other (.inr hb) fun c hc => AHeap.ins_ne _ _ hc
theorem OT.insF {b : Nat} {y : ABlk} (h : OT n E F ps v l τ) (hb : F b ≠ none) : OT n E F ps v l (τ.ins b y) := h.other (.inl hb) fun c hc => AHeap.ins_ne _ _ hc
theorem OT.new {b : Nat} {y : ABlk} (h : OT n E F ps v l τ) (hb : τ b = none) : OT n E F ps v l (τ.ins b y) :=
  h.keep fun p _ _ hp => AHeap.ins_ne _ _ fun e => hp (e ▸ hb)
theorem OT.add {c : Nat} (h : OT n E F ps v l τ) (hc : τ c = none) : OT n E F (c :: ps) v l τ := by
  obtain ⟨H, h1, h2, h3⟩ := h
  refine ⟨H, h1, fun p hp => ?_, h3⟩
  rcases hp with hp | hp
  · exact h2 p (.inl hp)
  · rcases List.mem_cons.1 hp with rfl | hp
    · exact h3.nn hc
    · exact h2 p (.inr hp)
theorem OT.sub {qs : List Nat} (h : OT n E F ps v l τ) (hs : ∀ p, p ∈ qs → p ∈ ps) : OT n E F qs v l τ := by
  obtain ⟨H, h1, h2, h3⟩ := h; exact ⟨H, h1, fun p hp => h2 p (hp.imp id (hs p)), h3⟩
theorem OT.cell1 (h : OT n E F ps v l τ) : v.cell1 = true := by obtain ⟨H, h1, _⟩ := h; exact h1.none_or

open Classical in
theorem OT.appo {bytes b : Nat} {a : α} {r : List AV} {He : AHeap} (h : ∃ H, ORow n E H v l ∧ (∀ p, (F p ≠ none ∨ p ∈ ps ∨ He p ≠ none) → H p = none) ∧ H.le τ) (he : E He r a) (hle : He.le τ) (hHe : ∀ p, (F p ≠ none ∨ p ∈ ps) → He p = none) (hS : ∀ p, (F p ≠ none ∨ p ∈ ps) → τ p ≠ none)
    (hrn : r.length = n) (hn : 0 < n) (hb : (l.length + 1) * bytes ≤ 70368744177664) (hl : l.length + 1 ≤ 70368744177664)
    (hk : ∀ v' τ', OT n E F ps v' (l ++ [a]) τ' → (∀ p, (F p ≠ none ∨ p ∈ ps) → τ' p = τ p) → K v' τ') : APPL true n bytes v (.gl b n [r]) τ K := by
  obtain ⟨H, h1, h2, h3⟩ := h
  have : srcH n (.gl b n [r]) τ = some [r] := by simp [srcH, srcA]
  rw [APPL, this]
  let F0 : AHeap := fun p => if F p ≠ none ∨ p ∈ ps then τ p else none
  have f1 : ∀ p, (F p ≠ none ∨ p ∈ ps) → F0 p = τ p := fun p hp => if_pos hp
  have f2 : ∀ p, ¬ (F p ≠ none ∨ p ∈ ps) → F0 p = none := fun p hp => if_neg hp
  have hd1 : Dis F0 H := fun p => by
    by_cases hp : F p ≠ none ∨ p ∈ ps
    · exact .inr (h2 p (hp.elim .inl fun h => .inr (.inl h)))
    · exact .inl (f2 p hp)
  have hd2 : Dis F0 He := fun p => by
    by_cases hp : F p ≠ none ∨ p ∈ ps
    · exact .inr (hHe p hp)
    · exact .inl (f2 p hp)
  have hd3 : Dis H He := fun p => by
    by_cases hp : He p = none
    · exact .inr hp
    · exact .inl (h2 p (.inr (.inr hp)))
  have hle0 : F0.le τ := fun p x hx => by
    by_cases hp : F p ≠ none ∨ p ∈ ps
    · rwa [f1 p hp] at hx
    · rw [f2 p hp] at hx; simp at hx
  refine h1.app (F := F0) (He := He) (l' := [a]) (OList.one he) (by simpa using hrn) (by simp) hd1 hd2 hd3 hle0 h3 hle hn (by simpa using hb) (by simpa using hl) fun v' H' σ' a1 a2 a3 => hk _ _ ⟨H', a1, fun p hp => ?_, (AHeap.le_un_right a2).trans a3⟩ fun p hp => ?_
  · exact (a2 p).resolve_left (by rw [f1 p hp]; exact hS p hp)
  · cases hx : τ p with
    | none => exact absurd hx (hS p hp)
    | some x => exact a3 _ _ (AHeap.le_un_left _ _ _ _ (by rw [f1 p hp, hx]))
theorem OT.appl {bytes b : Nat} {f : α → List AV} {a : α} (h : OT n (EFlat f) F ps v l τ) (hS : ∀ p, (F p ≠ none ∨ p ∈ ps) → τ p ≠ none)
    (hrn : (f a).length = n) (hn : 0 < n) (hb : (l.length + 1) * bytes ≤ 70368744177664) (hl : l.length + 1 ≤ 70368744177664)
    (hk : ∀ v' τ', OT n (EFlat f) F ps v' (l ++ [a]) τ' → (∀ p, (F p ≠ none ∨ p ∈ ps) → τ' p = τ p) → K v' τ') : APPL true n bytes v (.gl b n [f a]) τ K := by
  obtain ⟨H, h1, h2, h3⟩ := h
  exact OT.appo (He := .emp) (E := EFlat f) ⟨H, h1, fun p hp => h2 p (by rcases hp with hp | hp | hp; exact .inl hp; exact .inr hp; exact absurd rfl hp), h3⟩ ⟨rfl, rfl⟩ (AHeap.emp_le _) (fun _ _ => rfl) hS hrn hn hb hl hk
end

/-- nothing of σ is changed but b -/
def Kp (σ τ : AHeap) (b : Nat) : Prop := ∀ p, p ≠ b → σ p ≠ none → τ p = σ p
section
variable {τ τ' : AHeap} {b c : Nat} {y z : ABlk}
theorem Kp.refl : Kp σ σ b := fun _ _ _ => rfl
theorem Kp.step (h : Kp σ τ b) (hk : ∀ c, c ≠ b → τ' c = τ c) : Kp σ τ' b := fun p h1 h2 => (hk p h1).trans (h p h1 h2)
theorem Kp.new (h : Kp σ τ b) (hc : σ c = none) : Kp σ (τ.ins c y) b := fun p h1 h2 => by
  have e : p ≠ c := by rintro rfl; exact h2 hc
  rw [AHeap.ins_ne _ _ e]; exact h p h1 h2
theorem Kp.fresh (h : Kp σ τ b) (hb : τ b = some z) (hc : τ c = none) : σ c = none := by
  by_cases e : c = b
  · subst e; rw [hb] at hc; simp at hc
  · cases hx : σ c with
    | none => rfl
    | some x => have := h c e (by simp [hx]); rw [hc, hx] at this; simp at this
theorem Kp.nn (h : Kp σ τ b) (hb : τ b = some z) {p : Nat} (hp : σ p ≠ none) : τ p ≠ none := by
  by_cases e : p = b
  · subst e; simp [hb]
  · rw [h p e hp]; exact hp
theorem Kp.app (h : Kp σ τ b) (hk : ∀ p, σ p ≠ none → τ' p = τ p) : Kp σ τ' b := fun p h1 h2 => (hk p h2).trans (h p h1 h2)
end

section
variable {b i : Nat} {t : List UInt8} {bad : Bool}
theorem rn_f {n : Nat} (hb : σ b = some (rdI t i bad)) (hi : i ≤ t.length) (hl : t.length < 2 ^ 60) (hn : n < 2 ^ 60)
    (hk : ∀ v i' bad' τ, i' ≤ t.length → v.length ≤ n → Rd.To (Rd.number n) bad (t.drop i) (beI v) bad' (t.drop i') → τ b = some (rdI t i' bad') → (∀ c, c ≠ b → τ c = σ c) → K (I (beI v)) τ) : ACalls PP G N.impl_reader_number [.pt b 0, I n] σ K :=
  impl_reader_number_c hb hi hl hn fun v i' bad' h1 h2 h3 => hk v i' bad' _ h1 h2 h3 (AHeap.ins_self _ _ _) fun c hc => AHeap.ins_ne _ _ hc
theorem rt_f (hb : σ b = some (rdI t i bad)) (hi : i ≤ t.length) (hl : t.length < 2 ^ 60)
    (hk : ∀ v i' bad' τ, i' ≤ t.length → v.length < 256 → Rd.To Rd.text bad (t.drop i) v bad' (t.drop i') → τ b = some (rdI t i' bad') → (∀ c, c ≠ b → τ c = σ c) → K (St (bs v)) τ) : ACalls PP G N.impl_reader_text [.pt b 0] σ K :=
  impl_reader_text_c hb hi hl fun v i' bad' h1 h2 h3 => hk v i' bad' _ h1 h2 h3 (AHeap.ins_self _ _ _) fun c hc => AHeap.ins_ne _ _ hc
end

/-- a code whose list lies in a row of its own -/
def OCode (H : AHeap) (r : List AV) (c : Code) : Prop := ∃ vl, r = [St (bs c.name), I c.params, I c.cells, I c.result, vl] ∧ ORow 5 (EFlat Ins.cells) H vl c.list
theorem Ins.eview : EView 5 (EFlat Ins.cells) Ins.cells := EFlat.view (fun _ => rfl) (fun _ => rfl)
theorem OCode.view : EView 5 OCode Code.av := fun H r a ⟨vl, h1, h2⟩ => by
  subst h1
  refine ⟨rfl, rfl, rfl, fun j hj => ?_⟩
  match j, hj with
  | 0, _ => exact .refl _
  | 1, _ => exact .refl _
  | 2, _ => exact .refl _
  | 3, _ => exact .refl _
  | 4, _ => exact h2.view Ins.eview

theorem impl_reader_code_c {b i : Nat} {t : List UInt8} {bad : Bool} (hb : σ b = some (rdI t i bad)) (hi : i ≤ t.length) (hl : t.length < 2 ^ 60)
    (hk : ∀ r c He i' bad', i' ≤ t.length → c.Fine → Rd.To Rd.code bad (t.drop i) c bad' (t.drop i') → OCode He r c → Dis σ He → K (.ag r) ((σ.ins b (rdI t i' bad')).un He)) : ACalls PP G N.impl_reader_code [.pt b 0] σ K := F.impl_reader_code_ok (by
  unfold F.impl_reader_code
  refine s_new fun v1 hv1 => ?_
  have d1 := AHeap.ins_self σ v1 (ABlk.cells 0 [St (bs []), I 0, I 0, I 0, .nl])
  have dB := ins_old (y := ABlk.cells 0 [St (bs []), I 0, I 0, I 0, .nl]) hb hv1
  have nB1 := ne_of_none hb hv1
  have kS : Kp σ (σ.ins v1 (ABlk.cells 0 [St (bs []), I 0, I 0, I 0, .nl])) b := Kp.refl.new hv1
  generalize σ.ins v1 (ABlk.cells 0 [St (bs []), I 0, I 0, I 0, .nl]) = τ0 at *
  refine rt_f dB hi hl fun nm i1 b1 τ1 p1 p2 p3 dB k1 => ?_
  have d1 := (k1 _ (Ne.symm nB1)).trans d1
  have kS := kS.step k1
  refine rn_f (n := 1) dB p1 hl (by omega) fun pa i2 b2 τ2 p4 p5 p6 dB k2 => ?_
  have d1 := (k2 _ (Ne.symm nB1)).trans d1
  have kS := kS.step k2
  refine rn_f (n := 2) dB p4 hl (by omega) fun ce i3 b3 τ3 p7 p8 p9 dB k3 => ?_
  have d1 := (k3 _ (Ne.symm nB1)).trans d1
  have kS := kS.step k3
  refine rn_f (n := 1) dB p7 hl (by omega) fun re i4 b4 τ4 q1 q2 q3 dB k4 => ?_
  have d1 := (k4 _ (Ne.symm nB1)).trans d1
  have kS := kS.step k4
  refine s_build (cs := [St (bs nm), I (beI pa), I (beI ce), I (beI re), .nl]) rfl ?_
  refine s_new fun c hbc => ?_
  refine s_sta (AHeap.ins_self _ _ _) rfl rfl rfl ?_
  rw [AHeap.ins_ins]
  have n1c := ne_of_none d1 hbc
  have nBc := ne_of_none dB hbc
  have sc := kS.fresh dB hbc
  have kS := kS.new (y := ABlk.cells 0 [St (bs nm), I (beI pa), I (beI ce), I (beI re), .nl]) sc
  have d1 := ins_other (y := ABlk.cells 0 [St (bs nm), I (beI pa), I (beI ce), I (beI re), .nl]) d1 n1c
  have dB := ins_other (y := ABlk.cells 0 [St (bs nm), I (beI pa), I (beI ce), I (beI re), .nl]) dB nBc
  have dC := AHeap.ins_self τ4 c (ABlk.cells 0 [St (bs nm), I (beI pa), I (beI ce), I (beI re), .nl])
  generalize hτ : τ4.ins c (ABlk.cells 0 [St (bs nm), I (beI pa), I (beI ce), I (beI re), .nl]) = τ5 at *
  clear hτ hbc
  refine JOIN_cut (fun _ τ => ∃ (kn : Nat) (w : AV) (ins : List Ins) (iN : Nat) (bN : Bool) (i' : Nat) (bad' : Bool), τ v1 = some (.cells 0 [St (bs []), I 0, I 0, I 0, .nl]) ∧ τ b = some (rdI t i' bad') ∧ τ c = some (.cells 0 [St (bs nm), I (beI pa), I (beI ce), I (beI re), w]) ∧ Kp σ τ b ∧
    OT 5 (EFlat Ins.cells) σ [c, v1] w ins τ ∧ i' ≤ t.length ∧ Rd.To (Rd.number 2) b4 (t.drop i4) kn bN (t.drop iN) ∧ Rd.To (Rd.many Rd.ins kn) bN (t.drop iN) ins bad' (t.drop i') ∧ ins.length < 65536 ∧ ∀ q ∈ ins, q.mod.length < 2 ^ 60 ∧ q.name.length < 2 ^ 60) (fun kk hkk => ?_) (fun xs τ ⟨kn, w, ins, iN, bN, i6, b6, d1, dB, dC, kS, hw, a1, a2, a3, a4, a5⟩ => ?_)
  · clear hk
    refine rn_f (n := 2) dB q1 hl (by omega) fun kv iN bN τ6 r1 r2 r3 dB k5 => ?_
    have d1 := (k5 _ (Ne.symm nB1)).trans d1
    have dC := (k5 _ (Ne.symm nBc)).trans dC
    have kS := kS.step k5
    have hr := beI_le2 r2
    obtain ⟨kn, hN⟩ : ∃ kn : Nat, beI kv = kn := ⟨(beI kv).toNat, by omega⟩
    rw [hN] at r3 hr
    simp only [hN]
    refine LOOP_intro (fun j => kn - j) (fun (j : Nat) ws τ => j ≤ kn ∧ nth ws 1 = I (j : Nat) ∧ ∃ (w : AV) (ins : List Ins) (i' : Nat) (bad' : Bool), τ v1 = some (.cells 0 [St (bs []), I 0, I 0, I 0, .nl]) ∧ τ b = some (rdI t i' bad') ∧ τ c = some (.cells 0 [St (bs nm), I (beI pa), I (beI ce), I (beI re), w]) ∧ Kp σ τ b ∧
      OT 5 (EFlat Ins.cells) σ [c, v1] w ins τ ∧ i' ≤ t.length ∧ Rd.To (Rd.many Rd.ins j) bN (t.drop iN) ins bad' (t.drop i') ∧ ins.length = j ∧ ∀ q ∈ ins, q.mod.length < 2 ^ 60 ∧ q.name.length < 2 ^ 60) (fun j ws τ R ⟨g1, g2, w, ins, ii, bad', d1, dB, dC, kS, hw, g3, g4, g5, g6⟩ hR => ?_) 0 ⟨by omega, rfl, .nl, [], iN, bN, d1, dB, dC, kS, .nil, r1, .ret _ _ _, rfl, by simp⟩
    simp only [g2]
    cases bad' with
    | true =>
      repeat' first
        | (with_reducible first | refine s_join ?_ | refine s_ift ?_ | refine s_iff ?_ | refine s_igtt ?_ | refine s_igtf ?_ | refine s_igft ?_ | refine s_igff ?_ | refine s_igu ?_ | refine s_pt ?_ | refine s_pf ?_ | refine s_nott ?_ | refine s_notf ?_ | refine s_not ?_ | refine s_lslm ?_ | refine s_lsl ?_ | refine s_lgl ?_ | refine s_lnl ?_ | refine s_lar ?_ | refine s_lst ?_ | refine s_ncp ?_ | refine s_ncr ?_ | refine s_ncf ?_ | refine s_fap ?_ | refine s_far ?_ | refine s_mkfn ?_ | refine s_cvc ?_ | refine s_cvi ?_ | refine s_cvb ?_ | refine s_or ?_ | refine s_and ?_ | refine s_xor ?_ | refine s_andnot ?_)
        | (with_reducible first | refine BIN_eql_b (fun h => ?_) (fun h => ?_) | refine BIN_neq_b (fun h => ?_) (fun h => ?_) | refine BIN_lss_b (fun h => ?_) (fun h => ?_) | refine BIN_leq_b (fun h => ?_) (fun h => ?_) | refine BIN_gtr_b (fun h => ?_) (fun h => ?_) | refine BIN_geq_b (fun h => ?_) (fun h => ?_) | refine BIN_seql_b (fun h => ?_) (fun h => ?_) | refine BIN_sneq_b (fun h => ?_) (fun h => ?_) | refine s_ldr rfl ?_ | refine s_tup rfl ?_ | refine s_ifb (fun h => ?_) (fun h => ?_) | refine s_shl (by decide) ?_ | refine s_shr (by decide) ?_ | refine s_add (wrap64 (by omega)) ?_ | refine s_sub (wrap64 (by omega)) ?_ | refine s_ixn (by omega) ?_ | refine s_ix0 (by omega) ?_ | refine s_iam (by omega) ?_)
        | refine s_boxag rfl rfl (fun b hb => ?_)
        | (with_reducible first | refine s_ldp (AHeap.ins_self _ _ _) rfl ?_ | refine s_ldp (ins_prev (by assumption)) rfl ?_ | refine s_ldp (by assumption) rfl ?_ | refine s_ldp (ins_old (by assumption) (by assumption)) rfl ?_ | refine s_ldp (ins_other (by assumption) (by assumption)) rfl ?_ | refine s_ldpa (ins_old (by assumption) (by assumption)) rfl ?_ | refine s_ldpa (ins_other (by assumption) (by assumption)) rfl ?_ | refine s_ldpa (by assumption) rfl ?_ | refine s_ldpa (ins_prev (by assumption)) rfl ?_ | refine s_ldpa (AHeap.ins_self _ _ _) rfl ?_ | refine s_st1 (by assumption) rfl (by simp) ?_ | refine s_st1 (AHeap.ins_self _ _ _) rfl (by simp) ?_ | refine s_st1 (ins_prev (by assumption)) rfl (by simp) ?_ | refine s_sta (by assumption) rfl rfl rfl ?_ | refine s_sta (AHeap.ins_self _ _ _) rfl rfl rfl ?_ | refine s_field1 rfl ?_ | refine s_cuts (by omega) (by omega) (by omega) ?_ | refine s_cuts_lo (by omega) (by omega) ?_ | refine s_cuts_hi (by omega) (by omega) ?_)
        | refine ⟨by first | exact s_ldp (AHeap.ins_self _ _ _) rfl s_same | exact s_ldp (ins_prev (by assumption)) rfl s_same | exact s_ldp (by assumption) rfl s_same | exact s_ldr rfl s_same, ?_⟩
        | (with_reducible first | refine s_bneq_tt u_bool ?_ | refine s_bneq_tf u_bool ?_ | refine s_bneq_ft u_bool ?_ | refine s_bneq_ff u_bool ?_ | refine s_beql_tt u_bool ?_ | refine s_beql_tf u_bool ?_ | refine s_beql_ft u_bool ?_ | refine s_beql_ff u_bool ?_)
        | simp only [nth_zero, nth_succ, Nat.zero_add, Nat.reduceAdd, List.length_map, AHeap.ins_ins]
      all_goals exact hkk _ _ ⟨kn, w, ins, iN, bN, ii, true, d1, dB, dC, kS, hw, g3, r3, g4.many_bad g1, by omega, g6⟩
    | false =>
      repeat' first
        | (with_reducible first | refine s_join ?_ | refine s_ift ?_ | refine s_iff ?_ | refine s_igtt ?_ | refine s_igtf ?_ | refine s_igft ?_ | refine s_igff ?_ | refine s_igu ?_ | refine s_pt ?_ | refine s_pf ?_ | refine s_nott ?_ | refine s_notf ?_ | refine s_not ?_ | refine s_lslm ?_ | refine s_lsl ?_ | refine s_lgl ?_ | refine s_lnl ?_ | refine s_lar ?_ | refine s_lst ?_ | refine s_ncp ?_ | refine s_ncr ?_ | refine s_ncf ?_ | refine s_fap ?_ | refine s_far ?_ | refine s_mkfn ?_ | refine s_cvc ?_ | refine s_cvi ?_ | refine s_cvb ?_ | refine s_or ?_ | refine s_and ?_ | refine s_xor ?_ | refine s_andnot ?_)
        | (with_reducible first | refine BIN_eql_b (fun h => ?_) (fun h => ?_) | refine BIN_neq_b (fun h => ?_) (fun h => ?_) | refine BIN_lss_b (fun h => ?_) (fun h => ?_) | refine BIN_leq_b (fun h => ?_) (fun h => ?_) | refine BIN_gtr_b (fun h => ?_) (fun h => ?_) | refine BIN_geq_b (fun h => ?_) (fun h => ?_) | refine BIN_seql_b (fun h => ?_) (fun h => ?_) | refine BIN_sneq_b (fun h => ?_) (fun h => ?_) | refine s_ldr rfl ?_ | refine s_tup rfl ?_ | refine s_ifb (fun h => ?_) (fun h => ?_) | refine s_shl (by decide) ?_ | refine s_shr (by decide) ?_ | refine s_add (wrap64 (by omega)) ?_ | refine s_sub (wrap64 (by omega)) ?_ | refine s_ixn (by omega) ?_ | refine s_ix0 (by omega) ?_ | refine s_iam (by omega) ?_)
        | refine s_boxag rfl rfl (fun b hb => ?_)
        | (with_reducible first | refine s_ldp (AHeap.ins_self _ _ _) rfl ?_ | refine s_ldp (ins_prev (by assumption)) rfl ?_ | refine s_ldp (by assumption) rfl ?_ | refine s_ldp (ins_old (by assumption) (by assumption)) rfl ?_ | refine s_ldp (ins_other (by assumption) (by assumption)) rfl ?_ | refine s_ldpa (ins_old (by assumption) (by assumption)) rfl ?_ | refine s_ldpa (ins_other (by assumption) (by assumption)) rfl ?_ | refine s_ldpa (by assumption) rfl ?_ | refine s_ldpa (ins_prev (by assumption)) rfl ?_ | refine s_ldpa (AHeap.ins_self _ _ _) rfl ?_ | refine s_st1 (by assumption) rfl (by simp) ?_ | refine s_st1 (AHeap.ins_self _ _ _) rfl (by simp) ?_ | refine s_st1 (ins_prev (by assumption)) rfl (by simp) ?_ | refine s_sta (by assumption) rfl rfl rfl ?_ | refine s_sta (AHeap.ins_self _ _ _) rfl rfl rfl ?_ | refine s_field1 rfl ?_ | refine s_cuts (by omega) (by omega) (by omega) ?_ | refine s_cuts_lo (by omega) (by omega) ?_ | refine s_cuts_hi (by omega) (by omega) ?_)
        | refine ⟨by first | exact s_ldp (AHeap.ins_self _ _ _) rfl s_same | exact s_ldp (ins_prev (by assumption)) rfl s_same | exact s_ldp (by assumption) rfl s_same | exact s_ldr rfl s_same, ?_⟩
        | (with_reducible first | refine s_bneq_tt u_bool ?_ | refine s_bneq_tf u_bool ?_ | refine s_bneq_ft u_bool ?_ | refine s_bneq_ff u_bool ?_ | refine s_beql_tt u_bool ?_ | refine s_beql_tf u_bool ?_ | refine s_beql_ft u_bool ?_ | refine s_beql_ff u_bool ?_)
        | simp only [nth_zero, nth_succ, Nat.zero_add, Nat.reduceAdd, List.length_map, AHeap.ins_ins]
      rotate_left
      · have : j = kn := by omega
        subst this
        exact hkk _ _ ⟨j, w, ins, iN, bN, ii, false, d1, dB, dC, kS, hw, g3, r3, g4, by omega, g6⟩
      refine rn_f (n := 1) dB g3 hl (by omega) fun opb j1 c1 τ13 p6 p6' p7 dB m1 => ?_
      have d1 := (m1 _ (Ne.symm nB1)).trans d1
      have dC := (m1 _ (Ne.symm nBc)).trans dC
      have kS := kS.step m1
      have hw := hw.other (.inl (by rw [hb]; simp)) m1
      refine rn_f (n := 8) dB p6 hl (by omega) fun av j2 c2 τ14 p8 p8' p9 dB m2 => ?_
      have d1 := (m2 _ (Ne.symm nB1)).trans d1
      have dC := (m2 _ (Ne.symm nBc)).trans dC
      have kS := kS.step m2
      have hw := hw.other (.inl (by rw [hb]; simp)) m2
      refine s_build (cs := [I (beI opb), I (beI av), I 0, St (bs []), St (bs [])]) rfl ?_
      refine s_new fun e hbe => ?_
      refine s_sta (AHeap.ins_self _ _ _) rfl rfl rfl ?_
      rw [AHeap.ins_ins]
      have n1e := ne_of_none d1 hbe
      have nBe := ne_of_none dB hbe
      have nCe := ne_of_none dC hbe
      have se := kS.fresh dB hbe
      have kS := kS.new (y := ABlk.cells 0 [I (beI opb), I (beI av), I 0, St (bs []), St (bs [])]) se
      have hw := (hw.add hbe).new (y := ABlk.cells 0 [I (beI opb), I (beI av), I 0, St (bs []), St (bs [])]) hbe
      have d1 := ins_other (y := ABlk.cells 0 [I (beI opb), I (beI av), I 0, St (bs []), St (bs [])]) d1 n1e
      have dB := ins_other (y := ABlk.cells 0 [I (beI opb), I (beI av), I 0, St (bs []), St (bs [])]) dB nBe
      have dC := ins_other (y := ABlk.cells 0 [I (beI opb), I (beI av), I 0, St (bs []), St (bs [])]) dC nCe
      have dE := AHeap.ins_self τ14 e (ABlk.cells 0 [I (beI opb), I (beI av), I 0, St (bs []), St (bs [])])
      generalize hτ : τ14.ins e (ABlk.cells 0 [I (beI opb), I (beI av), I 0, St (bs []), St (bs [])]) = τ15 at *
      clear hτ hbe
      refine JOIN_cut (fun _ τ => ∃ (q : Ins) (i' : Nat) (bad' : Bool), τ v1 = some (.cells 0 [St (bs []), I 0, I 0, I 0, .nl]) ∧ τ b = some (rdI t i' bad') ∧ τ c = some (.cells 0 [St (bs nm), I (beI pa), I (beI ce), I (beI re), w]) ∧ τ e = some (.cells 0 q.cells) ∧ Kp σ τ b ∧
        OT 5 (EFlat Ins.cells) σ [e, c, v1] w ins τ ∧ i' ≤ t.length ∧ Rd.To Rd.ins false (t.drop ii) q bad' (t.drop i') ∧ q.mod.length < 2 ^ 60 ∧ q.name.length < 2 ^ 60) (fun kk3 hkk3 => ?_) (fun xs τ ⟨q, j3, c3, d1, dB, dC, dE, kS, hw, f1, f2, f3, f4⟩ => ?_)
      · clear hkk hR
        repeat' first
          | (with_reducible first | refine s_join ?_ | refine s_ift ?_ | refine s_iff ?_ | refine s_igtt ?_ | refine s_igtf ?_ | refine s_igft ?_ | refine s_igff ?_ | refine s_igu ?_ | refine s_pt ?_ | refine s_pf ?_ | refine s_nott ?_ | refine s_notf ?_ | refine s_not ?_ | refine s_lslm ?_ | refine s_lsl ?_ | refine s_lgl ?_ | refine s_lnl ?_ | refine s_lar ?_ | refine s_lst ?_ | refine s_ncp ?_ | refine s_ncr ?_ | refine s_ncf ?_ | refine s_fap ?_ | refine s_far ?_ | refine s_mkfn ?_ | refine s_cvc ?_ | refine s_cvi ?_ | refine s_cvb ?_ | refine s_or ?_ | refine s_and ?_ | refine s_xor ?_ | refine s_andnot ?_)
          | (with_reducible apply PureF.callb (impl_hasPlace_c (beI opb)) <;> intro h)
          | (with_reducible first | refine BIN_eql_b (fun h => ?_) (fun h => ?_) | refine BIN_neq_b (fun h => ?_) (fun h => ?_) | refine BIN_lss_b (fun h => ?_) (fun h => ?_) | refine BIN_leq_b (fun h => ?_) (fun h => ?_) | refine BIN_gtr_b (fun h => ?_) (fun h => ?_) | refine BIN_geq_b (fun h => ?_) (fun h => ?_) | refine BIN_seql_b (fun h => ?_) (fun h => ?_) | refine BIN_sneq_b (fun h => ?_) (fun h => ?_) | refine s_ldr rfl ?_ | refine s_tup rfl ?_ | refine s_ifb (fun h => ?_) (fun h => ?_) | refine s_shl (by decide) ?_ | refine s_shr (by decide) ?_ | refine s_add (wrap64 (by omega)) ?_ | refine s_sub (wrap64 (by omega)) ?_ | refine s_ixn (by omega) ?_ | refine s_ix0 (by omega) ?_ | refine s_iam (by omega) ?_)
          | refine s_boxag rfl rfl (fun b hb => ?_)
          | (with_reducible first | refine s_ldp (AHeap.ins_self _ _ _) rfl ?_ | refine s_ldp (ins_prev (by assumption)) rfl ?_ | refine s_ldp (by assumption) rfl ?_ | refine s_ldp (ins_old (by assumption) (by assumption)) rfl ?_ | refine s_ldp (ins_other (by assumption) (by assumption)) rfl ?_ | refine s_ldpa (ins_old (by assumption) (by assumption)) rfl ?_ | refine s_ldpa (ins_other (by assumption) (by assumption)) rfl ?_ | refine s_ldpa (by assumption) rfl ?_ | refine s_ldpa (ins_prev (by assumption)) rfl ?_ | refine s_ldpa (AHeap.ins_self _ _ _) rfl ?_ | refine s_st1 (by assumption) rfl (by simp) ?_ | refine s_st1 (AHeap.ins_self _ _ _) rfl (by simp) ?_ | refine s_st1 (ins_prev (by assumption)) rfl (by simp) ?_ | refine s_sta (by assumption) rfl rfl rfl ?_ | refine s_sta (AHeap.ins_self _ _ _) rfl rfl rfl ?_ | refine s_field1 rfl ?_ | refine s_cuts (by omega) (by omega) (by omega) ?_ | refine s_cuts_lo (by omega) (by omega) ?_ | refine s_cuts_hi (by omega) (by omega) ?_)
          | refine ⟨by first | exact s_ldp (AHeap.ins_self _ _ _) rfl s_same | exact s_ldp (ins_prev (by assumption)) rfl s_same | exact s_ldp (by assumption) rfl s_same | exact s_ldr rfl s_same, ?_⟩
          | (with_reducible first | refine s_bneq_tt u_bool ?_ | refine s_bneq_tf u_bool ?_ | refine s_bneq_ft u_bool ?_ | refine s_bneq_ff u_bool ?_ | refine s_beql_tt u_bool ?_ | refine s_beql_tf u_bool ?_ | refine s_beql_ft u_bool ?_ | refine s_beql_ff u_bool ?_)
          | simp only [nth_zero, nth_succ, Nat.zero_add, Nat.reduceAdd, List.length_map, AHeap.ins_ins]
        rotate_right
        · refine hkk3 _ _ ⟨⟨beI opb, beI av, 0, [], []⟩, j2, c2, d1, dB, dC, dE, kS, hw, p8, ?_, by simp, by simp⟩
          refine p7.then (p9.then ?_)
          rw [if_neg (by simpa [placedM] using h)]
          exact .ret _ _ _
        · have hpl : placedM (beI opb) = true := by simpa [placedM] using h
          refine rn_f (n := 1) dB p8 hl (by omega) fun bb j4 c4 τ16 f1 f1' f2 dB m3 => ?_
          have d1 := (m3 _ (Ne.symm nB1)).trans d1
          have dC := (m3 _ (Ne.symm nBc)).trans dC
          have dE := (m3 _ (Ne.symm nBe)).trans dE
          have kS := kS.step m3
          have hw := hw.other (.inl (by rw [hb]; simp)) m3
          refine rt_f dB f1 hl fun md j5 c5 τ17 f3 f3' f4 dB m4 => ?_
          have d1 := (m4 _ (Ne.symm nB1)).trans d1
          have dC := (m4 _ (Ne.symm nBc)).trans dC
          have dE := (m4 _ (Ne.symm nBe)).trans dE
          have kS := kS.step m4
          have hw := hw.other (.inl (by rw [hb]; simp)) m4
          refine rt_f dB f3 hl fun ne j6 c6 τ18 f5 f5' f6 dB m5 => ?_
          have d1 := (m5 _ (Ne.symm nB1)).trans d1
          have dC := (m5 _ (Ne.symm nBc)).trans dC
          have dE := (m5 _ (Ne.symm nBe)).trans dE
          have kS := kS.step m5
          have hw := hw.other (.inl (by rw [hb]; simp)) m5
          refine s_fap ?_
          refine s_st1 dE rfl (by simp) ?_
          refine s_fap ?_
          refine s_st1 (AHeap.ins_self _ _ _) rfl (by simp) ?_
          rw [AHeap.ins_ins]
          refine s_fap ?_
          refine s_st1 (AHeap.ins_self _ _ _) rfl (by simp) ?_
          rw [AHeap.ins_ins]
          exact hkk3 _ _ ⟨⟨beI opb, beI av, beI bb, md, ne⟩, j6, c6, ins_other d1 n1e, ins_other dB nBe, ins_other dC nCe, AHeap.ins_self _ _ _, kS.new se, hw.ins (by simp), f5, (by
            refine p7.then (p9.then ?_)
            rw [if_pos hpl]
            exact f2.then (f4.then (f6.then (.ret _ _ _)))), by simp only; omega, by simp only; omega⟩
      refine s_fap ?_
      refine s_ldp dC rfl ?_
      refine s_ldpa dE rfl ?_
      refine s_lit rfl fun b7 hb7 => ?_
      have sb7 := kS.fresh dB hb7
      refine (hw.new hb7).appl (fun p hp => by
        rcases hp with hp | hp
        · exact (kS.new sb7).nn (ins_old dB hb7) hp
        · simp only [List.mem_cons, List.not_mem_nil, or_false] at hp
          rcases hp with rfl | rfl | rfl
          · rw [ins_old dE hb7]; simp
          · rw [ins_old dC hb7]; simp
          · rw [ins_old d1 hb7]; simp) (by rfl) (by omega) (by omega) (by omega) fun w' τ19 hw7 k7 => ?_
      have d1 := (k7 v1 (by simp)).trans (ins_old d1 hb7)
      have dB := (k7 b (by simp [hb])).trans (ins_old dB hb7)
      have dC := (k7 c (by simp)).trans (ins_old dC hb7)
      have kS := ((kS.new (y := ABlk.cells ((([q.cells] : List (List AV)).length) * 5) []) sb7).app fun p hp => k7 p (.inl hp))
      refine s_fap ?_
      refine s_st1 dC hw7.cell1 (by simp) ?_
      refine s_add (wrap64 (by omega)) ?_
      refine hR (j + 1) _ _ (by omega) ⟨by omega, by rfl, w', ins ++ [q], j3, c3, ins_other d1 n1c, ins_other dB nBc, AHeap.ins_self _ _ _, kS.new sc, (hw7.ins (by simp)).sub (fun p hp => List.mem_cons_of_mem _ hp), f1, g4.snoc f2, by simp [g5], ?_⟩
      intro y hy
      simp only [List.mem_append, List.mem_singleton] at hy
      rcases hy with hy | rfl
      · exact g6 y hy
      · exact ⟨f3, f4⟩
  refine s_ldpa dC rfl ?_
  obtain ⟨H, w1, w2, w3⟩ := hw
  have hw1 := w1.none_or
  refine s_sta d1 rfl rfl (by simp [hw1]) ?_
  refine s_ldpa (AHeap.ins_self _ _ _) rfl ?_
  refine Fin.drop (σ' := (σ.ins b (rdI t i6 b6)).un H) (fun p x hx => ?_) (hk _ ⟨nm, beI pa, beI ce, beI re, ins⟩ H i6 b6 a1 ⟨Nat.lt_of_lt_of_le p2 (by omega), Nat.lt_of_lt_of_le a4 (by omega), a5⟩ ?_ ⟨w, rfl, w1⟩ (fun p => ?_))
  · refine AHeap.un_le (fun p x hx => ?_) (fun p x hx => ?_) _ _ hx
    · have hp1 : p ≠ v1 := by
        rintro rfl
        rw [AHeap.ins_ne _ _ (Ne.symm nB1), hv1] at hx; simp at hx
      rw [AHeap.ins_ne _ _ hp1]
      by_cases hpb : p = b
      · subst hpb; rw [AHeap.ins_self] at hx; rw [← hx]; exact dB
      · rw [AHeap.ins_ne _ _ hpb] at hx; rw [kS p hpb (by simp [hx])]; exact hx
    · have hp1 : p ≠ v1 := by
        rintro rfl
        rw [w2 _ (.inr (by simp))] at hx; simp at hx
      rw [AHeap.ins_ne _ _ hp1]; exact w3 _ _ hx
  · refine p3.then (p6.then (p9.then (q3.then (a2.then ?_))))
    rw [Int.toNat_natCast]
    exact a3.then (.ret _ _ _)
  · by_cases hp : σ p = none
    · exact .inl hp
    · exact .inr (w2 p (.inl hp)))

end Go.Al
