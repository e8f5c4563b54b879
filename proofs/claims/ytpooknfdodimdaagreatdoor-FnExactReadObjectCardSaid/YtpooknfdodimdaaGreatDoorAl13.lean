/- The abstract logic, part 13: regions whose order is open: whatever order is drawn. -/
import Derived.Test.YtpooknfdodimdaaGreatDoorAl12
set_option linter.unusedVariables false
set_option linter.unusedSimpArgs false
namespace Go.Al
variable {P : Program} {G : Seal}

def stepF (P : Program) (G : Seal) (own : List Nat) (L : List Oper) (o : Oper) (env : Env) (σ : AHeap) (K : KAV) : Prop :=
  match o.guard with
  | none => aop P G own o env σ K
  | some (j, t) => ∃ d v, (L[j]?).bind (·.dst) = some d ∧ env.get d = .sc v ∧ (v = .bool t → aop P G own o env σ K) ∧ (v ≠ .bool t → K U σ)

theorem GRD_step {own : List Nat} {L : List Oper} {o : Oper} {env : Env} {σ : AHeap} {K : KAV} (h : GRD L o env σ K fun K => aop P G own o env σ K) : stepF P G own L o env σ K := by
  unfold GRD at h
  unfold stepF
  split at h
  · rename_i hg; rw [hg]; exact h
  · rename_i j t hg
    rw [hg]
    show ∃ d b, _
    split at h
    · exact h.elim
    · rename_i d hd
      unfold JOIN at h
      obtain ⟨v, hb, h1, h2⟩ := IFG_elim h
      exact ⟨d, v, hd, hb, h1, h2⟩

theorem stepF_congr {own : List Nat} {L : List Oper} {o : Oper} {env env' : Env} {σ : AHeap} {K : KAV} (h : ∀ t, t ∈ opTmps L o → env.get t = env'.get t) (hs : stepF P G own L o env σ K) : stepF P G own L o env' σ K := by
  have ha : aop P G own o env σ K = aop P G own o env' σ K := aop_congr fun t ht => h t (by
    unfold opTmps
    exact List.mem_append_left _ (List.mem_filterMap.2 ⟨.tmp t, ht, rfl⟩))
  unfold stepF at hs ⊢
  split at hs
  · rwa [← ha]
  · rename_i j t hg
    obtain ⟨d, b, h1, h2, h3, h4⟩ := hs
    refine ⟨d, b, h1, ?_, fun e => by rw [← ha]; exact h3 e, h4⟩
    rw [← h d (by unfold opTmps; rw [hg]; refine List.mem_append_right _ ?_; show d ∈ ((L[j]?).bind (·.dst)).toList; rw [h1]; simp)]
    exact h2

theorem stepF_reader {own : List Nat} {L : List Oper} {o : Oper} {env : Env} {σ : AHeap} {K : KAV} (hr : readerOp o.op = true) (h : stepF P G own L o env σ K) :
    ∃ v, K v σ ∧ (∀ K' : KAV, K' v σ → stepF P G own L o env σ K') ∧ (loadOp o.op = false → ∀ (σ' : AHeap) (K' : KAV), K' v σ' → stepF P G own L o env σ' K') := by
  have key : aop P G own o env σ K → ∃ v, K v σ ∧ (∀ K' : KAV, K' v σ → aop P G own o env σ K') ∧ (loadOp o.op = false → ∀ (σ' : AHeap) (K' : KAV), K' v σ' → aop P G own o env σ' K') := fun h => by
    cases hl : loadOp o.op with
    | true => obtain ⟨v, h1, h2⟩ := load_det own o env hl σ K h; exact ⟨v, h1, fun K' => h2 own K', fun e => by simp at e⟩
    | false => obtain ⟨v, h1, h2⟩ := pure_det own o env hr hl σ K h; exact ⟨v, h1, fun K' => h2 σ K', fun _ => h2⟩
  unfold stepF at h ⊢
  split at h
  · exact key h
  · rename_i j t hg
    obtain ⟨d, b, h1, h2, h3, h4⟩ := h
    by_cases hb : b = .bool t
    · obtain ⟨v, k1, k2, k3⟩ := key (h3 hb)
      exact ⟨v, k1, fun K' hK => ⟨d, b, h1, h2, fun _ => k2 K' hK, fun hn => absurd hb hn⟩, fun hl σ' K' hK => ⟨d, b, h1, h2, fun _ => k3 hl σ' K' hK, fun hn => absurd hb hn⟩⟩
    · exact ⟨U, h4 hb, fun K' hK => ⟨d, b, h1, h2, fun hn => absurd hn hb, fun _ => hK⟩, fun hl σ' K' hK => ⟨d, b, h1, h2, fun hn => absurd hn hb, fun _ => hK⟩⟩

theorem stepF_sound {own : List Nat} {ops : Array Oper} {o : Oper} {env : Env} {σ : AHeap} {K : KAV} {S : Seal} {w : World} {a : Act} {next : Act → World → Prop} {Q : Exit → Act → World → Prop}
    (h : stepF P G own ops.toList o env σ K) (hI : Inv S σ w) (hG : G.le S) (hE : RelE S env a.tmps) (hk : Then S σ w K o a next) :
    if Region.wanted o (yielded ops a.tmps) then o.wp P a w next Q ∨ (o.asks P a w ∧ LetsOut Q) else next (a.put o.dst undef) w := by
  unfold stepF at h
  split at h
  · rename_i hg
    rw [if_pos (by simp [Region.wanted, hg])]
    exact .inl (aop_sound h hI hG hE hk)
  · rename_i j t hg
    obtain ⟨d, b, h1, h2, h3, h4⟩ := h
    have hv : a.tmps.getD d undef = b := by have := hE d; rw [h2] at this; exact Rel.sc_inv this
    by_cases hb : b = .bool t
    · subst hb
      have hy := yielded_of (ops := ops) (j := j) (by simpa using h1) hv
      rw [if_pos (by simp [Region.wanted, hg, hy])]
      exact .inl (aop_sound (h3 rfl) hI hG hE hk)
    · have hy := yielded_ne (ops := ops) (j := j) (by simpa using h1) hv hb
      rw [if_neg (by simp [Region.wanted, hg, hy])]
      exact hk _ _ _ _ _ (.refl hI) (.sc _) (h4 hb)

/- what has been read ahead -/
def envEnd (env : Env) : List Late → Env
  | [] => env
  | l :: r => envEnd (env.put l.o.dst l.v) r
def envSel (on : Nat → Bool) (env : Env) : List Late → Env
  | [] => env
  | l :: r => envSel on (if on l.idx then env.put l.o.dst l.v else env) r
def Chain (env : Env) : List Late → Prop
  | [] => True
  | l :: r => l.env = env ∧ Chain (env.put l.o.dst l.v) r

theorem envEnd_append (env : Env) : ∀ (D E : List Late), envEnd env (D ++ E) = envEnd (envEnd env D) E
  | [], _ => rfl
  | l :: r, E => envEnd_append _ r E

theorem envSel_append (on : Nat → Bool) (env : Env) : ∀ (D E : List Late), envSel on env (D ++ E) = envSel on (envSel on env D) E
  | [], _ => rfl
  | l :: r, E => envSel_append on _ r E

theorem Chain.append {env : Env} : ∀ {D E : List Late}, Chain env (D ++ E) ↔ Chain env D ∧ Chain (envEnd env D) E
  | [], E => by simp [Chain, envEnd]
  | l :: r, E => by simp [Chain, envEnd, Chain.append (D := r), and_assoc]

theorem envSel_congr {on on' : Nat → Bool} (env : Env) : ∀ (D : List Late), (∀ l ∈ D, on l.idx = on' l.idx) → envSel on env D = envSel on' env D
  | [], _ => rfl
  | l :: r, h => by simp only [envSel]; rw [h l (by simp), envSel_congr _ r fun m hm => h m (List.mem_cons_of_mem _ hm)]

/-- at a temporary that those which are on have not written -/
theorem envSel_off {on : Nat → Bool} {t : Nat} : ∀ (D : List Late) (env : Env), (∀ m ∈ D, m.o.dst = some t → on m.idx = false) → (envSel on env D).get t = env.get t
  | [], _, _ => rfl
  | l :: r, env, h => by
    simp only [envSel]
    rw [envSel_off r _ fun m hm => h m (List.mem_cons_of_mem _ hm)]
    split
    · rename_i hon
      rw [Env.get_put, if_neg]
      intro hd
      have := h l (by simp) hd
      simp [hon] at this
    · rfl

/-- at one that only those which are on have written -/
theorem envSel_on {on : Nat → Bool} {t : Nat} : ∀ (D : List Late) (env env' : Env), env.get t = env'.get t → (∀ m ∈ D, m.o.dst = some t → on m.idx = true) → (envSel on env D).get t = (envEnd env' D).get t
  | [], _, _, h, _ => h
  | l :: r, env, env', he, h => by
    simp only [envSel, envEnd]
    refine envSel_on r _ _ ?_ fun m hm => h m (List.mem_cons_of_mem _ hm)
    by_cases hd : l.o.dst = some t
    · rw [if_pos (h l (by simp) hd), Env.get_put, Env.get_put, if_pos hd, if_pos hd]
    · rw [Env.get_put, if_neg hd]
      split
      · rw [Env.get_put, if_neg hd]; exact he
      · exact he

theorem CHK_elim {L : List Oper} {ps : List Nat} {σ : AHeap} : ∀ {late : List Late} {X : Prop}, CHK P G L ps σ late X → X ∧ ∀ l ∈ late, l.idx ∉ ps → AGAIN P G L l.o l.env l.v σ
  | [], X, h => ⟨h, fun _ h => by simp at h⟩
  | l :: r, X, h => by
    simp only [CHK] at h
    split at h
    · rename_i hc
      obtain ⟨h1, h2⟩ := CHK_elim h
      refine ⟨h1, fun m hm hn => ?_⟩
      rcases List.mem_cons.1 hm with rfl | hm
      · exact absurd (by simpa using hc) hn
      · exact h2 m hm hn
    · obtain ⟨h0, h⟩ := h
      obtain ⟨h1, h2⟩ := CHK_elim h
      refine ⟨h1, fun m hm hn => ?_⟩
      rcases List.mem_cons.1 hm with rfl | hm
      · exact h0
      · exact h2 m hm hn

/-- it may be read now -/
def Pend (P : Program) (G : Seal) (own : List Nat) (L : List Oper) (l : Late) (σ : AHeap) : Prop := ∀ K' : KAV, K' l.v σ → stepF P G own L l.o l.env σ K'

theorem Pend.next {own : List Nat} {L : List Oper} {l : Late} {σ σ' : AHeap} (hr : readerOp l.o.op = true) (h : Pend P G own L l σ) (ha : loadOp l.o.op = true → AGAIN P G L l.o l.env l.v σ') : Pend P G own L l σ' := by
  have h0 := h (SAMEV l.v σ) ⟨rfl, rfl⟩
  cases hl : loadOp l.o.op with
  | false =>
    obtain ⟨v, ⟨hv, _⟩, _, h2⟩ := stepF_reader hr h0
    subst hv
    exact fun K' hK => h2 hl σ' K' hK
  | true =>
    have ha := ha hl
    have key : aop P G [] l.o l.env σ' (SAMEV l.v σ') → ∀ K' : KAV, K' l.v σ' → aop P G own l.o l.env σ' K' := fun h1 K' hK => by
      obtain ⟨v, ⟨hv, _⟩, h2⟩ := load_det [] l.o l.env hl σ' _ h1
      subst hv
      exact h2 own K' hK
    intro K' hK
    unfold stepF at h0 ⊢
    unfold AGAIN at ha
    split at ha
    · rename_i hg
      rw [hg]
      exact key ha K' hK
    · rename_i j t hg
      rw [hg] at h0 ⊢
      show ∃ d b, _
      obtain ⟨d, b, h1, h2, h3, h4⟩ := h0
      rw [h1] at ha
      simp only at ha
      refine ⟨d, b, h1, h2, fun hb => ?_, fun hb => ?_⟩
      · refine key ?_ K' hK
        obtain ⟨v', hv', g1, g2⟩ := IFG_elim ha
        rw [h2] at hv'
        simp at hv'
        exact g1 (hv' ▸ hb)
      · have := (h4 hb).1
        rw [this]; exact hK

theorem ordOk_spec {L : List Oper} {pl : List (List Nat)} : ∀ {ord seen : List Nat}, ordOk L pl seen ord = true →
    ord.Nodup ∧ (∀ i ∈ ord, i < L.length ∧ i ∉ seen) ∧ ord.Pairwise fun i j => ∀ p q, L[i]? = some p → L[j]? = some q → (readerOp p.op = true ∨ i ∈ pl.getD j []) ∧ (shareTmp L p q = true → i ∈ pl.getD j [])
  | [], _, _ => by simp
  | i :: r, seen, h => by
    simp only [ordOk, Bool.and_eq_true] at h
    obtain ⟨⟨⟨⟨h1, h2⟩, h3⟩, h4⟩, h5⟩ := h
    obtain ⟨k1, k2, k3⟩ := ordOk_spec h5
    refine ⟨List.nodup_cons.2 ⟨fun hi => (k2 i hi).2 (by simp), k1⟩, fun j hj => ?_, List.pairwise_cons.2 ⟨fun j hj p q hp hq => ?_, k3⟩⟩
    · rcases List.mem_cons.1 hj with rfl | hj
      · exact ⟨by simpa [Nat.blt_eq] using h2, by simpa using h1⟩
      · exact ⟨(k2 j hj).1, fun hs => (k2 j hj).2 (List.mem_cons_of_mem _ hs)⟩
    · have := List.all_eq_true.1 h4 j hj
      rw [hp, hq] at this
      simp only [Bool.and_eq_true, Bool.or_eq_true] at this
      obtain ⟨g1, g2⟩ := this
      refine ⟨g1.imp id (by simp), fun hs => ?_⟩
      rcases g2 with g2 | g2
      · rw [hs] at g2; simp at g2
      · simpa using g2

end Go.Al
