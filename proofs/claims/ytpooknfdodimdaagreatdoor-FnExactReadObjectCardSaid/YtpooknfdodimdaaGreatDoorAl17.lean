/- The abstract logic, part 17: views of owned memory as data, frames, and what a function may say at its end. -/
import Derived.Test.YtpooknfdodimdaaGreatDoorAl16
set_option linter.unusedVariables false
set_option linter.unusedSimpArgs false
namespace Go.Al

def AHeap.emp : AHeap := fun _ => none
def AHeap.un (σ τ : AHeap) : AHeap := fun b => match σ b with | some x => some x | none => τ b
@[simp] theorem AHeap.un_emp (σ : AHeap) : σ.un .emp = σ := by funext b; unfold AHeap.un AHeap.emp; cases σ b <;> rfl

/-- a value read as plain data -/
inductive View (σ : AHeap) : AV → AV → Prop
  | refl (v) : View σ v v
  | un (v) : View σ v .un
  | nl (sz) : View σ .nl (.sl sz [])
  | sl (sz : Nat) (xs ys : List (List AV)) (hl : ys.length = xs.length) (hz : ∀ x ∈ ys, x.length = sz) (h1 : ∀ x ∈ ys, x.all AV.cell1 = true)
      (h : ∀ i j, i < xs.length → j < sz → View σ ((xs.getD i []).getD j .un) ((ys.getD i []).getD j .un)) : View σ (.sl sz xs) (.sl sz ys)
  | gl (b sz : Nat) (xs ys : List (List AV)) (hl : ys.length = xs.length) (hz : ∀ x ∈ ys, x.length = sz) (h1 : ∀ x ∈ ys, x.all AV.cell1 = true)
      (h : ∀ i j, i < xs.length → j < sz → View σ ((xs.getD i []).getD j .un) ((ys.getD i []).getD j .un)) : View σ (.gl b sz xs) (.sl sz ys)
  | ar (b sz off len : Nat) (cs : List AV) (ys : List (List AV)) (hl : ys.length = len) (hz : ∀ x ∈ ys, x.length = sz) (h1 : ∀ x ∈ ys, x.all AV.cell1 = true) (hb : σ b = some (.cells 0 cs)) (hn : off + len * sz ≤ cs.length)
      (h : ∀ i j, i < len → j < sz → View σ (cs.getD (off + (i * sz + j)) .un) ((ys.getD i []).getD j .un)) : View σ (.ar b sz off len) (.sl sz ys)
  | pt (b o : Nat) (cs ds : List AV) (hb : σ b = some (.cells 0 cs)) (hl : ds.length ≤ cs.length) (h : ∀ j, j < ds.length → View σ (cs.getD j .un) (ds.getD j .un)) : View σ (.pt b o) (.rp ds o)
  | ag (xs ys : List AV) (hl : ys.length = xs.length) (h : ∀ j, j < xs.length → View σ (xs.getD j .un) (ys.getD j .un)) : View σ (.ag xs) (.ag ys)
  | tu (xs ys : List AV) (hl : ys.length = xs.length) (h : ∀ j, j < xs.length → View σ (xs.getD j .un) (ys.getD j .un)) : View σ (.tu xs) (.tu ys)
  | fn (f : Fn) (xs ys us vs : List AV) (hl : ys.length = xs.length) (h : ∀ j, j < xs.length → View σ (xs.getD j .un) (ys.getD j .un)) (hl' : vs.length = us.length) (h' : ∀ j, j < us.length → View σ (us.getD j .un) (vs.getD j .un)) :
      View σ (.fn f xs us) (.fn f ys vs)

/-- all that is owned, sealed -/
def sealAll (S : Seal) (σ : AHeap) (w : World) : Seal where
  cell := fun b j => match σ b with
    | some _ => w.cell? ⟨b, j, none⟩
    | none => S.cell b j
  shape := S.shape

theorem sealAll_le {S : Seal} {σ : AHeap} {w : World} (hI : Inv S σ w) : S.le (sealAll S σ w) := by
  refine ⟨fun b o v h => ?_, fun _ _ h => h⟩
  unfold sealAll
  cases hb : σ b with
  | none => simpa [hb] using h
  | some x => simpa [hb] using hI.cell _ _ _ h

theorem sealAll_inv {S : Seal} {σ : AHeap} {w : World} (hI : Inv S σ w) : Inv (sealAll S σ w) .emp w := by
  refine ⟨fun b o v h => ?_, hI.shape, fun b lo cs h => by simp [AHeap.emp] at h, fun b es h => by simp [AHeap.emp] at h⟩
  unfold sealAll at h
  cases hb : σ b with
  | none => exact hI.cell _ _ _ (by simpa [hb] using h)
  | some x => simpa [hb] using h

theorem sealAll_step {S : Seal} {σ : AHeap} {w : World} (hI : Inv S σ w) : Step S σ w (sealAll S σ w) .emp w :=
  ⟨sealAll_le hI, sealAll_inv hI, fun _ _ _ => rfl, fun b h => absurd rfl h, Nat.le_refl _, fun b o v h => by
    unfold sealAll at h
    cases hb : σ b with
    | none => exact .inl (by simpa [hb] using h)
    | some x => exact .inr (.inl (by simp)), rfl, rfl⟩

theorem View.rel {S : Seal} {σ : AHeap} {w : World} (hI : Inv S σ w) {x y : AV} (h : View σ x y) : ∀ {v : Value}, Rel S x v → Rel (sealAll S σ w) y v := by
  have hle := sealAll_le hI
  induction h with
  | refl v => intro _ hv; exact hv.mono hle
  | un v => intro _ _; exact .un _
  | nl sz => intro v hv; cases hv with | nl a => exact .sl sz [] a 0 (fun _ _ => undef) (Nat.le_refl _) (by simp) (by simp) (by simp) (by simp)
  | sl sz xs ys hl hz h1 h ih =>
    intro v hv
    cases hv with
    | sl _ _ a cap val hc _ _ hs hr =>
      rw [← hl]
      refine .sl sz ys a cap val (by omega) hz h1 (fun hne => ?_) fun i j hi hj => ih i j (by omega) hj (hr i j (by omega) hj)
      obtain ⟨b, o, ha, hb⟩ := hs (fun hx => hne (by subst hx; exact List.length_eq_zero_iff.1 hl))
      exact ⟨b, o, ha, fun i j hi hj => hle.cell _ _ _ (hb i j (by omega) hj)⟩
  | gl b sz xs ys hl hz h1 h ih =>
    intro v hv
    cases hv with
    | gl _ _ _ cap e n val hne hc _ _ hsh hn hs hr =>
      rw [← hl]
      refine .sl sz ys _ cap val (by omega) hz h1 (fun _ => ⟨b, 0, rfl, fun i j hi hj => ?_⟩) fun i j hi hj => ih i j (by omega) hj (hr i j (by omega) hj)
      rw [Nat.zero_add]; exact hle.cell _ _ _ (hs i j (by omega) hj)
  | ar b sz off len cs ys hl hz h1 hb hn h ih =>
    intro v hv
    cases hv with
    | ar _ _ _ _ cap a e n hsh hc hn' ha =>
      obtain ⟨e', n', g1, g2, g3, g4, g5⟩ := hI.own b 0 cs hb
      have key : ∀ i j, i < len → j < sz → ∃ x, w.cell? ⟨b, off + (i * sz + j), none⟩ = some x ∧ Rel S (cs.getD (off + (i * sz + j)) .un) x := fun i j hi hj => by
        have : i * sz + j < len * sz := calc
          i * sz + j < i * sz + sz := by omega
          _ = (i + 1) * sz := by rw [Nat.succ_mul]
          _ ≤ len * sz := Nat.mul_le_mul_right _ hi
        have := g5 (off + (i * sz + j)) (by omega)
        rwa [Nat.zero_add] at this
      subst hl
      refine .sl sz ys a cap (fun i j => (w.cell? ⟨b, off + (i * sz + j), none⟩).getD undef) hc hz h1 (fun hne => ?_) fun i j hi hj => ?_
      · have : 0 < ys.length := List.length_pos_iff.2 hne
        refine ⟨b, off, ha (by omega), fun i j hi hj => ?_⟩
        obtain ⟨x, hx, _⟩ := key i j hi hj
        simp [sealAll, hb, hx]
      · obtain ⟨x, hx, hr⟩ := key i j hi hj
        simp only [hx, Option.getD_some]
        exact ih i j hi hj hr
  | pt b o cs ds hb hl h ih =>
    intro v hv
    cases hv with
    | pt _ _ =>
      obtain ⟨e', n', g1, g2, g3, g4, g5⟩ := hI.own b 0 cs hb
      have := Rel.rp (S := sealAll S σ w) ds o b 0 (fun j => (w.cell? ⟨b, j, none⟩).getD undef) (fun j hj => ?_) (fun j hj => ?_)
      · rwa [Nat.zero_add] at this
      · obtain ⟨x, hx, _⟩ := g5 j (by omega)
        rw [Nat.zero_add] at hx ⊢
        simp [sealAll, hb, hx]
      · obtain ⟨x, hx, hr⟩ := g5 j (by omega)
        rw [Nat.zero_add] at hx
        simp only [hx, Option.getD_some]
        exact ih j hj hr
  | ag xs ys hl h ih => intro v hv; cases hv with | ag _ vs hl' hr => exact .ag ys vs (by omega) fun j hj => ih j (by omega) (hr j (by omega))
  | tu xs ys hl h ih => intro v hv; cases hv with | tu _ vs hl' hr => exact .tu ys vs (by omega) fun j hj => ih j (by omega) (hr j (by omega))
  | fn f xs ys us vs hl h hl' h' ih ih' =>
    intro v hv
    cases hv with
    | fn _ _ _ vf vc hf hc hrf hrc => exact .fn f ys vs vf vc (by omega) (by omega) (fun j hj => ih j (by omega) (hrf j (by omega))) fun j hj => ih' j (by omega) (hrc j (by omega))

/-- AT A FUNCTION's END: all is dropped, the result is data -/
theorem Fin.view {Q : KAV} {r x : AV} {σ : AHeap} (h : View σ r x) (hq : Q x .emp) : Fin Q r σ :=
  fun S w v hI hR => ⟨sealAll S σ w, x, .emp, sealAll_step hI, h.rel hI hR, hq⟩

/-- AT A FUNCTION's END: some blocks are dropped -/
theorem Fin.drop {Q : KAV} {r : AV} {σ σ' : AHeap} (h : ∀ b x, σ' b = some x → σ b = some x) (hq : Q r σ') : Fin Q r σ :=
  fun S w v hI hR => ⟨S, r, σ', Step.drop hI h, hR, hq⟩

/-- lists of arguments -/
def ViewL (σ : AHeap) (xs ys : List AV) : Prop := ys.length = xs.length ∧ ∀ j, j < xs.length → View σ (xs.getD j .un) (ys.getD j .un)
theorem ViewL.nil {σ : AHeap} : ViewL σ [] [] := ⟨rfl, by simp⟩
theorem ViewL.cons {σ : AHeap} {x y : AV} {xs ys : List AV} (h : View σ x y) (h' : ViewL σ xs ys) : ViewL σ (x :: xs) (y :: ys) := by
  refine ⟨by simp [h'.1], fun j hj => ?_⟩
  cases j with
  | zero => simpa using h
  | succ j => simpa using h'.2 j (by simpa using hj)

/-- values that hold no sealed memory -/
inductive Solid : AV → Prop
  | un : Solid .un
  | sc (v) : Solid (.sc v)
  | nl : Solid .nl
  | sl0 (sz) : Solid (.sl sz [])
  | pt (b o) : Solid (.pt b o)
  | ar (b sz o n) : Solid (.ar b sz o n)
  | ag (xs) (h : ∀ j, j < xs.length → Solid (xs.getD j .un)) : Solid (.ag xs)
  | tu (xs) (h : ∀ j, j < xs.length → Solid (xs.getD j .un)) : Solid (.tu xs)

theorem Solid.rel {S S' : Seal} (hsh : S.shape = S'.shape) {x : AV} (h : Solid x) : ∀ {v : Value}, Rel S x v → Rel S' x v := by
  induction h with
  | un => intro _ _; exact .un _
  | sc v => intro _ h; cases h with | sc => exact .sc _
  | nl => intro _ h; cases h with | nl a => exact .nl a
  | sl0 sz => intro _ h; cases h with | sl _ _ a cap val hc _ _ _ _ => exact .sl sz [] a cap val hc (by simp) (by simp) (by simp) (by simp)
  | pt b o => intro _ h; cases h with | pt => exact .pt _ _
  | ar b sz o n => intro _ h; cases h with | ar _ _ _ _ cap a e m hs hc hn ha => exact .ar b sz o n cap a e m (by rw [← hsh]; exact hs) hc hn ha
  | ag xs h ih => intro _ h; cases h with | ag _ vs hl hr => exact .ag xs vs hl fun j hj => ih j hj (hr j hj)
  | tu xs h ih => intro _ h; cases h with | tu _ vs hl hr => exact .tu xs vs hl fun j hj => ih j hj (hr j hj)

def SolidH (τ : AHeap) : Prop := ∀ b x, τ b = some x → ∃ lo cs, x = .cells lo cs ∧ ∀ i, i < cs.length → Solid (cs.getD i .un)
theorem SolidH.emp : SolidH .emp := fun b x h => by simp [AHeap.emp] at h

theorem dis_of {S : Seal} {σ τ : AHeap} {w : World} (hI : Inv S σ w) (h : ∀ b, τ b ≠ none → w.heap.size ≤ b) (b : Nat) : σ b = none ∨ τ b = none := by
  cases hx : σ b with
  | none => exact .inl rfl
  | some x =>
    have h1 := hI.lt_own hx
    cases hy : τ b with
    | none => exact .inr rfl
    | some y => have := h b (by simp [hy]); omega

/-- FRAME: what a function does that owns nothing, it does beside what is owned. -/
theorem ACalls.frame {P : Program} {G : Seal} {f : FuncId} {args : List AV} {Q K : KAV} {σ : AHeap} (h : ACalls P G f args .emp Q) (hk : ∀ r τ, Q r τ → (∀ b, σ b = none ∨ τ b = none) → K r (σ.un τ)) : ACalls P G f args σ K := by
  refine ⟨h.1, fun S w vs hG hI hR => ?_⟩
  have hI0 : Inv S .emp w := ⟨hI.cell, hI.shape, fun b lo cs h => by simp [AHeap.emp] at h, fun b es h => by simp [AHeap.emp] at h⟩
  refine (h.2 S w vs hG hI0 hR).mono fun e w' ⟨v, r, S', τ, he, hs, hr, hq⟩ => ⟨v, r, S', σ.un τ, he, ?_, hr, hk _ _ hq (dis_of hI fun b hb => (hs.dom b hb).elim (fun h => absurd rfl h) id)⟩
  have hw : ∀ b, b < w.heap.size → w'.heap[b]? = w.heap[b]? := fun b hb => hs.keep b hb rfl
  have hdis : ∀ b, τ b ≠ none → w.heap.size ≤ b := fun b hb => (hs.dom b hb).elim (fun h => absurd rfl h) id
  refine ⟨hs.le, ⟨hs.inv.cell, hs.inv.shape, fun b lo cs hb => ?_, fun b es hb => ?_⟩, fun b hb _ => hw b hb, fun b hb => ?_, hs.size, fun b o v hv => ?_, hs.out⟩
  · unfold AHeap.un at hb
    cases hσ : σ b with
    | none => rw [hσ] at hb; exact hs.inv.own b lo cs hb
    | some x =>
      rw [hσ] at hb
      simp at hb
      subst hb
      have hlt := hI.lt_own hσ
      obtain ⟨e', n, g1, g2, g3, g4, g5⟩ := hI.own b lo cs hσ
      refine ⟨e', n, hs.le.shape _ _ g1, g2, fun j hj => ?_, fun j hj => ?_, fun i hi => ?_⟩
      · cases hc : S'.cell b j with
        | none => rfl
        | some v =>
          rcases hs.sealed b j v hc with h1 | h1 | h1
          · rw [g3 j hj] at h1; exact absurd h1 (by simp)
          · exact absurd rfl h1
          · omega
      · have := g4 j hj; unfold World.frozen? at this ⊢; rw [hw b hlt]; exact this
      · obtain ⟨v, hv, hv'⟩ := g5 i hi
        exact ⟨v, by unfold World.cell? at hv ⊢; rw [hw b hlt]; exact hv, hv'.mono hs.le⟩
  · unfold AHeap.un at hb
    cases hσ : σ b with
    | none => rw [hσ] at hb; exact hs.inv.map b es hb
    | some x =>
      rw [hσ] at hb
      simp at hb
      subst hb
      have hlt := hI.lt_own hσ
      obtain ⟨ents, clock, g1, g2, g3⟩ := hI.map b es hσ
      exact ⟨ents, clock, by rw [hw b hlt]; exact g1, g2, fun i hi => by obtain ⟨x, h1, h2, h3⟩ := g3 i hi; exact ⟨x, h1, h2, h3.mono hs.le⟩⟩
  · unfold AHeap.un at hb
    cases hσ : σ b with
    | none => rw [hσ] at hb; exact .inr (hdis b hb)
    | some x => exact .inl (by simp)
  · rcases hs.sealed b o v hv with h1 | h1 | h1
    · exact .inl h1
    · exact absurd rfl h1
    · exact .inr (.inr h1)

/-- BORROW: a function of data may be handed what is owned. -/
theorem ACalls.borrow {P : Program} {G : Seal} {f : FuncId} {args args' : List AV} {Q K : KAV} {σ : AHeap} (h : ACalls P G f args' .emp Q) (hv : ViewL σ args args')
    (hk : ∀ r τ, Q r τ → (∀ b, σ b = none ∨ τ b = none) → Solid r ∧ SolidH τ ∧ K r (σ.un τ)) : ACalls P G f args σ K := by
  refine ⟨h.1, fun S w vs hG hI hR => ?_⟩
  have hI0 := sealAll_inv hI
  have hR0 : RelL (sealAll S σ w) args' vs.toList := ⟨by rw [hR.1, hv.1], fun j hj => (hv.2 j (by rw [← hv.1]; exact hj)).rel hI (hR.2 j (by rw [← hv.1]; exact hj))⟩
  refine (h.2 (sealAll S σ w) w vs (hG.trans (sealAll_le hI)) hI0 hR0).mono fun e w' ⟨v, r, S', τ, he, hs, hr, hq⟩ => ?_
  obtain ⟨q1, q2, q3⟩ := hk _ _ hq (dis_of hI fun b hb => (hs.dom b hb).elim (fun h => absurd rfl h) id)
  have hw : ∀ b, b < w.heap.size → w'.heap[b]? = w.heap[b]? := fun b hb => hs.keep b hb rfl
  have hdis : ∀ b, τ b ≠ none → w.heap.size ≤ b := fun b hb => (hs.dom b hb).elim (fun h => absurd rfl h) id
  let S2 : Seal := ⟨fun b j => if b < w.heap.size then S.cell b j else S'.cell b j, S'.shape⟩
  have hle2 : S.le S2 := ⟨fun b o v h => by
      have : b < w.heap.size := lt_of_cell? (hI.cell _ _ _ h)
      show (if b < w.heap.size then _ else _) = _
      rw [if_pos this]; exact h, fun b s h => hs.le.shape _ _ h⟩
  have hcell2 : ∀ b j, b < w.heap.size → w'.cell? ⟨b, j, none⟩ = w.cell? ⟨b, j, none⟩ := fun b j hb => by unfold World.cell?; rw [hw b hb]
  refine ⟨v, r, S2, σ.un τ, he, ⟨hle2, ⟨fun b o v hv => ?_, hs.inv.shape, fun b lo cs hb => ?_, fun b es hb => ?_⟩, fun b hb _ => hw b hb, fun b hb => ?_, hs.size, fun b o v hv => ?_, hs.out⟩, Solid.rel (S := S') (S' := S2) rfl q1 hr, q3⟩
  · have hv : (if b < w.heap.size then S.cell b o else S'.cell b o) = some v := hv
    by_cases hb : b < w.heap.size
    · rw [if_pos hb] at hv; rw [hcell2 b o hb]; exact hI.cell _ _ _ hv
    · rw [if_neg hb] at hv; exact hs.inv.cell _ _ _ hv
  · unfold AHeap.un at hb
    cases hσ : σ b with
    | none =>
      rw [hσ] at hb
      have hb : τ b = some (.cells lo cs) := hb
      have hbb := hdis b (fun hx => by rw [hx] at hb; simp at hb)
      obtain ⟨e', n, g1, g2, g3, g4, g5⟩ := hs.inv.own b lo cs hb
      refine ⟨e', n, g1, g2, fun j hj => ?_, g4, fun i hi => ?_⟩
      · show (if b < w.heap.size then _ else _) = _
        rw [if_neg (by omega)]; exact g3 j hj
      · obtain ⟨v, hv, hv'⟩ := g5 i hi
        obtain ⟨lo', cs', hx, hsol⟩ := q2 b _ hb
        simp at hx
        obtain ⟨rfl, rfl⟩ := hx
        exact ⟨v, hv, Solid.rel (S := S') (S' := S2) rfl (hsol i hi) hv'⟩
    | some x =>
      rw [hσ] at hb
      simp at hb
      subst hb
      have hlt := hI.lt_own hσ
      obtain ⟨e', n, g1, g2, g3, g4, g5⟩ := hI.own b lo cs hσ
      refine ⟨e', n, hle2.shape _ _ g1, g2, fun j hj => ?_, fun j hj => ?_, fun i hi => ?_⟩
      · show (if b < w.heap.size then _ else _) = _
        rw [if_pos hlt]; exact g3 j hj
      · have := g4 j hj; unfold World.frozen? at this ⊢; rw [hw b hlt]; exact this
      · obtain ⟨v, hv, hv'⟩ := g5 i hi
        exact ⟨v, by rw [hcell2 b _ hlt]; exact hv, hv'.mono hle2⟩
  · unfold AHeap.un at hb
    cases hσ : σ b with
    | none => rw [hσ] at hb; obtain ⟨lo, cs, hx, _⟩ := q2 b _ hb; simp at hx
    | some x =>
      rw [hσ] at hb
      simp at hb
      subst hb
      have hlt := hI.lt_own hσ
      obtain ⟨ents, clock, g1, g2, g3⟩ := hI.map b es hσ
      exact ⟨ents, clock, by rw [hw b hlt]; exact g1, g2, fun i hi => by obtain ⟨x, h1, h2, h3⟩ := g3 i hi; exact ⟨x, h1, h2, h3.mono hle2⟩⟩
  · unfold AHeap.un at hb
    cases hσ : σ b with
    | none => rw [hσ] at hb; exact .inr (hdis b hb)
    | some x => exact .inl (by simp)
  · have hv : (if b < w.heap.size then S.cell b o else S'.cell b o) = some v := hv
    by_cases hb : b < w.heap.size
    · rw [if_pos hb] at hv; exact .inl hv
    · exact .inr (.inr (by omega))

end Go.Al
