/- The abstract logic, part 19: heaps in parts, memory given away, owned rows. -/
import Derived.Test.YtpooknfdodimdaaGreatDoorAl18
set_option linter.unusedVariables false
set_option linter.unusedSimpArgs false
namespace Go.Al

/-- heaps without a block in common -/
def Dis (σ τ : AHeap) : Prop := ∀ b, σ b = none ∨ τ b = none
def AHeap.le (σ τ : AHeap) : Prop := ∀ b x, σ b = some x → τ b = some x

theorem Dis.symm {σ τ : AHeap} (h : Dis σ τ) : Dis τ σ := fun b => (h b).symm
theorem Dis.emp_right (σ : AHeap) : Dis σ .emp := fun _ => .inr rfl
theorem Dis.emp_left (σ : AHeap) : Dis .emp σ := fun _ => .inl rfl
theorem AHeap.le.refl (σ : AHeap) : σ.le σ := fun _ _ h => h
theorem AHeap.le.trans {a b c : AHeap} (h : a.le b) (h' : b.le c) : a.le c := fun _ _ x => h' _ _ (h _ _ x)
theorem AHeap.le_un_left (σ τ : AHeap) : σ.le (σ.un τ) := fun b x h => by simp [AHeap.un, h]
theorem AHeap.le_un_right {σ τ : AHeap} (h : Dis σ τ) : τ.le (σ.un τ) := fun b x hx => by
  rcases h b with h | h
  · simp [AHeap.un, h, hx]
  · rw [h] at hx; simp at hx
theorem AHeap.emp_le (σ : AHeap) : AHeap.emp.le σ := fun b x h => by simp [AHeap.emp] at h
@[simp] theorem AHeap.emp_un (σ : AHeap) : AHeap.emp.un σ = σ := rfl
theorem AHeap.un_assoc (a b c : AHeap) : (a.un b).un c = a.un (b.un c) := by funext x; simp only [AHeap.un]; cases a x <;> rfl
theorem AHeap.un_comm {a b : AHeap} (h : Dis a b) : a.un b = b.un a := by
  funext x
  simp only [AHeap.un]
  rcases h x with h | h <;> rw [h]
  · cases b x <;> rfl
  · cases a x <;> rfl
theorem AHeap.un_none {a b : AHeap} {c : Nat} : (a.un b) c = none ↔ a c = none ∧ b c = none := by
  simp only [AHeap.un]; cases a c <;> simp
theorem Dis.un_right {a b c : AHeap} (h : Dis a b) (h' : Dis a c) : Dis a (b.un c) := fun x => by
  rcases h x with h | h
  · exact .inl h
  · rcases h' x with h' | h'
    · exact .inl h'
    · exact .inr (AHeap.un_none.2 ⟨h, h'⟩)
theorem Dis.un_left {a b c : AHeap} (h : Dis a c) (h' : Dis b c) : Dis (a.un b) c := (Dis.un_right h.symm h'.symm).symm
theorem Dis.of_un_right_l {a b c : AHeap} (h : Dis a (b.un c)) : Dis a b := fun x => (h x).imp id fun h => (AHeap.un_none.1 h).1
theorem Dis.of_un_right_r {a b c : AHeap} (h : Dis a (b.un c)) : Dis a c := fun x => (h x).imp id fun h => (AHeap.un_none.1 h).2
theorem Dis.of_un_left_l {a b c : AHeap} (h : Dis (a.un b) c) : Dis a c := fun x => (h x).imp (fun h => (AHeap.un_none.1 h).1) id
theorem Dis.of_un_left_r {a b c : AHeap} (h : Dis (a.un b) c) : Dis b c := fun x => (h x).imp (fun h => (AHeap.un_none.1 h).2) id
theorem AHeap.un_ins_left {a b : AHeap} {c : Nat} {x : ABlk} : (a.ins c x).un b = (a.un b).ins c x := by
  funext y; simp only [AHeap.un, AHeap.ins]; by_cases h : y = c <;> simp [h]
theorem AHeap.un_ins_right {a b : AHeap} {c : Nat} {x : ABlk} (h : a c = none) : a.un (b.ins c x) = (a.un b).ins c x := by
  funext y; simp only [AHeap.un, AHeap.ins]; by_cases hy : y = c
  · subst hy; simp [h]
  · simp [hy]
theorem Dis.ins_right {a b : AHeap} {c : Nat} {x : ABlk} (h : Dis a b) (hc : a c = none) : Dis a (b.ins c x) := fun y => by
  by_cases hy : y = c
  · subst hy; exact .inl hc
  · rcases h y with h | h
    · exact .inl h
    · right; simp [AHeap.ins, hy, h]
theorem Dis.of_ins_right {a b : AHeap} {c : Nat} {x : ABlk} (h : Dis a (b.ins c x)) : a c = none := by
  rcases h c with h | h
  · exact h
  · simp [AHeap.ins] at h
theorem AHeap.ins_some_ne {σ : AHeap} {b : Nat} {x y : ABlk} {c : Nat} (h : (σ.ins b x) c = none) : c ≠ b ∧ σ c = none := by
  by_cases hc : c = b
  · subst hc; simp at h
  · exact ⟨hc, by simpa [AHeap.ins, hc] using h⟩
theorem AHeap.emp_ins_self (b : Nat) (x : ABlk) : (AHeap.emp.ins b x) b = some x := AHeap.ins_self _ _ _
theorem AHeap.un_of_right {a b : AHeap} {c : Nat} (h : a c = none) : (a.un b) c = b c := by simp [AHeap.un, h]
theorem AHeap.ins_comm (σ : AHeap) {b c : Nat} (x y : ABlk) (h : b ≠ c) : (σ.ins b x).ins c y = (σ.ins c y).ins b x := by
  funext d; simp only [AHeap.ins]; by_cases h1 : d = c <;> by_cases h2 : d = b <;> simp_all
theorem AHeap.ins_same {σ : AHeap} {b : Nat} {x : ABlk} (h : σ b = some x) : σ.ins b x = σ := by
  funext d; simp only [AHeap.ins]; by_cases h1 : d = b
  · subst h1; simp [h]
  · simp [h1]

theorem View.mono {σ τ : AHeap} (hle : σ.le τ) {x y : AV} (h : View σ x y) : View τ x y := by
  induction h with
  | refl v => exact .refl v
  | un v => exact .un v
  | nl sz => exact .nl sz
  | sl sz xs ys hl hz h1 h ih => exact .sl sz xs ys hl hz h1 ih
  | gl b sz xs ys hl hz h1 h ih => exact .gl b sz xs ys hl hz h1 ih
  | ar b sz off len cs ys hl hz h1 hb hn h ih => exact .ar b sz off len cs ys hl hz h1 (hle _ _ hb) hn ih
  | pt b o cs ds hb hl h ih => exact .pt b o cs ds (hle _ _ hb) hl ih
  | ag xs ys hl h ih => exact .ag xs ys hl ih
  | tu xs ys hl h ih => exact .tu xs ys hl ih
  | fn f xs ys us vs hl h hl' h' ih ih' => exact .fn f xs ys us vs hl ih hl' ih'
theorem ViewL.mono {σ τ : AHeap} (hle : σ.le τ) {xs ys : List AV} (h : ViewL σ xs ys) : ViewL τ xs ys := ⟨h.1, fun j hj => (h.2 j hj).mono hle⟩

/-- a part of what is owned, sealed -/
theorem seal_part {S : Seal} {σ σ1 σ2 : AHeap} {w : World} (hI : Inv S σ w) (h1 : σ1.le σ) (h2 : σ2.le σ) (hd : Dis σ1 σ2) : Step S σ w (sealAll S σ2 w) σ1 w := by
  have hI2 := (Step.drop hI h2).inv
  have hI1 := (Step.drop hI h1).inv
  refine ⟨sealAll_le hI2, ⟨(sealAll_inv hI2).cell, (sealAll_inv hI2).shape, fun b lo cs hb => ?_, fun b es hb => ?_⟩, fun _ _ _ => rfl, fun b hb => .inl ?_, Nat.le_refl _, fun b o v hv => ?_, rfl, rfl⟩
  · obtain ⟨e, n, g1, g2, g3, g4, g5⟩ := hI1.own b lo cs hb
    refine ⟨e, n, g1, g2, fun j hj => ?_, g4, fun i hi => ?_⟩
    · have : σ2 b = none := (hd b).resolve_left (by simp [hb])
      simp only [sealAll, this]; exact g3 j hj
    · obtain ⟨v, hv, hr⟩ := g5 i hi
      exact ⟨v, hv, hr.mono (sealAll_le hI2)⟩
  · obtain ⟨ents, clock, g1, g2, g3⟩ := hI1.map b es hb
    exact ⟨ents, clock, g1, g2, fun i hi => by obtain ⟨x, a, b, c⟩ := g3 i hi; exact ⟨x, a, b, c.mono (sealAll_le hI2)⟩⟩
  · cases hx : σ1 b with
    | none => exact absurd hx hb
    | some x => rw [h1 _ _ hx]; simp
  · simp only [sealAll] at hv
    cases hx : σ2 b with
    | none => rw [hx] at hv; exact .inl hv
    | some x => rw [h2 _ _ hx]; exact .inr (.inl (by simp))

/-- GIVE: a function of data is handed what was owned and is of no more use. -/
theorem ACalls.give {P : Program} {G : Seal} {f : FuncId} {args args' : List AV} {Q K : KAV} {σ : AHeap} (σ1 σ2 : AHeap) (h : ACalls P G f args' .emp Q) (h1 : σ1.le σ) (h2 : σ2.le σ) (hd : Dis σ1 σ2) (hv : ViewL σ2 args args')
    (hk : ∀ r τ, Q r τ → Dis σ1 τ → K r (σ1.un τ)) : ACalls P G f args σ K := by
  refine ⟨h.1, fun S w vs hG hI hR => ?_⟩
  have hs := seal_part hI h1 h2 hd
  have hI2 := (Step.drop hI h2).inv
  have hR0 : RelL (sealAll S σ2 w) args' vs.toList := ⟨by rw [hR.1, hv.1], fun j hj => (hv.2 j (by rw [← hv.1]; exact hj)).rel hI2 (hR.2 j (by rw [← hv.1]; exact hj))⟩
  refine ((h.frame (σ := σ1) hk).2 (sealAll S σ2 w) w vs (hG.trans hs.le) hs.inv hR0).mono fun e w' ⟨v, r, S', τ, he, hs', hr, hq⟩ => ⟨v, r, S', τ, he, hs.trans hs', hr, hq⟩

/-- AT A FUNCTION's END: some blocks are given away, and the result read as data there; others are kept -/
theorem Fin.give {Q : KAV} {r x : AV} {σ : AHeap} (σ1 σ2 : AHeap) (h1 : σ1.le σ) (h2 : σ2.le σ) (hd : Dis σ1 σ2) (h : View σ2 r x) (hq : Q x σ1) : Fin Q r σ :=
  fun S w v hI hR => ⟨_, x, σ1, seal_part hI h1 h2 hd, h.rel (Step.drop hI h2).inv hR, hq⟩

/- OWNED ROWS -/
/-- cells owned one by one: element a lies in these cells, and owns this memory -/
inductive OList {α : Type} (E : AHeap → List AV → α → Prop) : AHeap → List (List AV) → List α → Prop
  | nil : OList E .emp [] []
  | cons {H H' : AHeap} {r : List AV} {a : α} {rs : List (List AV)} {l : List α} (he : E H r a) (ht : OList E H' rs l) (hd : Dis H H') : OList E (H.un H') (r :: rs) (a :: l)

/-- a list in a row of its own -/
inductive ORow {α : Type} (n : Nat) (E : AHeap → List AV → α → Prop) : AHeap → AV → List α → Prop
  | nl : ORow n E .emp .nl []
  | ar {H : AHeap} {b : Nat} {rows : List (List AV)} {l : List α} (ho : OList E H rows l) (hb : H b = none) (hz : ∀ r ∈ rows, r.length = n) : ORow n E (H.ins b (.cells 0 rows.flatten)) (.ar b n 0 rows.length) l

/-- elements that own nothing -/
def EFlat {α : Type} (f : α → List AV) (H : AHeap) (r : List AV) (a : α) : Prop := H = .emp ∧ r = f a

theorem OList.length {α : Type} {E : AHeap → List AV → α → Prop} {H : AHeap} {rs : List (List AV)} {l : List α} (h : OList E H rs l) : rs.length = l.length := by
  induction h with
  | nil => rfl
  | cons _ _ _ ih => simp [ih]

theorem OList.flat {α : Type} {f : α → List AV} {H : AHeap} {rs : List (List AV)} {l : List α} (h : OList (EFlat f) H rs l) : H = .emp ∧ rs = l.map f := by
  induction h with
  | nil => exact ⟨rfl, rfl⟩
  | cons he _ _ ih => obtain ⟨rfl, rfl⟩ := he; obtain ⟨rfl, rfl⟩ := ih; exact ⟨rfl, rfl⟩
theorem OList.ofFlat {α : Type} (f : α → List AV) (l : List α) : OList (EFlat f) .emp (l.map f) l := by
  induction l with
  | nil => exact .nil
  | cons a l ih => exact .cons (H := .emp) (H' := .emp) ⟨rfl, rfl⟩ ih (.emp_left _)

theorem OList.append {α : Type} {E : AHeap → List AV → α → Prop} {H H' : AHeap} {rs rs' : List (List AV)} {l l' : List α} (h : OList E H rs l) (h' : OList E H' rs' l') (hd : Dis H H') : OList E (H.un H') (rs ++ rs') (l ++ l') := by
  induction h with
  | nil => simpa using h'
  | @cons H1 H2 r a rs l he ht hd1 ih =>
    rw [AHeap.un_assoc]
    exact .cons he (ih hd.of_un_left_r) (hd1.un_right hd.of_un_left_l)
theorem OList.one {α : Type} {E : AHeap → List AV → α → Prop} {H : AHeap} {r : List AV} {a : α} (h : E H r a) : OList E H [r] [a] := by
  have := OList.cons (H' := .emp) h .nil (.emp_right H)
  simpa using this

/-- split at a place -/
theorem OList.split {α : Type} {E : AHeap → List AV → α → Prop} {H : AHeap} {rs : List (List AV)} {l1 l2 : List α} (h : OList E H rs (l1 ++ l2)) : ∃ H1 H2 rs1 rs2, OList E H1 rs1 l1 ∧ OList E H2 rs2 l2 ∧ Dis H1 H2 ∧ H = H1.un H2 ∧ rs = rs1 ++ rs2 := by
  induction l1 generalizing H rs with
  | nil => exact ⟨.emp, H, [], rs, .nil, h, .emp_left _, rfl, rfl⟩
  | cons a l1 ih =>
    cases h with
    | @cons H1 H2 r _ rs _ he ht hd =>
      obtain ⟨A, B, ra, rb, h1, h2, h3, rfl, rfl⟩ := ih ht
      exact ⟨H1.un A, B, r :: ra, rb, .cons he h1 hd.of_un_right_l, h2, Dis.un_left hd.of_un_right_r h3, by rw [AHeap.un_assoc], rfl⟩

/-- what elements are read as -/
def EView {α : Type} (n : Nat) (E : AHeap → List AV → α → Prop) (f : α → List AV) : Prop :=
  ∀ H r a, E H r a → r.length = n ∧ (f a).length = n ∧ (f a).all AV.cell1 = true ∧ ∀ j, j < n → View H (r.getD j .un) ((f a).getD j .un)

theorem EFlat.view {α : Type} {n : Nat} {f : α → List AV} (hn : ∀ a, (f a).length = n) (h1 : ∀ a, (f a).all AV.cell1 = true) : EView n (EFlat f) f := fun H r a ⟨hH, hr⟩ => by
  subst hr; exact ⟨hn a, hn a, h1 a, fun j hj => .refl _⟩

theorem flatten_length {n : Nat} (rows : List (List AV)) (hz : ∀ r ∈ rows, r.length = n) : rows.flatten.length = rows.length * n := (flatten_getD rows hz).1

theorem OList.view {α : Type} {n : Nat} {E : AHeap → List AV → α → Prop} {f : α → List AV} (hE : EView n E f) {H : AHeap} {rs : List (List AV)} {l : List α} (h : OList E H rs l) :
    ∀ i j, i < l.length → j < n → View H ((rs.getD i []).getD j .un) (((l.map f).getD i []).getD j .un) := by
  induction h with
  | nil => intro i j hi; simp at hi
  | cons he ht hd ih =>
    intro i j hi hj
    cases i with
    | zero => simpa using ((hE _ _ _ he).2.2.2 j hj).mono (AHeap.le_un_left _ _)
    | succ i => simpa using (ih i j (by simpa using hi) hj).mono (AHeap.le_un_right hd)

theorem ORow.view {α : Type} {n : Nat} {E : AHeap → List AV → α → Prop} {f : α → List AV} (hE : EView n E f) {H : AHeap} {v : AV} {l : List α} (h : ORow n E H v l) : View H v (.sl n (l.map f)) := by
  have hf : ∀ {H rs} {l : List α}, OList E H rs l → (∀ x ∈ l.map f, x.length = n) ∧ (∀ x ∈ l.map f, x.all AV.cell1 = true) := by
    intro H rs l h
    induction h with
    | nil => simp
    | cons he _ _ ih => simp only [List.map_cons, List.mem_cons, forall_eq_or_imp]; exact ⟨⟨(hE _ _ _ he).2.1, ih.1⟩, ⟨(hE _ _ _ he).2.2.1, ih.2⟩⟩
  cases h with
  | nl => exact .nl n
  | @ar H b rows l ho hb hz =>
    have hl := ho.length
    refine .ar b n 0 rows.length rows.flatten (l.map f) (by simp [hl]) (hf ho).1 (hf ho).2 (AHeap.ins_self _ _ _) (by rw [flatten_length rows hz]; omega) fun i j hi hj => ?_
    rw [Nat.zero_add, (flatten_getD rows hz).2 i j hi hj]
    exact (ho.view hE i j (by omega) hj).mono fun c x hx => by
      have : c ≠ b := fun e => by subst e; rw [hb] at hx; simp at hx
      rw [AHeap.ins_ne _ _ this]; exact hx

theorem ORow.none_or {α : Type} {n : Nat} {E : AHeap → List AV → α → Prop} {H : AHeap} {v : AV} {l : List α} (h : ORow n E H v l) : v.cell1 = true := by cases h <;> rfl

end Go.Al
