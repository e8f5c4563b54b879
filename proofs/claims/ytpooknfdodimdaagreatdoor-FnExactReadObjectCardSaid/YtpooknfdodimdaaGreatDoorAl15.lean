/- The abstract logic, part 15: drawn regions, code, functions. -/
import Derived.Test.YtpooknfdodimdaaGreatDoorAl14
set_option linter.unusedVariables false
set_option linter.unusedSimpArgs false
namespace Go.Al
variable {P : Program} {G : Seal}

theorem onOf_true {listed : Array Bool} {i : Nat} (hi : i < listed.size) : listed.getD i true = onOf listed i := by
  unfold onOf; rw [agetD, agetD]; simp [List.getD, hi]

theorem mem_ready {ops : Array Oper} {listed : Array Bool} (hsz : listed.size = ops.size) {i : Nat} :
    i ∈ Region.ready .any ops listed ↔ ∃ o, ops.toList[i]? = some o ∧ i < ops.size ∧ onOf listed i = false ∧ ∀ j ∈ directPreds o, onOf listed j = true := by
  unfold Region.ready
  rw [List.mem_filter, List.mem_range]
  constructor
  · rintro ⟨hi, h⟩
    simp only [Bool.and_eq_true] at h
    obtain ⟨h1, h2⟩ := h
    rw [onOf_true (by omega)] at h1
    refine ⟨ops[i], by simp [hi], hi, by simpa using h1, fun j hj => ?_⟩
    simp [hi] at h2
    unfold directPreds at hj
    obtain ⟨e, he, rfl⟩ := List.mem_map.1 hj
    obtain ⟨he1, he2⟩ := List.mem_filter.1 he
    obtain ⟨n, hn, rfl⟩ := List.mem_iff_getElem.1 he1
    rcases h2 n (by simpa using hn) with h3 | h3
    · simp at he2; rw [he2] at h3; simp at h3
    · unfold onOf; rw [agetD]; simpa [List.getD] using h3
  · rintro ⟨o, ho, hi, h1, h2⟩
    refine ⟨hi, ?_⟩
    simp only [Bool.and_eq_true]
    refine ⟨by rw [onOf_true (by omega), h1]; rfl, ?_⟩
    have ho' : ops[i]? = some o := by simpa using ho
    rw [ho']
    simp only [Option.map_some, Option.getD_some]
    rw [Array.all_eq_true]
    intro n hn
    cases hb : Region.binds .any o.after[n] with
    | false => simp
    | true =>
      have := h2 o.after[n].on (by
        unfold directPreds
        exact List.mem_map.2 ⟨o.after[n], List.mem_filter.2 ⟨by simp, hb⟩, rfl⟩)
      simp only [Bool.not_true, Bool.false_or]
      exact this

theorem countP_set {listed : Array Bool} {i n : Nat} (hi : i < n) (hl : i < listed.size) (hu : onOf listed i = false) :
    (List.range n).countP (fun j => !onOf (listed.setIfInBounds i true) j) + 1 = (List.range n).countP fun j => !onOf listed j := by
  have key : ∀ l : List Nat, l.Nodup → i ∈ l → l.countP (fun j => !onOf (listed.setIfInBounds i true) j) + 1 = l.countP fun j => !onOf listed j := by
    intro l
    induction l with
    | nil => intro _ h; simp at h
    | cons x r ih =>
      intro hnd hm
      obtain ⟨h1, h2⟩ := List.nodup_cons.1 hnd
      rcases List.mem_cons.1 hm with rfl | hm
      · have : ∀ m ∈ r, onOf (listed.setIfInBounds i true) m = onOf listed m := fun m hm => by
          rw [onOf_set hl, if_neg (fun e : i = m => h1 (by rw [e]; exact hm))]
        rw [List.countP_cons_of_neg (by rw [onOf_set hl]; simp), List.countP_cons_of_pos (by rw [hu]; rfl)]
        congr 1
        exact List.countP_congr fun m hm => by rw [this m hm]
      · have hne : i ≠ x := fun e => h1 (by rw [← e]; exact hm)
        have := ih h2 hm
        by_cases hx : onOf listed x = true
        · rw [List.countP_cons_of_neg (by rw [onOf_set hl, if_neg hne, hx]; simp), List.countP_cons_of_neg (by rw [hx]; simp)]; exact this
        · have hx : onOf listed x = false := by simpa using hx
          rw [List.countP_cons_of_pos (by rw [onOf_set hl, if_neg hne, hx]; rfl), List.countP_cons_of_pos (by rw [hx]; rfl)]; omega
  exact key _ List.nodup_range (List.mem_range.2 hi)

section
variable {own : List Nat} {ops : Array Oper} {pl : List (List Nat)} {ord : List Nat} {env0 : Env} {k : Env → AHeap → Prop} {S0 : Seal} {σ0 : AHeap} {w0 : World} {a0 : Act} {Q : Exit → Act → World → Prop}

theorem drawOk_spec {L : List Oper} (h : drawOk L pl ord = true) : ordOk L pl [] ord = true ∧ ∀ i o, L[i]? = some o → i ∈ ord ∧ (∀ j ∈ directPreds o, j < i) ∧ ∀ x ∈ pl.getD i [], x ∈ directPreds o ∨ ∃ j ∈ directPreds o, x ∈ pl.getD j [] := by
  unfold drawOk at h
  simp only [Bool.and_eq_true] at h
  obtain ⟨h1, h2⟩ := h
  refine ⟨h2, fun i o ho => ?_⟩
  have hi : i < L.length := (List.getElem?_eq_some_iff.1 ho).1
  have := List.all_eq_true.1 h1 i (List.mem_range.2 hi)
  rw [ho] at this
  simp only [Bool.and_eq_true] at this
  obtain ⟨⟨g1, g2⟩, g3⟩ := this
  refine ⟨by simpa using g1, fun j hj => by have := List.all_eq_true.1 g2 j hj; simpa [Nat.blt_eq] using this, fun x hx => ?_⟩
  have := List.all_eq_true.1 g3 x hx
  simp only [Bool.or_eq_true, List.any_eq_true] at this
  rcases this with h | ⟨j, hj, h⟩
  · exact .inl (by simpa using h)
  · exact .inr ⟨j, hj, by simpa using h⟩

theorem all_listed {listed : Array Bool} (hsz : listed.size = ops.size) (hlt : ∀ i o, ops.toList[i]? = some o → ∀ j ∈ directPreds o, j < i) (hr : Region.ready .any ops listed = []) : ∀ i, i < ops.size → onOf listed i = true := by
  intro i
  induction i using Nat.strongRecOn with
  | _ i ih =>
    intro hi
    cases hx : onOf listed i with
    | true => rfl
    | false =>
      have ho : ops.toList[i]? = some ops[i] := by simp [hi]
      have : i ∈ Region.ready .any ops listed := (mem_ready hsz).2 ⟨ops[i], ho, hi, hx, fun j hj => by
        have hj' := hlt i _ ho j hj
        exact ih j hj' (by omega)⟩
      rw [hr] at this
      simp at this

theorem envSel_all {on : Nat → Bool} : ∀ (D : List Late) (env : Env), (∀ l ∈ D, on l.idx = true) → envSel on env D = envEnd env D
  | [], _, _ => rfl
  | l :: r, env, h => by simp only [envSel, envEnd]; rw [if_pos (h l (by simp)), envSel_all r _ fun m hm => h m (List.mem_cons_of_mem _ hm)]

theorem any_sound (hok : drawOk ops.toList pl ord = true) (hG : G.le S0) (hdst : DstOk ops.toList a0.tmps.size) (hX : Goes S0 σ0 w0 a0 (dstsOf ops.toList) k (Q .normal)) : ∀ (fuel : Nat) (listed : Array Bool) (a : Act) (w : World) (D : List Late) (rest : List Nat) (late : List Late) (S : Seal) (σ : AHeap),
    Sim P G own ops pl ord env0 k S0 σ0 w0 a0 listed a w D rest late S σ → (List.range ops.size).countP (fun i => !onOf listed i) ≤ fuel → wpAny P .any ops Q fuel listed a w := by
  obtain ⟨hord, hprops⟩ := drawOk_spec hok
  obtain ⟨hnd, hlts, hpw⟩ := ordOk_spec hord
  have hlt : ∀ i o, ops.toList[i]? = some o → ∀ j ∈ directPreds o, j < i := fun i o ho => (hprops i o ho).2.1
  have done : ∀ (listed : Array Bool) (a : Act) (w : World) (D : List Late) (rest : List Nat) (late : List Late) (S : Seal) (σ : AHeap), Sim P G own ops pl ord env0 k S0 σ0 w0 a0 listed a w D rest late S σ → Region.ready .any ops listed = [] → Q .normal a w := by
    intro listed a w D rest late S σ h hr
    have hall := all_listed h.size hlt hr
    have hrest : rest = [] := by
      cases hrr : rest with
      | nil => rfl
      | cons e r =>
        exfalso
        have ho := h.ord
        rw [hrr] at ho
        have he : e < ops.size := by have := (hlts e (by rw [← ho]; simp)).1; simpa using this
        have := h.inD e (hall e he)
        rw [← ho] at hnd
        exact (List.nodup_append.1 hnd).2.2 e this e (by simp) rfl
    subst hrest
    have hd := h.den
    simp only [denDraw] at hd
    have hrel := h.rel
    rw [envSel_all D env0 fun l hl => hall _ (by
      have := (hlts l.idx (by rw [← h.ord]; simp; exact ⟨l, hl, rfl⟩)).1
      simpa using this)] at hrel
    exact hX S σ w _ a h.step hrel h.agree h.defers hd
  intro fuel
  induction fuel with
  | zero =>
    intro listed a w D rest late S σ h hc
    have hr : Region.ready .any ops listed = [] := by
      cases hrr : Region.ready .any ops listed with
      | nil => rfl
      | cons i r =>
        exfalso
        obtain ⟨o, ho, hi, hu, _⟩ := (mem_ready h.size).1 (show i ∈ Region.ready .any ops listed by rw [hrr]; simp)
        have : 0 < (List.range ops.size).countP fun i => !onOf listed i := List.countP_pos_iff.2 ⟨i, List.mem_range.2 hi, by rw [hu]; rfl⟩
        omega
    exact ⟨hr, done listed a w D rest late S σ h hr⟩
  | succ fuel ih =>
    intro listed a w D rest late S σ h hc
    refine ⟨done listed a w D rest late S σ h, fun i hi => ?_⟩
    obtain ⟨o, ho, hilt, hu, hready⟩ := (mem_ready h.size).1 hi
    obtain ⟨D', rest', late', h', hhead⟩ := Sim.advance hnd rest D late h
    have ho' : ops[i]? = some o := by simpa using ho
    unfold wpOp
    rw [ho']
    refine Sim.next (own := own) (Q := Q) hord (fun j q hq => (hprops j q hq).2.2) (fun j hj => (hprops j ops[j] (by simp [hj])).1) (hG.trans h'.step.le) (by rw [h'.agree.1]; exact hdst) h' hhead hilt ho hu hready ?_
    intro a2 w2 D2 rest2 late2 S2 σ2 h2
    refine ih _ a2 w2 D2 rest2 late2 S2 σ2 h2 ?_
    have := countP_set (n := ops.size) hilt (by rw [h'.size]; exact hilt) hu
    omega

/-- A DRAWN REGION. -/
theorem draw_sound {id : Nat} {env : Env} {S : Seal} {σ : AHeap} {w : World} {a : Act} (hmix : P.follows .mixedOrders = true) (hok : drawOk ops.toList pl ord = true) (h : denDraw P G own ops.toList pl ord [] env σ k)
    (hI : Inv S σ w) (hG : G.le S) (hE : RelE S env a.tmps) (hd : DstOk ops.toList a.tmps.size) (hX : Goes S σ w a (dstsOf ops.toList) k (Q .normal)) : (Code.region id ops true).wp P Q a w := by
  refine wp_region_any hmix ?_
  have hrep : ∀ i, onOf (Array.replicate ops.size false) i = false := fun i => by
    unfold onOf; rw [agetD]; simp [List.getD, List.getElem?_replicate]; split <;> rfl
  have hdr : Step S σ w S σ { w with drawn := w.drawn + 1 } := Step.heap_congr hI rfl ⟨rfl, rfl⟩
  refine any_sound (own := own) (pl := pl) (ord := ord) (env0 := env) (k := k) (S0 := S) (σ0 := σ) (w0 := w) (a0 := a) hok hG hd hX ops.size _ a _ [] ord [] S σ ⟨by simp, by simp, trivial, h, by simp, hdr, .refl _ _, rfl, hE, fun i hi => ?_, by simp, fun i hi => ?_, by simp, by simp⟩ ?_
  · rw [hrep] at hi; simp at hi
  · rw [hrep] at hi; simp at hi
  · exact Nat.le_trans List.countP_le_length (by simp)
end

/- code -/
inductive ExRel : Exit → Ex → Prop
  | normal : ExRel .normal .normal
  | exit (i : Nat) : ExRel (.exit i) (.exit i)
  | ret : ExRel .ret .ret

/-- destinations of a code lie within the frame -/
def CodeOk (n : Nat) : Code → Bool
  | .region _ ops _ => ops.toList.all fun o => match o.dst with | some d => Nat.blt d n | none => true
  | .seq a b => CodeOk n a && CodeOk n b
  | .cond _ a b => CodeOk n a && CodeOk n b
  | .block _ c => CodeOk n c
  | .loop c => CodeOk n c
  | _ => true

def Pruned (C : Cfg) (env : Env) : Prop := ∀ t, t ∉ C.keep → env.get t = .un
theorem pruned_prune (C : Cfg) (env : Env) : Pruned C (env.prune C.keep) := fun t ht => by rw [Env.get_prune, if_neg ht]

theorem RelE.prune {S : Seal} {env : Env} {tm : Array Value} (h : RelE S env tm) (keep : List Nat) : RelE S (env.prune keep) tm := fun t => by
  rw [Env.get_prune]; split
  · exact h t
  · exact .un _

/-- the values of what a code writes are handed on -/
theorem RelE.joined {C : Cfg} {c : Code} {S S' : Seal} {env env' : Env} {a a' : Array Value} (hE : RelE S env a) (hp : Pruned C env) (hle : S.le S') (hE' : RelE S' env' a') (ha : Agree (Code.dsts c) a a') :
    RelE S' ((env.setMany (C.mods c) (env'.getMany (C.mods c))).prune C.keep) a' := by
  refine RelE.prune (fun t => ?_) _
  rw [Env.get_setMany_get]
  split
  · exact hE' t
  · rename_i ht
    by_cases hd : t ∈ Code.dsts c
    · have hk : t ∉ C.keep := fun hk => ht (by unfold Cfg.mods; exact List.mem_filter.2 ⟨hk, by simpa using hd⟩)
      rw [hp t hk]; exact .un _
    · rw [ha.2 t hd]; exact (hE t).mono hle

def Cont (S : Seal) (σ : AHeap) (w : World) (a : Act) (C : Cfg) (ds : List Nat) (k : Ex → Env → AHeap → Prop) (Q : Exit → Act → World → Prop) : Prop :=
  ∀ e e' S' σ' w' env' (a' : Act), ExRel e e' → Step S σ w S' σ' w' → RelE S' env' a'.tmps → Pruned C env' → Agree ds a.tmps a'.tmps → a'.defers = a.defers → k e' env' σ' → Q e a' w'

theorem den_sound {C : Cfg} (hmix : P.follows .mixedOrders = true) : ∀ (c : Code) (k : Ex → Env → AHeap → Prop) (env : Env) (σ : AHeap) (S : Seal) (w : World) (a : Act) (Q : Exit → Act → World → Prop),
    den P G C c k env σ → Inv S σ w → G.le S → RelE S env a.tmps → Pruned C env → CodeOk a.tmps.size c = true → Cont S σ w a C (Code.dsts c) k Q → c.wp P Q a w := by
  have dstok : ∀ (ops : Array Oper) (n : Nat), (ops.toList.all fun o => match o.dst with | some d => Nat.blt d n | none => true) = true → DstOk ops.toList n := fun ops n h o ho d hd => by
    have := List.all_eq_true.1 h o ho
    rw [hd] at this
    simpa [Nat.blt_eq] using this
  intro c
  induction c with
  | skip =>
    intro k env σ S w a Q h hI hG hE hp hc hX
    exact wp_skip (hX _ _ _ _ _ _ _ .normal (.refl hI) hE hp (.refl _ _) rfl h)
  | region id ops draw =>
    intro k env σ S w a Q h hI hG hE hp hc hX
    have hd := dstok ops _ hc
    have hX' : Goes S σ w a (dstsOf ops.toList) (fun env' σ' => k .normal (env'.prune C.keep) σ') (Q .normal) := fun S' σ' w' env' a' hs hE' ha hd' hk =>
      hX _ _ _ _ _ _ _ .normal hs (hE'.prune _) (pruned_prune _ _) ha hd' hk
    cases draw with
    | false => exact wp_region_list (denOps_sound _ _ env σ _ S w a h hI hG hE hd hX')
    | true =>
      simp only [den] at h
      split at h
      · rename_i hok; exact draw_sound hmix hok h hI hG hE hd hX'
      · exact h.elim
  | seq x y ihx ihy =>
    intro k env σ S w a Q h hI hG hE hp hc hX
    simp only [CodeOk, Bool.and_eq_true] at hc
    refine wp_seq ?_
    have ok2 : ∀ {a' : Act}, Agree (Code.dsts x) a.tmps a'.tmps → CodeOk a'.tmps.size y = true := fun ha => by rw [ha.1]; exact hc.2
    simp only [den] at h
    split at h
    · refine ihx _ env σ S w a _ h hI hG hE hp hc.1 fun e e' S' σ' w' env' a' hr hs hE' hp' ha hd' hk => ?_
      cases hr with
      | normal => exact ihy k env' σ' S' w' a' Q hk hs.inv (hG.trans hs.le) hE' hp' (ok2 ha) fun e2 e2' S2 σ2 w2 env2 a2 hr2 hs2 hE2 hp2 ha2 hd2 hk2 => hX e2 e2' S2 σ2 w2 env2 a2 hr2 (hs.trans hs2) hE2 hp2 (ha.trans ha2) (hd2.trans hd') hk2
      | exit i => exact hX _ _ _ _ _ _ _ (.exit i) hs hE' hp' (ha.weaken fun t ht => List.mem_append_left _ ht) hd' hk
      | ret => exact hX _ _ _ _ _ _ _ .ret hs hE' hp' (ha.weaken fun t ht => List.mem_append_left _ ht) hd' hk
    · unfold JOIN at h
      refine ihx _ env σ S w a _ h hI hG hE hp hc.1 fun e e' S' σ' w' env' a' hr hs hE' hp' ha hd' hk => ?_
      cases hr with
      | normal => exact ihy k _ σ' S' w' a' Q hk hs.inv (hG.trans hs.le) (RelE.joined hE hp hs.le hE' ha) (pruned_prune _ _) (ok2 ha) fun e2 e2' S2 σ2 w2 env2 a2 hr2 hs2 hE2 hp2 ha2 hd2 hk2 => hX e2 e2' S2 σ2 w2 env2 a2 hr2 (hs.trans hs2) hE2 hp2 (ha.trans ha2) (hd2.trans hd') hk2
      | exit i => exact hX _ _ _ _ _ _ _ (.exit i) hs hE' hp' (ha.weaken fun t ht => List.mem_append_left _ ht) hd' hk
      | ret => exact hX _ _ _ _ _ _ _ .ret hs hE' hp' (ha.weaken fun t ht => List.mem_append_left _ ht) hd' hk
  | cond c x y ihx ihy =>
    intro k env σ S w a Q h hI hG hE hp hc hX
    simp only [CodeOk, Bool.and_eq_true] at hc
    obtain ⟨b, hb, h1, h2⟩ := IFB_elim h
    have hev : a.eval c = .bool b := by have := hE.eval c; rw [hb] at this; exact Rel.sc_inv this
    refine wp_cond_split hev (fun e => ?_) (fun e => ?_)
    · exact ihx k env σ S w a Q (h1 e) hI hG hE hp hc.1 fun e e' S' σ' w' env' a' hr hs hE' hp' ha hd' hk => hX e e' S' σ' w' env' a' hr hs hE' hp' (ha.weaken fun t ht => List.mem_append_left _ ht) hd' hk
    · exact ihy k env σ S w a Q (h2 e) hI hG hE hp hc.2 fun e e' S' σ' w' env' a' hr hs hE' hp' ha hd' hk => hX e e' S' σ' w' env' a' hr hs hE' hp' (ha.weaken fun t ht => List.mem_append_right _ ht) hd' hk
  | block id c ih =>
    intro k env σ S w a Q h hI hG hE hp hc hX
    refine wp_block ?_
    refine ih _ env σ S w a _ h hI hG hE hp hc fun e e' S' σ' w' env' a' hr hs hE' hp' ha hd' hk => ?_
    cases hr with
    | normal => exact hX _ _ _ _ _ _ _ .normal hs hE' hp' ha hd' hk
    | exit i =>
      simp only [Exit.inBlock]
      simp only at hk
      split at hk
      · rename_i hb; rw [if_pos (Nat.eq_of_beq_eq_true hb)]; exact hX _ _ _ _ _ _ _ .normal hs hE' hp' ha hd' hk
      · rename_i hb; rw [if_neg (fun e => by rw [e] at hb; simp at hb)]; exact hX _ _ _ _ _ _ _ (.exit i) hs hE' hp' ha hd' hk
    | ret => exact hX _ _ _ _ _ _ _ .ret hs hE' hp' ha hd' hk
  | loop c ih =>
    intro k env σ S w a Q h hI hG hE hp hc hX
    intro b kk cs
    unfold den LOOP at h
    have key := h (fun xs σ1 => ∀ S1 w1 (a1 : Act), Step S σ w S1 σ1 w1 → RelE S1 ((env.setMany (C.mods c) xs).prune C.keep) a1.tmps → Agree (Code.dsts c) a.tmps a1.tmps → a1.defers = a.defers →
      ∃ e a' w', Q e a' w' ∧ Arrives P (lone (b.at a1 (.code c :: .inLoop c :: kk)) cs w1) b kk cs e a' w') ?_
    · obtain ⟨e, a', w', hq, harr⟩ := key S w a (.refl hI) (RelE.joined (c := c) hE hp (.refl S) hE (.refl _ _)) (.refl _ _) rfl
      exact ⟨e, a', w', hq, .of_steps (.one step_loop) harr⟩
    · intro xs σ1 hbody S1 w1 a1 hs1 hE1 ha1 hd1
      have hwp : c.wp P (Exit.then (fun a' w' => ∃ e a2 w2, Q e a2 w2 ∧ Arrives P (lone (b.at a' (.code c :: .inLoop c :: kk)) cs w') b kk cs e a2 w2) Q) a1 w1 := by
        refine ih _ _ σ1 S1 w1 a1 _ hbody hs1.inv (hG.trans hs1.le) hE1 (pruned_prune _ _) (by rw [ha1.1]; exact hc) fun e e' S' σ' w' env' a' hr hs hE' hp' ha hd' hk => ?_
        have hag := (ha1.trans ha).weaken (es := Code.dsts c) fun t ht => (List.mem_append.1 ht).elim id id
        cases hr with
        | normal =>
          exact hk S' w' a' (hs1.trans hs) (RelE.joined hE hp (hs1.trans hs).le hE' hag) hag (hd'.trans hd1)
        | exit i => exact hX _ _ _ _ _ _ _ (.exit i) (hs1.trans hs) hE' hp' hag (hd'.trans hd1) hk
        | ret => exact hX _ _ _ _ _ _ _ .ret (hs1.trans hs) hE' hp' hag (hd'.trans hd1) hk
      obtain ⟨e, a₁, w₁, hq, harr⟩ := hwp b (.inLoop c :: kk) cs
      cases e with
      | normal =>
        obtain ⟨e₂, a₂, w₂, hq₂, harr₂⟩ := hq
        exact ⟨e₂, a₂, w₂, hq₂, .of_steps (Steps.trans harr (.one step_inLoop)) harr₂⟩
      | exit id => exact ⟨_, a₁, w₁, hq, .pass (x := .inLoop c) rfl (fun _ _ => .inl (by simp)) harr⟩
      | goto l => exact ⟨_, a₁, w₁, hq, .pass (x := .inLoop c) rfl (fun _ _ => .inl (by simp)) harr⟩
      | ret => exact ⟨_, a₁, w₁, hq, .pass (x := .inLoop c) rfl (fun _ _ => .inl (by simp)) harr⟩
      | panic ch => exact ⟨_, a₁, w₁, hq, .pass (x := .inLoop c) rfl (fun _ _ => .inl (by simp)) harr⟩
      | outgrown => exact ⟨_, a₁, w₁, hq, .pass (x := .inLoop c) rfl (fun _ _ => .inl (by simp)) harr⟩
  | exit id =>
    intro k env σ S w a Q h hI hG hE hp hc hX
    exact wp_exit (hX _ _ _ _ _ _ _ (.exit id) (.refl hI) hE hp (.refl _ _) rfl h)
  | ret =>
    intro k env σ S w a Q h hI hG hE hp hc hX
    exact wp_ret (hX _ _ _ _ _ _ _ .ret (.refl hI) hE hp (.refl _ _) rfl h)
  | _ => intro k env σ S w a Q h; exact h.elim

end Go.Al
