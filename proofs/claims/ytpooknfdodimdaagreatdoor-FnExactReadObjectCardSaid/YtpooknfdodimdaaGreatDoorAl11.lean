/- The abstract logic, part 11: regions whose order is fixed. -/
import Derived.Test.YtpooknfdodimdaaGreatDoorAl10
set_option linter.unusedVariables false
set_option linter.unusedSimpArgs false
namespace Go.Al
variable {P : Program} {G : Seal}

theorem Env.get_cons (k : Nat) (v : AV) (r : Env) (t : Nat) : Env.get ((k, v) :: r) t = if k = t then v else Env.get r t := by
  simp only [Env.get]
  by_cases h : k = t
  · subst h; simp
  · have : Nat.beq k t = false := Bool.eq_false_iff.2 fun hb => h (Nat.eq_of_beq_eq_true hb)
    simp [this, h]

theorem Env.get_put (env : Env) (d : Option Nat) (v : AV) (t : Nat) : (env.put d v).get t = if d = some t then v else env.get t := by
  cases d with
  | none => simp [Env.put]
  | some d => simp [Env.put, Env.get_cons]

theorem Env.get_prune (env : Env) (keep : List Nat) (t : Nat) : (env.prune keep).get t = if t ∈ keep then env.get t else .un := by
  unfold Env.prune
  induction keep with
  | nil => simp [Env.get]
  | cons k r ih =>
    rw [List.map_cons, Env.get_cons, ih]
    by_cases h : k = t
    · subst h; simp
    · simp [h, Ne.symm h]

theorem Env.get_setManyFrom (f : Nat → AV) (xs : List AV) (env : Env) (t : Nat) : ∀ (ts : List Nat) (i : Nat), (∀ k, k < ts.length → nth xs (i + k) = f (ts.getD k 0)) →
    (Env.setManyFrom xs i ts env).get t = if t ∈ ts then f t else env.get t
  | [], i, h => by simp [Env.setManyFrom]
  | u :: r, i, h => by
    rw [Env.setManyFrom, Env.get_cons, Env.get_setManyFrom f xs env t r (i + 1) (fun k hk => by
      have := h (k + 1) (by simpa using hk)
      rw [show i + 1 + k = i + (k + 1) by omega, this]; simp [List.getD])]
    by_cases hu : u = t
    · subst hu
      have := h 0 (by simp)
      simp at this
      simp [this]
    · simp [hu, Ne.symm hu]

theorem Env.get_setMany_get (env env' : Env) (ts : List Nat) (t : Nat) : (env.setMany ts (env'.getMany ts)).get t = if t ∈ ts then env'.get t else env.get t :=
  Env.get_setManyFrom env'.get _ env t ts 0 (fun k hk => by simp [nth, Env.getMany, List.getD, hk])

theorem Env.get_setMany_un (env : Env) (ts : List Nat) (t : Nat) : (env.setMany ts (ts.map fun _ => U)).get t = if t ∈ ts then U else env.get t :=
  Env.get_setManyFrom (fun _ => U) _ env t ts 0 (fun k hk => by simp [nth, List.getD, hk])

/-- temporaries but those -/
def Agree (ds : List Nat) (a b : Array Value) : Prop := b.size = a.size ∧ ∀ t, t ∉ ds → b.getD t undef = a.getD t undef

theorem Agree.refl (ds : List Nat) (a : Array Value) : Agree ds a a := ⟨rfl, fun _ _ => rfl⟩
theorem Agree.trans {ds es : List Nat} {a b c : Array Value} (h : Agree ds a b) (h' : Agree es b c) : Agree (ds ++ es) a c :=
  ⟨h'.1.trans h.1, fun t ht => by simp at ht; rw [h'.2 t ht.2, h.2 t ht.1]⟩
theorem Agree.weaken {ds es : List Nat} {a b : Array Value} (h : Agree ds a b) (hs : ∀ t, t ∈ ds → t ∈ es) : Agree es a b := ⟨h.1, fun t ht => h.2 t fun hd => ht (hs t hd)⟩

theorem getD_set (a : Array Value) (d : Nat) (v : Value) (t : Nat) : (a.setIfInBounds d v).getD t undef = if d = t ∧ d < a.size then v else a.getD t undef := by
  rw [agetD, agetD, Array.toList_setIfInBounds]
  simp only [List.getD, List.getElem?_set]
  by_cases h : d = t
  · subst h
    by_cases hd : d < a.size
    · simp [hd]
    · simp [hd]
  · simp [h]

theorem put_agree (a : Act) (d : Option Nat) (v : Value) (ds : List Nat) (h : ∀ x, d = some x → x ∈ ds) : Agree ds a.tmps (a.put d v).tmps := by
  cases d with
  | none => exact .refl _ _
  | some d =>
    refine ⟨by simp [Act.put], fun t ht => ?_⟩
    have : d ≠ t := fun e => ht (e ▸ h d rfl)
    simp only [Act.put]
    rw [getD_set, if_neg (fun e => this e.1)]

theorem RelE.put {S : Seal} {env : Env} {a : Act} {d : Option Nat} {v : AV} {x : Value} (hE : RelE S env a.tmps) (hv : Rel S v x) (hd : ∀ t, d = some t → t < a.tmps.size) : RelE S (env.put d v) (a.put d x).tmps := by
  intro t
  rw [Env.get_put]
  cases d with
  | none => rw [if_neg (by simp)]; exact hE t
  | some d =>
    simp only [Act.put]
    rw [getD_set]
    by_cases h : d = t
    · subst h; rw [if_pos rfl, if_pos ⟨rfl, hd d rfl⟩]; exact hv
    · rw [if_neg (by simpa using h), if_neg (fun e => h e.1)]; exact hE t

theorem put_defers (a : Act) (d : Option Nat) (v : Value) : (a.put d v).defers = a.defers := by cases d <;> rfl

/-- destinations lie within the frame -/
def DstOk (l : List Oper) (n : Nat) : Prop := ∀ o ∈ l, ∀ d, o.dst = some d → d < n

/-- what is handed on -/
def Goes (S : Seal) (σ : AHeap) (w : World) (a : Act) (ds : List Nat) (k : Env → AHeap → Prop) (X : Act → World → Prop) : Prop :=
  ∀ S' σ' w' env' (a' : Act), Step S σ w S' σ' w' → RelE S' env' a'.tmps → Agree ds a.tmps a'.tmps → a'.defers = a.defers → k env' σ' → X a' w'

theorem mem_dsts {l : List Oper} {o : Oper} {d : Nat} (ho : o ∈ l) (hd : o.dst = some d) : d ∈ dstsOf l := List.mem_filterMap.2 ⟨o, ho, hd⟩

theorem wpList_of_wp {o : Oper} {ops : Array Oper} {rest : List Oper} {a : Act} {w : World} {Q : Exit → Act → World → Prop} (hw : Region.wanted o (yielded ops a.tmps) = true) (h : o.wp P a w (wpList P ops Q rest) Q) : wpList P ops Q (o :: rest) a w := by
  unfold wpList
  rw [if_pos hw]
  exact .inl h

/-- operations that are all wanted -/
theorem denSeq_sound {own : List Nat} {ops : Array Oper} {rest : List Oper} {Q : Exit → Act → World → Prop} : ∀ (l : List Oper) (env : Env) (σ : AHeap) (k : Env → AHeap → Prop) (S : Seal) (w : World) (a : Act),
    denSeq P G own l env σ k → Inv S σ w → G.le S → RelE S env a.tmps → DstOk l a.tmps.size → (∀ a' : Act, Agree (dstsOf l) a.tmps a'.tmps → ∀ o ∈ l, Region.wanted o (yielded ops a'.tmps) = true) →
    Goes S σ w a (dstsOf l) k (fun a' w' => wpList P ops Q rest a' w') → wpList P ops Q (l ++ rest) a w
  | [], env, σ, k, S, w, a, h, hI, hG, hE, hd, hw, hX => hX S σ w env a (.refl hI) hE (.refl _ _) rfl h
  | o :: r, env, σ, k, S, w, a, h, hI, hG, hE, hd, hw, hX => by
    rw [List.cons_append]
    refine wpList_of_wp (hw a (.refl _ _) o (by simp)) (aop_sound h hI hG hE fun S' σ' w' v x hs hR hK => ?_)
    have hag : Agree (dstsOf (o :: r)) a.tmps (a.put o.dst x).tmps := put_agree a o.dst x _ fun d hd' => mem_dsts (by simp) hd'
    have hsz : (a.put o.dst x).tmps.size = a.tmps.size := hag.1
    have hsub : ∀ t, t ∈ dstsOf r → t ∈ dstsOf (o :: r) := fun t ht => by
      obtain ⟨q, hq, hqd⟩ := List.mem_filterMap.1 ht
      exact mem_dsts (List.mem_cons_of_mem _ hq) hqd
    refine denSeq_sound r (env.put o.dst v) σ' k S' w' (a.put o.dst x) hK hs.inv (hG.trans hs.le) ((hE.mono hs.le).put hR fun t ht => hd o (by simp) t ht) (fun q hq d hqd => by rw [hsz]; exact hd q (List.mem_cons_of_mem _ hq) d hqd)
      (fun a' ha' q hq => hw a' ((hag.trans ha').weaken fun t ht => (List.mem_append.1 ht).elim id (hsub t)) q (List.mem_cons_of_mem _ hq)) ?_
    intro S2 σ2 w2 env2 a2 hs2 hE2 ha2 hd2 hk2
    exact hX S2 σ2 w2 env2 a2 (hs.trans hs2) hE2 ((hag.trans ha2).weaken fun t ht => (List.mem_append.1 ht).elim id (hsub t)) (hd2.trans (put_defers _ _ _)) hk2

theorem put_undef {a : Act} {d : Option Nat} {t : Nat} (h : d = some t) : (a.put d undef).tmps.getD t undef = undef := by
  subst h
  unfold Act.put
  rw [agetD]
  simp [List.getD, List.getElem?_set]
  split <;> simp_all

/-- operations of which none is wanted -/
theorem skip_sound {ops : Array Oper} {rest : List Oper} {Q : Exit → Act → World → Prop} : ∀ (l : List Oper) (a : Act) (w : World), (∀ a' : Act, Agree (dstsOf l) a.tmps a'.tmps → ∀ o ∈ l, Region.wanted o (yielded ops a'.tmps) = false) →
    (∀ a' : Act, Agree (dstsOf l) a.tmps a'.tmps → (∀ t ∈ dstsOf l, a'.tmps.getD t undef = undef) → a'.defers = a.defers → wpList P ops Q rest a' w) → wpList P ops Q (l ++ rest) a w
  | [], a, w, hw, hX => hX a (.refl _ _) (by simp [dstsOf]) rfl
  | o :: r, a, w, hw, hX => by
    rw [List.cons_append]
    unfold wpList
    rw [if_neg (by rw [hw a (.refl _ _) o (by simp)]; simp)]
    have hag : Agree (dstsOf (o :: r)) a.tmps (a.put o.dst undef).tmps := put_agree a o.dst undef _ fun d hd' => mem_dsts (by simp) hd'
    have hsub : ∀ t, t ∈ dstsOf r → t ∈ dstsOf (o :: r) := fun t ht => by
      obtain ⟨q, hq, hqd⟩ := List.mem_filterMap.1 ht
      exact mem_dsts (List.mem_cons_of_mem _ hq) hqd
    exact skip_sound r _ w (fun a' ha' q hq => hw a' ((hag.trans ha').weaken fun t ht => (List.mem_append.1 ht).elim id (hsub t)) q (List.mem_cons_of_mem _ hq))
      (fun a' ha' hu hd' => hX a' ((hag.trans ha').weaken fun t ht => (List.mem_append.1 ht).elim id (hsub t)) (fun t ht => by
        by_cases hr : t ∈ dstsOf r
        · exact hu t hr
        · have hd : o.dst = some t := by
            obtain ⟨q, hq, hqd⟩ := List.mem_filterMap.1 ht
            rcases List.mem_cons.1 hq with rfl | hq
            · exact hqd
            · exact absurd (mem_dsts hq hqd) hr
          rw [ha'.2 t hr, put_undef hd]) (hd'.trans (put_defers _ _ _)))

theorem sameGuard_iff {g : Nat × Bool} {o : Oper} (h : sameGuard g o = true) : o.guard = some g := by
  unfold sameGuard at h
  split at h
  · rename_i j t hg
    simp [Nat.beq_eq] at h
    rw [hg]
    obtain ⟨h1, h2⟩ := h
    subst h1 h2
    rfl
  · simp at h

theorem yielded_of {ops : Array Oper} {tm : Array Value} {j d : Nat} {b : Bool} (hj : (ops[j]?).bind (·.dst) = some d) (hv : tm.getD d undef = .bool b) : yielded ops tm j = some b := by
  unfold yielded
  rw [hj]
  have hd : d < tm.size := by
    rcases Nat.lt_or_ge d tm.size with h | h
    · exact h
    · rw [agetD] at hv
      simp [List.getD, h, undef] at hv
  have : tm[d]? = some (.bool b) := by
    rw [agetD] at hv
    simp [List.getD, hd] at hv
    simp [hd, hv]
  simp [this]

theorem yielded_ne {ops : Array Oper} {tm : Array Value} {j d : Nat} {b : Bool} {v : Value} (hj : (ops[j]?).bind (·.dst) = some d) (hv : tm.getD d undef = v) (hb : v ≠ .bool b) : yielded ops tm j ≠ some b := by
  unfold yielded
  rw [hj]
  intro h
  simp only [Option.bind_some] at h
  split at h
  · rename_i b' hb'
    simp at h
    subst h
    apply hb
    rw [← hv, agetD]
    rw [← Array.getElem?_toList] at hb'
    simp [List.getD, hb']
  · simp at h

theorem IFG_elim {t : Bool} {c : AV} {A B : Prop} (h : IFG t c A B) : ∃ v, c = .sc v ∧ (v = .bool t → A) ∧ (v ≠ .bool t → B) := by
  unfold IFG at h
  split at h
  · exact ⟨_, rfl, h⟩
  · exact h.elim

theorem IFB_elim {c : AV} {A B : Prop} (h : IFB c A B) : ∃ b, c = .sc (.bool b) ∧ (b = true → A) ∧ (b = false → B) := by
  unfold IFB at h
  split at h
  · exact ⟨_, rfl, h⟩
  · exact h.elim

theorem denOps_sound {own : List Nat} {ops : Array Oper} {Q : Exit → Act → World → Prop} : ∀ (n : Nat) (l : List Oper) (env : Env) (σ : AHeap) (k : Env → AHeap → Prop) (S : Seal) (w : World) (a : Act),
    denOps P G own ops n l env σ k → Inv S σ w → G.le S → RelE S env a.tmps → DstOk l a.tmps.size → Goes S σ w a (dstsOf l) k (Q .normal) → wpList P ops Q l a w := by
  intro n
  induction n with
  | zero =>
    intro l env σ k S w a h hI hG hE hd hX
    unfold denOps at h
    split at h
    · exact hX S σ w env a (.refl hI) hE (.refl _ _) rfl h
    · exact h.elim
  | succ n ih =>
    intro l env σ k S w a h hI hG hE hd hX
    unfold denOps at h
    split at h
    · exact hX S σ w env a (.refl hI) hE (.refl _ _) rfl h
    · rename_i o r
      split at h
      · rename_i hg
        refine wpList_of_wp (by simp [Region.wanted, hg]) (aop_sound h hI hG hE fun S' σ' w' v x hs hR hK => ?_)
        have hag : Agree (dstsOf (o :: r)) a.tmps (a.put o.dst x).tmps := put_agree a o.dst x _ fun d hd' => mem_dsts (by simp) hd'
        have hsz : (a.put o.dst x).tmps.size = a.tmps.size := hag.1
        have hsub : ∀ t, t ∈ dstsOf r → t ∈ dstsOf (o :: r) := fun t ht => by
          obtain ⟨q, hq, hqd⟩ := List.mem_filterMap.1 ht
          exact mem_dsts (List.mem_cons_of_mem _ hq) hqd
        refine ih r (env.put o.dst v) σ' k S' w' _ hK hs.inv (hG.trans hs.le) ((hE.mono hs.le).put hR fun t ht => hd o (by simp) t ht) (fun q hq d hqd => by rw [hsz]; exact hd q (List.mem_cons_of_mem _ hq) d hqd) ?_
        intro S2 σ2 w2 env2 a2 hs2 hE2 ha2 hd2 hk2
        exact hX S2 σ2 w2 env2 a2 (hs.trans hs2) hE2 ((hag.trans ha2).weaken fun t ht => (List.mem_append.1 ht).elim id (hsub t)) (hd2.trans (put_defers _ _ _)) hk2
      · rename_i j t hg
        split at h
        · exact h.elim
        · rename_i d hj
          simp only at h
          split at h
          · exact h.elim
          · rename_i hnd0
            have hnd : ¬ (dstsOf ((o :: r).takeWhile (sameGuard (j, t)))).contains d = true := by rw [hnd0]; exact Bool.false_ne_true
            have hsplit : o :: r = (o :: r).takeWhile (sameGuard (j, t)) ++ (o :: r).dropWhile (sameGuard (j, t)) := (List.takeWhile_append_dropWhile).symm
            generalize hgrp : (o :: r).takeWhile (sameGuard (j, t)) = grp at h hsplit hnd
            generalize hrest : (o :: r).dropWhile (sameGuard (j, t)) = rest at h hsplit
            have hall : ∀ q ∈ grp, q.guard = some (j, t) := fun q hq => sameGuard_iff (by
              have := List.all_takeWhile (p := sameGuard (j, t)) (l := o :: r)
              rw [hgrp] at this
              exact List.all_eq_true.1 this q hq)
            have hdn : d ∉ dstsOf grp := by simpa using hnd
            unfold JOIN at h
            have hdsub : ∀ t, t ∈ dstsOf grp ∨ t ∈ dstsOf rest → t ∈ dstsOf (o :: r) := fun t ht => by
              rw [hsplit]; unfold dstsOf; rw [List.filterMap_append]; exact List.mem_append.2 ht
            have yes : ∀ b, env.get d = .sc (.bool b) → b = t → denSeq P G own grp env σ (fun env' σ' => denOps P G own ops n rest (env.setMany (dstsOf grp) (env'.getMany (dstsOf grp))) σ' k) → wpList P ops Q (o :: r) a w := by
              intro b hb hbt h0
              subst hbt
              rw [hsplit]
              refine denSeq_sound grp env σ _ S w a h0 hI hG hE (fun q hq e he => hd q (by rw [hsplit]; exact List.mem_append_left _ hq) e he) (fun a' ha' q hq => ?_) ?_
              · have hv : a'.tmps.getD d undef = .bool b := by
                  rw [ha'.2 d hdn]
                  have := hE d
                  rw [hb] at this
                  exact Rel.sc_inv this
                simp [Region.wanted, hall q hq, yielded_of hj hv]
              · intro S2 σ2 w2 env2 a2 hs2 hE2 ha2 hd2 hk2
                refine ih rest _ σ2 k S2 w2 a2 hk2 hs2.inv (hG.trans hs2.le) (fun u => ?_) (fun q hq e he => by rw [ha2.1]; exact hd q (by rw [hsplit]; exact List.mem_append_right _ hq) e he) ?_
                · rw [Env.get_setMany_get]
                  split
                  · exact hE2 u
                  · rename_i hu
                    rw [ha2.2 u hu]; exact (hE u).mono hs2.le
                · intro S3 σ3 w3 env3 a3 hs3 hE3 ha3 hd3 hk3
                  exact hX S3 σ3 w3 env3 a3 (hs2.trans hs3) hE3 ((ha2.trans ha3).weaken fun t ht => hdsub t (List.mem_append.1 ht)) (hd3.trans hd2) hk3
            have no : ∀ v, env.get d = .sc v → v ≠ .bool t → denOps P G own ops n rest (env.setMany (dstsOf grp) ((dstsOf grp).map fun _ => U)) σ k → wpList P ops Q (o :: r) a w := by
              intro b hb hbt h0
              rw [hsplit]
              refine skip_sound grp a w (fun a' ha' q hq => ?_) (fun a' ha' hun hd' => ?_)
              · have hv : a'.tmps.getD d undef = b := by
                  rw [ha'.2 d hdn]
                  have := hE d
                  rw [hb] at this
                  exact Rel.sc_inv this
                have := yielded_ne hj hv hbt
                simp [Region.wanted, hall q hq, this]
              · refine ih rest _ σ k S w a' h0 hI hG (fun u => ?_) (fun q hq e he => by rw [ha'.1]; exact hd q (by rw [hsplit]; exact List.mem_append_right _ hq) e he) ?_
                · rw [Env.get_setMany_un]
                  split
                  · rename_i hu; rw [hun u hu]; exact .sc _
                  · rename_i hu
                    rw [ha'.2 u hu]; exact hE u
                · intro S3 σ3 w3 env3 a3 hs3 hE3 ha3 hd3 hk3
                  exact hX S3 σ3 w3 env3 a3 hs3 hE3 ((ha'.trans ha3).weaken fun t ht => hdsub t (List.mem_append.1 ht)) (hd3.trans hd') hk3
            obtain ⟨v, hb, h1, h2⟩ := IFG_elim h
            by_cases hv : v = .bool t
            · exact yes t (hv ▸ hb) rfl (h1 hv)
            · exact no v hb hv (h2 hv)

end Go.Al
