/- The abstract logic, part 14: the simulation of a drawn order. -/
import Derived.Test.YtpooknfdodimdaaGreatDoorAl13
set_option linter.unusedVariables false
set_option linter.unusedSimpArgs false
namespace Go.Al
variable {P : Program} {G : Seal}

abbrev onOf (listed : Array Bool) (i : Nat) : Bool := listed.getD i false

theorem eff_noload {op : Op} (h : readerOp op = false) : loadOp op = false := by
  cases op <;> first | rfl | (simp [readerOp] at h)

/-- how a drawn order stands -/
structure Sim (P : Program) (G : Seal) (own : List Nat) (ops : Array Oper) (pl : List (List Nat)) (ord : List Nat) (env0 : Env) (k : Env → AHeap → Prop) (S0 : Seal) (σ0 : AHeap) (w0 : World) (a0 : Act)
    (listed : Array Bool) (a : Act) (w : World) (D : List Late) (rest : List Nat) (late : List Late) (S : Seal) (σ : AHeap) : Prop where
  ord : D.map (·.idx) ++ rest = ord
  op : ∀ l ∈ D, ops.toList[l.idx]? = some l.o
  chain : Chain env0 D
  den : denDraw P G own ops.toList pl rest late (envEnd env0 D) σ k
  late : late = D.filter fun l => loadOp l.o.op
  step : Step S0 σ0 w0 S σ w
  agree : Agree (dstsOf ops.toList) a0.tmps a.tmps
  defers : a.defers = a0.defers
  rel : RelE S (envSel (onOf listed) env0 D) a.tmps
  inD : ∀ i, onOf listed i = true → i ∈ D.map (·.idx)
  eff : ∀ l ∈ D, readerOp l.o.op = false → onOf listed l.idx = true
  closed : ∀ i, onOf listed i = true → ∀ j ∈ pl.getD i [], onOf listed j = true
  pend : ∀ l ∈ D, onOf listed l.idx = false → Pend P G own ops.toList l σ
  size : listed.size = ops.size

section
variable {own : List Nat} {ops : Array Oper} {pl : List (List Nat)} {ord : List Nat} {env0 : Env} {k : Env → AHeap → Prop} {S0 : Seal} {σ0 : AHeap} {w0 : World} {a0 : Act}

/-- read ahead as far as the next effect -/
theorem Sim.advance {listed : Array Bool} {a : Act} {w : World} {S : Seal} {σ : AHeap} (hnd : ord.Nodup) : ∀ (rest : List Nat) (D late : List Late), Sim P G own ops pl ord env0 k S0 σ0 w0 a0 listed a w D rest late S σ →
    ∃ D' rest' late', Sim P G own ops pl ord env0 k S0 σ0 w0 a0 listed a w D' rest' late' S σ ∧ ∀ e ∈ rest'.head?, ∀ o, ops.toList[e]? = some o → readerOp o.op = false
  | [], D, late, h => ⟨D, [], late, h, by simp⟩
  | e :: r, D, late, h => by
    have hd := h.den
    simp only [denDraw] at hd
    cases ho : ops.toList[e]? with
    | none => simp [ho] at hd
    | some o =>
      simp only [ho] at hd
      cases hr : readerOp o.op with
      | false => exact ⟨D, e :: r, late, h, fun x hx q hq => by simp at hx; subst hx; rw [ho] at hq; simp at hq; subst hq; exact hr⟩
      | true =>
        simp only [hr] at hd
        obtain ⟨v, h1, h2, _⟩ := stepF_reader hr (GRD_step hd)
        have hne : e ∉ D.map (·.idx) := by
          have := h.ord ▸ hnd
          rw [List.nodup_append] at this
          exact fun hm => this.2.2 e hm e (by simp) rfl
        have hoff : onOf listed e = false := by
          cases hx : onOf listed e with
          | false => rfl
          | true => exact absurd (h.inD e hx) hne
        refine Sim.advance hnd r (D ++ [⟨e, o, envEnd env0 D, v⟩]) (match loadOp o.op with | true => late ++ [⟨e, o, envEnd env0 D, v⟩] | false => late) ⟨by simp [← h.ord], fun l hl => ?_, Chain.append.2 ⟨h.chain, rfl, trivial⟩, ?_, ?_, h.step, h.agree, h.defers, ?_, fun i hi => by simp; exact .inl (by simpa using h.inD i hi), fun l hl hle => ?_, h.closed, fun l hl hlo => ?_, h.size⟩
        · rcases List.mem_append.1 hl with hl | hl
          · exact h.op l hl
          · simp at hl; subst hl; exact ho
        · rw [envEnd_append]; exact h1
        · rw [h.late, List.filter_append]
          cases hlo : loadOp o.op <;> simp [hlo]
        · rw [envSel_append]
          simp only [envSel]
          rw [if_neg (by simpa using hoff)]
          exact h.rel
        · rcases List.mem_append.1 hl with hl | hl
          · exact h.eff l hl hle
          · simp at hl; subst hl; rw [hr] at hle; simp at hle
        · rcases List.mem_append.1 hl with hl | hl
          · exact h.pend l hl hlo
          · simp at hl; subst hl; exact h2

theorem shareTmp_use {L : List Oper} {p q : Oper} {t : Nat} (hp : p.dst = some t) (hq : t ∈ opTmps L q) : shareTmp L p q = true := by
  unfold shareTmp
  simp only [hp]
  simp [hq]

theorem shareTmp_use' {L : List Oper} {p q : Oper} {t : Nat} (hp : q.dst = some t) (hq : t ∈ opTmps L p) : shareTmp L p q = true := by
  unfold shareTmp
  simp only [hp]
  simp [hq]

theorem shareTmp_dst {L : List Oper} {p q : Oper} {t : Nat} (hp : p.dst = some t) (hq : q.dst = some t) : shareTmp L p q = true := by
  unfold shareTmp
  simp only [hp, hq]
  simp

theorem onOf_set {listed : Array Bool} {i j : Nat} (hi : i < listed.size) : onOf (listed.setIfInBounds i true) j = if i = j then true else onOf listed j := by
  unfold onOf
  rw [agetD, agetD, Array.toList_setIfInBounds]
  simp only [List.getD, List.getElem?_set]
  by_cases h : i = j
  · subst h; simp [hi]
  · simp [h]

/-- one operation of a drawn order -/
theorem Sim.next {listed : Array Bool} {a : Act} {w : World} {D late : List Late} {rest : List Nat} {S : Seal} {σ : AHeap} {Q : Exit → Act → World → Prop} {next : Act → World → Prop}
    (hord : ordOk ops.toList pl [] ord = true) (hsub : ∀ i o, ops.toList[i]? = some o → ∀ x ∈ pl.getD i [], x ∈ directPreds o ∨ ∃ j ∈ directPreds o, x ∈ pl.getD j [])
    (hall : ∀ i, i < ops.size → i ∈ ord) (hG : G.le S) (hdst : DstOk ops.toList a.tmps.size)
    (h : Sim P G own ops pl ord env0 k S0 σ0 w0 a0 listed a w D rest late S σ) (hhead : ∀ e ∈ rest.head?, ∀ o, ops.toList[e]? = some o → readerOp o.op = false)
    {i : Nat} {o : Oper} (hi : i < ops.size) (ho : ops.toList[i]? = some o) (hun : onOf listed i = false) (hready : ∀ j ∈ directPreds o, onOf listed j = true)
    (hn : ∀ a' w' D' rest' late' S' σ', Sim P G own ops pl ord env0 k S0 σ0 w0 a0 (listed.setIfInBounds i true) a' w' D' rest' late' S' σ' → next a' w') :
    if Region.wanted o (yielded ops a.tmps) then o.wp P a w next Q ∨ (o.asks P a w ∧ LetsOut Q) else next (a.put o.dst undef) w := by
  obtain ⟨hnd, hlt, hpw⟩ := ordOk_spec hord
  have hpl : ∀ j ∈ pl.getD i [], onOf listed j = true := fun j hj => by
    rcases hsub i o ho j hj with h1 | ⟨m, h1, h2⟩
    · exact hready j h1
    · exact h.closed m (hready m h1) j h2
  have hil : i < listed.size := by rw [h.size]; exact hi
  have hon : ∀ j, onOf (listed.setIfInBounds i true) j = if i = j then true else onOf listed j := fun j => onOf_set hil
  have homem : o ∈ ops.toList := List.mem_of_getElem? ho
  by_cases hin : i ∈ D.map (·.idx)
  · -- read before: now done
    obtain ⟨l, hlD, hli⟩ := List.mem_map.1 hin
    obtain ⟨D1, D2, rfl⟩ := List.append_of_mem hlD
    have hlo : l.o = o := by have := h.op l hlD; rw [hli, ho] at this; simpa using this.symm
    have hr : readerOp l.o.op = true := by
      cases hx : readerOp l.o.op with
      | true => rfl
      | false => have := h.eff l hlD hx; rw [hli, hun] at this; simp at this
    have hcl := (Chain.append.1 h.chain).2
    simp only [Chain] at hcl
    have hidx : (D1.map (·.idx) ++ i :: D2.map (·.idx)) ++ rest = ord := by rw [← h.ord]; simp [hli]
    rw [← hidx] at hpw hnd
    have hpw1 := (List.pairwise_append.1 (List.pairwise_append.1 hpw).1)
    have hbefore : ∀ m ∈ D1, ∀ t, m.o.dst = some t → (t ∈ opTmps ops.toList o ∨ o.dst = some t) → onOf listed m.idx = true := fun m hm t hd ht => by
      have := hpw1.2.2 m.idx (List.mem_map.2 ⟨m, hm, rfl⟩) i (by simp) m.o o (h.op m (by simp [hm])) ho
      refine hpl _ (this.2 ?_)
      rcases ht with ht | ht
      · exact shareTmp_use hd ht
      · exact shareTmp_dst hd ht
    have hafter : ∀ m ∈ D2, ∀ t, m.o.dst = some t → (t ∈ opTmps ops.toList o ∨ o.dst = some t) → onOf listed m.idx = false := fun m hm t hd ht => by
      have := (List.pairwise_cons.1 hpw1.2.1).1 m.idx (List.mem_map.2 ⟨m, hm, rfl⟩) o m.o ho (h.op m (by simp [hm]))
      have hs : shareTmp ops.toList o m.o = true := by
        rcases ht with ht | ht
        · exact shareTmp_use' hd ht
        · exact shareTmp_dst ht hd
      cases hx : onOf listed m.idx with
      | false => rfl
      | true => have := h.closed m.idx hx i (this.2 hs); rw [hun] at this; simp at this
    have hget : ∀ t, t ∈ opTmps ops.toList o → (envSel (onOf listed) env0 (D1 ++ l :: D2)).get t = l.env.get t := fun t ht => by
      rw [envSel_append]
      simp only [envSel]
      rw [if_neg (by rw [hli, hun]; simp), envSel_off D2 _ fun m hm hd => hafter m hm t hd (.inl ht), hcl.1]
      exact envSel_on D1 env0 env0 rfl fun m hm hd => hbefore m hm t hd (.inl ht)
    have hp := h.pend l hlD (by rw [hli]; exact hun) (SAMEV l.v σ) ⟨rfl, rfl⟩
    rw [hlo] at hp
    have hs := stepF_congr (env' := envSel (onOf listed) env0 (D1 ++ l :: D2)) (fun t ht => (hget t ht).symm) hp
    refine stepF_sound hs h.step.inv hG h.rel fun S' σ' w' v x hst hRv hv => ?_
    obtain ⟨rfl, rfl⟩ := hv
    have hni : ∀ m ∈ D1, m.idx ≠ i := fun m hm he => by
      have := (List.nodup_append.1 (List.nodup_append.1 hnd).1).2.2 m.idx (List.mem_map.2 ⟨m, hm, rfl⟩) i (by simp)
      exact this he
    have hni2 : ∀ m ∈ D2, m.idx ≠ i := fun m hm he => by
      have := (List.nodup_cons.1 (List.nodup_append.1 (List.nodup_append.1 hnd).1).2.1).1
      exact this (List.mem_map.2 ⟨m, hm, he⟩)
    refine hn _ _ (D1 ++ l :: D2) rest late S' σ' ⟨h.ord, h.op, h.chain, h.den, h.late, h.step.trans hst, (h.agree.trans (put_agree a o.dst x _ fun d hd => mem_dsts homem hd)).weaken fun t ht => (List.mem_append.1 ht).elim id id,
      (put_defers _ _ _).trans h.defers, fun t => ?_, fun j hj => ?_, fun m hm he => ?_, fun j hj q hq => ?_, fun m hm he => ?_, by simp [h.size]⟩
    · by_cases hd : o.dst = some t
      · have e1 : (envSel (onOf (listed.setIfInBounds i true)) env0 (D1 ++ l :: D2)).get t = l.v := by
          rw [envSel_append]
          simp only [envSel]
          rw [if_pos (by rw [hon, hli, if_pos rfl]), envSel_off D2 _ fun m hm hd' => by
            rw [hon, if_neg (fun e => hni2 m hm e.symm)]; exact hafter m hm t hd' (.inr hd)]
          rw [Env.get_put, if_pos (by rw [hlo]; exact hd)]
        rw [e1]
        have := (RelE.put (d := o.dst) (h.rel.mono hst.le) hRv fun u hu => hdst o homem u hu) t
        rw [Env.get_put, if_pos hd] at this
        exact this
      · have e1 : (envSel (onOf (listed.setIfInBounds i true)) env0 (D1 ++ l :: D2)).get t = (envSel (onOf listed) env0 (D1 ++ l :: D2)).get t := by
          rw [envSel_append, envSel_append]
          simp only [envSel]
          have c1 : envSel (onOf (listed.setIfInBounds i true)) env0 D1 = envSel (onOf listed) env0 D1 := envSel_congr env0 D1 fun m hm => by rw [hon, if_neg (fun e => hni m hm e.symm)]
          rw [c1, if_pos (by rw [hon, hli, if_pos rfl]), if_neg (by rw [hli, hun]; simp)]
          have c2 : ∀ e, envSel (onOf (listed.setIfInBounds i true)) e D2 = envSel (onOf listed) e D2 := fun e => envSel_congr e D2 fun m hm => by rw [hon, if_neg (fun e => hni2 m hm e.symm)]
          rw [c2]
          generalize envSel (onOf listed) env0 D1 = e0
          have gen : ∀ (E : List Late) (x y : Env), x.get t = y.get t → (envSel (onOf listed) x E).get t = (envSel (onOf listed) y E).get t := fun E => by
            induction E with
            | nil => exact fun _ _ h => h
            | cons m r ih =>
              intro x y hxy
              simp only [envSel]
              refine ih _ _ ?_
              split
              · rw [Env.get_put, Env.get_put, hxy]
              · exact hxy
          exact gen D2 _ _ (by rw [Env.get_put, if_neg (by rw [hlo]; exact hd)])
        rw [e1]
        have := (RelE.put (d := o.dst) (h.rel.mono hst.le) hRv fun u hu => hdst o homem u hu) t
        rw [Env.get_put, if_neg hd] at this
        exact this
    · rw [hon] at hj
      by_cases he : i = j
      · subst he; exact hin
      · rw [if_neg he] at hj; exact h.inD j hj
    · rw [hon]; split
      · rfl
      · exact h.eff m hm he
    · rw [hon]
      rw [hon] at hj
      split
      · rfl
      · by_cases he : i = j
        · subst he; exact hpl q hq
        · rw [if_neg he] at hj; exact h.closed j hj q hq
    · rw [hon] at he
      split at he
      · simp at he
      · exact h.pend m hm he
  · -- the next effect
    have hir : i ∈ rest := by
      have := hall i hi
      rw [← h.ord] at this
      rcases List.mem_append.1 this with h1 | h1
      · exact absurd h1 hin
      · exact h1
    cases rest with
    | nil => simp at hir
    | cons e r =>
      have hd := h.den
      simp only [denDraw] at hd
      cases hoe : ops.toList[e]? with
      | none => simp [hoe] at hd
      | some oe =>
        have hre := hhead e (by simp) oe hoe
        have hidx := h.ord
        rw [← hidx] at hpw hnd
        have hpw2 := List.pairwise_append.1 hpw
        have hie : i = e := by
          rcases List.mem_cons.1 hir with hx | hx
          · exact hx
          · exfalso
            have := (List.pairwise_cons.1 hpw2.2.1).1 i hx oe o hoe ho
            have he : e ∈ pl.getD i [] := this.1.resolve_left (by simp [hre])
            have := h.inD e (hpl e he)
            exact (List.nodup_append.1 hnd).2.2 e this e (by simp) rfl
        subst hie
        rw [ho] at hoe
        simp at hoe
        subst hoe
        simp only [ho, hre] at hd
        have hs0 := GRD_step hd
        have hbefore : ∀ m ∈ D, ∀ t, m.o.dst = some t → (t ∈ opTmps ops.toList o ∨ o.dst = some t) → onOf listed m.idx = true := fun m hm t hdm ht => by
          have := hpw2.2.2 m.idx (List.mem_map.2 ⟨m, hm, rfl⟩) i (by simp) m.o o (h.op m hm) ho
          refine hpl _ (this.2 ?_)
          rcases ht with ht | ht
          · exact shareTmp_use hdm ht
          · exact shareTmp_dst hdm ht
        have hs := stepF_congr (env' := envSel (onOf listed) env0 D) (fun t ht => (envSel_on D env0 env0 rfl fun m hm hdm => hbefore m hm t hdm (.inl ht)).symm) hs0
        refine stepF_sound hs h.step.inv hG h.rel fun S' σ' w' v x hst hRv hK => ?_
        obtain ⟨hK, hagain⟩ := CHK_elim hK
        have hni : ∀ m ∈ D, m.idx ≠ i := fun m hm he => hin (List.mem_map.2 ⟨m, hm, he⟩)
        have hlo : loadOp o.op = false := eff_noload hre
        refine hn _ _ (D ++ [⟨i, o, envEnd env0 D, v⟩]) r late S' σ' ⟨by simp [← h.ord], fun l hl => ?_, Chain.append.2 ⟨h.chain, rfl, trivial⟩, by rw [envEnd_append]; exact hK, by rw [h.late, List.filter_append]; simp [hlo], h.step.trans hst,
          (h.agree.trans (put_agree a o.dst x _ fun d hd => mem_dsts homem hd)).weaken fun t ht => (List.mem_append.1 ht).elim id id, (put_defers _ _ _).trans h.defers, ?_, fun j hj => ?_, fun l hl he => ?_, fun j hj q hq => ?_, fun l hl he => ?_, by simp [h.size]⟩
        · rcases List.mem_append.1 hl with hl | hl
          · exact h.op l hl
          · simp at hl; subst hl; exact ho
        · rw [envSel_append]
          simp only [envSel]
          rw [if_pos (by rw [hon, if_pos rfl]), envSel_congr (on' := onOf listed) env0 D fun m hm => by rw [hon, if_neg (fun e => hni m hm e.symm)]]
          exact RelE.put (h.rel.mono hst.le) hRv fun u hu => hdst o homem u hu
        · rw [hon] at hj
          by_cases he : i = j
          · subst he; simp
          · rw [if_neg he] at hj
            have := h.inD j hj
            simp at this ⊢
            exact .inl this
        · rw [hon]
          split
          · rfl
          · rcases List.mem_append.1 hl with hl | hl
            · exact h.eff l hl he
            · simp at hl; subst hl; rename_i hne; exact absurd rfl hne
        · rw [hon]
          rw [hon] at hj
          split
          · rfl
          · by_cases he : i = j
            · subst he; exact hpl q hq
            · rw [if_neg he] at hj; exact h.closed j hj q hq
        · rcases List.mem_append.1 hl with hl | hl
          · rw [hon, if_neg (fun e => hni l hl e.symm)] at he
            have hrl : readerOp l.o.op = true := by
              cases hx : readerOp l.o.op with
              | true => rfl
              | false => have := h.eff l hl hx; rw [he] at this; simp at this
            refine Pend.next hrl (h.pend l hl he) fun hll => hagain l (by rw [h.late]; exact List.mem_filter.2 ⟨hl, hll⟩) fun hm => ?_
            have := hpl l.idx hm
            rw [he] at this
            simp at this
          · simp at hl; subst hl
            rw [hon, if_pos rfl] at he
            simp at he
end

end Go.Al
