/- The abstract logic, part 12: regions whose order is open. -/
import Derived.Test.YtpooknfdodimdaaGreatDoorAl11
import Derived.Orders
set_option linter.unusedVariables false
set_option linter.unusedSimpArgs false
namespace Go.Al
variable {P : Program} {G : Seal}

/- what a reader answers is told by its operands (and by memory, if it loads) -/
def PureDet (A : AHeap → KAV → Prop) : Prop := ∀ σ K, A σ K → ∃ v, K v σ ∧ ∀ (σ' : AHeap) (K' : KAV), K' v σ' → A σ' K'

theorem pd_opt {α : Type} (x : Option α) (f : α → AV) : PureDet fun σ K => OPT x fun a => K (f a) σ := fun σ K h => by
  obtain ⟨a, ha, h⟩ := OPT_elim h
  exact ⟨f a, h, fun σ' K' h' => by show OPT x _; rw [ha]; exact h'⟩

theorem pd_and {A : AHeap → KAV → Prop} {p : Prop} (h : PureDet A) : PureDet fun σ K => p ∧ A σ K := fun σ K ⟨hp, hA⟩ => by
  obtain ⟨v, h1, h2⟩ := h σ K hA
  exact ⟨v, h1, fun σ' K' h' => ⟨hp, h2 σ' K' h'⟩⟩

theorem pd_k (v : AV) : PureDet fun σ K => K v σ := fun σ K h => ⟨v, h, fun _ _ h' => h'⟩
theorem pd_false : PureDet fun _ _ => False := fun _ _ h => h.elim
theorem pd_ex {α : Type} {x : Option α} {f : α → AV} : PureDet fun σ K => ∃ a, x = some a ∧ K (f a) σ := fun σ K ⟨a, ha, h⟩ => ⟨f a, h, fun _ _ h' => ⟨a, ha, h'⟩⟩
theorem pd_optk {α : Type} (x : Option α) {A : α → AHeap → KAV → Prop} (h : ∀ a, PureDet (A a)) : PureDet fun σ K => OPT x fun a => A a σ K := fun σ K hx => by
  obtain ⟨a, ha, hx⟩ := OPT_elim hx
  obtain ⟨v, h1, h2⟩ := h a σ K hx
  exact ⟨v, h1, fun σ' K' h' => by show OPT x _; rw [ha]; exact h2 σ' K' h'⟩

theorem pure_det (own : List Nat) (o : Oper) (env : Env) (hr : readerOp o.op = true) (hl : loadOp o.op = false) : PureDet fun σ K => aop P G own o env σ K := by
  obtain ⟨dst, op, type, pos, after, guard⟩ := o
  cases op <;> simp only [readerOp, loadOp, Bool.false_eq_true] at hr hl <;> simp only [aop]
  case move => exact pd_k _
  case assign => exact pd_k _
  case pick =>
    unfold PICK; split
    · exact pd_k _
    · exact pd_false
  case build => exact pd_optk _ fun z => pd_optk _ fun ps => by unfold BUILD; exact pd_opt _ _
  case load => simp at hl
  case nilCheck => unfold NILCK; split <;> first | exact pd_k _ | exact pd_false
  case binOp => unfold BIN; split <;> first | exact pd_opt _ _ | exact pd_false
  case unOp => unfold UN; split <;> first | exact pd_opt _ _ | exact pd_false
  case makeFunc => exact pd_k _
  case slice t x lo hi mx =>
    cases mx with
    | some m => exact pd_false
    | none =>
      simp only
      split
      · unfold CUTL
        split
        all_goals first
          | exact pd_false
          | (split
             all_goals first
               | exact pd_false
               | exact pd_and (pd_and (pd_and (pd_and (pd_k _))))
               | exact pd_and (pd_and (pd_k _)))
      · exact pd_false
      · split
        · unfold CUTS
          split
          · split
            · exact pd_and (pd_and (pd_and (pd_k _)))
            · exact pd_false
          · exact pd_false
        · exact pd_false
  case fieldAddr => exact pd_optk _ fun z => by unfold FA; split <;> first | exact pd_k _ | exact pd_false
  case field => exact pd_optk _ fun z => by unfold FIELD; split <;> first | exact pd_opt _ id | exact pd_false
  case indexAddr =>
    unfold IA
    split
    · split
      all_goals first
        | exact pd_false
        | exact pd_and (pd_and pd_ex)
        | exact pd_and (pd_and (pd_and (pd_k _)))
        | exact pd_and (pd_and (pd_k _))
    · exact pd_false
  case index =>
    split
    · unfold IX; split
      · exact pd_and pd_ex
      · exact pd_false
    · exact pd_false
  case extract => unfold TUP; split <;> first | exact pd_opt _ id | exact pd_false
  case call c =>
    obtain ⟨callee, args, ats⟩ := c
    cases callee with
    | builtin b =>
      cases b <;> simp at hr
      simp only
      split
      · split
        · unfold LENS; split <;> first | exact pd_k _ | exact pd_false
        · unfold LENL; split <;> first | exact pd_k _ | exact pd_false
        · exact pd_false
      · exact pd_false
    | _ => simp at hr

theorem load_det (own : List Nat) (o : Oper) (env : Env) (hl : loadOp o.op = true) (σ : AHeap) (K : KAV) (h : aop P G own o env σ K) : ∃ v, K v σ ∧ ∀ (own' : List Nat) (K' : KAV), K' v σ → aop P G own' o env σ K' := by
  obtain ⟨dst, op, type, pos, after, guard⟩ := o
  cases op <;> simp only [loadOp, Bool.false_eq_true] at hl
  rename_i t x
  simp only [aop] at h ⊢
  have opt : ∀ y : Option AV, OPT y (K · σ) → ∃ v, K v σ ∧ ∀ K' : KAV, K' v σ → OPT y (K' · σ) := fun y hy => by
    obtain ⟨v, hv, hy⟩ := OPT_elim hy
    exact ⟨v, hy, fun K' h' => by rw [hv]; exact h'⟩
  unfold LOAD at h
  split at h
  · rename_i b off he
    split at h
    · rename_i cs hb
      obtain ⟨v, h1, h2⟩ := opt _ h
      exact ⟨v, h1, fun own' K' h' => by simp only [he, LOAD, hb]; exact h2 K' h'⟩
    · exact h.elim
  · rename_i cs off he
    obtain ⟨v, h1, h2⟩ := opt _ h
    exact ⟨v, h1, fun own' K' h' => by simp only [he, LOAD]; exact h2 K' h'⟩
  · exact h.elim

theorem reader_own (own own' : List Nat) (o : Oper) (env : Env) (hr : readerOp o.op = true) (σ : AHeap) (K : KAV) (h : aop P G own o env σ K) : aop P G own' o env σ K := by
  obtain ⟨dst, op, type, pos, after, guard⟩ := o
  cases op <;> simp only [readerOp, Bool.false_eq_true] at hr
  case slice t x lo hi mx => cases mx <;> exact h
  case call c =>
    obtain ⟨callee, args, ats⟩ := c
    cases callee with
    | builtin b => cases b <;> simp at hr; exact h
    | _ => simp at hr
  all_goals exact h

theorem evalO_congr {env env' : Env} {x : Operand} (h : ∀ t, x = .tmp t → env.get t = env'.get t) : evalO env x = evalO env' x := by
  cases x <;> first | rfl | exact h _ rfl

theorem aop_congr {own : List Nat} {o : Oper} {env env' : Env} {σ : AHeap} {K : KAV} (h : ∀ t, Operand.tmp t ∈ o.op.operands.toList → env.get t = env'.get t) : aop P G own o env σ K = aop P G own o env' σ K := by
  have hx : ∀ x, x ∈ o.op.operands.toList → evalO env x = evalO env' x := fun x hx => evalO_congr fun t ht => h t (ht ▸ hx)
  have hl : ∀ l : Array Operand, (∀ x, x ∈ l.toList → x ∈ o.op.operands.toList) → l.toList.map (evalO env) = l.toList.map (evalO env') := fun l hl => List.map_congr_left fun x hm => hx x (hl x hm)
  obtain ⟨dst, op, type, pos, after, guard⟩ := o
  unfold aop
  cases op
  all_goals simp only
  all_goals simp only [Op.operands, Call.operands] at hx hl
  case move x => rw [hx x (by simp)]
  case assign x => rw [hx x (by simp)]
  case pick c a b => rw [hx c (by simp), hx a (by simp), hx b (by simp)]
  case box t x => rw [hx x (by simp)]
  case build t parts =>
    have : (parts.toList.map fun p => (p.1, evalO env p.2)) = (parts.toList.map fun p => (p.1, evalO env' p.2)) := List.map_congr_left fun p hp => by rw [hx p.2 (by simp; exact ⟨p.1, by simpa using hp⟩)]
    rw [this]
  case buildSlice t len parts =>
    have : (parts.toList.map fun p => evalO env p.2) = (parts.toList.map fun p => evalO env' p.2) := List.map_congr_left fun p hp => by rw [hx p.2 (by simp; exact ⟨p.1, by simpa using hp⟩)]
    rw [this]
  case load t x => rw [hx x (by simp)]
  case store t x y => rw [hx x (by simp), hx y (by simp)]
  case nilCheck x => rw [hx x (by simp)]
  case binOp op t x y u => rw [hx x (by simp), hx y (by simp)]
  case unOp op t x => rw [hx x (by simp)]
  case convert s d x => rw [hx x (by simp)]
  case makeFunc f a c => rw [hl a (by simp; intro x hx; exact .inl hx), hl c (by simp; intro x hx; exact .inr hx)]
  case makeSlice t l c => rw [hx l (by simp), hx c (by simp)]
  case slice t x lo hi mx =>
    cases mx with
    | some m => rfl
    | none =>
      have e1 : lo.map (evalO env) = lo.map (evalO env') := by cases lo with | none => rfl | some y => simp [hx y (by simp)]
      have e2 : hi.map (evalO env) = hi.map (evalO env') := by cases hi with | none => rfl | some y => simp [hx y (by simp)]
      simp only
      rw [hx x (by simp), e1, e2]
  case fieldAddr s x f => rw [hx x (by simp)]
  case field s x f => rw [hx x (by simp)]
  case indexAddr t x i => rw [hx x (by simp), hx i (by simp)]
  case index t x i => rw [hx x (by simp), hx i (by simp)]
  case extract x i => rw [hx x (by simp)]
  case call c =>
    obtain ⟨callee, args, ats⟩ := c
    cases callee with
    | value f =>
      simp only at hx hl ⊢
      rw [hx f (by simp), hl args (by simp; intro x hx; exact .inr hx)]
    | invoke r m => rfl
    | builtin b =>
      cases b <;> simp only
      all_goals simp only [Array.toList_append, List.nil_append] at hx
      · split
        · rename_i s x t u e1 e2
          rw [hx s (by simp [e1]), hx x (by simp [e1])]
        · rfl
      · split
        · rename_i s x t u e1 e2
          rw [hx s (by simp [e1]), hx x (by simp [e1])]
        · rfl
      · split
        · rename_i x t e1 e2
          rw [hx x (by simp [e1])]
        · rfl

end Go.Al
