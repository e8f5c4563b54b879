/- The abstract logic, part 10: every operation is sound. -/
import Derived.Test.YtpooknfdodimdaaGreatDoorAl9
set_option linter.unusedVariables false
set_option linter.unusedSimpArgs false
namespace Go.Al
variable {P : Program} {G S : Seal} {σ : AHeap} {w : World} {K : KAV}

/-- an environment stands for temporaries -/
def RelE (S : Seal) (env : Env) (tmps : Array Value) : Prop := ∀ t, Rel S (env.get t) (tmps.getD t undef)

theorem RelE.mono {S T : Seal} (h : S.le T) {env : Env} {tmps : Array Value} (hE : RelE S env tmps) : RelE T env tmps := fun t => (hE t).mono h

theorem RelE.eval {env : Env} {a : Act} (hE : RelE S env a.tmps) (o : Operand) : Rel S (evalO env o) (a.eval o) := by
  cases o with
  | tmp t => exact hE t
  | const v => exact avOf_rel v
  | global g => exact .un _
  | func f => exact .fn (.func f) [] [] #[] #[] rfl rfl (fun _ h => by simp at h) (fun _ h => by simp at h)

theorem RelE.evalL {env : Env} {a : Act} (hE : RelE S env a.tmps) (os : Array Operand) : RelL S (os.toList.map (evalO env)) (os.map a.eval).toList := by
  refine ⟨by simp, fun j hj => ?_⟩
  simp at hj
  simp [List.getD, hj]
  exact hE.eval _

theorem RelE.opt {env : Env} {a : Act} (hE : RelE S env a.tmps) (o : Option Operand) : OptRel S (o.map (evalO env)) (o.map a.eval) := by
  cases o with
  | none => trivial
  | some o => exact hE.eval o

theorem RelL.append {xs ys : List AV} {us vs : List Value} (h : RelL S xs us) (h' : RelL S ys vs) : RelL S (xs ++ ys) (us ++ vs) := by
  refine ⟨by simp [h.1, h'.1], fun j hj => ?_⟩
  by_cases hlt : j < xs.length
  · rw [getD_append_left' hlt, getD_append_left' (by rw [h.1]; exact hlt)]; exact h.2 j hlt
  · rw [getD_append_right' (by omega), getD_append_right' (by rw [h.1]; omega), h.1]
    exact h'.2 _ (by simp at hj; omega)

section
variable {o : Oper} {a : Act} {next : Act → World → Prop} {Q : Exit → Act → World → Prop}

/-- what follows an operation -/
def Then (S : Seal) (σ : AHeap) (w : World) (K : KAV) (o : Oper) (a : Act) (next : Act → World → Prop) : Prop :=
  ∀ S' σ' w' v x, Step S σ w S' σ' w' → Rel S' v x → K v σ' → next (a.put o.dst x) w'

theorem wp_of_runs {s : Sem Value} (hx : execOp a.eval o = (do pure (Next.value (← s)))) (hr : Runs P s S σ w K) (hk : Then S σ w K o a next) : o.wp P a w next Q := by
  obtain ⟨x, w', S', σ', v, h1, h2, h3, h4⟩ := hr
  unfold Oper.wp
  rw [hx]
  simp only [Sem.run_bind, h1, Result.andThen_ok, Sem.run_pure]
  exact hk _ _ _ _ _ h2 h3 h4

theorem CALL_sound {f : Operand} {as : Array Operand} {ats : Array TypeId} {cal : AV} {av : List AV} (ho : o.op = .call { callee := .value f, args := as, argTypes := ats }) (hI : Inv S σ w) (hG : G.le S)
    (hf : Rel S cal (a.eval f)) (ha : RelL S av (as.map a.eval).toList) (h : CALL P G cal av σ K) (hk : Then S σ w K o a next) : o.wp P a w next Q := by
  unfold CALL at h
  split at h <;> try exact h.elim
  rename_i g first cap
  obtain ⟨hok, hc⟩ := h
  generalize hfe : a.eval f = fv at hf
  cases hf with
  | fn _ _ _ vf vc h1 h2 h3 h4 =>
    have hrun : (execOp a.eval o).run P w = .ok (.enter g (vf ++ as.map a.eval ++ vc)) w := by
      unfold okFn at hok
      split at hok
      · rename_i fn hfn
        simp at hok
        have hb : fn.body.isNone = false := by
          cases hbb : fn.body with
          | none => simp [hbb] at hok
          | some c => rfl
        have hb' : ¬ (fn.body.isNone = true) := by simp [hb]
        simp only [execOp, ho, resolve, hfe, Deferred.ofValue, invoke, callFunc, Sem.run_bind, Sem.run_pure, Result.andThen_ok, run_program, hfn]
        rw [if_neg (by simp; exact hok.1), if_neg hb']
        rfl
      · simp at hok
    have hRL : RelL S (first ++ av ++ cap) (vf ++ as.map a.eval ++ vc).toList := by
      simp only [Array.toList_append]
      refine RelL.append (RelL.append ⟨by simpa using h1, fun j hj => ?_⟩ ha) ⟨by simpa using h2, fun j hj => ?_⟩
      · have := h3 j hj; rw [agetD vf] at this; exact this
      · have := h4 j hj; rw [agetD vc] at this; exact this
    have := hc S w _ hG hI hRL
    unfold Oper.wp
    rw [hrun]
    refine Calls.mono this fun e w' ⟨v, r, S', σ', he, hs, hr, hq⟩ => ?_
    subst he
    exact hk _ _ _ _ _ hs hr hq

theorem list1 {α : Type} {as : Array α} {x : α} (h : as.toList = [x]) : as = #[x] := by cases as; simp at h; subst h; rfl
theorem list2 {α : Type} {as : Array α} {x y : α} (h : as.toList = [x, y]) : as = #[x, y] := by cases as; simp at h; subst h; rfl

theorem aop_sound {own : List Nat} {env : Env} (h : aop P G own o env σ K) (hI : Inv S σ w) (hG : G.le S) (hE : RelE S env a.tmps) (hk : Then S σ w K o a next) : o.wp P a w next Q := by
  obtain ⟨dst, op, type, pos, after, guard⟩ := o
  unfold aop at h
  simp only at h
  split at h
  · -- move
    unfold Oper.wp
    simp only [execOp, Sem.run_pure]
    exact hk _ _ _ _ _ (.refl hI) (hE.eval _) h
  · unfold Oper.wp
    simp only [execOp, Sem.run_pure]
    exact hk _ _ _ _ _ (.refl hI) (hE.eval _) h
  · rename_i c x y
    refine wp_of_runs (s := do pure (if ← asBool (a.eval c) then a.eval x else a.eval y)) ?_ (PICK_sound hI (hE.eval _) (hE.eval _) (hE.eval _) h) hk
    simp [execOp]
  · obtain ⟨z, hz, h⟩ := OPT_elim h
    exact wp_of_runs rfl (alloc_sound hI hz h) hk
  · obtain ⟨n, hn, h⟩ := OPT_elim h
    exact wp_of_runs rfl (box_sound hI (hE.eval _) h) hk
  · rename_i t parts
    obtain ⟨z, hz, h⟩ := OPT_elim h
    obtain ⟨ps, hps, h⟩ := OPT_elim h
    refine wp_of_runs rfl (BUILD_sound hI hz hps ⟨by simp, fun i p q hp hq => ?_⟩ h) hk
    rw [List.getElem?_map, Array.getElem?_toList] at hp
    rw [Array.getElem?_map] at hq
    cases hpi : parts[i]? with
    | none => simp [hpi] at hp
    | some pr =>
      simp [hpi] at hp hq
      subst hp hq
      exact ⟨rfl, hE.eval _⟩
  · rename_i t len parts
    split at h <;> try exact h.elim
    rename_i e hu
    obtain ⟨z, hz, h⟩ := OPT_elim h
    have ⟨hcond, h⟩ : (Nat.ble (len * z.length) 1000000 && z.length != 0 && (parts.toList.map Prod.fst == List.range len)) = true ∧ LIT _ z.length (parts.toList.map fun p => evalO env p.2) σ K := IFT_elim h
    simp only [Bool.and_eq_true, decide_eq_true_eq, bne_iff_ne, beq_iff_eq] at hcond
    obtain ⟨⟨c1, c2⟩, c3⟩ := hcond
    have c1 := Nat.le_of_ble_eq_true c1
    refine wp_of_runs rfl (LIT_sound hI hu hz c1 c2 (by simp [← c3]) (by simp; have := congrArg List.length c3; simpa using this) (fun i p q hp hq => ?_) h) hk
    rw [List.getElem?_map, Array.getElem?_toList] at hp
    rw [Array.getElem?_map] at hq
    cases hpi : parts[i]? with
    | none => simp [hpi] at hp
    | some pr =>
      simp [hpi] at hp hq
      subst hp hq
      exact hE.eval _
  · exact wp_of_runs rfl (LOAD_sound hI (hE.eval _) h) hk
  · rename_i t ad x
    obtain ⟨n, hn, h⟩ := OPT_elim h
    obtain ⟨w', S', σ', h1, h2, h3⟩ := STORE_sound hI (hE.eval _) (hE.eval _) hn h
    unfold Oper.wp
    simp only [execOp, Sem.run_bind, h1, Result.andThen_ok, Sem.run_pure]
    exact hk _ _ _ _ _ h2 (.un _) h3
  · rename_i x
    obtain ⟨h1, h2, h3⟩ := NILCK_sound hI (hE.eval x) h
    have hrun : (execOp a.eval ⟨dst, .nilCheck x, type, pos, after, guard⟩).run P w = .ok (.value (a.eval x)) w := by
      simp only [execOp]
      clear h2 h3 h hk
      revert h1
      generalize a.eval x = v
      intro h1
      cases v with
      | pointer p => cases p with
        | none => exact h1.elim
        | some p => rfl
      | func f a b => cases f with
        | method n => exact h1.elim
        | _ => rfl
      | nilFunc => exact h1.elim
      | nilIface => exact h1.elim
      | _ => rfl
    unfold Oper.wp
    rw [hrun]
    exact hk _ _ _ _ _ (.refl hI) h2 h3
  · exact wp_of_runs rfl (BIN_sound hI (hE.eval _) (hE.eval _) h) hk
  · exact wp_of_runs rfl (UN_sound hI (hE.eval _) h) hk
  · exact wp_of_runs rfl (CONV_sound hI (hE.eval _) h) hk
  · exact wp_of_runs rfl (MKFN_sound hI (hE.evalL _) (hE.evalL _) h) hk
  · split at h <;> try exact h.elim
    rename_i e hu
    obtain ⟨z, hz, h⟩ := OPT_elim h
    obtain ⟨b, hb, h⟩ := OPT_elim h
    exact wp_of_runs rfl (MAKE_sound hI hu hz hb (hE.eval _) (hE.eval _) h) hk
  · rename_i t x lo hi
    split at h <;> try exact h.elim
    · rename_i n hn
      exact wp_of_runs rfl (CUTL_sound hI (hE.eval _) (hE.opt _) (hE.opt _) hn h) hk
    · split at h <;> try exact h.elim
      rename_i hu
      exact wp_of_runs rfl (CUTS_sound hI (hE.eval _) (hE.opt _) (hE.opt _) hu h) hk
  · obtain ⟨off, ho, h⟩ := OPT_elim h
    exact wp_of_runs rfl (FA_sound hI (hE.eval _) ho h) hk
  · obtain ⟨p, ho, h⟩ := OPT_elim h
    exact wp_of_runs rfl (FIELD_sound hI (hE.eval _) ho h) hk
  · exact wp_of_runs rfl (IA_sound hI (hE.eval _) (hE.eval _) h) hk
  · split at h <;> try exact h.elim
    rename_i hu
    exact wp_of_runs rfl (IX_sound hI (hE.eval _) (hE.eval _) hu h) hk
  · exact wp_of_runs rfl (TUP_sound hI (hE.eval _) h) hk
  · rename_i as ts
    split at h <;> try exact h.elim
    rename_i x t e1 e2
    rw [list1 e1, list1 e2]
    split at h <;> try exact h.elim
    · rename_i hu
      refine wp_of_runs (s := Builtin.len_ #[t] type #[a.eval x]) ?_ (LENS_sound hI (hE.eval _) hu h) hk
      simp [execOp, resolve, invoke, builtin]
    · rename_i e hu
      refine wp_of_runs (s := Builtin.len_ #[t] type #[a.eval x]) ?_ (LENL_sound hI (hE.eval _) hu h) hk
      simp [execOp, resolve, invoke, builtin]
  · rename_i as ts
    split at h <;> try exact h.elim
    rename_i s x t u e1 e2
    rw [list2 e1, list2 e2]
    split at h <;> try exact h.elim
    · rename_i e e' hu hu2
      obtain ⟨z, hz, h⟩ := OPT_elim h
      obtain ⟨b, hb, h⟩ := OPT_elim h
      have hz0 : 0 < z.length := h.1
      refine wp_of_runs (s := Builtin.append_ #[t, u] type #[a.eval s, a.eval x]) ?_ (APP_sound hI (hE.eval _) hu hz hb (fun ys hys => srcH_sound hI (hE.eval x) hz0 hu2 hys) h) hk
      simp [execOp, resolve, invoke, builtin]
    · rename_i e hu hu2
      obtain ⟨z, hz, h⟩ := OPT_elim h
      obtain ⟨b, hb, h⟩ := OPT_elim h
      obtain ⟨h1, h⟩ := h
      refine wp_of_runs (s := Builtin.append_ #[t, u] type #[a.eval s, a.eval x]) ?_ (APP_sound hI (hE.eval _) hu hz hb (fun ys hys => by rw [h1]; exact srcS_sound hI (hE.eval x) hu2 hys) h) hk
      simp [execOp, resolve, invoke, builtin]
  · rename_i as ts
    split at h <;> try exact h.elim
    rename_i s x t u e1 e2
    rw [list2 e1, list2 e2]
    split at h <;> try exact h.elim
    rename_i e e' hu hu2
    obtain ⟨n, hn, h⟩ := OPT_elim h
    refine wp_of_runs (s := Builtin.copy_ #[t, u] type #[a.eval s, a.eval x]) ?_ (COPY_sound hI (hE.eval _) (hE.eval _) hu hn h) hk
    simp [execOp, resolve, invoke, builtin]
  · exact CALL_sound rfl hI hG (hE.eval _) (hE.evalL _) h hk
  · exact h.elim
end

end Go.Al
