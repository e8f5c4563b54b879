/- The abstract logic, part 16: functions. -/
import Derived.Test.YtpooknfdodimdaaGreatDoorAl15
set_option linter.unusedVariables false
set_option linter.unusedSimpArgs false
namespace Go.Al
variable {P : Program} {G S : Seal} {σ : AHeap} {w : World} {K : KAV}

theorem LOAD_same {t : TypeId} {p : AV} {x : Value} (hI : Inv S σ w) (hp : Rel S p x) (h : LOAD (ldk P t) p σ K) : ∃ a y v, x = .pointer (some a) ∧ (loadVar t a).run P w = .ok y w ∧ Rel S v y ∧ K v σ := by
  cases hp <;> simp only [LOAD] at h
  case rp xs off b o val hs hr =>
    obtain ⟨v, hv, h⟩ := OPT_elim h
    have hc : CellsAt S w b o xs := fun i hi => ⟨val i, hI.cell _ _ _ (hs i hi), hr i hi⟩
    obtain ⟨y, hy, hR⟩ := load_cells (P := P) hc hv
    exact ⟨_, y, v, rfl, hy, hR, h⟩
  case pt b off =>
    split at h
    · rename_i cs hb
      obtain ⟨v, hv, h⟩ := OPT_elim h
      obtain ⟨y, hy, hR⟩ := load_cells (P := P) (CellsAt.own hI hb) hv
      exact ⟨_, y, v, rfl, by simpa using hy, hR, h⟩
    · exact h.elim

theorem resL_sound {env : Env} {tm : Array Value} (hI : Inv S σ w) (hE : RelE S env tm) : ∀ (rs : List ResultVar) (acc : List AV) (KL : List AV → AHeap → Prop), resL P rs env σ acc KL →
    ∃ (vs : List Value) (xs : List AV), (rs.mapM (m := Sem) fun r => match r with | .tmp t => pure (tm.getD t undef) | .cell a t => do loadVar t (← asAddr (tm.getD a undef))).run P w = .ok vs w ∧ RelL S xs vs ∧ KL (acc ++ xs) σ
  | [], acc, KL, h => ⟨[], [], rfl, ⟨rfl, fun _ h => by simp at h⟩, by simpa [resL] using h⟩
  | .tmp t :: r, acc, KL, h => by
    simp only [resL] at h
    obtain ⟨vs, xs, h1, h2, h3⟩ := resL_sound hI hE r _ KL h
    refine ⟨tm.getD t undef :: vs, env.get t :: xs, by simp only [List.mapM_cons, Sem.run_bind, Sem.run_pure, Result.andThen_ok, h1], ⟨by simp [h2.1], fun j hj => ?_⟩, by simpa using h3⟩
    cases j with
    | zero => exact hE t
    | succ j => exact h2.2 j (by simpa using hj)
  | .cell a t :: r, acc, KL, h => by
    simp only [resL] at h
    obtain ⟨ad, y, v, e1, e2, e3, h⟩ := LOAD_same hI (hE a) h
    obtain ⟨vs, xs, h1, h2, h3⟩ := resL_sound hI hE r _ KL h
    have e4 : (do loadVar t (← asAddr (tm.getD a undef)) : Sem Value).run P w = .ok y w := by rw [e1]; simp [asAddr, e2]
    refine ⟨y :: vs, v :: xs, by rw [List.mapM_cons]; simp only [Sem.run_bind] at e4 ⊢; rw [e4]; simp only [Result.andThen_ok, h1, Sem.run_pure], ⟨by simp [h2.1], fun j hj => ?_⟩, by simpa using h3⟩
    cases j with
    | zero => exact e3
    | succ j => exact h2.2 j (by simpa using hj)

theorem res_sound {fn : Func} {env : Env} {tm : Array Value} (hI : Inv S σ w) (hE : RelE S env tm) (h : resAV P fn.results.toList env σ K) : ∃ v r, (results fn tm).run P w = .ok v w ∧ Rel S r v ∧ K r σ := by
  unfold resAV at h
  obtain ⟨vs, xs, h1, h2, h3⟩ := resL_sound hI hE _ _ _ h
  have hrun : (results fn tm).run P w = .ok (if h : vs.toArray.size = 1 then vs.toArray[0] else .tuple vs.toArray) w := by
    unfold results
    rw [Array.mapM_eq_mapM_toList]
    simp only [Sem.run_bind, Sem.run_map]
    erw [h1]
    rfl
  refine ⟨_, match [] ++ xs with | [x] => x | ys => .tu ys, hrun, ?_, ?_⟩
  · simp only [List.nil_append]
    have hl := h2.1
    split
    · rename_i x
      have hv : vs.length = 1 := by simpa using hl
      obtain ⟨y, rfl⟩ : ∃ y, vs = [y] := by
        match vs, hv with
        | [y], _ => exact ⟨y, rfl⟩
      have := h2.2 0 (by simp)
      simpa using this
    · rename_i hne
      have hv : ¬ vs.toArray.size = 1 := fun hv => by
        have : xs.length = 1 := by rw [← hl]; simpa using hv
        match xs, this with
        | [x], _ => exact hne x rfl
      rw [dif_neg hv]
      exact .tu xs vs.toArray (by simpa using hl) fun j hj => by rw [agetD]; exact h2.2 j hj
  · simp only [List.nil_append] at h3 ⊢
    split at h3
    · exact h3
    · rename_i hne
      split
      · rename_i x; exact absurd rfl (hne x)
      · exact h3

theorem envArgs_get : ∀ (as : List AV) (i t : Nat), (envArgs i as).get t = if i ≤ t then as.getD (t - i) .un else .un
  | [], i, t => by simp [envArgs, Env.get]
  | a :: r, i, t => by
    rw [envArgs, Env.get_cons, envArgs_get r (i + 1) t]
    by_cases h : i = t
    · subst h; simp
    · rw [if_neg h]
      by_cases h2 : i ≤ t
      · rw [if_pos (by omega), if_pos h2, show t - i = (t - (i + 1)) + 1 by omega]; simp
      · rw [if_neg (by omega), if_neg h2]

/-- the function's code fits its frame -/
def fnOk (fn : Func) (n : Nat) : Bool :=
  match fn.body with
  | some c => CodeOk fn.ntmps c && Nat.ble n fn.ntmps
  | none => false

/-- FROM A FUNCTION's TEXT TO ITS CONTRACT. -/
theorem acalls_of_den {f : FuncId} {fn : Func} {C : Cfg} {args : List AV} {Q : KAV} (hmix : P.follows .mixedOrders = true) (hf : P.funcs[f]? = some fn) (hok : okFn P f = true) (hc : fnOk fn args.length = true)
    (h : denF P G C fn args (Fin Q) σ) : ACalls P G f args σ Q := by
  refine ACalls.of_fin ⟨hok, fun S w vs hG hI hR => ?_⟩
  unfold denF at h
  unfold fnOk at hc
  cases hb : fn.body with
  | none => simp [hb] at h
  | some c =>
    simp only [hb, Bool.and_eq_true] at h hc
    have hn : args.length ≤ fn.ntmps := Nat.le_of_ble_eq_true hc.2
    have hvl : vs.size = args.length := by simpa using hR.1
    have hsz : (vs ++ Array.replicate (fn.ntmps - vs.size) undef).size = fn.ntmps := by simp; omega
    refine calls_of_wp hf hb (den_sound (C := C) hmix c _ _ σ S w _ _ h hI hG ?_ (pruned_prune _ _) (by rw [hsz]; exact hc.1) ?_)
    · refine RelE.prune (fun t => ?_) _
      rw [envArgs_get, if_pos (Nat.zero_le _), Nat.sub_zero, agetD, Array.toList_append]
      by_cases ht : t < args.length
      · rw [getD_append_left' (by simpa [hvl] using ht)]
        exact hR.2 t ht
      · have : args.getD t .un = .un := by simp [List.getD, Nat.le_of_not_lt ht]
        rw [this]; exact .un _
    · intro e e' S' σ' w' env' a' hr hs hE' hp' ha hd' hk
      cases hr with
      | normal =>
        obtain ⟨v, r, h1, h2, h3⟩ := res_sound hs.inv hE' hk
        exact ⟨hd', v, h1, v, r, S', σ', rfl, hs, h2, h3⟩
      | exit i => exact hk.elim
      | ret =>
        obtain ⟨v, r, h1, h2, h3⟩ := res_sound hs.inv hE' hk
        exact ⟨hd', v, h1, v, r, S', σ', rfl, hs, h2, h3⟩

end Go.Al
