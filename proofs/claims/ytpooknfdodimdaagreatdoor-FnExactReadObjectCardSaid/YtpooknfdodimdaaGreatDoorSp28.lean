/- The law of ReadObject: it answers true at every argument. -/
import Derived.Test.YtpooknfdodimdaaGreatDoorSp27
set_option linter.unusedVariables false
set_option linter.unusedSimpArgs false
set_option maxRecDepth 100000
set_option maxHeartbeats 4000000
namespace Go.Al
variable {G : Seal} {σ : AHeap} {K : KAV}

def ESolid {α : Type} (E : AHeap → List AV → α → Prop) : Prop := ∀ H r a, E H r a → (∀ x ∈ r, Solid x) ∧ SolidH H
theorem SolidH.un {a b : AHeap} (h : SolidH a) (h' : SolidH b) : SolidH (a.un b) := fun p x hx => by
  cases ha : a p with
  | some y => simp [AHeap.un, ha] at hx; subst hx; exact h _ _ ha
  | none => simp [AHeap.un, ha] at hx; exact h' _ _ hx
theorem SolidH.ins {a : AHeap} {b : Nat} {cs : List AV} (h : SolidH a) (hc : ∀ x ∈ cs, Solid x) : SolidH (a.ins b (.cells 0 cs)) := fun p x hx => by
  by_cases e : p = b
  · subst e; rw [AHeap.ins_self] at hx; simp at hx; subst hx
    refine ⟨0, cs, rfl, fun i hi => ?_⟩
    have : cs.getD i .un = cs[i] := by simp [List.getD, hi]
    rw [this]; exact hc _ (List.getElem_mem _)
  · rw [AHeap.ins_ne _ _ e] at hx; exact h _ _ hx
theorem OList.solid {α : Type} {E : AHeap → List AV → α → Prop} (hE : ESolid E) {H : AHeap} {rs : List (List AV)} {l : List α} (h : OList E H rs l) : SolidH H ∧ ∀ r ∈ rs, ∀ x ∈ r, Solid x := by
  induction h with
  | nil => exact ⟨.emp, by simp⟩
  | cons he ht hd ih =>
    obtain ⟨e1, e2⟩ := hE _ _ _ he
    refine ⟨e2.un ih.1, fun r hr => ?_⟩
    rcases List.mem_cons.1 hr with rfl | hr
    · exact e1
    · exact ih.2 r hr
theorem ORow.solid {α : Type} {n : Nat} {E : AHeap → List AV → α → Prop} (hE : ESolid E) {H : AHeap} {v : AV} {l : List α} (h : ORow n E H v l) : Solid v ∧ SolidH H := by
  cases h with
  | nl => exact ⟨.nl, .emp⟩
  | ar ho hb hz =>
    obtain ⟨a, b⟩ := ho.solid hE
    refine ⟨.ar _ _ _ _, a.ins fun x hx => ?_⟩
    obtain ⟨r, hr, hx⟩ := List.mem_flatten.1 hx
    exact b r hr x hx
theorem ESolid.flat {α : Type} {f : α → List AV} (hf : ∀ a, ∀ x ∈ f a, ∃ s, x = .sc s) : ESolid (EFlat f) := fun H r a ⟨h1, h2⟩ => by
  subst h1 h2
  exact ⟨fun x hx => by obtain ⟨s, rfl⟩ := hf a x hx; exact .sc s, .emp⟩
theorem Need.solid : ESolid (EFlat Need.cells) := .flat fun a x hx => by simp only [List.mem_cons, List.not_mem_nil, or_false] at hx; rcases hx with rfl | rfl <;> exact ⟨_, rfl⟩
theorem Global.solid : ESolid (EFlat Global.cells) := .flat fun a x hx => by simp only [List.mem_cons, List.not_mem_nil, or_false] at hx; rcases hx with rfl | rfl <;> exact ⟨_, rfl⟩
theorem Ins.solid : ESolid (EFlat Ins.cells) := .flat fun a x hx => by simp only [List.mem_cons, List.not_mem_nil, or_false] at hx; rcases hx with rfl | rfl | rfl | rfl | rfl <;> exact ⟨_, rfl⟩
theorem bcell.solid : ESolid (EFlat bcell) := .flat fun a x hx => by simp only [List.mem_cons, List.not_mem_nil, or_false] at hx; subst hx; exact ⟨_, rfl⟩
theorem OCode.solid : ESolid OCode := fun H r a ⟨vl, h1, h2⟩ => by
  subst h1
  obtain ⟨s1, s2⟩ := h2.solid Ins.solid
  refine ⟨fun x hx => ?_, s2⟩
  simp only [List.mem_cons, List.not_mem_nil, or_false] at hx
  rcases hx with rfl | rfl | rfl | rfl | rfl
  · exact .sc _
  · exact .sc _
  · exact .sc _
  · exact .sc _
  · exact s1
theorem OObject.solid : ESolid OObject := fun H r a ⟨H1, H2, H3, x, y, z, h1, h2, h3, h4, h5, h6, h7, h8⟩ => by
  subst h1 h8
  obtain ⟨s1, s2⟩ := h2.solid Need.solid
  obtain ⟨s3, s4⟩ := h3.solid Global.solid
  obtain ⟨s5, s6⟩ := h4.solid OCode.solid
  refine ⟨fun x hx => ?_, (s2.un s4).un s6⟩
  simp only [List.mem_cons, List.not_mem_nil, or_false] at hx
  rcases hx with rfl | rfl | rfl | rfl | rfl
  · exact .sc _
  · exact .sc _
  · exact s1
  · exact s3
  · exact s5
theorem Solid.ofMem {xs : List AV} (h : ∀ x ∈ xs, Solid x) : Solid (.ag xs) := .ag _ fun j hj => by
  have : xs.getD j .un = xs[j] := by simp [List.getD, hj]
  rw [this]; exact h _ (List.getElem_mem _)
theorem Solid.pair {x y : AV} (h : Solid x) (h' : Solid y) : Solid (.tu [x, y]) := .tu _ fun j hj => match j, hj with
  | 0, _ => h
  | 1, _ => h'
theorem bcell.eview : EView 1 (EFlat bcell) bcell := EFlat.view (fun _ => rfl) (fun _ => rfl)
theorem OObject.agv {H : AHeap} {cs : List AV} {x : Object} (h : OObject H cs x) (hle : H.le σ) : View σ (.ag cs) (.ag x.cells) :=
  .ag _ _ (by rw [(OObject.view _ _ _ h).1]; rfl) fun j hj => ((OObject.view _ _ _ h).2.2.2 j (by rwa [(OObject.view _ _ _ h).1] at hj)).mono hle
theorem OObject.len {H : AHeap} {cs : List AV} {x : Object} (h : OObject H cs x) : cs.length = 5 := (OObject.view _ _ _ h).1
theorem OObject.cell1 {H : AHeap} {cs : List AV} {x : Object} (h : OObject H cs x) : cs.all AV.cell1 = true := by
  obtain ⟨_, _, _, x, y, z, e, a1, a2, a3, _⟩ := h
  rw [e]; simp [a1.none_or, a2.none_or, a3.none_or]

theorem readResM_small (t : List UInt8) : (readResM t).1.Small := by
  have h0 : obj0.Small := ⟨by simp [obj0], by simp [obj0], by simp [obj0], by simp [obj0]⟩
  unfold readResM
  split
  · exact h0
  · split
    · split
      · rename_i o _ ho
        have hP : ObjP o := by
          unfold objectM at ho
          exact @of_decide_eq_true _ (_) ho
        refine ⟨by have := hP.needsN; show o.needs.length ≤ _; omega, by have := hP.globalsN; show o.globals.length ≤ _; omega, by have := hP.procsN; show o.procs.length ≤ _; omega, fun c hc => ?_⟩
        have hv := hP.procs c hc
        unfold verifyM at hv
        split at hv
        · rename_i h
          simp only [verify0M, Bool.and_eq_true, decide_eq_true_eq] at h
          omega
        · simp at hv
      · exact h0
    · exact h0

theorem eqObject_b {H : AHeap} {cs : List AV} {x : Object} (hO : OObject H cs x) (hle : H.le σ) (hx : x.Small) (hK : K (Bo true) σ) : ACalls PP G N.laws_eqObject [.ag cs, .ag x.cells] σ K :=
  (laws_eqObject_c x hx).borrow (.cons (hO.agv hle) (.cons (.refl _) .nil)) (.sc _) hK
theorem markObject_small {x : Object} (h : x.Small) (k : Int) : (markObject x k).1.Small := by
  refine ⟨by simpa [markObject, markL_length] using h.needs, by simpa [markObject, markL_length] using h.globals, by simpa [markObject, markL_length] using h.procs, fun c hc => ?_⟩
  obtain ⟨i, hi, rfl⟩ := List.getElem_of_mem hc
  have hi2 : i < x.procs.length := by simpa [markObject, markL_length] using hi
  have := markL_get (m := markCode) (k := (markL markGlobal x.globals (markL markNeed x.needs k).2).2) hi2
  simp only [markObject]
  rw [this]
  simpa [markCode, markL_length] using h.codes _ (List.getElem_mem hi2)
theorem markObject_pos {x : Object} (h : x.Small) {k : Int} (hk : 0 ≤ k) : 0 ≤ (markObject x k).2 := by
  have c1 := markL_bd (m := markNeed) (w := 2) (l := x.needs) (k := k) fun a _ k => markNeed_bd a k
  have c2 := markL_bd (m := markGlobal) (w := 2) (l := x.globals) (k := (markL markNeed x.needs k).2) fun a _ k => markGlobal_bd a k
  have c3 := markL_bd (m := markCode) (w := 5242884) (l := x.procs) (k := (markL markGlobal x.globals (markL markNeed x.needs k).2).2) fun a ha k => markCode_bd (h.codes a ha) k
  simp only [markObject]; omega

theorem laws_FnExactReadObject_c (hT : GTab G) (t : List UInt8) : PureF PP G N.laws_FnExactReadObject [.sl 1 (t.map bcell)] (Bo true) := F.laws_FnExactReadObject_ok (by
  unfold F.laws_FnExactReadObject
  refine JOIN_cut (fun xs τ => t.length ≤ 1048576 ∧ τ = AHeap.emp) (fun kk hkk => ?_) (fun xs τ ⟨hl, hτ⟩ => ?_)
  · refine s_lslm ?_
    refine BIN_gtr_b (fun h => ?_) (fun h => ?_)
    · refine s_ift ?_
      exact Fin.eqv rfl
    · refine s_iff ?_
      exact hkk _ _ ⟨by omega, rfl⟩
  subst hτ
  have hsm := readResM_small t
  generalize hk : (readResM t).2 = code at *
  have hspec := spec_ReadObject_c (G := G) t (by omega)
  have himpl := impl_ReadObject_c hT t (by omega)
  rw [hk] at hspec himpl
  generalize hx : (readResM t).1 = x at *
  clear hk hx
  -- the specification's answer
  refine (laws_toByteS_c t (by omega)).frame fun v8 HA rA _ => ?_
  refine ACalls.give .emp HA hspec (AHeap.emp_le _) (AHeap.le_un_right (.emp_left _)) (.emp_left _) (.cons (rA.view bcell.eview) .nil) fun r τ ⟨hr, hτ⟩ _ => ?_
  subst hr hτ
  refine s_tup rfl ?_
  refine s_tup rfl ?_
  refine s_new fun w _ => ?_
  refine s_sta (AHeap.ins_self _ _ _) rfl rfl rfl ?_
  rw [AHeap.ins_ins]
  have dW : ((AHeap.emp.un AHeap.emp).ins w (ABlk.cells 0 x.cells)) w = some (.cells 0 x.cells) := AHeap.ins_self _ _ _
  generalize (AHeap.emp.un AHeap.emp).ins w (ABlk.cells 0 x.cells) = σ0 at *
  -- the program's answer
  refine (laws_toByteS_c t (by omega)).frame fun v20 HB rB dis1 => ?_
  have dis1 : Dis σ0 HB := dis1
  have nBW : HB w = none := (dis1 w).resolve_left (by rw [dW]; simp)
  have lB : HB.le (σ0.un HB) := AHeap.le_un_right dis1
  have dW := AHeap.le_un_left σ0 HB _ _ dW
  generalize σ0.un HB = σ1 at *
  refine himpl.borrow (.cons ((rB.view bcell.eview).mono lB) .nil) fun r HG ⟨cs, hr, hO⟩ dis2 => ?_
  subst hr
  obtain ⟨so1, so2⟩ := OObject.solid _ _ _ hO
  refine ⟨.pair (.ofMem so1) (.sc _), so2, ?_⟩
  have dis2 : Dis σ1 HG := dis2
  have nGW : HG w = none := (dis2 w).resolve_left (by rw [dW]; simp)
  have dBG : Dis HB HG := fun p => by
    rcases dis2 p with h | h
    · exact .inl (lB.nn h)
    · exact .inr h
  have lG : HG.le (σ1.un HG) := AHeap.le_un_right dis2
  have dW := AHeap.le_un_left σ1 HG _ _ dW
  have lB := lB.trans (AHeap.le_un_left σ1 HG)
  generalize σ1.un HG = σ2 at *
  refine s_tup rfl ?_
  refine s_tup rfl ?_
  refine s_new fun g hg => ?_
  refine s_sta (AHeap.ins_self _ _ _) rfl hO.len hO.cell1 ?_
  rw [AHeap.ins_ins]
  have ngw : w ≠ g := ne_of_none dW hg
  have nBg := lB.nn hg
  have nGg := lG.nn hg
  have dW := ins_other (y := ABlk.cells 0 cs) dW ngw
  have dG := AHeap.ins_self σ2 g (ABlk.cells 0 cs)
  have lB := lB.ins_new (x := ABlk.cells 0 cs) hg
  have lG := lG.ins_new (x := ABlk.cells 0 cs) hg
  generalize σ2.ins g (ABlk.cells 0 cs) = σ3 at *
  -- equal
  refine s_join ?_
  refine s_ldpa dG hO.len ?_
  refine s_ldpa dW rfl ?_
  refine eqObject_b hO lG hsm ?_
  refine s_nott ?_
  refine s_join ?_
  refine s_igff ?_
  refine BIN_neq_b (fun h => absurd rfl h) (fun _ => ?_)
  refine s_pf ?_
  refine s_iff ?_
  -- the argument is as it was
  refine s_join ?_
  refine (laws_toByteS_c t (by omega)).frame fun v53 HC rC dis3 => ?_
  have dis3 : Dis σ3 HC := dis3
  have lC : HC.le (σ3.un HC) := AHeap.le_un_right dis3
  have dBC : Dis HB HC := fun p => (dis3 p).imp lB.nn id
  have dW := AHeap.le_un_left σ3 HC _ _ dW
  have dG := AHeap.le_un_left σ3 HC _ _ dG
  have lB := lB.trans (AHeap.le_un_left σ3 HC)
  have lG := lG.trans (AHeap.le_un_left σ3 HC)
  generalize σ3.un HC = σ4 at *
  refine (laws_eqByteS_c t (by omega)).borrow (.cons ((rB.view bcell.eview).mono lB) (.cons ((rC.view bcell.eview).mono lC) .nil)) (.sc _) ?_
  refine s_nott ?_
  refine s_iff ?_
  -- the argument is marked
  refine laws_markByteS_c rB lB (by omega) (by omega) (by omega) fun HB' σ5 rB' wB => ?_
  have dW := (wB.frm w nBW).trans dW
  have dG := (wB.frm g nBg).trans dG
  have lG : HG.le σ5 := fun p y hy => (wB.frm p ((dBG p).resolve_right (by simp [hy]))).trans (lG _ _ hy)
  have hmk := markL_bd (m := markByte) (w := 1) (l := t) (k := 1) fun a _ k => markByte_bd a k
  refine s_join ?_
  refine BIN_lss_b (fun h => by omega) (fun _ => ?_)
  refine s_join ?_
  refine s_igff ?_
  refine s_ldpa dG hO.len ?_
  refine s_ldpa dW rfl ?_
  refine eqObject_b hO lG hsm ?_
  refine s_nott ?_
  refine s_pf ?_
  refine s_join ?_
  refine s_igff ?_
  refine BIN_neq_b (fun h => absurd rfl h) (fun _ => ?_)
  refine s_pf ?_
  refine s_iff ?_
  -- the answer is marked
  refine s_ldpa dG hO.len ?_
  refine laws_markObject_c hO lG hsm (by omega) (by omega) fun HG' σ6 hO' wG => ?_
  have dW := (wG.frm w nGW).trans dW
  have dG := (wG.frm g nGg).trans dG
  have lG := wG.le
  have hpos := markObject_pos hsm (k := 1) (by omega)
  refine s_ldpa dG hO.len ?_
  refine (laws_heldObject_c (k := 1) hsm (by omega) (by omega)).borrow (.cons (hO'.agv lG) (.cons (.refl _) .nil)) (.sc _) ?_
  refine s_join ?_
  refine BIN_lss_b (fun h => by omega) (fun _ => ?_)
  refine s_iff ?_
  refine s_join ?_
  refine BIN_neq_b (fun h => absurd rfl h) (fun _ => ?_)
  refine s_iff ?_
  -- once more
  refine (laws_toByteS_c t (by omega)).frame fun v104 HD rD dis4 => ?_
  have dis4 : Dis σ6 HD := dis4
  have lD : HD.le (σ6.un HD) := AHeap.le_un_right dis4
  have dW := AHeap.le_un_left σ6 HD _ _ dW
  have dG := AHeap.le_un_left σ6 HD _ _ dG
  have lG := lG.trans (AHeap.le_un_left σ6 HD)
  generalize σ6.un HD = σ7 at *
  refine himpl.borrow (.cons ((rD.view bcell.eview).mono lD) .nil) fun r HH ⟨ds, hr, hP⟩ dis5 => ?_
  subst hr
  obtain ⟨sp1, sp2⟩ := OObject.solid _ _ _ hP
  refine ⟨.pair (.ofMem sp1) (.sc _), sp2, ?_⟩
  have dis5 : Dis σ7 HH := dis5
  have lH : HH.le (σ7.un HH) := AHeap.le_un_right dis5
  have dW := AHeap.le_un_left σ7 HH _ _ dW
  have dG := AHeap.le_un_left σ7 HH _ _ dG
  have lG := lG.trans (AHeap.le_un_left σ7 HH)
  generalize σ7.un HH = σ8 at *
  refine s_tup rfl ?_
  refine s_tup rfl ?_
  refine s_new fun h hh => ?_
  refine s_sta (AHeap.ins_self _ _ _) rfl hP.len hP.cell1 ?_
  rw [AHeap.ins_ins]
  have dW := ins_old (y := ABlk.cells 0 ds) dW hh
  have dG := ins_old (y := ABlk.cells 0 ds) dG hh
  have dH := AHeap.ins_self σ8 h (ABlk.cells 0 ds)
  have lG := lG.ins_new (x := ABlk.cells 0 ds) hh
  have lH := lH.ins_new (x := ABlk.cells 0 ds) hh
  generalize σ8.ins h (ABlk.cells 0 ds) = σ9 at *
  refine s_join ?_
  refine s_ldpa dH hP.len ?_
  refine s_ldpa dW rfl ?_
  refine eqObject_b hP lH hsm ?_
  refine s_nott ?_
  refine s_join ?_
  refine s_igff ?_
  refine BIN_neq_b (fun h => absurd rfl h) (fun _ => ?_)
  refine s_pf ?_
  refine s_iff ?_
  refine s_ldpa dG hO.len ?_
  refine (laws_heldObject_c (k := 1) hsm (by omega) (by omega)).borrow (.cons (hO'.agv lG) (.cons (.refl _) .nil)) (.sc _) ?_
  refine s_join ?_
  refine BIN_lss_b (fun h => by omega) (fun _ => ?_)
  refine s_iff ?_
  refine s_join ?_
  refine BIN_neq_b (fun h => absurd rfl h) (fun _ => ?_)
  refine s_iff ?_
  exact Fin.eqv rfl)

end Go.Al
