/- The abstract logic, part 6: literals, append, make, conversions, calls. -/
import Derived.Test.YtpooknfdodimdaaGreatDoorAl5
set_option linter.unusedVariables false
set_option linter.unusedSimpArgs false
namespace Go.Al
variable {P : Program} {G S : Seal} {σ : AHeap} {w : World} {K : KAV}

theorem wr_getD {α : Type} (cs : List α) (off : Nat) (vs : List α) (d : α) (h : off + vs.length ≤ cs.length) (j : Nat) :
    (cs.take off ++ vs ++ cs.drop (off + vs.length)).getD j d = if off ≤ j ∧ j < off + vs.length then vs.getD (j - off) d else cs.getD j d := by
  simp only [List.getD, List.append_assoc]
  by_cases h1 : j < off
  · rw [List.getElem?_append_left (by simp; omega), if_neg (by omega), List.getElem?_take, if_pos h1]
  · rw [List.getElem?_append_right (by simp; omega)]
    simp only [List.length_take, Nat.min_eq_left (show off ≤ cs.length by omega)]
    by_cases h2 : j < off + vs.length
    · rw [List.getElem?_append_left (by omega), if_pos (by omega)]
    · rw [List.getElem?_append_right (by omega), if_neg (by omega), List.getElem?_drop]
      congr 2; omega

theorem RelL.wr {z vs : List AV} {l xs : List Value} {off : Nat} (h : RelL S z l) (h' : RelL S vs xs) (hle : off + vs.length ≤ z.length) :
    RelL S (wrCells z off vs) (l.take off ++ xs ++ l.drop (off + xs.length)) := by
  refine ⟨?_, fun j hj => ?_⟩
  · rw [wrCells_length _ _ _ hle, ← h.1]
    have := h.1; have := h'.1
    simp; omega
  · rw [wrCells_length _ _ _ hle] at hj
    have h1 := h.1; have h2 := h'.1
    rw [wrCells_getD _ _ _ hle, wr_getD _ _ _ _ (by omega), h2]
    split
    · rename_i hin
      exact h'.2 _ (by omega)
    · exact h.2 _ hj

theorem foldl_get (off : Nat) : ∀ (vs : List Value) (k : Nat) (cells : Array Value) (j : Nat),
    ((vs.zipIdx k).foldl (fun (cs : Array Value) (p : Value × Nat) => cs.setIfInBounds (off + p.2) p.1) cells)[j]? = if off + k ≤ j ∧ j < off + k + vs.length ∧ j < cells.size then vs[j - (off + k)]? else cells[j]?
  | [], k, cells, j => by simp; intro h1 h2; omega
  | v :: r, k, cells, j => by
    simp only [List.zipIdx_cons, List.foldl_cons]
    rw [foldl_get off r (k + 1) _ j]
    simp only [Array.size_setIfInBounds, List.length_cons, Array.getElem?_setIfInBounds]
    by_cases h1 : off + k = j
    · subst h1
      rw [if_neg (by omega)]
      by_cases h2 : off + k < cells.size
      · simp [h2]
      · simp [h2]
    · by_cases h2 : off + (k + 1) ≤ j ∧ j < off + (k + 1) + r.length ∧ j < cells.size
      · rw [if_pos h2, if_pos (by omega), show j - (off + k) = (j - (off + (k + 1))) + 1 by omega]
        simp
      · rw [if_neg h2, if_neg h1, if_neg (by omega)]

theorem foldl_set (off : Nat) (vs : List Value) (cells : Array Value) (h : off + vs.length ≤ cells.size) :
    ((vs.zipIdx 0).foldl (fun (cs : Array Value) (p : Value × Nat) => cs.setIfInBounds (off + p.2) p.1) cells).toList = cells.toList.take off ++ vs ++ cells.toList.drop (off + vs.length) := by
  apply List.ext_getElem?
  intro j
  rw [Array.getElem?_toList, foldl_get]
  simp only [List.append_assoc, Nat.add_zero]
  have hl : cells.toList.length = cells.size := by simp
  by_cases h1 : j < off
  · rw [if_neg (by omega), List.getElem?_append_left (by simp; omega)]; simp [List.getElem?_take, h1]
  · rw [List.getElem?_append_right (by simp; omega)]
    simp only [List.length_take, hl, Nat.min_eq_left (show off ≤ cells.size by omega)]
    by_cases h2 : j < off + vs.length
    · rw [if_pos (by omega), List.getElem?_append_left (by omega)]
    · rw [if_neg (by omega), List.getElem?_append_right (by omega), List.getElem?_drop, Array.getElem?_toList]
      congr 1; omega

theorem fill_rel (place : Nat → Option (Nat × Nat)) : ∀ (ps : List (Nat × Nat × AV)) (qs : List (Nat × Value)) (z cs : List AV) (zs : Array Value), ps.length = qs.length →
    (∀ (i : Nat) (p : Nat × Nat × AV) (q : Nat × Value), ps[i]? = some p → qs[i]? = some q → place q.1 = some (p.1, p.2.1) ∧ Rel S p.2.2 q.2) → RelL S z zs.toList → (∀ u ∈ zs.toList, u.oneCell' = true) → fillA z ps = some cs →
    ∃ rs : Array Value, Instr.fill place zs qs = some rs ∧ RelL S cs rs.toList ∧ ∀ u ∈ rs.toList, u.oneCell' = true
  | [], [], z, cs, zs, _, _, hz, h1, hf => by simp [fillA] at hf; subst hf; exact ⟨zs, rfl, hz, h1⟩
  | [], _ :: _, _, _, _, hl, _, _, _, _ => by simp at hl
  | _ :: _, [], _, _, _, hl, _, _, _, _ => by simp at hl
  | (off, n, v) :: ps, (i, x) :: qs, z, cs, zs, hl, hp, hz, h1, hf => by
    obtain ⟨hpl, hR⟩ := hp 0 (off, n, v) (i, x) rfl rfl
    have hpl : place i = some (off, n) := hpl
    have hR : Rel S v x := hR
    simp only [fillA] at hf
    split at hf <;> try simp at hf
    rename_i vs hvs
    obtain ⟨hle, hf⟩ := hf
    obtain ⟨e1, e2, e3, e4⟩ := cellsN_rel hvs hR
    have hzl : zs.size = z.length := by simpa using hz.1
    have hfs := foldl_set off x.cells.toList zs (by simp; omega)
    simp only [Instr.fill, hpl]
    have hcond : ¬ ((decide (x.cells.size ≠ n) || decide (off + x.cells.size > zs.size)) = true) := by simp; omega
    rw [if_neg hcond]
    have hrel : RelL S (wrCells z off vs) ((zs.toList.take off ++ x.cells.toList ++ zs.toList.drop (off + x.cells.toList.length))) := RelL.wr hz e3 (by omega)
    have hfold : (x.cells.zipIdx.foldl (fun (cs : Array Value) (p : Value × Nat) => cs.setIfInBounds (off + p.2) p.1) zs).toList = zs.toList.take off ++ x.cells.toList ++ zs.toList.drop (off + x.cells.toList.length) := by
      rw [← Array.foldl_toList, Array.toList_zipIdx]
      simpa using hfs
    refine fill_rel place ps qs (wrCells z off vs) cs _ (by simpa using hl) (fun j p q hj hq => hp (j + 1) p q (by simpa using hj) (by simpa using hq)) ?_ ?_ hf
    · exact hfold ▸ hrel
    · intro u hu
      have hu' : u ∈ zs.toList.take off ++ x.cells.toList ++ zs.toList.drop (off + x.cells.toList.length) := hfold ▸ hu
      simp only [List.mem_append] at hu'
      rcases hu' with (hu' | hu') | hu'
      · exact h1 _ (List.mem_of_mem_take hu')
      · exact e4 _ hu'
      · exact h1 _ (List.mem_of_mem_drop hu')

theorem placeParts_spec (pl : List (Nat × Nat)) : ∀ (l : List (Nat × AV)) (ps : List (Nat × Nat × AV)), placeParts pl l = some ps → ps.length = l.length ∧ ∀ (i : Nat) (p : Nat × Nat × AV) (q : Nat × AV), ps[i]? = some p → l[i]? = some q → pl[q.1]? = some (p.1, p.2.1) ∧ p.2.2 = q.2
  | [], ps, h => by simp [placeParts] at h; subst h; simp
  | a :: r, ps, h => by
    simp only [placeParts] at h
    split at h <;> simp at h
    rename_i q r' hq hr
    subst h
    obtain ⟨h1, h2⟩ := placeParts_spec pl r r' hr
    refine ⟨by simp [h1], fun i p b hp hb => ?_⟩
    cases i with
    | zero => simp at hp hb; subst hp hb; exact ⟨hq, rfl⟩
    | succ i => exact h2 i p b (by simpa using hp) (by simpa using hb)

/-- operands and their values -/
def PartsRel (S : Seal) (l : List (Nat × AV)) (ps : Array (Nat × Value)) : Prop := ps.size = l.length ∧ ∀ (i : Nat) (p : Nat × AV) (q : Nat × Value), l[i]? = some p → ps[i]? = some q → p.1 = q.1 ∧ Rel S p.2 q.2

theorem BUILD_sound {t : TypeId} {z : List AV} {l : List (Nat × AV)} {ps : List (Nat × Nat × AV)} {parts : Array (Nat × Value)} (hI : Inv S σ w) (hz : zcells P t = some z) (hp : partsOf P t l = some ps)
    (hR : PartsRel S l parts) (h : BUILD z ps σ K) : Runs P (Instr.build t parts) S σ w K := by
  obtain ⟨i, v, hi, hv, h1, h2, h3, h4⟩ := zcells_rel hz
  obtain ⟨cs, hcs, hK⟩ := OPT_elim h
  unfold partsOf at hp
  split at hp <;> try simp at hp
  rename_i pl hpl
  obtain ⟨g1, g2⟩ := placeParts_spec pl l ps hp
  unfold placesOf at hpl
  split at hpl <;> try simp at hpl
  rename_i fs hu
  obtain ⟨rs, hf, hrel, hone⟩ := fill_rel (S := S) (pl.toArray[·]?) ps parts.toList z cs v.cells (by rw [g1]; simpa using hR.1.symm) (fun j p q hp' hq' => by
    have hlt : j < l.length := by rw [← g1]; exact (List.getElem?_eq_some_iff.1 hp').1
    obtain ⟨a1, a2⟩ := g2 j p l[j] hp' (List.getElem?_eq_getElem hlt)
    obtain ⟨b1, b2⟩ := hR.2 j l[j] q (List.getElem?_eq_getElem hlt) (by simpa using hq')
    refine ⟨by rw [← b1]; simpa using a1, ?_⟩
    rw [a2]; exact b2) (h3 S) h4 hcs
  have hb : P.built t parts.toList = some rs := by
    unfold Program.built
    simp only [hi, hu, hv, hpl]
    exact hf
  refine Runs.same hI (run_build w t parts rs hb) (.ag cs rs (by simpa using hrel.1) (fun j hj => by rw [agetD]; exact hrel.2 j hj)) hK

theorem flatten_getD {n : Nat} : ∀ (xs : List (List AV)), (∀ x ∈ xs, x.length = n) → xs.flatten.length = xs.length * n ∧ ∀ i j, i < xs.length → j < n → xs.flatten.getD (i * n + j) .un = (xs.getD i []).getD j .un
  | [], _ => by simp
  | x :: r, h => by
    obtain ⟨h1, h2⟩ := flatten_getD r (fun y hy => h y (by simp [hy]))
    have hx := h x (by simp)
    refine ⟨by simp [h1, hx, Nat.add_mul, Nat.add_comm], fun i j hi hj => ?_⟩
    cases i with
    | zero => simp [List.getD, List.getElem?_append_left (show j < x.length by omega)]
    | succ i =>
      have := h2 i j (by simpa using hi) hj
      simp only [List.flatten_cons, List.getD] at this ⊢
      rw [List.getElem?_append_right (by rw [hx, Nat.add_mul]; omega), hx, show (i + 1) * n + j - n = i * n + j by rw [Nat.add_mul]; omega, this]
      simp

theorem add_mul_lt {i j n k : Nat} (hi : i < k) (hj : j < n) : i * n + j < k * n := by
  have : (i + 1) * n ≤ k * n := Nat.mul_le_mul_right n hi
  rw [Nat.add_mul] at this; omega

/-- A NEW ROW OF ELEMENTS: the block's first cells hold them. -/
theorem ROW_sound {own : Bool} {n cap : Nat} {e : TypeId} {xs : List (List AV)} {c : Array Value} (hI : Inv S σ w) (hn : ∀ x ∈ xs, x.length = n) (hc : cap * n ≤ c.size) (hl : xs.length ≤ cap) (h0 : xs = [] → cap = 0) (h1 : ∀ x ∈ xs, x.all AV.cell1 = true)
    (hr : ∀ j, j < xs.length * n → Rel S (xs.flatten.getD j .un) (c.getD j undef)) (h : ROW own n xs σ K) :
    ∃ S' σ' v, Step S σ w S' σ' (w.alloc (.cells c e)) ∧ Rel S' v (.slice (some ⟨w.heap.size, 0, none⟩) xs.length cap) ∧ K v σ' := by
  obtain ⟨hfl, hfg⟩ := flatten_getD xs hn
  have hsz : xs.length * n ≤ c.size := Nat.le_trans (Nat.mul_le_mul_right n hl) hc
  cases own with
  | true =>
    simp only [ROW] at h
    have hst := Step.new hI e c 0 xs.flatten (by omega) (fun i hi => by rw [Nat.zero_add]; exact (hr i (by omega)).mono (Seal.le_add hI e c 0))
    exact ⟨_, _, _, hst, .ar _ n 0 _ cap _ e c.size (by simp [Seal.add]) hl (by omega) (fun _ => rfl), h _ hI.fresh⟩
  | false =>
    cases xs with
    | nil =>
      have := h0 rfl
      subst this
      exact ⟨_, _, _, Step.new' hI e c, .nl _, h⟩
    | cons x r =>
      simp only [ROW] at h
      have hst := Step.new hI e c ((x :: r).length * n) [] (by simpa using hsz) (fun i hi => by simp at hi)
      have hle := hst.le
      refine ⟨_, _, _, hst, .gl _ n (x :: r) cap e c.size (fun i j => c.getD (i * n + j) undef) (by simp) hl hn h1 (by simp [Seal.add]) (by omega) (fun i j hi hj => ?_) (fun i j hi hj => ?_), h _ hI.fresh⟩
      · have hlt := add_mul_lt (n := n) hi hj
        have h2 : i * n + j < c.size := Nat.lt_of_lt_of_le hlt hsz
        simp [Seal.add, Array.getD, h2]
        simpa using hlt
      · have hlt := add_mul_lt (n := n) hi hj
        have := hr _ hlt
        rw [hfg i j hi hj] at this
        exact this.mono hle

theorem mapM_cells {n : Nat} : ∀ (vs : List AV) (xs : List (List AV)), vs.mapM (AV.cellsN n) = some xs → xs.length = vs.length ∧ ∀ (i : Nat) (v : AV), vs[i]? = some v → ∃ x, xs[i]? = some x ∧ v.cellsN n = some x
  | [], xs, h => by simp at h; subst h; simp
  | v :: r, xs, h => by
    simp only [List.mapM_cons] at h
    cases hv : v.cellsN n with
    | none => simp [hv] at h
    | some x =>
      cases hr : r.mapM (AV.cellsN n) with
      | none => simp [hv, hr] at h
      | some ys =>
        simp [hv, hr] at h
        subst h
        obtain ⟨h1, h2⟩ := mapM_cells r ys hr
        refine ⟨by simp [h1], fun i u hu => ?_⟩
        cases i with
        | zero => simp at hu; subst hu; exact ⟨x, rfl, hv⟩
        | succ i => exact h2 i u (by simpa using hu)

end Go.Al
