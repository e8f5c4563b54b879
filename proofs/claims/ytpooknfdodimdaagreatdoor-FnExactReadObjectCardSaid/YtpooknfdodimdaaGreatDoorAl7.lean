/- The abstract logic, part 7: slice literals, append, make, conversions. -/
import Derived.Test.YtpooknfdodimdaaGreatDoorAl6
import Derived.Room.Entries
set_option linter.unusedVariables false
set_option linter.unusedSimpArgs false
namespace Go.Al
variable {P : Program} {G S : Seal} {σ : AHeap} {w : World} {K : KAV}

def partsFrom (n : Nat) : Nat → List AV → List (Nat × Nat × AV)
  | _, [] => []
  | k, v :: r => (k * n, n, v) :: partsFrom n (k + 1) r

theorem partsFrom_length (n : Nat) : ∀ (vs : List AV) (k : Nat), (partsFrom n k vs).length = vs.length
  | [], _ => rfl
  | v :: r, k => by simp [partsFrom, partsFrom_length n r]

theorem partsFrom_get (n : Nat) : ∀ (vs : List AV) (k i : Nat), (partsFrom n k vs)[i]? = (vs[i]?).map fun v => ((k + i) * n, n, v)
  | [], _, _ => by simp [partsFrom]
  | v :: r, k, 0 => by simp [partsFrom]
  | v :: r, k, i + 1 => by simp [partsFrom, partsFrom_get n r, show k + 1 + i = k + (i + 1) by omega]

theorem cellsN_len {n : Nat} {v : AV} {cs : List AV} (h : v.cellsN n = some cs) : cs.length = n := by
  cases v <;> simp [AV.cellsN] at h <;> (try (obtain ⟨⟨h1, _⟩, rfl⟩ := h; simp [h1])) <;> (try (obtain ⟨⟨h1, _⟩, rfl⟩ := h; exact h1))

theorem cellsN_cell1 {n : Nat} {v : AV} {cs : List AV} (h : v.cellsN n = some cs) : cs.all AV.cell1 = true := by
  cases v <;> simp [AV.cellsN] at h <;> (obtain ⟨⟨_, h1⟩, rfl⟩ := h) <;> (try simpa using h1)

theorem fillA_all (n : Nat) : ∀ (vs : List AV) (xs : List (List AV)) (pre : List AV) (k : Nat), vs.mapM (AV.cellsN n) = some xs → pre.length = k * n →
    fillA (pre ++ List.replicate (vs.length * n) .un) (partsFrom n k vs) = some (pre ++ xs.flatten)
  | [], xs, pre, k, h, hp => by simp at h; subst h; simp [partsFrom, fillA]
  | v :: r, xs, pre, k, h, hp => by
    simp only [List.mapM_cons] at h
    cases hv : v.cellsN n with
    | none => simp [hv] at h
    | some x =>
      cases hr : r.mapM (AV.cellsN n) with
      | none => simp [hv, hr] at h
      | some ys =>
        simp [hv, hr] at h
        subst h
        have hx := cellsN_len hv
        have e : wrCells (pre ++ List.replicate ((v :: r).length * n) .un) (k * n) x = (pre ++ x) ++ List.replicate (r.length * n) .un := by
          unfold wrCells
          have e1 : (v :: r).length * n = n + r.length * n := by simp [Nat.add_mul, Nat.add_comm]
          rw [e1, ← hp, ← List.replicate_append_replicate, hx]
          simp [List.drop_append, hp]
        simp only [partsFrom, fillA, hv]
        rw [if_pos (by simp [hp, Nat.add_mul]), e, fillA_all n r ys (pre ++ x) (k + 1) hr (by simp [hp, hx, Nat.add_mul])]
        simp

theorem un_all {S : Seal} (vs : List Value) : RelL S (List.replicate vs.length .un) vs := ⟨by simp, fun j hj => by simp at hj; simp [List.getD, hj]; exact .un _⟩

theorem LIT_sound {t e : TypeId} {own : Bool} {len : Nat} {z : List AV} {vs : List AV} {parts : Array (Nat × Value)} (hI : Inv S σ w) (hu : P.underlying t = some (.slice e)) (hz : zcells P e = some z)
    (hs : len * z.length ≤ 1000000) (hz0 : z.length ≠ 0) (hfst : parts.toList.map Prod.fst = List.range len) (hvs : vs.length = len)
    (hR : ∀ (i : Nat) (p : AV) (q : Nat × Value), vs[i]? = some p → parts[i]? = some q → Rel S p q.2) (h : LIT own z.length vs σ K) : Runs P (Instr.buildSlice t len parts) S σ w K := by
  obtain ⟨ie, v, hi, hv, h1, h2, h3, h4⟩ := zcells_rel hz
  obtain ⟨xs, hxs, hK⟩ := OPT_elim h
  have hpl : parts.toList.length = len := by rw [← List.length_map (f := Prod.fst), hfst, List.length_range]
  have hone : v.cells.size ≠ 0 := by omega
  let zs : Array Value := (Array.range (len * ie.size)).map (v.cells[· % v.cells.size]!)
  have hzs : zs.toList.length = len * z.length := by simp [zs, h1]
  have hzone : ∀ u ∈ zs.toList, u.oneCell' = true := by
    intro u hu'
    simp [zs] at hu'
    obtain ⟨j, hj, rfl⟩ := hu'
    refine h4 _ ?_
    have : j % v.cells.size < v.cells.size := Nat.mod_lt _ (by omega)
    simp [getElem!_pos, this]
  obtain ⟨rs, hf, hrel, hrs⟩ := fill_rel (S := S) (fun i => some (i * ie.size, ie.size)) (partsFrom z.length 0 vs) parts.toList (List.replicate zs.toList.length .un) xs.flatten zs (by rw [partsFrom_length, hvs, hpl]) (fun i p q hp hq => by
    rw [partsFrom_get] at hp
    simp at hp
    obtain ⟨a, ha, rfl⟩ := hp
    have hq1 : q.1 = i := by
      have := congrArg (fun l => l[i]?) hfst
      simp only [List.getElem?_map, hq] at this
      simp at this
      have hlt := (List.getElem?_eq_some_iff.1 hq).1
      have := this.symm
      rw [List.getElem?_range (by omega)] at this
      simpa using this.symm
    exact ⟨by simp [hq1, h1], hR i a q ha (by simpa using hq)⟩) (un_all _) hzone (by
      have := fillA_all z.length vs xs [] 0 hxs (by simp)
      rw [hzs, ← hvs]
      simpa using this)
  obtain ⟨hxl, hxg⟩ := mapM_cells vs xs hxs
  have hxn : ∀ x ∈ xs, x.length = z.length := by
    intro x hx
    obtain ⟨i, hi', rfl⟩ := List.mem_iff_getElem.1 hx
    obtain ⟨y, hy, hc⟩ := hxg i vs[i] (List.getElem?_eq_getElem (by omega))
    rw [List.getElem?_eq_getElem hi'] at hy
    simp at hy
    subst hy
    exact cellsN_len hc
  have hx1 : ∀ x ∈ xs, x.all AV.cell1 = true := by
    intro x hx
    obtain ⟨i, hi', rfl⟩ := List.mem_iff_getElem.1 hx
    obtain ⟨y, hy, hc⟩ := hxg i vs[i] (List.getElem?_eq_getElem (by omega))
    rw [List.getElem?_eq_getElem hi'] at hy
    simp at hy
    subst hy
    exact cellsN_cell1 hc
  obtain ⟨hfl, hfg⟩ := flatten_getD xs hxn
  have hrun : (Instr.buildSlice t len parts).run P w = .ok (.slice (some ⟨w.heap.size, 0, none⟩) len len) (w.alloc (.cells rs e)) := by
    by_cases h0 : len * ie.size = 0
    · have hzs0 : zs = #[] := by simp [zs, h0]
      have hf' : Instr.fill (fun i => some (i * ie.size, ie.size)) (Array.map (fun x => default) (Array.range 0)) parts.toList = some rs := by rw [← hf, hzs0, show (Array.map (fun (x : Nat) => (default : Value)) (Array.range 0)) = #[] from by simp]
      simp [Instr.buildSlice, underlying, hu, sizeOf, typeInfo, zeroValue, hi, h0, newRow]
      rw [hf']
      simp
    · have hsm : ¬ len * ie.size > 2 ^ 24 := by rw [h1] at hs; omega
      simp [Instr.buildSlice, underlying, hu, sizeOf, typeInfo, zeroValue, hi, hv, hsm, h0, newRow]
      rw [show (Instr.fill (fun i => some (i * ie.size, ie.size)) ((Array.range (len * ie.size)).map (v.cells[· % v.cells.size]!)) parts.toList) = some rs from hf]
      simp
  obtain ⟨S', σ', a, hst, hRa, hKa⟩ := ROW_sound (cap := len) (e := e) (c := rs) hI hxn (by have := hrel.1; rw [hfl, hxl, hvs] at this; simp at this; omega) (by omega) (fun hx => by subst hx; simp at hxl; omega) hx1 (fun j hj => by
    rw [agetD]; exact hrel.2 j (by omega)) hK
  exact ⟨_, _, S', σ', a, hrun, hst, by rwa [hxl, hvs] at hRa, hKa⟩

end Go.Al
