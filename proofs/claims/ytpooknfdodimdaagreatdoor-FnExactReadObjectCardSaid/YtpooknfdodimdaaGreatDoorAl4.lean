/- The abstract logic, part 4: the operations. -/
import Derived.Test.YtpooknfdodimdaaGreatDoorAl3
set_option linter.unusedVariables false
set_option linter.unusedSimpArgs false
namespace Go.Al
variable {P : Program} {G S : Seal} {σ : AHeap} {w : World} {K : KAV}

theorem addr_add (b o j : Nat) : (⟨b, o, none⟩ : Addr).add j = ⟨b, o + j, none⟩ := by unfold Addr.add; split <;> simp_all

theorem getD_of {α : Type} {l : List α} {i : Nat} {x d : α} (h : l[i]? = some x) : l.getD i d = x := by simp [List.getD, h]

theorem agetD {α : Type} (vs : Array α) (j : Nat) (d : α) : vs.getD j d = vs.toList.getD j d := by
  by_cases h : j < vs.size <;> simp [Array.getD, List.getD, h]

/-- an operation that answers a value -/
def Runs (P : Program) (s : Sem Value) (S : Seal) (σ : AHeap) (w : World) (K : KAV) : Prop :=
  ∃ x w' S' σ' v, s.run P w = .ok x w' ∧ Step S σ w S' σ' w' ∧ Rel S' v x ∧ K v σ'

theorem Runs.same (hI : Inv S σ w) {s : Sem Value} {x : Value} {v : AV} (hr : s.run P w = .ok x w) (hv : Rel S v x) (hK : K v σ) : Runs P s S σ w K :=
  ⟨x, w, S, σ, v, hr, .refl hI, hv, hK⟩

theorem ldk_one {t : TypeId} (h : ldk P t = .one) : (isAgg t).run P w = .ok false w := by
  unfold ldk at h
  split at h <;> (try simp at h)
  all_goals
    rename_i d i hu hi h1
    cases d <;> simp_all [isAgg, underlying]

theorem ldk_agg {t : TypeId} {n : Nat} (h : ldk P t = .agg n) : (isAgg t).run P w = .ok true w ∧ (sizeOf t).run P w = .ok n w := by
  unfold ldk at h
  split at h
  · rename_i f i hu hi; simp at h; subst h; simp [isAgg, underlying, sizeOf, typeInfo, hu, hi]
  · rename_i f i hu hi; simp at h; subst h; simp [isAgg, underlying, sizeOf, typeInfo, hu, hi]
  · split at h <;> simp at h
  · simp at h

/-- cells that read as abstract ones -/
def CellsAt (S : Seal) (w : World) (b o : Nat) (cs : List AV) : Prop := ∀ i, i < cs.length → ∃ v, w.cell? ⟨b, o + i, none⟩ = some v ∧ Rel S (cs.getD i .un) v

theorem load_cells {t : TypeId} {b o off : Nat} {cs : List AV} (hc : CellsAt S w b o cs) {v : AV} (hv : rdCells (ldk P t) cs off = some v) :
    ∃ x, (loadVar t ⟨b, o + off, none⟩).run P w = .ok x w ∧ Rel S v x := by
  cases hk : ldk P t with
  | bad => simp [hk, rdCells] at hv
  | one =>
    simp [hk, rdCells] at hv
    obtain ⟨hlt, rfl⟩ := List.getElem?_eq_some_iff.1 hv
    obtain ⟨x, hx, hR⟩ := hc off hlt
    refine ⟨x, ?_, by simpa [List.getD, hlt] using hR⟩
    simp [loadVar, ldk_one hk, hx]
  | agg n =>
    simp only [hk, rdCells] at hv
    split at hv
    · rename_i hle
      simp at hv
      subst hv
      have hl := run_loadCells (P := P) w ⟨b, o + off, none⟩ n (fun j => (w.cell? ⟨b, o + (off + j), none⟩).getD undef) (fun j hj => by
        obtain ⟨x, hx, _⟩ := hc (off + j) (by omega)
        rw [addr_add, Nat.add_assoc, hx]; rfl)
      refine ⟨_, by simp [loadVar, ldk_agg hk, hl]; rfl, .ag _ _ (by simp; omega) fun j hj => ?_⟩
      have hj' : j < n := by simp at hj; omega
      obtain ⟨x, hx, hR⟩ := hc (off + j) (by omega)
      have e1 : ((cs.drop off).take n).getD j .un = cs.getD (off + j) .un := by simp [List.getD, List.getElem?_take, hj']
      have e2 : (((List.range n).map fun j => (w.cell? ⟨b, o + (off + j), none⟩).getD undef).toArray).getD j undef = x := by
        simp [Array.getD, hj', hx]
      rw [e1, e2]; exact hR
    · simp at hv

theorem CellsAt.own (hI : Inv S σ w) {b : Nat} {cs : List AV} (h : σ b = some (.cells 0 cs)) : CellsAt S w b 0 cs := by
  obtain ⟨e, n, h1, h2, h3, h4, h5⟩ := hI.own b 0 cs h
  exact h5

theorem LOAD_sound {t : TypeId} {p : AV} {x : Value} (hI : Inv S σ w) (hp : Rel S p x) (h : LOAD (ldk P t) p σ K) : Runs P (Instr.loadAt t x) S σ w K := by
  cases hp <;> simp only [LOAD] at h
  case rp xs off b o val hs hr =>
    unfold OPT at h
    split at h
    · rename_i v hv
      have hc : CellsAt S w b o xs := fun i hi => ⟨val i, hI.cell _ _ _ (hs i hi), hr i hi⟩
      obtain ⟨y, hy, hR⟩ := load_cells (P := P) hc hv
      exact Runs.same hI (by simp [Instr.loadAt, Instr.sureAddr, hy]) hR h
    · exact h.elim
  case pt b off =>
    split at h
    · rename_i cs hb
      unfold OPT at h
      split at h
      · rename_i v hv
        obtain ⟨y, hy, hR⟩ := load_cells (P := P) (CellsAt.own hI hb) hv
        exact Runs.same hI (by simpa [Instr.loadAt, Instr.sureAddr] using hy) hR h
      · exact h.elim
    · exact h.elim

/- the cells of a value -/
theorem cell1_one {v : AV} {x : Value} (hv : v.cell1 = true) (h : Rel S v x) : x.oneCell' = true := by
  cases h <;> simp_all [AV.cell1, Value.oneCell']

theorem cells_of_one {x : Value} (h : x.oneCell' = true) : x.cells = #[x] := by cases x <;> simp_all [Value.cells, Value.oneCell']

theorem cellsN_rel {n : Nat} {v : AV} {x : Value} {cs : List AV} (h : v.cellsN n = some cs) (hR : Rel S v x) : cs.length = n ∧ x.cells.size = n ∧ RelL S cs x.cells.toList ∧ ∀ u ∈ x.cells.toList, u.oneCell' = true := by
  have one : n = 1 ∧ v.cell1 = true ∧ cs = [v] → cs.length = n ∧ x.cells.size = n ∧ RelL S cs x.cells.toList ∧ ∀ u ∈ x.cells.toList, u.oneCell' = true := by
    rintro ⟨rfl, hc, rfl⟩
    have h1 := cell1_one hc hR
    rw [cells_of_one h1]
    refine ⟨rfl, rfl, ⟨rfl, fun j hj => ?_⟩, by simpa using h1⟩
    have : j = 0 := by simpa using hj
    subst this
    simpa using hR
  cases v with
  | ag ds =>
    cases hR with
    | ag _ vs hl hr =>
      simp [AV.cellsN] at h
      obtain ⟨⟨h1, h2⟩, rfl⟩ := h
      refine ⟨h1, by simp [Value.cells, hl, h1], ⟨by simp [Value.cells, hl], fun j hj => ?_⟩, fun u hu => ?_⟩
      · have := hr j hj
        rw [agetD] at this
        exact this
      · simp [Value.cells] at hu
        obtain ⟨j, hj, rfl⟩ := Array.mem_iff_getElem.1 hu
        have h3 := hr j (by omega)
        have h4 := h2 (ds.getD j .un) (by
          have : j < ds.length := by omega
          simp [List.getD, this])
        have := cell1_one h4 h3
        simpa [Array.getD, hj] using this
  | _ => exact one (by simpa [AV.cellsN, and_assoc, eq_comm (a := cs)] using h)

theorem wrCells_getD (cs : List AV) (off : Nat) (vs : List AV) (h : off + vs.length ≤ cs.length) (j : Nat) :
    (wrCells cs off vs).getD j .un = if off ≤ j ∧ j < off + vs.length then vs.getD (j - off) .un else cs.getD j .un := by
  unfold wrCells
  simp only [List.getD, List.append_assoc]
  by_cases h1 : j < off
  · rw [List.getElem?_append_left (by simp; omega), if_neg (by omega), List.getElem?_take, if_pos h1]
  · rw [List.getElem?_append_right (by simp; omega)]
    simp only [List.length_take, Nat.min_eq_left (show off ≤ cs.length by omega)]
    by_cases h2 : j < off + vs.length
    · rw [List.getElem?_append_left (by omega), if_pos (by omega)]
    · rw [List.getElem?_append_right (by omega), if_neg (by omega), List.getElem?_drop]
      congr 2; omega

theorem wrCells_length (cs : List AV) (off : Nat) (vs : List AV) (h : off + vs.length ≤ cs.length) : (wrCells cs off vs).length = cs.length := by
  unfold wrCells; simp; omega

/-- a store into an owned block -/
theorem STORE_sound {t : TypeId} {n : Nat} {p v : AV} {x y : Value} (hI : Inv S σ w) (hp : Rel S p x) (hv : Rel S v y) (hn : szOf P t = some n) (h : STORE n p v σ K) :
    ∃ w' S' σ', (Instr.storeAt t x y).run P w = .ok () w' ∧ Step S σ w S' σ' w' ∧ K .un σ' := by
  cases hp <;> simp only [STORE] at h <;> try exact h.elim
  rename_i b off
  split at h
  · rename_i cs hb
    split at h
    · rename_i vs hvs
      obtain ⟨hle, hK⟩ := h
      obtain ⟨h1, h2, h3, h4⟩ := cellsN_rel hvs hv
      obtain ⟨e, m, g1, g2, g3, g4, g5⟩ := hI.own b 0 cs hb
      have hsz : (sizeOf t).run P w = .ok n w := by
        unfold szOf at hn
        cases hi : P.info? t with
        | none => simp [hi] at hn
        | some i => simp [hi] at hn; simp [sizeOf, typeInfo, hi, hn]
      have hyl : y.cells.toList.length = n := by simpa using h2
      refine ⟨w.setCells b off y.cells.toList, S, _, ?_, Step.write hI hb y.cells.toList g1 (Nat.zero_le _) (by omega) 0 (wrCells cs off vs) (by rw [wrCells_length _ _ _ (by omega)]; exact g2) (.inl ⟨rfl, trivial⟩) S (.inl ⟨rfl, rfl⟩) ?_, hK⟩
      · have hst := run_storeCells_cells (P := P) b off y.cells.toList 0 w (fun j hj => by
          obtain ⟨u, hu, _⟩ := g5 (off + j) (by omega)
          simp at hu; simp [hu]) (fun j hj => g4 _ (Nat.zero_le _)) h4
        simp [Instr.storeAt, Instr.sureAddr, storeVar, hsz, h2, hst]
      · intro i hi
        rw [wrCells_length _ _ _ (by omega)] at hi
        rw [wrCells_getD _ _ _ (by omega)]
        by_cases hin : off ≤ i ∧ i < off + vs.length
        · rw [if_pos hin]
          have := World.cell?_setCells_in b y.cells.toList off w (fun j hj => by
            obtain ⟨u, hu, _⟩ := g5 (off + j) (by omega)
            simp at hu; simp [hu]) (i - off) (by omega)
          rw [show off + (i - off) = 0 + i by omega] at this
          refine ⟨_, this, ?_⟩
          have := h3.2 (i - off) (by omega)
          simpa [List.getD, List.getElem?_eq_getElem (show i - off < y.cells.toList.length by omega)] using this
        · rw [if_neg hin]
          obtain ⟨u, hu, hR⟩ := g5 i hi
          refine ⟨u, ?_, hR⟩
          rw [World.cell?_setCells_out]
          · exact hu
          · intro _ _; simp; omega
    · exact h.elim
  · exact h.elim

/-- a new block -/
theorem NEW_sound {e : TypeId} {vs : Array Value} {cs : List AV} (hI : Inv S σ w) (hR : RelL S cs vs.toList) (h : NEW cs σ K) :
    ∃ S' σ', Step S σ w S' σ' (w.alloc (.cells vs e)) ∧ K (.pt w.heap.size 0) σ' := by
  refine ⟨_, _, Step.new hI e vs 0 cs (by have := hR.1; simp at this; omega) (fun i hi => ?_), h _ hI.fresh⟩
  have := (hR.2 i hi).mono (Seal.le_add hI e vs 0)
  rw [agetD, Nat.zero_add]; exact this

theorem avOf1_rel (v : Value) : Rel S (avOf1 v) v := by
  unfold avOf1
  split
  · exact .nl _
  · rename_i f a c
    split
    · rename_i h
      simp at h
      obtain ⟨h1, h2⟩ := h
      have h1' : a = #[] := by simpa using h1
      have h2' : c = #[] := by simpa using h2
      subst h1' h2'
      exact .fn f [] [] #[] #[] rfl rfl (fun _ h => by simp at h) (fun _ h => by simp at h)
    · exact .sc _
  · exact .sc _

theorem relL_map (vs : List Value) : RelL S (vs.map avOf1) vs :=
  ⟨by simp, fun j hj => by
    simp at hj
    simp [List.getD, hj, avOf1_rel]⟩

theorem avOf_rel (v : Value) : Rel S (avOf v) v := by
  unfold avOf
  split
  · rename_i cs
    refine .ag _ _ (by simp) fun j hj => ?_
    simp at hj
    simp [List.getD, Array.getD, hj, avOf1_rel]
  · rename_i cs
    refine .tu _ _ (by simp) fun j hj => ?_
    simp at hj
    simp [List.getD, Array.getD, hj, avOf1_rel]
  · exact avOf1_rel _

theorem zcells_rel {t : TypeId} {z : List AV} (h : zcells P t = some z) : ∃ i v, P.info? t = some i ∧ i.zero = some v ∧ z.length = i.size ∧ v.cells.size = i.size ∧ (∀ S, RelL S z v.cells.toList) ∧ ∀ u ∈ v.cells.toList, u.oneCell' = true := by
  unfold zcells at h
  cases hi : P.info? t with
  | none => simp [hi] at h
  | some i =>
    simp only [hi] at h
    cases hz : i.zero with
    | none => simp [hz] at h
    | some v =>
      simp only [hz] at h
      have := fun S => cellsN_rel (S := S) h (avOf_rel v)
      exact ⟨i, v, rfl, hz, (this ⟨fun _ _ => none, fun _ => none⟩).1, (this ⟨fun _ _ => none, fun _ => none⟩).2.1, fun S => (this S).2.2.1, (this ⟨fun _ _ => none, fun _ => none⟩).2.2.2⟩

theorem alloc_sound {t : TypeId} {z : List AV} (hI : Inv S σ w) (hz : zcells P t = some z) (h : NEW z σ K) : Runs P (Instr.alloc t true (.tuple #[])) S σ w K := by
  obtain ⟨i, v, hi, hv, h1, h2, h3, h4⟩ := zcells_rel hz
  obtain ⟨S', σ', hst, hK⟩ := NEW_sound (e := t) hI (h3 S) h
  exact ⟨_, _, S', σ', _, by simp [Instr.alloc, zeroValue, typeInfo, hi, hv, newVar, newRow], hst, .pt _ _, hK⟩

theorem box_sound {t : TypeId} {n : Nat} {v : AV} {x : Value} (hI : Inv S σ w) (hv : Rel S v x) (h : BOX n v σ K) : Runs P (Instr.box t x) S σ w K := by
  unfold BOX at h
  split at h
  · rename_i cs hcs
    obtain ⟨h1, h2, h3, h4⟩ := cellsN_rel hcs hv
    obtain ⟨S', σ', hst, hK⟩ := NEW_sound (e := t) hI h3 h
    exact ⟨_, _, S', σ', _, by simp [Instr.box, newVar, newRow], hst, .pt _ _, hK⟩
  · exact h.elim

end Go.Al
