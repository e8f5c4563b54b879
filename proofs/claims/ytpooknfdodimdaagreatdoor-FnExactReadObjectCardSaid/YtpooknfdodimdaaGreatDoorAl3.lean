/- The abstract logic, part 3: steps of the world. -/
import Derived.Test.YtpooknfdodimdaaGreatDoorAl2
import Derived.Laws.NewBlocks
import Derived.Stop.Walk2
set_option linter.unusedVariables false
set_option linter.unusedSimpArgs false
namespace Go.Al

theorem lt_of_cell? {w : World} {a : Addr} {v : Value} (h : w.cell? a = some v) : a.block < w.heap.size := by
  unfold World.cell? at h
  cases hb : w.heap[a.block]? with
  | none => simp [hb] at h
  | some o => exact (Array.getElem?_eq_some_iff.1 hb).1

theorem lt_of_shape? {w : World} {b : Nat} {s} (h : w.shape? b = some s) : b < w.heap.size := by
  unfold World.shape? at h
  cases hb : w.heap[b]? with
  | none => simp [hb] at h
  | some o => exact (Array.getElem?_eq_some_iff.1 hb).1

theorem Inv.lt_own {S : Seal} {σ : AHeap} {w : World} (hI : Inv S σ w) {b : Nat} {x : ABlk} (h : σ b = some x) : b < w.heap.size := by
  cases x with
  | cells lo cs => obtain ⟨e, n, hs, _⟩ := hI.own b lo cs h; exact lt_of_shape? (hI.shape _ _ hs)
  | map es => obtain ⟨ents, clock, hb, _⟩ := hI.map b es h; exact (Array.getElem?_eq_some_iff.1 hb).1

theorem Inv.fresh {S : Seal} {σ : AHeap} {w : World} (hI : Inv S σ w) : σ w.heap.size = none := by
  cases h : σ w.heap.size with
  | none => rfl
  | some x => exact absurd (hI.lt_own h) (Nat.lt_irrefl _)

theorem Inv.fresh_cell {S : Seal} {σ : AHeap} {w : World} (hI : Inv S σ w) (j : Nat) : S.cell w.heap.size j = none := by
  cases h : S.cell w.heap.size j with
  | none => rfl
  | some v => exact absurd (lt_of_cell? (hI.cell _ _ _ h)) (Nat.lt_irrefl _)

theorem Inv.fresh_shape {S : Seal} {σ : AHeap} {w : World} (hI : Inv S σ w) : S.shape w.heap.size = none := by
  cases h : S.shape w.heap.size with
  | none => rfl
  | some v => exact absurd (lt_of_shape? (hI.shape _ _ h)) (Nat.lt_irrefl _)

/-- the block's used cells -/
theorem Inv.heap_congr {S : Seal} {σ : AHeap} {w w' : World} (hI : Inv S σ w) (h : w'.heap = w.heap) : Inv S σ w' := by
  have hc : ∀ a, w'.cell? a = w.cell? a := fun a => by unfold World.cell?; rw [h]
  have hs : ∀ b, w'.shape? b = w.shape? b := fun a => by unfold World.shape?; rw [h]
  have hf : ∀ a, w'.frozen? a = w.frozen? a := fun a => by unfold World.frozen?; rw [h]
  exact ⟨fun b o v x => by rw [hc]; exact hI.cell _ _ _ x, fun b s x => by rw [hs]; exact hI.shape _ _ x,
    fun b lo cs x => by obtain ⟨e, n, h1, h2, h3, h4, h5⟩ := hI.own b lo cs x; exact ⟨e, n, h1, h2, h3, fun j hj => by rw [hf]; exact h4 j hj, fun i hi => by rw [hc]; exact h5 i hi⟩,
    fun b es x => by rw [h]; exact hI.map b es x⟩

theorem Step.heap_congr {S : Seal} {σ : AHeap} {w w' : World} (hI : Inv S σ w) (h : w'.heap = w.heap) (ho : w'.os = w.os ∧ w'.output = w.output) : Step S σ w S σ w' :=
  ⟨.refl S, hI.heap_congr h, fun b _ _ => by rw [h], fun b hb => .inl hb, by rw [h]; exact Nat.le_refl _, fun _ _ _ h => .inl h, ho⟩

/-- fewer owned blocks -/
theorem Step.drop {S : Seal} {σ σ' : AHeap} {w : World} (hI : Inv S σ w) (h : ∀ b x, σ' b = some x → σ b = some x) : Step S σ w S σ' w :=
  ⟨.refl S, ⟨hI.cell, hI.shape, fun b lo cs x => hI.own b lo cs (h _ _ x), fun b es x => hI.map b es (h _ _ x)⟩, fun _ _ _ => rfl,
    fun b hb => .inl (by cases hx : σ' b with | none => exact absurd hx hb | some x => rw [h _ _ hx]; simp), Nat.le_refl _, fun _ _ _ h => .inl h, rfl, rfl⟩

/-- the seal with a new block, whose first cells nobody writes any more -/
def Seal.add (S : Seal) (b : Nat) (e : TypeId) (vs : Array Value) (lo : Nat) : Seal where
  cell := fun c j => if c = b then (if j < lo then vs[j]? else none) else S.cell c j
  shape := fun c => if c = b then some (e, vs.size) else S.shape c

theorem Seal.le_add {S : Seal} {σ : AHeap} {w : World} (hI : Inv S σ w) (e : TypeId) (vs : Array Value) (lo : Nat) : S.le (S.add w.heap.size e vs lo) := by
  refine ⟨fun b o v h => ?_, fun b s h => ?_⟩
  · have hb : b ≠ w.heap.size := fun hb => by subst hb; simp [hI.fresh_cell] at h
    simp [Seal.add, hb, h]
  · have hb : b ≠ w.heap.size := fun hb => by subst hb; simp [hI.fresh_shape] at h
    simp [Seal.add, hb, h]

theorem AHeap.ins_self (σ : AHeap) (b : Nat) (x : ABlk) : σ.ins b x b = some x := by simp [AHeap.ins]
theorem AHeap.ins_ne (σ : AHeap) {b c : Nat} (x : ABlk) (h : c ≠ b) : σ.ins b x c = σ c := by simp [AHeap.ins, h]
theorem AHeap.del_self (σ : AHeap) (b : Nat) : σ.del b b = none := by simp [AHeap.del]
theorem AHeap.del_ne (σ : AHeap) {b c : Nat} (h : c ≠ b) : σ.del b c = σ c := by simp [AHeap.del, h]

/-- A NEW BLOCK: its first lo cells sealed, the rest owned, of which cs are told. -/
theorem Step.new {S : Seal} {σ : AHeap} {w : World} (hI : Inv S σ w) (e : TypeId) (vs : Array Value) (lo : Nat) (cs : List AV) (hlen : lo + cs.length ≤ vs.size)
    (hr : ∀ i, i < cs.length → Rel (S.add w.heap.size e vs lo) (cs.getD i .un) (vs.getD (lo + i) undef)) :
    Step S σ w (S.add w.heap.size e vs lo) (σ.ins w.heap.size (.cells lo cs)) (w.alloc (.cells vs e)) := by
  have hle := Seal.le_add hI e vs lo
  have hcell : ∀ b j, b < w.heap.size → (w.alloc (.cells vs e)).cell? ⟨b, j, none⟩ = w.cell? ⟨b, j, none⟩ := fun b j hb => World.cell?_alloc_past _ _ _ hb
  have hnew : ∀ j, (w.alloc (.cells vs e)).cell? ⟨w.heap.size, j, none⟩ = vs[j]? := fun j => World.cell?_alloc_at _ _ _ _ rfl
  refine ⟨hle, ⟨fun b o v h => ?_, fun b s h => ?_, fun b l c h => ?_, fun b es h => ?_⟩, fun b hb _ => ?_, fun b hb => ?_, by show w.heap.size ≤ (w.heap.push _).size; simp, fun b o v hv => ?_, rfl, rfl⟩
  · by_cases hb : b = w.heap.size
    · subst hb
      rw [hnew]
      simp [Seal.add] at h
      exact h.2
    · simp [Seal.add, hb] at h
      have h' := hI.cell _ _ _ h
      rw [hcell _ _ (lt_of_cell? h')]; exact h'
  · by_cases hb : b = w.heap.size
    · subst hb
      simp [Seal.add] at h
      rw [World.shape?_alloc_at _ _ _ rfl, h]
    · simp [Seal.add, hb] at h
      have h' := hI.shape _ _ h
      rw [World.shape?_alloc_past _ _ (lt_of_shape? h')]; exact h'
  · by_cases hb : b = w.heap.size
    · subst hb
      rw [AHeap.ins_self] at h
      simp at h
      obtain ⟨rfl, rfl⟩ := h
      refine ⟨e, vs.size, by simp [Seal.add], hlen, fun j hj => by simp [Seal.add, Nat.not_lt.2 hj], fun j hj => ?_, fun i hi => ?_⟩
      · simp only [World.frozen?, World.alloc, Array.getElem?_push_size]
        simp
      · have hi' : lo + i < vs.size := by omega
        refine ⟨vs.getD (lo + i) undef, ?_, hr i hi⟩
        rw [hnew]
        simp [Array.getD, hi']
    · rw [AHeap.ins_ne _ _ hb] at h
      have hlt := hI.lt_own h
      obtain ⟨e', n, h1, h2, h3, h4, h5⟩ := hI.own b l c h
      refine ⟨e', n, hle.shape _ _ h1, h2, fun j hj => by simp [Seal.add, hb, h3 j hj], fun j hj => ?_, fun i hi => ?_⟩
      · have := h4 j hj
        simp only [World.frozen?, World.alloc] at this ⊢
        rw [Array.getElem?_push_lt hlt]
        rw [Array.getElem?_eq_getElem hlt] at this
        exact this
      · obtain ⟨v, hv, hv'⟩ := h5 i hi
        exact ⟨v, by rw [hcell _ _ hlt]; exact hv, hv'.mono hle⟩
  · have hb : b ≠ w.heap.size := fun hb => by subst hb; simp [AHeap.ins_self] at h
    rw [AHeap.ins_ne _ _ hb] at h
    have hlt := hI.lt_own h
    obtain ⟨ents, clock, h1, h2, h3⟩ := hI.map b es h
    refine ⟨ents, clock, by simp only [World.alloc]; rw [Array.getElem?_push_lt hlt, ← Array.getElem?_eq_getElem hlt]; exact h1, h2, fun i hi => ?_⟩
    obtain ⟨x, hx, hk, hv⟩ := h3 i hi
    exact ⟨x, hx, hk, hv.mono hle⟩
  · simp only [World.alloc]
    rw [Array.getElem?_push_lt hb, ← Array.getElem?_eq_getElem hb]
  · by_cases h : b = w.heap.size
    · exact .inr (by omega)
    · rw [AHeap.ins_ne _ _ h] at hb; exact .inl hb
  · by_cases h : b = w.heap.size
    · exact .inr (.inr (by omega))
    · simp [Seal.add, h] at hv; exact .inl hv

/-- the same without owning the rest -/
theorem Step.new' {S : Seal} {σ : AHeap} {w : World} (hI : Inv S σ w) (e : TypeId) (vs : Array Value) :
    Step S σ w (S.add w.heap.size e vs vs.size) σ (w.alloc (.cells vs e)) :=
  Step.trans (Step.new hI e vs vs.size [] (by simp) (fun i hi => by simp at hi)) (Step.drop (Step.new hI e vs vs.size [] (by simp) (fun i hi => by simp at hi)).inv
    (fun b x h => by rw [AHeap.ins_ne _ _ (fun hb => by subst hb; simp [hI.fresh] at h)]; exact h))

theorem setCells_out {vs : List Value} : ∀ {o : Nat} {w : World} {b : Nat}, (w.setCells b o vs).os = w.os ∧ (w.setCells b o vs).output = w.output := by
  induction vs with
  | nil => exact ⟨rfl, rfl⟩
  | cons v vs ih =>
    intro o w b
    have h := ih (o := o + 1) (w := w.setCell ⟨b, o, none⟩ v) (b := b)
    exact h

theorem shape?_setCell (w : World) (a : Addr) (v : Value) (b : Nat) : (w.setCell a v).shape? b = w.shape? b := by
  unfold World.shape? World.setCell
  simp only [Array.getElem?_modify]
  by_cases h : a.block = b
  · subst h
    simp
    cases hb : w.heap[a.block]? with
    | none => simp
    | some o => cases o <;> simp <;> split <;> simp
  · simp [h]

theorem shape?_setCells (b : Nat) : ∀ (vs : List Value) (o : Nat) (w : World) (c : Nat), (w.setCells b o vs).shape? c = w.shape? c
  | [], _, _, _ => rfl
  | v :: r, o, w, c => by simp only [World.setCells]; rw [shape?_setCells b r, shape?_setCell]

theorem size_setCells (b : Nat) : ∀ (vs : List Value) (o : Nat) (w : World), (w.setCells b o vs).heap.size = w.heap.size
  | [], _, _ => rfl
  | v :: r, o, w => by simp only [World.setCells]; rw [size_setCells b r]; simp [World.setCell]

theorem heap_setCells_ne (b : Nat) : ∀ (vs : List Value) (o : Nat) (w : World) (c : Nat), c ≠ b → (w.setCells b o vs).heap[c]? = w.heap[c]?
  | [], _, _, _, _ => rfl
  | v :: r, o, w, c, h => by
    simp only [World.setCells]; rw [heap_setCells_ne b r _ _ c h]
    simp [World.setCell, Array.getElem?_modify, Ne.symm h]

/-- the seal with more cells of a block -/
def Seal.more (S : Seal) (b : Nat) (lo : Nat) (vs : List Value) : Seal where
  cell := fun c j => if c = b ∧ lo ≤ j ∧ j < lo + vs.length then some (vs.getD (j - lo) undef) else S.cell c j
  shape := S.shape

/-- WRITING into an owned block: cells from o on; sealing them (m = all of vs) or not (m = []). -/
theorem Step.write {S : Seal} {σ : AHeap} {w : World} (hI : Inv S σ w) {b lo o : Nat} {cs : List AV} (hb : σ b = some (.cells lo cs)) (vs : List Value) {e : TypeId} {n : Nat} (hsh : S.shape b = some (e, n))
    (ho : lo ≤ o) (hn : o + vs.length ≤ n) (lo' : Nat) (cs' : List AV) (hn' : lo' + cs'.length ≤ n)
    (hsealed : (lo' = lo ∧ True) ∨ (lo ≤ o ∧ o = lo ∧ lo' = lo + vs.length)) (S' : Seal) (hS' : S' = S ∧ lo' = lo ∨ S' = S.more b o vs ∧ lo' = o + vs.length)
    (hr : ∀ i, i < cs'.length → ∃ v, (w.setCells b o vs).cell? ⟨b, lo' + i, none⟩ = some v ∧ Rel S' (cs'.getD i .un) v) :
    Step S σ w S' (σ.ins b (.cells lo' cs')) (w.setCells b o vs) := by
  obtain ⟨e1, n1, h1, h2, h3, h4, h5⟩ := hI.own b lo cs hb
  have hlt := hI.lt_own hb
  have hen : e1 = e ∧ n1 = n := by rw [h1] at hsh; simpa using hsh
  obtain ⟨rfl, rfl⟩ := hen
  have hsome : ∀ j, j < n1 → (w.cell? ⟨b, j, none⟩).isSome = true := fun j hj => by
    have hs := hI.shape _ _ h1
    unfold World.shape? at hs
    unfold World.cell?
    cases hh : w.heap[b]? with
    | none => simp [hh] at hs
    | some x =>
      cases x <;> simp [hh] at hs
      rename_i c el fr
      obtain ⟨_, rfl⟩ := hs
      simp [hj]
  have hle : S.le S' := by
    rcases hS' with ⟨rfl, _⟩ | ⟨rfl, _⟩
    · exact .refl S'
    · refine ⟨fun c j v h => ?_, fun _ _ h => h⟩
      have : ¬ (c = b ∧ o ≤ j ∧ j < o + vs.length) := fun ⟨hc, hj, _⟩ => by subst hc; rw [h3 j (by omega)] at h; simp at h
      simp [Seal.more, this, h]
  have hlo : lo ≤ lo' := by omega
  refine ⟨hle, ⟨fun c j v h => ?_, fun c s h => ?_, fun c l x h => ?_, fun c es h => ?_⟩, fun c hc hno => ?_, fun c hc => ?_, by rw [size_setCells]; exact Nat.le_refl _, fun c j v h => ?_, setCells_out⟩
  · by_cases hin : c = b ∧ o ≤ j ∧ j < o + vs.length
    · obtain ⟨rfl, hj1, hj2⟩ := hin
      rcases hS' with ⟨rfl, _⟩ | ⟨rfl, _⟩
      · rw [h3 j (by omega)] at h; simp at h
      · have := World.cell?_setCells_in c vs o w (fun j hj => hsome _ (by omega)) (j - o) (by omega)
        rw [show o + (j - o) = j by omega] at this
        rw [this]
        simp [Seal.more, hj1, hj2] at h
        rw [← h]
        simp [List.getD, List.getElem?_eq_getElem (show j - o < vs.length by omega)]
    · have hS : S.cell c j = some v := by
        rcases hS' with ⟨rfl, _⟩ | ⟨rfl, _⟩
        · exact h
        · simpa [Seal.more, hin] using h
      rw [World.cell?_setCells_out]
      · exact hI.cell _ _ _ hS
      · intro hc _
        simp only at hc ⊢
        subst hc
        simp at hin
        omega
  · rw [shape?_setCells]
    refine hI.shape _ _ ?_
    rcases hS' with ⟨rfl, _⟩ | ⟨rfl, _⟩ <;> exact h
  · have hshape : ∀ d, S'.shape d = S.shape d := fun d => by rcases hS' with ⟨rfl, _⟩ | ⟨rfl, _⟩ <;> rfl
    by_cases hc : c = b
    · subst hc
      rw [AHeap.ins_self] at h
      simp at h
      obtain ⟨rfl, rfl⟩ := h
      refine ⟨e1, n1, by rw [hshape]; exact h1, hn', fun j hj => ?_, fun j hj => by rw [World.frozen?_setCells]; exact h4 j (by omega), fun i hi => hr i hi⟩
      rcases hS' with ⟨rfl, _⟩ | ⟨rfl, hl⟩
      · exact h3 j (by omega)
      · simp [Seal.more, h3 j (by omega)]
        omega
    · rw [AHeap.ins_ne _ _ hc] at h
      obtain ⟨e2, n2, g1, g2, g3, g4, g5⟩ := hI.own c l x h
      refine ⟨e2, n2, by rw [hshape]; exact g1, g2, fun j hj => ?_, fun j hj => by rw [World.frozen?_setCells]; exact g4 j hj, fun i hi => ?_⟩
      · rcases hS' with ⟨rfl, _⟩ | ⟨rfl, hl⟩
        · exact g3 j hj
        · simp [Seal.more, hc, g3 j hj]
      · obtain ⟨v, hv, hv'⟩ := g5 i hi
        exact ⟨v, by rw [World.cell?_setCells_out _ _ _ _ _ (fun hh => absurd hh hc)]; exact hv, hv'.mono hle⟩
  · have hc : c ≠ b := fun hc => by subst hc; simp [AHeap.ins_self] at h
    rw [AHeap.ins_ne _ _ hc] at h
    obtain ⟨ents, clock, g1, g2, g3⟩ := hI.map c es h
    refine ⟨ents, clock, by rw [heap_setCells_ne _ _ _ _ _ hc]; exact g1, g2, fun i hi => ?_⟩
    obtain ⟨x, hx, hk, hv⟩ := g3 i hi
    exact ⟨x, hx, hk, hv.mono hle⟩
  · have : c ≠ b := fun h => by subst h; simp [hb] at hno
    rw [heap_setCells_ne _ _ _ _ _ this]
  · by_cases h : c = b
    · subst h; exact .inl (by simp [hb])
    · rw [AHeap.ins_ne _ _ h] at hc; exact .inl hc
  · by_cases hc : c = b
    · subst hc; exact .inr (.inl (by simp [hb]))
    · rcases hS' with ⟨rfl, _⟩ | ⟨rfl, _⟩
      · exact .inl h
      · simp [Seal.more, hc] at h; exact .inl h

end Go.Al
