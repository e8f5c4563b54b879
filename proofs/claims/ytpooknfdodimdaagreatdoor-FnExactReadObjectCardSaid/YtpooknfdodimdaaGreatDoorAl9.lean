/- The abstract logic, part 9: make, conversions, calls; every operation. -/
import Derived.Test.YtpooknfdodimdaaGreatDoorAl8
import Derived.Laws.BytesString
set_option linter.unusedVariables false
set_option linter.unusedSimpArgs false
namespace Go.Al
variable {P : Program} {G S : Seal} {σ : AHeap} {w : World} {K : KAV}

theorem rep_getD {n : Nat} (z : List AV) (hz : z.length = n) (hn : 0 < n) (c : Nat) (j : Nat) (hj : j < c * n) : (List.replicate c z).flatten.getD j .un = z.getD (j % n) .un := by
  obtain ⟨a1, a2, a3⟩ := divmod hn hj
  have := (flatten_getD (n := n) (List.replicate c z) (fun x hx => by rw [(List.mem_replicate.1 hx).2, hz])).2 (j / n) (j % n) (by simpa using a1) a2
  rw [a3] at this
  rw [this]
  simp [List.getD, a1]

theorem i64_wrap_small {n : Int} (h0 : 0 ≤ n) (h1 : n ≤ 70368744177664) : IntKind.i64.wrap n = n := by
  unfold IntKind.wrap
  simp [IntKind.bits, IntKind.signed]
  omega

theorem MAKE_sound {t e : TypeId} {z : List AV} {by_ : Nat} {lv cv : AV} {x y : Value} (hI : Inv S σ w) (ht : P.underlying t = some (.slice e)) (hz : zcells P e = some z) (hb : (P.info? e).map (·.bytes) = some by_)
    (hl : Rel S lv x) (hc : Rel S cv y) (h : MAKE z.length z by_ lv cv σ K) : Runs P (Instr.makeSlice t x y) S σ w K := by
  unfold MAKE at h
  split at h <;> try exact h.elim
  rename_i k l k' c
  cases hl; cases hc
  obtain ⟨h0, h1, h2, h3, _, h⟩ := h
  obtain ⟨ie, zv, hi, hzv, e1, e2, e3, e4⟩ := zcells_rel hz
  have hby : ie.bytes = by_ := by simpa [hi] using hb
  subst hby
  have wl := i64_wrap_small h0 (by omega : l ≤ 70368744177664)
  have wc := i64_wrap_small (by omega : (0 : Int) ≤ c) h2
  have hbig : ¬ ((ie.bytes : Int) * c > 2 ^ 48) := by
    rw [Int.mul_comm]; omega
  have hbig' : ¬ (281474976710656 < (ie.bytes : Int) * c) := by omega
  let arr : Array Value := (Array.range (c.toNat * ie.size)).map (zv.cells[· % zv.cells.size]!)
  have hrun : (Instr.makeSlice t (.int k l) (.int k' c)).run P w = .ok (.slice (some ⟨w.heap.size, 0, none⟩) l.toNat c.toNat) (w.alloc (.cells arr e)) := by
    have c1 : ¬ (c < 0) := by omega
    have c2 : ¬ (l < 0) := by omega
    have c3 : ¬ (l > c) := by omega
    by_cases hz0 : c.toNat * ie.size = 0
    · have harr : arr = #[] := by simp [arr, hz0]
      simp [Instr.makeSlice, underlying, ht, asInt, asIntOf, typeInfo, hi, wl, wc, c1, c2, c3, hbig', sizeOf, hz0, newRow, harr]
      rw [show (Array.map (fun (x : Nat) => (default : Value)) (Array.range 0)) = #[] from by simp]
    · simp [Instr.makeSlice, underlying, ht, asInt, asIntOf, typeInfo, hi, wl, wc, c1, c2, c3, hbig', sizeOf, hz0, newRow, zeroValue, hzv, arr]
  have hsz : arr.size = c.toNat * ie.size := by simp [arr]
  have hzl : (List.replicate c.toNat z).flatten.length = c.toNat * ie.size := by simp [e1]
  have hst := Step.new hI e arr 0 (List.replicate c.toNat z).flatten (by omega) (fun i hi' => by
    rw [hzl] at hi'
    have hn : 0 < ie.size := by
      rcases Nat.eq_zero_or_pos ie.size with h | h
      · simp [h] at hi'
      · exact h
    rw [rep_getD z e1 hn _ _ hi', Nat.zero_add]
    have hm := Nat.mod_lt i hn
    have := (e3 (S.add w.heap.size e arr 0)).2 (i % ie.size) (by omega)
    have e5 : arr.getD i undef = zv.cells.toList.getD (i % ie.size) undef := by
      have h5 : i % zv.cells.size < zv.cells.size := by rw [e2]; exact hm
      rw [← agetD]
      simp [arr, Array.getD, hi', getElem!_pos, h5, e2, hm]
    rw [e5]; exact this)
  refine ⟨_, _, _, _, _, hrun, hst, .ar _ z.length 0 _ _ _ e arr.size (by simp [Seal.add]) (by omega) (by rw [hsz, e1, Nat.zero_add]; exact Nat.le_refl _) (fun _ => rfl), h _ hI.fresh⟩

theorem mapM_byte1 : ∀ (cs : List AV) (l : List UInt8), cs.mapM byte1 = some l → ∃ ns : List Int, cs = ns.map (fun n => .sc (.int .u8 n)) ∧ l = ns.map fun n => UInt8.ofNat n.toNat
  | [], l, h => by simp at h; subst h; exact ⟨[], rfl, rfl⟩
  | c :: r, l, h => by
    simp only [List.mapM_cons] at h
    cases hc : byte1 c with
    | none => simp [hc] at h
    | some b =>
      cases hr : r.mapM byte1 with
      | none => simp [hc, hr] at h
      | some l' =>
        simp [hc, hr] at h
        subst h
        obtain ⟨ns, rfl, rfl⟩ := mapM_byte1 r l' hr
        unfold byte1 at hc
        split at hc <;> simp at hc
        rename_i n
        exact ⟨n :: ns, rfl, by simp [hc]⟩

theorem mapM_byteOf : ∀ (xs : List (List AV)) (l : List UInt8), xs.mapM byteOf = some l → xs.flatten.mapM byte1 = some l
  | [], l, h => by simpa using h
  | x :: r, l, h => by
    simp only [List.mapM_cons] at h
    cases hc : byteOf x with
    | none => simp [hc] at h
    | some b =>
      cases hr : r.mapM byteOf with
      | none => simp [hc, hr] at h
      | some l' =>
        simp [hc, hr] at h
        subst h
        have := mapM_byteOf r l' hr
        unfold byteOf at hc
        split at hc <;> simp at hc
        rename_i n
        simp [List.mapM_cons, byte1, this, hc]

theorem foldl_push (ns : List Int) : ∀ s : ByteArray, ns.foldl (fun r n => r.push (UInt8.ofNat n.toNat)) s = ⟨s.data ++ (ns.map fun n => UInt8.ofNat n.toNat).toArray⟩ := by
  induction ns with
  | nil => intro s; simp
  | cons n r ih => intro s; simp only [List.foldl_cons, ih]; simp [ByteArray.push]

theorem Rel.sc_inv {v x : Value} (h : Rel S (.sc v) x) : x = v := by cases h; rfl

theorem relL_ints {ns : List Int} {vs : List Value} (h : RelL S (ns.map fun n => .sc (.int .u8 n)) vs) : vs = ns.map (Value.int .u8) := by
  apply List.ext_getElem?
  intro i
  have hl := h.1
  simp at hl
  by_cases hi : i < ns.length
  · have := h.2 i (by simpa using hi)
    simp [List.getD, hi] at this
    rw [List.getElem?_eq_getElem (by omega)] at this ⊢
    simp only [Option.getD_some] at this
    rw [Rel.sc_inv this]
    simp [hi]
  · rw [List.getElem?_eq_none (by omega), List.getElem?_eq_none (by simp; omega)]

theorem bytes_sound {a : Addr} {len cap : Nat} {cs : List AV} {news : List Value} {l : List UInt8} (hR : RelL S cs news) (hm : cs.mapM byte1 = some l) (hload : (loadCells a len).run P w = .ok news.toArray w) :
    (Conv.bytesToString (.slice (some a) len cap)).run P w = .ok (.string ⟨l.toArray⟩) w := by
  obtain ⟨ns, rfl, rfl⟩ := mapM_byte1 cs l hm
  have := relL_ints hR
  subst this
  rw [run_bytesToString w a len cap ns hload, foldl_push]
  simp

theorem cvk_int {s d : TypeId} {k : IntKind} (h : cvk P s d = .int k) : (∃ k', P.underlying s = some (.int k')) ∧ P.underlying d = some (.int k) := by
  unfold cvk at h
  split at h <;> (try simp at h)
  · rename_i k' k2 h1 h2; subst h; exact ⟨⟨k', h1⟩, h2⟩
  all_goals (split at h <;> (try split at h) <;> simp at h)

theorem cvk_same {s d : TypeId} (h : cvk P s d = .same) : P.underlying s = some .string ∧ P.underlying d = some .string := by
  unfold cvk at h
  split at h <;> (try simp at h)
  · rename_i h1 h2; exact ⟨h1, h2⟩
  all_goals (split at h <;> (try split at h) <;> simp at h)

theorem cvk_of {s d : TypeId} (h : cvk P s d = .ofBytes) : ∃ e i, P.underlying s = some (.slice e) ∧ P.underlying d = some .string ∧ P.underlying e = some (.int .u8) ∧ P.info? e = some i ∧ i.size = 1 := by
  unfold cvk at h
  split at h <;> (try simp at h)
  · rename_i e h1 h2
    split at h <;> (try split at h) <;> simp at h
    rename_i i h3 h4 h5
    exact ⟨e, i, h1, h2, h3, h4, h5⟩
  · split at h <;> (try split at h) <;> simp at h

theorem cvk_to {s d e : TypeId} (h : cvk P s d = .toBytes e) : ∃ i, P.underlying s = some .string ∧ P.underlying d = some (.slice e) ∧ P.underlying e = some (.int .u8) ∧ P.info? e = some i ∧ i.size = 1 := by
  unfold cvk at h
  split at h <;> (try simp at h)
  · split at h <;> (try split at h) <;> simp at h
  · rename_i e' h1 h2
    split at h <;> (try split at h) <;> simp at h
    rename_i i h3 h4 h5
    subst h
    exact ⟨i, h1, h2, h3, h4, h5⟩

theorem freeze_heap (w : World) (a : Addr) (n b : Nat) : (w.freeze a n).heap[b]? = w.heap[b]? ∨ ∃ c e f f', w.heap[b]? = some (.cells c e f) ∧ (w.freeze a n).heap[b]? = some (.cells c e f') := by
  unfold World.freeze
  split
  · exact .inl rfl
  · simp only [Array.getElem?_modify]
    by_cases h : a.block = b
    · rw [if_pos h]
      cases hb : w.heap[b]? with
      | none => exact .inl rfl
      | some o =>
        cases o <;> first | exact .inl rfl | exact .inr ⟨_, _, _, _, rfl, rfl⟩
    · rw [if_neg h]; exact .inl rfl

/-- a new sealed block, with a mark behind its end -/
theorem step_bytes (hI : Inv S σ w) (e : TypeId) (vs : Array Value) (a : Addr) (ha : a.block = w.heap.size) (n : Nat) :
    Step S σ w (S.add w.heap.size e vs vs.size) σ ((w.alloc (.cells vs e)).freeze a n) := by
  have h := Step.new' hI e vs
  have hne : ∀ b, b ≠ w.heap.size → ((w.alloc (.cells vs e)).freeze a n).heap[b]? = (w.alloc (.cells vs e)).heap[b]? := fun b hb => by
    unfold World.freeze; split
    · rfl
    · simp only [Array.getElem?_modify]; rw [if_neg (by rw [ha]; exact fun h => hb h.symm)]
  have hcell : ∀ x, ((w.alloc (.cells vs e)).freeze a n).cell? x = (w.alloc (.cells vs e)).cell? x := fun x => by
    unfold World.cell?
    rcases freeze_heap (w.alloc (.cells vs e)) a n x.block with h1 | ⟨c, el, f, f', h1, h2⟩
    · rw [h1]
    · rw [h1, h2]
  have hshape : ∀ x, ((w.alloc (.cells vs e)).freeze a n).shape? x = (w.alloc (.cells vs e)).shape? x := fun x => by
    unfold World.shape?
    rcases freeze_heap (w.alloc (.cells vs e)) a n x with h1 | ⟨c, el, f, f', h1, h2⟩
    · rw [h1]
    · rw [h1, h2]
  have hfr : σ w.heap.size = none := hI.fresh
  have hsize : ((w.alloc (.cells vs e)).freeze a n).heap.size = (w.alloc (.cells vs e)).heap.size := by
    unfold World.freeze; split
    · rfl
    · simp
  refine ⟨h.le, ⟨fun b o v x => by rw [hcell]; exact h.inv.cell _ _ _ x, fun b s x => by rw [hshape]; exact h.inv.shape _ _ x, fun b lo cs x => ?_, fun b es x => ?_⟩, fun b hb hn => ?_, fun b hb => .inl hb, by rw [hsize]; exact h.size, h.sealed, ?_⟩
  · have hb : b ≠ w.heap.size := fun hb => by subst hb; simp [hfr] at x
    obtain ⟨e', m, h1, h2, h3, h4, h5⟩ := h.inv.own b lo cs x
    refine ⟨e', m, h1, h2, h3, fun j hj => ?_, fun i hi => by rw [hcell]; exact h5 i hi⟩
    have := h4 j hj
    unfold World.frozen? at this ⊢
    rw [hne b hb]; exact this
  · have hb : b ≠ w.heap.size := fun hb => by subst hb; simp [hfr] at x
    rw [hne b hb]; exact h.inv.map b es x
  · rw [hne b (by omega)]; exact h.keep b hb hn
  · unfold World.freeze; split <;> exact ⟨rfl, rfl⟩

theorem CONV_sound {s d : TypeId} {v : AV} {x : Value} (hI : Inv S σ w) (hv : Rel S v x) (h : CONV (cvk P s d) v σ K) : Runs P (convert s d x) S σ w K := by
  generalize hk : cvk P s d = k at h
  unfold CONV at h
  split at h
  · rename_i k n
    obtain ⟨⟨k', h1⟩, h2⟩ := cvk_int hk
    have := Rel.sc_inv hv
    subst this
    exact Runs.same hI (by simp [convert, underlying, h1, h2, Conv.intToInt]) (.sc _) h
  · obtain ⟨h1, h2⟩ := cvk_same hk
    have := Rel.sc_inv hv
    subst this
    exact Runs.same hI (by simp [convert, underlying, h1, h2]) (.sc _) h
  · obtain ⟨e, i, h1, h2, h3, h4, h5⟩ := cvk_of hk
    cases hv
    rename_i a
    cases a with
    | none => exact Runs.same hI (x := .string .empty) (by simp [convert, underlying, h1, h2, h3, Conv.bytesToString]) (.sc _) h
    | some a => exact Runs.same hI (x := .string .empty) (by
        have := bytes_sound (P := P) (w := w) (S := S) (a := a) (len := 0) (cap := 0) (cs := []) (news := []) (l := []) ⟨rfl, fun j hj => by simp at hj⟩ rfl (by simp [loadCells, loadCellsFrom])
        simp [convert, underlying, h1, h2, h3, this]; rfl) (.sc _) h
  · rename_i sz xs
    obtain ⟨e, i, h1, h2, h3, h4, h5⟩ := cvk_of hk
    obtain ⟨l, hl, hK⟩ := OPT_elim h
    have hm := mapM_byteOf xs l hl
    obtain ⟨a, cap, val, hc, hz, hcell, hs, hr, rfl⟩ : ∃ (a : Option Addr) (cap : Nat) (val : Nat → Nat → Value), xs.length ≤ cap ∧ (∀ x ∈ xs, x.length = sz) ∧ (∀ x ∈ xs, x.all AV.cell1 = true) ∧
        (xs ≠ [] → ∃ b o, a = some ⟨b, o, none⟩ ∧ ∀ i j, i < xs.length → j < sz → S.cell b (o + (i * sz + j)) = some (val i j)) ∧
        (∀ i j, i < xs.length → j < sz → Rel S ((xs.getD i []).getD j .un) (val i j)) ∧ x = .slice a xs.length cap := by
      cases hv with
      | sl _ _ a cap val hc hz h1 hs hr => exact ⟨a, cap, val, hc, hz, h1, hs, hr, rfl⟩
    by_cases hne : xs = []
    · subst hne
      simp at hl
      subst hl
      cases a with
      | none => exact Runs.same hI (x := .string .empty) (by simp [convert, underlying, h1, h2, h3, Conv.bytesToString]) (.sc _) hK
      | some a => exact Runs.same hI (x := .string .empty) (by
          have := bytes_sound (P := P) (w := w) (S := S) (a := a) (len := 0) (cap := cap) (cs := []) (news := []) (l := []) ⟨rfl, fun j hj => by simp at hj⟩ rfl (by simp [loadCells, loadCellsFrom])
          simp [convert, underlying, h1, h2, h3, this]; rfl) (.sc _) hK
    · obtain ⟨b, o, rfl, hb⟩ := hs hne
      have hs1 : sz = 1 := by
        cases xs with
        | nil => exact absurd rfl hne
        | cons y r =>
          have hy := hz y (by simp)
          simp only [List.mapM_cons] at hl
          cases hc : byteOf y with
          | none => simp [hc] at hl
          | some b' =>
            unfold byteOf at hc
            split at hc <;> simp at hc
            simpa using hy.symm
      subst hs1
      obtain ⟨news, g1, g2, g3, g4⟩ := rows_src hI (by omega) hz hcell hb hr
      have hload := run_loadCells_list (P := P) w ⟨b, o, none⟩ news g2
      rw [show news.length = xs.length by omega] at hload
      exact Runs.same hI (by simp [convert, underlying, h1, h2, h3, bytes_sound (P := P) (cap := cap) g4 hm hload]) (.sc _) hK
  · rename_i b sz xs
    obtain ⟨e, i, h1, h2, h3, h4, h5⟩ := cvk_of hk
    obtain ⟨l, hl, hK⟩ := OPT_elim h
    have hm := mapM_byteOf xs l hl
    obtain ⟨cap, val, hne, hc, hz, hcell, hs, hr, rfl⟩ : ∃ (cap : Nat) (val : Nat → Nat → Value), xs ≠ [] ∧ xs.length ≤ cap ∧ (∀ x ∈ xs, x.length = sz) ∧ (∀ x ∈ xs, x.all AV.cell1 = true) ∧ (∀ i j, i < xs.length → j < sz → S.cell b (i * sz + j) = some (val i j)) ∧
        (∀ i j, i < xs.length → j < sz → Rel S ((xs.getD i []).getD j .un) (val i j)) ∧ x = .slice (some ⟨b, 0, none⟩) xs.length cap := by
      cases hv with
      | gl _ _ _ cap e' n' val hne hc hz h1 hsh hn hs hr => exact ⟨cap, val, hne, hc, hz, h1, hs, hr, rfl⟩
    have hs1 : sz = 1 := by
      cases xs with
      | nil => exact absurd rfl hne
      | cons y r =>
        have hy := hz y (by simp)
        simp only [List.mapM_cons] at hl
        cases hc : byteOf y with
        | none => simp [hc] at hl
        | some b' =>
          unfold byteOf at hc
          split at hc <;> simp at hc
          simpa using hy.symm
    subst hs1
    obtain ⟨news, g1, g2, g3, g4⟩ := rows_src (o := 0) hI (by omega) hz hcell (fun i j hi hj => by rw [Nat.zero_add]; exact hs i j hi hj) hr
    have hload := run_loadCells_list (P := P) w ⟨b, 0, none⟩ news g2
    rw [show news.length = xs.length by omega] at hload
    exact Runs.same hI (by simp [convert, underlying, h1, h2, h3, bytes_sound (P := P) (cap := cap) g4 hm hload]) (.sc _) hK
  · rename_i b sz o len
    obtain ⟨e, i, h1, h2, h3, h4, h5⟩ := cvk_of hk
    split at h <;> try exact h.elim
    rename_i cs htok
    obtain ⟨rfl, hle, h⟩ := h
    obtain ⟨l, hl, hK⟩ := OPT_elim h
    obtain ⟨cap, a, e2, n2, hsh, hc, hn2, ha, rfl⟩ : ∃ cap a e' n', S.shape b = some (e', n') ∧ len ≤ cap ∧ o + cap * 1 ≤ n' ∧ (0 < cap → a = some ⟨b, o, none⟩) ∧ x = .slice a len cap := by
      cases hv with
      | ar _ _ _ _ cap a e' n' hsh hc hn ha => exact ⟨cap, a, e', n', hsh, hc, hn, ha, rfl⟩
    have hcells := CellsAt.own hI htok
    by_cases hcap : 0 < cap
    · have haa := ha hcap
      subst haa
      have hR : RelL S ((cs.drop o).take len) ((List.range len).map fun j => (w.cell? ⟨b, o + j, none⟩).getD undef) := by
        refine ⟨by simp; omega, fun j hj => ?_⟩
        have hj' : j < len := by simp at hj; omega
        obtain ⟨v, hv1, hv2⟩ := hcells (o + j) (by omega)
        rw [Nat.zero_add] at hv1
        have e1 : ((cs.drop o).take len).getD j .un = cs.getD (o + j) .un := by simp [List.getD, List.getElem?_take, hj']
        have e2 : ((List.range len).map fun j => (w.cell? ⟨b, o + j, none⟩).getD undef).getD j undef = v := by simp [List.getD, hj', hv1]
        rw [e1, e2]; exact hv2
      have hload := run_loadCells (P := P) w ⟨b, o, none⟩ len (fun j => (w.cell? ⟨b, o + j, none⟩).getD undef) (fun j hj => by
        obtain ⟨v, hv1, hv2⟩ := hcells (o + j) (by omega)
        rw [Nat.zero_add] at hv1
        rw [addr_add, hv1]; rfl)
      exact Runs.same hI (by simp [convert, underlying, h1, h2, h3, bytes_sound (P := P) (cap := cap) hR hl hload]) (.sc _) hK
    · have hl0 : len = 0 := by omega
      subst hl0
      simp at hl
      subst hl
      cases a with
      | none => exact Runs.same hI (x := .string .empty) (by simp [convert, underlying, h1, h2, h3, Conv.bytesToString]) (.sc _) hK
      | some a => exact Runs.same hI (x := .string .empty) (by
          have := bytes_sound (P := P) (w := w) (S := S) (a := a) (len := 0) (cap := cap) (cs := []) (news := []) (l := []) ⟨rfl, fun j hj => by simp at hj⟩ rfl (by simp [loadCells, loadCellsFrom])
          simp [convert, underlying, h1, h2, h3, this]; rfl) (.sc _) hK
  · rename_i e str
    obtain ⟨i, h1, h2, h3, h4, h5⟩ := cvk_to hk
    have := Rel.sc_inv hv
    subst this
    have hd := step_drew hI
    let cap := (Question.appendCap str.size 0 e).cut (w.tape w.drawn (.appendCap str.size 0 e))
    have hcap : str.size ≤ cap := Nat.le_add_right _ _
    let vs : Array Value := (str.data.map fun b => Value.int .u8 b.toNat) ++ Array.replicate (cap - str.size) (.int .u8 0)
    have hvs : vs.size = cap := by
      have : str.data.size = str.size := rfl
      simp [vs, this]; omega
    have hst := step_bytes hd.inv e vs ⟨w.heap.size, vs.size, none⟩ rfl 1
    have hq : (Question.appendCap str.size 0 e).forced = false := rfl
    have hrun : (convert s d (.string str)).run P w = .ok (.slice (some ⟨w.heap.size, 0, none⟩) str.size cap) ((w.drew.alloc (.cells vs e)).freeze ⟨w.heap.size, vs.size, none⟩ 1) := by
      have hsh : (w.drew.alloc (.cells vs e)).shape? w.heap.size = some (e, vs.size) := World.shape?_alloc_at _ _ _ rfl
      simp [convert, underlying, h1, h2, h3, Conv.stringToBytes, hq, newRow, markStringish, Sem.run_bind]
      change ((Sem.run P (match (w.drew.alloc (.cells vs e)).shape? w.heap.size with | some (_, n) => freeze { block := w.heap.size, off := n } 1 | _ => pure ()) (w.drew.alloc (.cells vs e))).andThen fun a w' => Result.ok (Value.slice (some { block := w.heap.size, off := 0 }) str.size cap) w') = _
      rw [hsh]
      simp
    have hlen : (str.data.toList.map fun c => [U8 c.toNat]).length = str.size := by rw [List.length_map, Array.length_toList]; rfl
    have hget : ∀ j, j < str.size → vs[j]? = some (.int .u8 (str.data.toList.getD j 0).toNat) := fun j hj => by
      have h6 : j < str.data.size := hj
      simp [vs, Array.getElem?_append, hj, Array.getElem?_eq_getElem h6]
    refine ⟨_, _, _, _, .sl 1 (str.data.toList.map fun c => [U8 c.toNat]), hrun, hd.trans hst, ?_, h⟩
    have := Rel.sl (S := S.add w.drew.heap.size e vs vs.size) 1 (str.data.toList.map fun c => [U8 c.toNat]) (some ⟨w.heap.size, 0, none⟩) cap (fun i j => .int .u8 (str.data.toList.getD i 0).toNat) (by rw [hlen]; exact hcap) (by simp) (by simp [AV.cell1, Value.oneCell'])
      (fun _ => ⟨_, _, rfl, fun i j hi hj => by
        rw [hlen] at hi
        have hj0 : j = 0 := by omega
        subst hj0
        have h8 : i < vs.size := by omega
        simp only [Seal.add]
        rw [if_pos (show w.heap.size = w.drew.heap.size from rfl), if_pos (by omega), show 0 + (i * 1 + 0) = i by omega]
        exact hget i hi⟩) (fun i j hi hj => by
        have hj0 : j = 0 := by omega
        subst hj0
        rw [hlen] at hi
        have h6 : i < str.data.size := hi
        simp [List.getD, Array.getElem?_eq_getElem h6]
        exact .sc _)
    rwa [hlen] at this
  · exact h.elim

end Go.Al
