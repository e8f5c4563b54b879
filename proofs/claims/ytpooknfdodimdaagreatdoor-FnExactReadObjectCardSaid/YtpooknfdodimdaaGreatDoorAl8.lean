/- The abstract logic, part 8: append, make, conversions. -/
import Derived.Test.YtpooknfdodimdaaGreatDoorAl7
set_option linter.unusedVariables false
set_option linter.unusedSimpArgs false
namespace Go.Al
variable {P : Program} {G S : Seal} {σ : AHeap} {w : World} {K : KAV}

theorem divmod {m n k : Nat} (hn : 0 < n) (h : m < k * n) : m / n < k ∧ m % n < n ∧ m / n * n + m % n = m := by
  refine ⟨?_, Nat.mod_lt _ hn, ?_⟩
  · rw [Nat.div_lt_iff_lt_mul hn]; exact h
  · have := Nat.div_add_mod m n; rw [Nat.mul_comm] at this; exact this

theorem getD_mem {α : Type} {l : List α} {j : Nat} {d : α} (h : j < l.length) : l.getD j d ∈ l := by
  simp [List.getD, h]

/-- a source's cells -/
theorem rows_src {b o n : Nat} {xs : List (List AV)} {val : Nat → Nat → Value} (hI : Inv S σ w) (hn : 0 < n) (hz : ∀ x ∈ xs, x.length = n) (h1 : ∀ x ∈ xs, x.all AV.cell1 = true)
    (hs : ∀ i j, i < xs.length → j < n → S.cell b (o + (i * n + j)) = some (val i j)) (hr : ∀ i j, i < xs.length → j < n → Rel S ((xs.getD i []).getD j .un) (val i j)) :
    ∃ news : List Value, news.length = xs.length * n ∧ (∀ j u, news[j]? = some u → w.cell? ((⟨b, o, none⟩ : Addr).add j) = some u) ∧ (∀ u ∈ news, u.oneCell' = true) ∧ RelL S xs.flatten news := by
  obtain ⟨hfl, hfg⟩ := flatten_getD xs hz
  refine ⟨(List.range (xs.length * n)).map fun m => val (m / n) (m % n), by simp, fun j u hu => ?_, fun u hu => ?_, ⟨by simp [hfl], fun j hj => ?_⟩⟩
  · have hj : j < xs.length * n := by have := (List.getElem?_eq_some_iff.1 hu).1; simpa using this
    rw [List.getElem?_map, List.getElem?_range hj] at hu
    simp at hu
    subst hu
    obtain ⟨a1, a2, a3⟩ := divmod hn hj
    rw [addr_add]
    have := hI.cell _ _ _ (hs _ _ a1 a2)
    rwa [a3] at this
  · simp at hu
    obtain ⟨m, hm, rfl⟩ := hu
    obtain ⟨a1, a2, a3⟩ := divmod hn hm
    refine cell1_one ?_ (hr _ _ a1 a2)
    have h2 := h1 (xs.getD (m / n) []) (by simp [List.getD, a1])
    have h3 := hz (xs.getD (m / n) []) (by simp [List.getD, a1])
    rw [List.all_eq_true] at h2
    exact h2 _ (getD_mem (by omega))
  · rw [hfl] at hj
    obtain ⟨a1, a2, a3⟩ := divmod hn hj
    have := hr _ _ a1 a2
    rw [← hfg _ _ a1 a2, a3] at this
    simpa [List.getD, hj] using this

theorem srcA_sound {n : Nat} {u e' : TypeId} {x : AV} {y : Value} {ys : List (List AV)} (hI : Inv S σ w) (hx : Rel S x y) (hn : 0 < n) (hu : P.underlying u = some (.slice e')) (h : srcA n x = some ys) :
    ∃ news, Src P n u y ys.length news w ∧ RelL S ys.flatten news ∧ (∀ z ∈ ys, z.length = n) ∧ ∀ z ∈ ys, z.all AV.cell1 = true := by
  unfold srcA at h
  split at h
  · simp at h; subst h
    cases hx
    rename_i a
    refine ⟨[], ?_, ⟨rfl, fun j hj => by simp at hj⟩, by simp, by simp⟩
    cases a with
    | none => exact Src.ofNil w hu 0
    | some a => exact Src.ofSlice w hu a 0 0 [] (by simp) (by simp) (by simp)
  · split at h <;> simp at h
    rename_i s xs _ hb
    subst h
    have hs' : s = n := Nat.eq_of_beq_eq_true hb
    subst hs'
    cases hx with
    | sl _ _ a cap val hc hz h1 hs hr =>
      by_cases hne : xs = []
      · subst hne
        refine ⟨[], ?_, ⟨rfl, fun j hj => by simp at hj⟩, by simp, by simp⟩
        cases a with
        | none => exact Src.ofNil w hu cap
        | some a => exact Src.ofSlice w hu a 0 cap [] (by simp) (by simp) (by simp)
      · obtain ⟨b, o, rfl, hbb⟩ := hs hne
        obtain ⟨news, g1, g2, g3, g4⟩ := rows_src hI hn hz h1 hbb hr
        exact ⟨news, Src.ofSlice w hu _ _ _ news g1 g2 g3, g4, hz, h1⟩
  · split at h <;> simp at h
    rename_i b s xs _ hb
    subst h
    have hs' : s = n := Nat.eq_of_beq_eq_true hb
    subst hs'
    cases hx with
    | gl _ _ _ cap e2 n2 val hne hc hz h1 hsh hn2 hs hr =>
      obtain ⟨news, g1, g2, g3, g4⟩ := rows_src (o := 0) hI hn hz h1 (fun i j hi hj => by rw [Nat.zero_add]; exact hs i j hi hj) hr
      exact ⟨news, Src.ofSlice w hu _ _ _ news g1 g2 g3, g4, hz, h1⟩
  · simp at h

theorem chunk_flatten (n : Nat) (l : List AV) : ∀ (m : Nat), ((List.range m).map fun i => (l.drop (i * n)).take n).flatten = l.take (m * n)
  | 0 => by simp
  | m + 1 => by
    rw [List.range_succ, List.map_append, List.flatten_append, chunk_flatten n l m, Nat.succ_mul, List.take_add]
    simp

/-- a source's cells, an owned row's too -/
theorem srcH_cells {n : Nat} {x : AV} {y : Value} {ys : List (List AV)} (hI : Inv S σ w) (hx : Rel S x y) (hn : 0 < n) (h : srcH n x σ = some ys) :
    ∃ a cap news, y = .slice a ys.length cap ∧ news.length = ys.length * n ∧ (ys = [] ∨ ∃ ad, a = some ad ∧ ∀ j u, news[j]? = some u → w.cell? (ad.add j) = some u) ∧ (∀ u ∈ news, u.oneCell' = true) ∧
      RelL S ys.flatten news ∧ (∀ z ∈ ys, z.length = n) ∧ ∀ z ∈ ys, z.all AV.cell1 = true := by
  unfold srcH at h
  split at h
  · rename_i b s o len
    split at h <;> try simp at h
    rename_i cs hb
    split at h <;> try simp at h
    rename_i hcond
    simp only [Bool.and_eq_true] at hcond
    obtain ⟨⟨c1, c2⟩, c3⟩ := hcond
    have c1 := Nat.eq_of_beq_eq_true c1
    have c2 := Nat.le_of_ble_eq_true c2
    subst c1 h
    cases hx with
    | ar _ _ _ _ cap a e m hsh hc hm ha =>
      obtain ⟨e', n', g1, g2, g3, g4, g5⟩ := hI.own b 0 cs hb
      have hlen : ((List.range len).map fun i => (cs.drop (o + i * s)).take s).length = len := by simp
      have hz : ∀ z ∈ (List.range len).map (fun i => (cs.drop (o + i * s)).take s), z.length = s := by
        intro z hz
        simp only [List.mem_map, List.mem_range] at hz
        obtain ⟨i, hi, rfl⟩ := hz
        have : i * s + s ≤ len * s := by rw [← Nat.succ_mul]; exact Nat.mul_le_mul_right _ hi
        simp; omega
      have hfl : ((List.range len).map fun i => (cs.drop (o + i * s)).take s).flatten = (cs.drop o).take (len * s) := by
        rw [← chunk_flatten]; congr 1; apply List.map_congr_left; intro i _; rw [List.drop_drop]
      have hcell : ∀ j, j < len * s → ∃ u, w.cell? ⟨b, o + j, none⟩ = some u ∧ Rel S (((cs.drop o).take (len * s)).getD j .un) u := fun j hj => by
        obtain ⟨u, h1, h2⟩ := g5 (o + j) (by omega)
        rw [Nat.zero_add] at h1
        refine ⟨u, h1, ?_⟩
        simpa [List.getD, List.getElem?_take, hj] using h2
      refine ⟨a, cap, (List.range (len * s)).map fun j => (w.cell? ⟨b, o + j, none⟩).getD undef, by rw [hlen], by rw [hlen]; simp, ?_, ?_, ?_, hz, ?_⟩
      · by_cases hl : len = 0
        · left; subst hl; rfl
        · right
          refine ⟨⟨b, o, none⟩, ha (by omega), fun j u hu => ?_⟩
          have hj : j < len * s := by have := (List.getElem?_eq_some_iff.1 hu).1; simpa using this
          rw [List.getElem?_map, List.getElem?_range hj] at hu
          obtain ⟨v, h1, _⟩ := hcell j hj
          simp [h1] at hu
          subst hu
          rw [addr_add]; exact h1
      · intro u hu
        simp only [List.mem_map, List.mem_range] at hu
        obtain ⟨j, hj, rfl⟩ := hu
        obtain ⟨v, h1, h2⟩ := hcell j hj
        rw [h1]
        refine cell1_one ?_ h2
        rw [List.all_eq_true] at c3
        exact c3 _ (getD_mem (by simp; omega))
      · rw [hfl]
        refine ⟨by simp; omega, fun j hj => ?_⟩
        have hj' : j < len * s := by simp at hj; omega
        obtain ⟨v, h1, h2⟩ := hcell j hj'
        have : ((List.range (len * s)).map fun j => (w.cell? ⟨b, o + j, none⟩).getD undef).getD j undef = v := by simp [List.getD, hj', h1]
        rw [this]; exact h2
      · intro z hz
        simp only [List.mem_map, List.mem_range] at hz
        obtain ⟨i, hi, rfl⟩ := hz
        rw [List.all_eq_true] at c3 ⊢
        intro c hc
        refine c3 c ?_
        rw [← hfl]
        exact List.mem_flatten.2 ⟨_, List.mem_map.2 ⟨i, List.mem_range.2 hi, rfl⟩, hc⟩
  · unfold srcA at h
    split at h
    · simp at h; subst h
      cases hx
      rename_i a
      exact ⟨a, 0, [], rfl, by simp, .inl rfl, by simp, ⟨rfl, fun j hj => by simp at hj⟩, by simp, by simp⟩
    · split at h <;> simp at h
      rename_i s xs _ _ hb
      subst h
      have hs' : s = n := Nat.eq_of_beq_eq_true hb
      subst hs'
      cases hx with
      | sl _ _ a cap val hc hz h1 hs hr =>
        by_cases hne : xs = []
        · subst hne
          exact ⟨a, cap, [], rfl, by simp, .inl rfl, by simp, ⟨rfl, fun j hj => by simp at hj⟩, by simp, by simp⟩
        · obtain ⟨b, o, rfl, hbb⟩ := hs hne
          obtain ⟨news, g1, g2, g3, g4⟩ := rows_src hI hn hz h1 hbb hr
          exact ⟨_, cap, news, rfl, g1, .inr ⟨_, rfl, g2⟩, g3, g4, hz, h1⟩
    · split at h <;> simp at h
      rename_i b s xs _ _ hb
      subst h
      have hs' : s = n := Nat.eq_of_beq_eq_true hb
      subst hs'
      cases hx with
      | gl _ _ _ cap e2 n2 val hne hc hz h1 hsh hn2 hs hr =>
        obtain ⟨news, g1, g2, g3, g4⟩ := rows_src (o := 0) hI hn hz h1 (fun i j hi hj => by rw [Nat.zero_add]; exact hs i j hi hj) hr
        exact ⟨_, cap, news, rfl, g1, .inr ⟨_, rfl, g2⟩, g3, g4, hz, h1⟩
    · simp at h

theorem srcH_sound {n : Nat} {u e' : TypeId} {x : AV} {y : Value} {ys : List (List AV)} (hI : Inv S σ w) (hx : Rel S x y) (hn : 0 < n) (hu : P.underlying u = some (.slice e')) (h : srcH n x σ = some ys) :
    ∃ news, Src P n u y ys.length news w ∧ RelL S ys.flatten news ∧ (∀ z ∈ ys, z.length = n) ∧ ∀ z ∈ ys, z.all AV.cell1 = true := by
  obtain ⟨a, cap, news, rfl, hl, hc, h1, hR, hz, hz1⟩ := srcH_cells hI hx hn h
  refine ⟨news, ?_, hR, hz, hz1⟩
  rcases hc with rfl | ⟨ad, rfl, hc⟩
  · have : news = [] := List.length_eq_zero_iff.1 (by simpa using hl)
    subst this
    cases a with
    | none => exact Src.ofNil w hu cap
    | some a => exact Src.ofSlice w hu a 0 cap [] (by simp) (by simp) (by simp)
  · exact Src.ofSlice w hu ad _ cap news hl hc h1

theorem COPY_sound {t u e ty : TypeId} {n : Nat} {v x : AV} {y z : Value} (hI : Inv S σ w) (hv : Rel S v y) (hx : Rel S x z) (ht : P.underlying t = some (.slice e)) (hn : szOf P e = some n) (h : COPY n v x σ K) :
    Runs P (Builtin.copy_ #[t, u] ty #[y, z]) S σ w K := by
  obtain ⟨hn0, hopt⟩ := h
  obtain ⟨ys, hys, h⟩ := OPT_elim hopt
  clear hopt
  obtain ⟨a, cap, news, rfl, hl, hc, h1, hR, hz, hz1⟩ := srcH_cells hI hx hn0 hys
  split at h <;> try exact h.elim
  rename_i b s o len
  obtain ⟨rfl, h⟩ := h
  split at h <;> try exact h.elim
  rename_i cs hb
  obtain ⟨hle, hK⟩ := h
  obtain ⟨cap', a', e', n', hsh, hc', hn', ha', rfl⟩ : ∃ cap' a' e' n', S.shape b = some (e', n') ∧ len ≤ cap' ∧ o + cap' * s ≤ n' ∧ (0 < cap' → a' = some ⟨b, o, none⟩) ∧ y = .slice a' len cap' := by
    cases hv with
    | ar _ _ _ _ cap a e m hsh hc hn ha => exact ⟨cap, a, e, m, hsh, hc, hn, ha, rfl⟩
  obtain ⟨ie, hi, his⟩ : ∃ ie, P.info? e = some ie ∧ ie.size = s := by
    unfold szOf at hn
    cases hi : P.info? e with
    | none => simp [hi] at hn
    | some i => exact ⟨i, rfl, by simpa [hi] using hn⟩
  obtain ⟨e1, n1, g1, g2, g3, g4, g5⟩ := hI.own b 0 cs hb
  have hmin : Nat.min ys.length len = min ys.length len := rfl
  by_cases hm : min ys.length len = 0
  · have hrun : (Builtin.copy_ #[t, u] ty #[.slice a' len cap', .slice a ys.length cap]).run P w = .ok (goInt 0) w := by
      have hld : ∀ (x : Addr), (loadCells x 0).run P w = .ok #[] w := fun x => by simpa using run_loadCells_list (P := P) w x [] (by simp)
      cases a <;> cases a' <;> simp [Builtin.copy_, run_underlying ht, Builtin.lenOf, Builtin.firstCells, sizeOf, typeInfo, hi, his, hmin, hm, storeCells, hld]
    rw [hm] at hK
    have hw : σ.ins b (.cells 0 (wrCells cs o (ys.take 0).flatten)) = σ := by
      have : wrCells cs o (ys.take 0).flatten = cs := by simp [wrCells]
      rw [this]
      funext d; simp only [AHeap.ins]; split
      · rename_i hd; subst hd; exact hb.symm
      · rfl
    rw [hw] at hK
    exact Runs.same hI hrun (.sc _) hK
  · generalize hmm : min ys.length len = m at *
    have hmy : m ≤ ys.length := by omega
    have hml : m ≤ len := by omega
    have hms : m * s ≤ len * s := Nat.mul_le_mul_right _ hml
    have hmy' : m * s ≤ ys.length * s := Nat.mul_le_mul_right _ hmy
    obtain ⟨ad, rfl, hcell⟩ : ∃ ad, a = some ad ∧ ∀ j u, news[j]? = some u → w.cell? (ad.add j) = some u := by
      rcases hc with rfl | hc
      · simp at hmy; omega
      · exact hc
    have haa := ha' (by omega)
    subst haa
    obtain ⟨vs, hvs⟩ : ∃ vs, vs = news.take (m * s) := ⟨_, rfl⟩
    have hvl : vs.length = m * s := by rw [hvs]; simp; omega
    have hld : (loadCells ad (m * s)).run P w = .ok vs.toArray w := by
      have := run_loadCells_list (P := P) w ad vs (fun j u hu => hcell j u (by
        rw [hvs, List.getElem?_take] at hu
        split at hu
        · exact hu
        · simp at hu))
      rwa [hvl] at this
    have hsome : ∀ j, j < vs.length → (w.cell? ⟨b, o + j, none⟩).isSome = true := fun j hj => by
      obtain ⟨u, hu, _⟩ := g5 (o + j) (by omega)
      simp at hu; simp [hu]
    have hst := run_storeCells_cells (P := P) b o vs 0 w (fun j hj => by simpa using hsome j hj) (fun j hj => g4 _ (Nat.zero_le _)) (fun u hu => h1 u (by rw [hvs] at hu; exact List.mem_of_mem_take hu))
    have hrun : (Builtin.copy_ #[t, u] ty #[.slice (some ⟨b, o, none⟩) len cap', .slice (some ad) ys.length cap]).run P w = .ok (goInt m) (w.setCells b o vs) := by
      simp [Builtin.copy_, run_underlying ht, Builtin.lenOf, Builtin.firstCells, sizeOf, typeInfo, hi, his, hmin, hmm, hld, hst]
    have hfl : (ys.take m).flatten.length = m * s := by
      have := (flatten_getD (n := s) (ys.take m) (fun x hx => hz x (List.mem_of_mem_take hx))).1
      rw [this, List.length_take, Nat.min_eq_left hmy]
    have hpre : (ys.take m).flatten = ys.flatten.take (m * s) := by
      have e : ys.flatten = (ys.take m).flatten ++ (ys.drop m).flatten := by rw [← List.flatten_append, List.take_append_drop]
      rw [e, List.take_append_of_le_length (Nat.le_of_eq hfl.symm), List.take_of_length_le (Nat.le_of_eq hfl)]
    have hRv : RelL S (ys.take m).flatten vs := by
      refine ⟨by rw [hvl, hfl], fun j hj => ?_⟩
      rw [hfl] at hj
      have := hR.2 j (by have := hR.1; omega)
      rw [hpre, hvs]
      simpa [List.getD, List.getElem?_take, hj] using this
    refine ⟨goInt m, w.setCells b o vs, S, _, I m, hrun, Step.write hI hb vs g1 (Nat.zero_le _) (by omega) 0 (wrCells cs o (ys.take m).flatten) (by rw [wrCells_length _ _ _ (by omega)]; exact g2) (.inl ⟨rfl, trivial⟩) S (.inl ⟨rfl, rfl⟩) ?_, .sc _, hK⟩
    intro i hi
    rw [wrCells_length _ _ _ (by omega)] at hi
    rw [wrCells_getD _ _ _ (by omega)]
    by_cases hin : o ≤ i ∧ i < o + (ys.take m).flatten.length
    · rw [if_pos hin]
      have := World.cell?_setCells_in b vs o w hsome (i - o) (by omega)
      rw [show o + (i - o) = 0 + i by omega] at this
      refine ⟨_, this, ?_⟩
      have := hRv.2 (i - o) (by omega)
      simpa [List.getD, List.getElem?_eq_getElem (show i - o < vs.length by omega)] using this
    · rw [if_neg hin]
      obtain ⟨u, hu, hR⟩ := g5 i hi
      refine ⟨u, ?_, hR⟩
      rw [World.cell?_setCells_out]
      · exact hu
      · intro _ _; simp; omega

theorem flatten_singles {α β : Type} (f : α → β) : ∀ l : List α, (l.map fun c => [f c]).flatten = l.map f
  | [] => rfl
  | a :: r => by simp [flatten_singles f r]

theorem srcS_sound {u : TypeId} {x : AV} {y : Value} {ys : List (List AV)} (hI : Inv S σ w) (hx : Rel S x y) (hu : P.underlying u = some .string) (h : srcS x = some ys) :
    ∃ news, Src P 1 u y ys.length news w ∧ RelL S ys.flatten news ∧ (∀ z ∈ ys, z.length = 1) ∧ ∀ z ∈ ys, z.all AV.cell1 = true := by
  unfold srcS at h
  split at h <;> simp at h
  rename_i s
  subst h
  cases hx
  refine ⟨byteCells s, by
    have := Src.ofString (P := P) w hu s
    rwa [show (s.data.toList.map fun c => [U8 c.toNat]).length = s.size from by rw [List.length_map, Array.length_toList]; rfl], ?_, by simp, by simp [AV.cell1, Value.oneCell']⟩
  rw [flatten_singles]
  refine ⟨by simp [byteCells], fun j hj => ?_⟩
  simp at hj
  simp [byteCells, List.getD, hj]
  exact .sc _

theorem storeCells_nil (a : Addr) (i : Nat) : storeCells a [] i = pure () := rfl

theorem run_app_zero {t u e ty : TypeId} {i : TypeInfo} {base : Option Addr} {sLen sCap : Nat} {x : Value} {news : List Value} (ht : P.underlying t = some (.slice e)) (hi : P.info? e = some i) (hs : Src P i.size u x 0 news w) (hc : sLen ≤ sCap) :
    (Builtin.append_ #[t, u] ty #[.slice base sLen sCap, x]).run P w = .ok (.slice base sLen sCap) w := by
  have hn : news = [] := List.length_eq_zero_iff.1 (by rw [hs.newsLen, Nat.zero_mul])
  subst hn
  have h1 := hs.len
  have h2 := hs.cells
  rcases hs.kind with ⟨e', hk⟩ | hk
  · cases base
    · simp [Builtin.append_, run_underlying ht, run_underlying hk, sizeOf, typeInfo, hi, h1, hc, h2]
    · simp [Builtin.append_, run_underlying ht, run_underlying hk, sizeOf, typeInfo, hi, h1, hc, h2, storeCells_nil]
  · cases base
    · simp [Builtin.append_, run_underlying ht, run_underlying hk, sizeOf, typeInfo, hi, h1, hc, h2]
    · simp [Builtin.append_, run_underlying ht, run_underlying hk, sizeOf, typeInfo, hi, h1, hc, h2, storeCells_nil]

theorem getD_append_left' {α : Type} {l r : List α} {i : Nat} {d : α} (h : i < l.length) : (l ++ r).getD i d = l.getD i d := by simp [List.getD, List.getElem?_append_left h]
theorem getD_append_right' {α : Type} {l r : List α} {i : Nat} {d : α} (h : l.length ≤ i) : (l ++ r).getD i d = r.getD (i - l.length) d := by simp [List.getD, List.getElem?_append_right h]

theorem AHeap.del_ins (σ : AHeap) (b : Nat) (x : ABlk) : (σ.del b).ins b x = σ.ins b x := by
  funext c; unfold AHeap.ins AHeap.del; split <;> simp_all

/-- what stands behind a growing append -/
theorem grow_cells {olds news : List Value} {z : Array Value} {n k m cap : Nat} (ho : olds.length = k * n) (hn : news.length = m * n) (hz : z.size = n) (hcap : k + m ≤ cap) :
    cap * n ≤ ((olds ++ news).toArray ++ Builtin.zeroCells z (cap - (k + m))).size ∧ ∀ j, j < (k + m) * n → ((olds ++ news).toArray ++ Builtin.zeroCells z (cap - (k + m))).getD j undef = (olds ++ news).getD j undef := by
  have hsz : (Builtin.zeroCells z (cap - (k + m))).size = (cap - (k + m)) * n := by simp [Builtin.zeroCells, hz]
  have hl : (olds ++ news).length = (k + m) * n := by simp [ho, hn, Nat.add_mul]
  refine ⟨?_, fun j hj => ?_⟩
  · rw [Array.size_append, hsz, List.size_toArray, hl, ← Nat.add_mul]
    exact Nat.le_of_eq (by congr 1; omega)
  · rw [agetD, Array.toList_append, List.toList_toArray, getD_append_left' (by omega)]

theorem step_drew (hI : Inv S σ w) : Step S σ w S σ w.drew := Step.heap_congr hI rfl ⟨rfl, rfl⟩

theorem APP_sound {t u e ty : TypeId} {own : Bool} {z : List AV} {by_ : Nat} {v : AV} {x y : Value} {src : Option (List (List AV))} (hI : Inv S σ w) (hv : Rel S v x) (ht : P.underlying t = some (.slice e)) (hz : zcells P e = some z)
    (hb : (P.info? e).map (·.bytes) = some by_)
    (hsrc : ∀ ys, src = some ys → ∃ news, Src P z.length u y ys.length news w ∧ RelL S ys.flatten news ∧ (∀ q ∈ ys, q.length = z.length) ∧ ∀ q ∈ ys, q.all AV.cell1 = true)
    (h : APP own z.length by_ v src σ K) : Runs P (Builtin.append_ #[t, u] ty #[x, y]) S σ w K := by
  obtain ⟨hn0, hopt⟩ := h
  obtain ⟨ys, hys, h⟩ := OPT_elim hopt
  clear hopt
  obtain ⟨news, hs, hR, hlen, hc1⟩ := hsrc ys hys
  obtain ⟨ie, zv, hi, hzv, h1, h2, h3, h4⟩ := zcells_rel hz
  have hbytes : ie.bytes = by_ := by simpa [hi] using hb
  subst hbytes
  rw [h1] at hs
  have hnl := hs.newsLen
  rw [← h1] at hnl
  have hgrow : ∀ (base : Option Addr) (k cap : Nat) (olds : List Value), olds.length = k * z.length → (Builtin.firstCells ie.size k (.slice base k cap)).run P w.drew = .ok olds.toArray w.drew → cap < k + ys.length →
      (k + ys.length) * ie.bytes ≤ 70368744177664 → k + ys.length ≤ 70368744177664 →
      ∃ cap', k + ys.length ≤ cap' ∧ (Builtin.append_ #[t, u] ty #[.slice base k cap, y]).run P w = .ok (.slice (some ⟨w.heap.size, 0, none⟩) (k + ys.length) cap')
        (w.drew.alloc (.cells ((olds ++ news).toArray ++ Builtin.zeroCells zv.cells (cap' - (k + ys.length))) e)) := fun base k cap olds ho hold hc hb1 hb2 => by
    refine ⟨grownCap w (k + ys.length) cap e, ?_, run_append_grow_src w t u ty e ie zv ht hi hzv base k cap olds hold y ys.length news hs hc (by omega) ?_⟩
    · exact Nat.le_add_right _ _
    · have := Room.nextslicecap_le' hc
      calc Builtin.nextslicecap (k + ys.length) cap * ie.bytes ≤ 2 * (k + ys.length) * ie.bytes := Nat.mul_le_mul_right _ this
        _ ≤ 281474976710656 := by rw [Nat.mul_assoc]; omega
  split at h
  · -- nil
    obtain ⟨hb1, hb2, h⟩ := h
    cases hv
    rename_i a
    cases ys with
    | nil => exact Runs.same hI (run_app_zero ht hi hs (Nat.le_refl _)) (.nl a) h
    | cons q r =>
      simp only at h
      obtain ⟨cap', hc', hrun⟩ := hgrow a 0 0 [] (by simp) (by cases a <;> simp [Builtin.firstCells, loadCells, loadCellsFrom]) (by simp) (by simpa using hb1) (by simpa using hb2)
      rw [Nat.zero_add] at hc' hrun
      obtain ⟨g1, g2⟩ := grow_cells (olds := []) (k := 0) (by simp) hnl (show zv.cells.size = z.length by omega) (by simpa using hc')
      simp only [Nat.zero_add] at g1 g2
      have hd := step_drew hI
      obtain ⟨S', σ', v, hst, hRv, hK⟩ := ROW_sound (e := e) (w := w.drew) hd.inv hlen g1 hc' (by simp) hc1 (fun j hj => by
        rw [g2 j hj]
        have := hR.2 j (by rw [(flatten_getD _ hlen).1]; exact hj)
        simpa using this) h
      exact ⟨_, _, S', σ', v, hrun, hd.trans hst, hRv, hK⟩
  · -- a growing list
    rename_i b s xs
    obtain ⟨hsz, hb1, hb2, h⟩ := h
    obtain ⟨cap, e2, n2, val, hne, hc, hzz, hcell, hsh, hn2, hs2, hr2, rfl⟩ : ∃ (cap : Nat) (e2 : TypeId) (n2 : Nat) (val : Nat → Nat → Value), xs ≠ [] ∧ xs.length ≤ cap ∧ (∀ x ∈ xs, x.length = s) ∧ (∀ x ∈ xs, x.all AV.cell1 = true) ∧
        S.shape b = some (e2, n2) ∧ cap * s ≤ n2 ∧ (∀ i j, i < xs.length → j < s → S.cell b (i * s + j) = some (val i j)) ∧ (∀ i j, i < xs.length → j < s → Rel S ((xs.getD i []).getD j .un) (val i j)) ∧ x = .slice (some ⟨b, 0, none⟩) xs.length cap := by
      cases hv with
      | gl _ _ _ cap e2 n2 val hne hc hz h1 hsh hn hs hr => exact ⟨cap, e2, n2, val, hne, hc, hz, h1, hsh, hn, hs, hr, rfl⟩
    cases ys with
    | nil => exact Runs.same hI (run_app_zero ht hi hs hc) (.gl b s xs cap e2 n2 val hne hc hzz hcell hsh hn2 hs2 hr2) h
    | cons q r =>
      simp only at h
      obtain ⟨htok, h⟩ := h
      subst hsz
      have hall : ∀ x ∈ xs ++ q :: r, x.length = z.length := fun x hx => (List.mem_append.1 hx).elim (hzz x) (hlen x)
      have hall1 : ∀ x ∈ xs ++ q :: r, x.all AV.cell1 = true := fun x hx => (List.mem_append.1 hx).elim (hcell x) (hc1 x)
      have hlen2 : (xs ++ q :: r).length = xs.length + (q :: r).length := by simp
      by_cases hroom : xs.length + (q :: r).length ≤ cap
      · -- in place
        have hfit : xs.length * z.length + news.length ≤ n2 := by
          rw [hnl, ← Nat.add_mul]; exact Nat.le_trans (Nat.mul_le_mul_right _ hroom) hn2
        have hsome : ∀ j, j < n2 → (w.cell? ⟨b, j, none⟩).isSome = true := fun j hj => by
          have hsh' := hI.shape _ _ hsh
          unfold World.shape? at hsh'
          unfold World.cell?
          cases hh : w.heap[b]? with
          | none => simp [hh] at hsh'
          | some o =>
            cases o <;> simp [hh] at hsh'
            obtain ⟨_, rfl⟩ := hsh'
            simp [hj]
        obtain ⟨e3, n3, k1, k2, k3, k4, k5⟩ := hI.own b _ _ htok
        have hrun := run_append_room_src (ty := ty) w t u e ie ht hi b 0 xs.length cap y (q :: r).length news hs hroom (fun j hj => hsome _ (by rw [Nat.zero_add, ← h1]; omega)) (fun j hj => k4 _ (by rw [Nat.zero_add, ← h1]; omega))
        rw [Nat.zero_add, ← h1] at hrun
        have hst := Step.write hI htok news hsh (Nat.le_refl _) hfit (xs.length * z.length + news.length) [] (by simpa using hfit) (.inr ⟨Nat.le_refl _, rfl, rfl⟩) (S.more b (xs.length * z.length) news) (.inr ⟨rfl, rfl⟩) (fun i hi => by simp at hi)
        refine ⟨_, _, _, _, .gl b z.length (xs ++ q :: r), hrun, hst, ?_, ?_⟩
        · have hle := hst.le
          have := Rel.gl (S := S.more b (xs.length * z.length) news) b z.length (xs ++ q :: r) cap e2 n2 (fun i j => if i < xs.length then val i j else news.getD ((i - xs.length) * z.length + j) undef) (by simp) (by rw [hlen2]; exact hroom) hall hall1 hsh hn2 (fun i j hi hj => ?_) (fun i j hi hj => ?_)
          · rw [hlen2] at this; exact this
          · by_cases hlt : i < xs.length
            · rw [if_pos hlt]; exact hle.cell _ _ _ (hs2 i j hlt hj)
            · rw [if_neg hlt]
              have hi' : i - xs.length < (q :: r).length := by omega
              have hk := add_mul_lt (n := z.length) hi' hj
              have he : i * z.length + j = xs.length * z.length + ((i - xs.length) * z.length + j) := by
                have : i * z.length = (xs.length + (i - xs.length)) * z.length := by congr 1; omega
                rw [this, Nat.add_mul]; omega
              show (if b = b ∧ xs.length * z.length ≤ i * z.length + j ∧ i * z.length + j < xs.length * z.length + news.length then _ else _) = _
              rw [if_pos ⟨rfl, by omega, by omega⟩, he]
              congr 2; omega
          · by_cases hlt : i < xs.length
            · rw [if_pos hlt, getD_append_left' hlt]; exact (hr2 i j hlt hj).mono hle
            · rw [if_neg hlt, getD_append_right' (by omega)]
              have hi' : i - xs.length < (q :: r).length := by omega
              have hk := add_mul_lt (n := z.length) hi' hj
              have := hR.2 _ (by rw [(flatten_getD _ hlen).1]; exact hk)
              rw [(flatten_getD _ hlen).2 _ _ hi' hj] at this
              exact this.mono hle
        · have := h b (.inl rfl)
          rw [AHeap.del_ins] at this
          rw [hnl, ← Nat.add_mul, ← hlen2]
          exact this
      · -- a new row
        obtain ⟨olds, o1, o2, o3, o4⟩ := rows_src (o := 0) hI hn0 hzz hcell (fun i j hi hj => by rw [Nat.zero_add]; exact hs2 i j hi hj) hr2
        have hd := step_drew hI
        have hold : (Builtin.firstCells ie.size xs.length (.slice (some ⟨b, 0, none⟩) xs.length cap)).run P w.drew = .ok olds.toArray w.drew := run_firstCells_some w.drew ie.size xs.length _ _ _ olds (by rw [o1, h1]) (fun j u hu => o2 j u hu)
        obtain ⟨cap', hc', hrun⟩ := hgrow (some ⟨b, 0, none⟩) xs.length cap olds o1 hold (by omega) hb1 hb2
        obtain ⟨g1, g2⟩ := grow_cells o1 hnl (show zv.cells.size = z.length by omega) hc'
        have hdrop : Step S σ w S (σ.del b) w.drew := hd.trans (Step.drop hd.inv (fun c x hx => by unfold AHeap.del at hx; split at hx <;> simp_all))
        have hrow : ROW false z.length (xs ++ q :: r) (σ.del b) K := by
          cases hx : xs ++ q :: r with
          | nil => simp at hx
          | cons x0 r0 =>
            simp only [ROW]
            intro b' hb'
            rw [← hx]
            refine h b' ?_
            by_cases hbb : b' = b
            · exact .inl hbb
            · rw [AHeap.del_ne _ hbb] at hb'; exact .inr hb'
        rw [← hlen2] at hc' hrun g1 g2
        obtain ⟨S', σ', v, hst, hRv, hK⟩ := ROW_sound (e := e) (w := w.drew) (cap := cap') hdrop.inv hall g1 hc' (by simp) hall1 (fun j hj => by
          rw [g2 j hj]
          have hfl : (xs ++ q :: r).flatten = xs.flatten ++ (q :: r).flatten := by simp
          rw [hfl]
          have hxl := (flatten_getD _ hzz).1
          by_cases hlt : j < xs.length * z.length
          · rw [getD_append_left' (by omega), getD_append_left' (by omega)]
            exact o4.2 j (by omega)
          · rw [getD_append_right' (by omega), getD_append_right' (by omega), hxl, o1]
            refine hR.2 _ ?_
            rw [(flatten_getD _ hlen).1]
            rw [hlen2, Nat.add_mul] at hj
            omega) hrow
        exact ⟨_, _, S', σ', v, hrun, hdrop.trans hst, hRv, hK⟩
  · -- an owned row
    rename_i b s o len
    obtain ⟨hsz, ho, hb1, hb2, h⟩ := h
    subst ho hsz
    obtain ⟨cap, a, e2, n2, hsh, hc, hn2, ha, rfl⟩ : ∃ cap a e' n', S.shape b = some (e', n') ∧ len ≤ cap ∧ 0 + cap * z.length ≤ n' ∧ (0 < cap → a = some ⟨b, 0, none⟩) ∧ x = .slice a len cap := by
      cases hv with
      | ar _ _ _ _ cap a e' n' hsh hc hn ha => exact ⟨cap, a, e', n', hsh, hc, hn, ha, rfl⟩
    cases ys with
    | nil => exact Runs.same hI (run_app_zero ht hi hs hc) (.ar b z.length 0 len cap a e2 n2 hsh hc hn2 ha) h
    | cons q r =>
      simp only at h
      split at h <;> try exact h.elim
      rename_i cs htok
      obtain ⟨hcl, h⟩ := h
      obtain ⟨e3, n3, k1, k2, k3, k4, k5⟩ := hI.own b _ _ htok
      have hfl := (flatten_getD _ hlen).1
      by_cases hroom : len + (q :: r).length ≤ cap
      · have hpos : 0 < cap := by simp at hroom; omega
        have haa := ha hpos
        subst haa
        have hfit : len * z.length + news.length ≤ n2 := by
          rw [hnl, ← Nat.add_mul]; exact Nat.le_trans (Nat.mul_le_mul_right _ hroom) (by omega)
        have hsome : ∀ j, j < n2 → (w.cell? ⟨b, j, none⟩).isSome = true := fun j hj => by
          have hsh' := hI.shape _ _ hsh
          unfold World.shape? at hsh'
          unfold World.cell?
          cases hh : w.heap[b]? with
          | none => simp [hh] at hsh'
          | some o =>
            cases o <;> simp [hh] at hsh'
            obtain ⟨_, rfl⟩ := hsh'
            simp [hj]
        have hrun := run_append_room_src (ty := ty) w t u e ie ht hi b 0 len cap y (q :: r).length news hs hroom (fun j hj => hsome _ (by rw [Nat.zero_add, ← h1]; omega)) (fun j hj => k4 _ (Nat.zero_le _))
        rw [Nat.zero_add, ← h1] at hrun
        have hst := Step.write hI htok news (lo' := 0) (cs' := cs.take (len * z.length) ++ (q :: r).flatten) hsh (Nat.zero_le (len * z.length)) hfit (by rw [Nat.zero_add, List.length_append, List.length_take, Nat.min_eq_left hcl, hfl, ← hnl]; exact hfit) (.inl ⟨rfl, trivial⟩) S (.inl ⟨rfl, rfl⟩) (fun i hi => by
          simp only [List.length_append, List.length_take, Nat.min_eq_left hcl, hfl] at hi
          by_cases hlt : i < len * z.length
          · obtain ⟨uu, hu, hRu⟩ := k5 i (by omega)
            refine ⟨uu, ?_, ?_⟩
            · rw [World.cell?_setCells_out]
              · exact hu
              · intro _ _; simp; omega
            · rw [getD_append_left' (by simp; omega)]
              simpa [List.getD, List.getElem?_take, hlt] using hRu
          · have := World.cell?_setCells_in b news (len * z.length) w (fun j hj => hsome _ (by omega)) (i - len * z.length) (by omega)
            rw [show len * z.length + (i - len * z.length) = 0 + i by omega] at this
            refine ⟨_, this, ?_⟩
            rw [getD_append_right' (by simp; omega)]
            simp only [List.length_take, Nat.min_eq_left hcl]
            have := hR.2 (i - len * z.length) (by omega)
            simpa [List.getD, List.getElem?_eq_getElem (show i - len * z.length < news.length by omega)] using this)
        refine ⟨_, _, _, _, .ar b z.length 0 (len + (q :: r).length), hrun, hst, .ar b _ 0 _ cap _ e2 n2 hsh hroom hn2 (fun _ => rfl), ?_⟩
        have := h b (.inl rfl)
        rwa [AHeap.del_ins] at this
      · have hd := step_drew hI
        let olds : List Value := (List.range (len * z.length)).map fun j => (w.cell? ⟨b, j, none⟩).getD undef
        have holdc : ∀ j, j < len * z.length → ∃ v, w.cell? ⟨b, j, none⟩ = some v ∧ Rel S (cs.getD j .un) v := fun j hj => by
          obtain ⟨v, hv', hR'⟩ := k5 j (by omega)
          rw [Nat.zero_add] at hv'
          exact ⟨v, hv', hR'⟩
        have o1 : olds.length = len * z.length := by simp [olds]
        have hold : (Builtin.firstCells ie.size len (.slice a len cap)).run P w.drew = .ok olds.toArray w.drew := by
          by_cases hcap : 0 < cap
          · have haa := ha hcap
            subst haa
            refine run_firstCells_some w.drew ie.size len _ _ _ olds (by rw [o1, h1]) (fun j u hu => ?_)
            have hm : j < len * z.length := by have := (List.getElem?_eq_some_iff.1 hu).1; simpa [olds] using this
            simp only [olds] at hu
            rw [List.getElem?_map, List.getElem?_range hm] at hu
            simp at hu
            subst hu
            obtain ⟨v, hv', _⟩ := holdc j hm
            rw [addr_add, Nat.zero_add]
            show w.cell? _ = _
            rw [hv']; rfl
          · have hl0 : len = 0 := by omega
            subst hl0
            have : olds = [] := by simp [olds]
            rw [this]
            cases a <;> simp [Builtin.firstCells, loadCells, loadCellsFrom]
        obtain ⟨cap', hc', hrun⟩ := hgrow a len cap olds o1 hold (by omega) hb1 hb2
        obtain ⟨g1, g2⟩ := grow_cells o1 hnl (show zv.cells.size = z.length by omega) hc'
        have hdrop : Step S σ w S (σ.del b) w.drew := hd.trans (Step.drop hd.inv (fun c x hx => by unfold AHeap.del at hx; split at hx <;> simp_all))
        have hnew := Step.new (w := w.drew) hdrop.inv e ((olds ++ news).toArray ++ Builtin.zeroCells zv.cells (cap' - (len + (q :: r).length))) 0 (cs.take (len * z.length) ++ (q :: r).flatten) (by
          simp only [Nat.zero_add, List.length_append, List.length_take, Nat.min_eq_left hcl, hfl, ← Nat.add_mul]
          exact Nat.le_trans (Nat.mul_le_mul_right _ hc') g1) (fun i hi => by
          simp only [List.length_append, List.length_take, Nat.min_eq_left hcl, hfl, ← Nat.add_mul] at hi
          rw [Nat.zero_add, g2 i hi]
          refine Rel.mono (Seal.le_add hdrop.inv e _ 0) ?_
          by_cases hlt : i < len * z.length
          · rw [getD_append_left' (by simp; omega), getD_append_left' (by omega)]
            obtain ⟨v, hv', hR'⟩ := holdc i hlt
            have e1 : (cs.take (len * z.length)).getD i .un = cs.getD i .un := by simp [List.getD, List.getElem?_take, hlt]
            have e2 : olds.getD i undef = v := by simp [olds, List.getD, hlt, hv']
            rw [e1, e2]; exact hR'
          · rw [getD_append_right' (by simp; omega), getD_append_right' (by omega)]
            simp only [List.length_take, Nat.min_eq_left hcl, o1]
            refine hR.2 _ ?_
            rw [Nat.add_mul] at hi
            omega)
        have hfr : σ w.drew.heap.size = none := hI.fresh
        refine ⟨_, _, _, _, .ar w.heap.size z.length 0 (len + (q :: r).length), hrun, hdrop.trans hnew, .ar _ _ 0 _ cap' _ e _ (by simp only [Seal.add]; exact if_pos rfl) hc' (by rw [Nat.zero_add]; exact g1) (fun _ => rfl), h _ (.inr hfr)⟩
  · exact h.elim

end Go.Al
