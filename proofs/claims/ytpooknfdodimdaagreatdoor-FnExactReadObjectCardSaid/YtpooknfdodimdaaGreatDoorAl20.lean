/- The abstract logic, part 20: lists that grow, beside what else is owned; more steps. -/
import Derived.Test.YtpooknfdodimdaaGreatDoorAl19
set_option linter.unusedVariables false
set_option linter.unusedSimpArgs false
namespace Go.Al
variable {P : Program} {σ : AHeap} {K : KAV}

theorem AHeap.le.nn {a b : AHeap} (h : a.le b) {c : Nat} (hc : b c = none) : a c = none := by
  cases hx : a c with
  | none => rfl
  | some x => rw [h _ _ hx] at hc; simp at hc
theorem AHeap.le.ins_new {a b : AHeap} (h : a.le b) {c : Nat} {x : ABlk} (hc : b c = none) : a.le (b.ins c x) := fun d y hy => by
  have : d ≠ c := fun e => by subst e; rw [h.nn hc] at hy; simp at hy
  rw [AHeap.ins_ne _ _ this]; exact h _ _ hy
theorem AHeap.le.ins_both {a b : AHeap} (h : a.le b) {c : Nat} {x : ABlk} : (a.ins c x).le (b.ins c x) := fun d y hy => by
  by_cases e : d = c
  · subst e; simpa using hy
  · rw [AHeap.ins_ne _ _ e] at hy ⊢; exact h _ _ hy
theorem AHeap.un_le {a b c : AHeap} (h : a.le c) (h' : b.le c) : (a.un b).le c := fun d x hx => by
  cases ha : a d with
  | some y => simp [AHeap.un, ha] at hx; rw [← hx]; exact h _ _ ha
  | none => simp [AHeap.un, ha] at hx; exact h' _ _ hx

/-- a list that grows (as data: its cells are never written again), beside F -/
def GL (n : Nat) (F : AHeap) (v : AV) (xs : List (List AV)) (σ : AHeap) : Prop :=
  F.le σ ∧ ((v = .nl ∧ xs = []) ∨ ∃ b x r, xs = x :: r ∧ v = .gl b n (x :: r) ∧ F b = none ∧ σ b = some (.cells ((x :: r).length * n) []))

theorem GL.nil {n : Nat} {F : AHeap} (h : F.le σ) : GL n F .nl [] σ := ⟨h, .inl ⟨rfl, rfl⟩⟩
theorem GL.le {n : Nat} {F : AHeap} {v : AV} {xs : List (List AV)} (h : GL n F v xs σ) : F.le σ := h.1
theorem GL.new {n : Nat} {F : AHeap} {v : AV} {xs : List (List AV)} (h : GL n F v xs σ) {b : Nat} {x : ABlk} (hb : σ b = none) : GL n F v xs (σ.ins b x) := by
  obtain ⟨h1, h2⟩ := h
  refine ⟨h1.ins_new hb, h2.imp id ?_⟩
  rintro ⟨c, y, r, e1, e2, e3, e4⟩
  refine ⟨c, y, r, e1, e2, e3, ?_⟩
  rw [AHeap.ins_ne _ _ (fun e => by subst e; rw [hb] at e4; simp at e4)]; exact e4
theorem GL.store {n : Nat} {F : AHeap} {v : AV} {xs : List (List AV)} (h : GL n F v xs σ) {b : Nat} {x y : ABlk} (hb : F b = some y) : GL n (F.ins b x) v xs (σ.ins b x) := by
  obtain ⟨h1, h2⟩ := h
  refine ⟨h1.ins_both, h2.imp id ?_⟩
  rintro ⟨c, y, r, e1, e2, e3, e4⟩
  have : c ≠ b := fun e => by subst e; rw [hb] at e3; simp at e3
  exact ⟨c, y, r, e1, e2, by rw [AHeap.ins_ne _ _ this]; exact e3, by rw [AHeap.ins_ne _ _ this]; exact e4⟩
theorem GL.weak {n : Nat} {F F' : AHeap} {v : AV} {xs : List (List AV)} (h : GL n F v xs σ) (hF : F'.le F) : GL n F' v xs σ := by
  obtain ⟨h1, h2⟩ := h
  refine ⟨hF.trans h1, h2.imp id ?_⟩
  rintro ⟨c, y, r, e1, e2, e3, e4⟩
  exact ⟨c, y, r, e1, e2, hF.nn e3, e4⟩
theorem GL.view {n : Nat} {F : AHeap} {v : AV} {xs : List (List AV)} (h : GL n F v xs σ) (hz : ∀ x ∈ xs, x.length = n) (h1 : ∀ x ∈ xs, x.all AV.cell1 = true) {τ : AHeap} : View τ v (.sl n xs) := by
  obtain ⟨_, ⟨rfl, rfl⟩ | ⟨c, y, r, rfl, rfl, _⟩⟩ := h
  · exact .nl n
  · exact View.gl_sl hz h1
theorem GL.cell1 {n : Nat} {F : AHeap} {v : AV} {xs : List (List AV)} (h : GL n F v xs σ) : v.cell1 = true := by
  obtain ⟨_, ⟨rfl, rfl⟩ | ⟨c, y, r, rfl, rfl, _⟩⟩ := h <;> rfl
theorem GL.len {n : Nat} {F : AHeap} {v : AV} {xs : List (List AV)} (h : GL n F v xs σ) (hk : K (I xs.length) σ) : LENL v σ K := by
  obtain ⟨_, ⟨rfl, rfl⟩ | ⟨c, y, r, rfl, rfl, _⟩⟩ := h <;> exact hk
theorem GL.ia {n k : Nat} {F : AHeap} {v : AV} {xs : List (List AV)} {i : IntKind} {m : Nat} (h : GL n F v xs σ) (hm : m < xs.length) (hk : K (.rp xs[m] 0) σ) : IA (.slice n) v (.sc (.int i (m : Int))) σ K := by
  obtain ⟨_, ⟨rfl, rfl⟩ | ⟨c, y, r, rfl, rfl, _⟩⟩ := h
  · simp at hm
  · rw [IA_gl (by omega) rfl (by simpa using hm)]; simpa using hk

theorem GL.app {n bytes : Nat} {F : AHeap} {v : AV} {xs ys : List (List AV)} (h : GL n F v xs σ) (hn : 0 < n) (hb : (xs.length + ys.length) * bytes ≤ 70368744177664) (hl : xs.length + ys.length ≤ 70368744177664)
    (hk : ∀ v' σ', GL n F v' (xs ++ ys) σ' → K v' σ') : APP false n bytes v (some ys) σ K := by
  have h0 := h
  obtain ⟨h1, ⟨rfl, rfl⟩ | ⟨c, x, r, rfl, rfl, h3, h4⟩⟩ := h
  · refine ⟨hn, ?_⟩
    refine ⟨by simpa using hb, by simpa using hl, ?_⟩
    cases ys with
    | nil => exact hk _ _ (by simpa using h0)
    | cons y r =>
      intro b hbn
      exact hk _ _ ⟨h1.ins_new hbn, .inr ⟨b, y, r, rfl, rfl, h1.nn hbn, AHeap.ins_self _ _ _⟩⟩
  · refine ⟨hn, ?_⟩
    refine ⟨rfl, hb, hl, ?_⟩
    cases ys with
    | nil => exact hk _ _ (by simpa using h0)
    | cons y r' =>
      refine ⟨h4, fun b' hb' => ?_⟩
      have hF : F b' = none := by
        rcases hb' with rfl | hb'
        · exact h3
        · exact h1.nn hb'
      refine hk _ _ ⟨fun d z hz => ?_, .inr ⟨b', x, r ++ y :: r', rfl, rfl, hF, AHeap.ins_self _ _ _⟩⟩
      have e1 : d ≠ b' := fun e => by subst e; rw [hF] at hz; simp at hz
      have e2 : d ≠ c := fun e => by subst e; rw [h3] at hz; simp at hz
      rw [AHeap.ins_ne _ _ e1, AHeap.del_ne _ e2]; exact h1 _ _ hz

theorem GL.appl {n bytes : Nat} {F : AHeap} {v : AV} {xs : List (List AV)} {b : Nat} {y : List AV} {r : List (List AV)} (h : GL n F v xs σ) (hn : 0 < n) (hb : (xs.length + (y :: r).length) * bytes ≤ 70368744177664) (hl : xs.length + (y :: r).length ≤ 70368744177664)
    (hk : ∀ v' σ', GL n F v' (xs ++ y :: r) σ' → K v' σ') : APPL false n bytes v (.gl b n (y :: r)) σ K := by
  have : srcH n (.gl b n (y :: r)) σ = some (y :: r) := by simp [srcH, srcA]
  rw [APPL, this]; exact h.app hn hb hl hk
theorem GL.apps {bytes : Nat} {F : AHeap} {v : AV} {xs : List (List AV)} {l : List UInt8} (h : GL 1 F v xs σ) (hb : (xs.length + l.length) * bytes ≤ 70368744177664) (hl : xs.length + l.length ≤ 70368744177664)
    (hk : ∀ v' σ', GL 1 F v' (xs ++ l.map fun c : UInt8 => [U8 c.toNat]) σ' → K v' σ') : APPS false 1 bytes v (St (bs l)) σ K := by
  have : srcS (St (bs l)) = some (l.map fun c : UInt8 => [U8 c.toNat]) := by simp [srcS]
  rw [APPS, this]; exact ⟨rfl, h.app (by omega) (by simpa using hb) (by simpa using hl) hk⟩
theorem GL.appsl {n bytes : Nat} {F : AHeap} {v : AV} {xs ys : List (List AV)} (h : GL n F v xs σ) (hn : 0 < n) (hb : (xs.length + ys.length) * bytes ≤ 70368744177664) (hl : xs.length + ys.length ≤ 70368744177664)
    (hk : ∀ v' σ', GL n F v' (xs ++ ys) σ' → K v' σ') : APPL false n bytes v (.sl n ys) σ K := by
  have : srcH n (.sl n ys) σ = some ys := by simp [srcH, srcA]
  rw [APPL, this]; exact h.app hn hb hl hk

/-- a list in an owned row that grows, beside F -/
def OG {α : Type} (n : Nat) (E : AHeap → List AV → α → Prop) (F : AHeap) (v : AV) (l : List α) (σ : AHeap) : Prop := ∃ H, ORow n E H v l ∧ Dis F H ∧ (F.un H).le σ
theorem OG.nil {α : Type} {n : Nat} {E : AHeap → List AV → α → Prop} {F : AHeap} (h : F.le σ) : OG n E F .nl [] σ := ⟨.emp, .nl, .emp_right _, by simpa using h⟩
theorem OG.le {α : Type} {n : Nat} {E : AHeap → List AV → α → Prop} {F : AHeap} {v : AV} {l : List α} (h : OG n E F v l σ) : F.le σ := by
  obtain ⟨H, _, _, h⟩ := h; exact (AHeap.le_un_left _ _).trans h
theorem OG.new {α : Type} {n : Nat} {E : AHeap → List AV → α → Prop} {F : AHeap} {v : AV} {l : List α} (h : OG n E F v l σ) {b : Nat} {x : ABlk} (hb : σ b = none) : OG n E F v l (σ.ins b x) := by
  obtain ⟨H, h1, h2, h3⟩ := h; exact ⟨H, h1, h2, h3.ins_new hb⟩
theorem OG.store {α : Type} {n : Nat} {E : AHeap → List AV → α → Prop} {F : AHeap} {v : AV} {l : List α} (h : OG n E F v l σ) {b : Nat} {x y : ABlk} (hb : F b = some y) : OG n E (F.ins b x) v l (σ.ins b x) := by
  obtain ⟨H, h1, h2, h3⟩ := h
  have hH : H b = none := (h2 b).resolve_left (by simp [hb])
  refine ⟨H, h1, (Dis.ins_right h2.symm hH).symm, ?_⟩
  rw [AHeap.un_ins_left]; exact h3.ins_both
theorem OG.len {α : Type} {n : Nat} {E : AHeap → List AV → α → Prop} {F : AHeap} {v : AV} {l : List α} (h : OG n E F v l σ) (hk : K (I l.length) σ) : LENL v σ K := by
  obtain ⟨H, h1, _⟩ := h
  cases h1 with
  | nl => exact hk
  | ar ho _ _ => have := ho.length; simpa [LENL, this] using hk

theorem ORow.app {α : Type} {n bytes : Nat} {E : AHeap → List AV → α → Prop} {F H He : AHeap} {v : AV} {l l' : List α} {ys : List (List AV)} (h : ORow n E H v l) (he : OList E He ys l') (hz' : ∀ r ∈ ys, r.length = n) (hne : ys ≠ [])
    (hd1 : Dis F H) (hd2 : Dis F He) (hd3 : Dis H He) (h1 : F.le σ) (h2 : H.le σ) (h3 : He.le σ) (hn : 0 < n) (hb : (l.length + l'.length) * bytes ≤ 70368744177664) (hl : l.length + l'.length ≤ 70368744177664)
    (hk : ∀ v' H' σ', ORow n E H' v' (l ++ l') → Dis F H' → (F.un H').le σ' → K v' σ') : APP true n bytes v (some ys) σ K := by
  have hlen := he.length
  obtain ⟨y, r, rfl⟩ : ∃ y r, ys = y :: r := by cases ys with | nil => exact absurd rfl hne | cons y r => exact ⟨y, r, rfl⟩
  cases h with
  | nl =>
    refine ⟨hn, by simpa [← hlen] using hb, by simpa [← hlen] using hl, ?_⟩
    intro b hbn
    have hHe := h3.nn hbn
    refine hk _ (He.ins b (.cells 0 (y :: r).flatten)) _ (ORow.ar he hHe hz') (hd2.ins_right (h1.nn hbn)) ?_
    rw [AHeap.un_ins_right (h1.nn hbn)]
    exact (AHeap.un_le h1 h3).ins_both
  | @ar Hr b rows l ho hHb hz =>
    have hrl := ho.length
    refine ⟨hn, rfl, rfl, by simpa [← hlen, hrl] using hb, by simpa [← hlen, hrl] using hl, ?_⟩
    have hσb : σ b = some (.cells 0 rows.flatten) := h2 _ _ (AHeap.ins_self _ _ _)
    have hfl := flatten_length rows hz
    simp only [hσb]
    refine ⟨by omega, fun b' hb' => ?_⟩
    have hFb : F b = none := Dis.of_ins_right hd1
    have hHeb : He b = none := Dis.of_ins_right hd3.symm
    have hHr : Hr.le σ := fun c x hx => h2 _ _ (by rw [AHeap.ins_ne _ _ (fun e => by subst e; rw [hHb] at hx; simp at hx)]; exact hx)
    have n1 : F b' = none := by rcases hb' with rfl | hb'; exact hFb; exact h1.nn hb'
    have n2 : Hr b' = none := by rcases hb' with rfl | hb'; exact hHb; exact hHr.nn hb'
    have n3 : He b' = none := by rcases hb' with rfl | hb'; exact hHeb; exact h3.nn hb'
    have dr : Dis Hr He := fun c => by
      rcases hd3 c with h | h
      · by_cases e : c = b
        · subst e; exact .inl hHb
        · rw [AHeap.ins_ne _ _ e] at h; exact .inl h
      · exact .inr h
    have dF : Dis F Hr := fun c => by
      rcases hd1 c with h | h
      · exact .inl h
      · by_cases e : c = b
        · subst e; exact .inr hHb
        · rw [AHeap.ins_ne _ _ e] at h; exact .inr h
    have happ := ho.append he dr
    have hz2 : ∀ r' ∈ rows ++ y :: r, r'.length = n := fun r' h => (List.mem_append.1 h).elim (hz r') (hz' r')
    have key := ORow.ar (n := n) (b := b') happ (AHeap.un_none.2 ⟨n2, n3⟩) hz2
    have e1 : (rows ++ y :: r).flatten = rows.flatten.take (rows.length * n) ++ (y :: r).flatten := by rw [List.take_of_length_le (by omega), List.flatten_append]
    have e2 : (rows ++ y :: r).length = rows.length + (y :: r).length := by simp
    rw [e1, e2] at key
    refine hk _ _ _ key (Dis.ins_right (dF.un_right hd2) n1) ?_
    rw [AHeap.un_ins_right n1]
    intro c x hx
    by_cases e : c = b'
    · subst e; simpa using hx
    · rw [AHeap.ins_ne _ _ e] at hx ⊢
      have hcb : c ≠ b := fun e => by
        subst e
        simp [AHeap.un, hFb, hHb, hHeb] at hx
      rw [AHeap.del_ne _ hcb]
      exact AHeap.un_le h1 (AHeap.un_le hHr h3) _ _ hx

/-- append of elements that own nothing -/
theorem OG.appl {α : Type} {n bytes : Nat} {f : α → List AV} {F : AHeap} {v : AV} {l : List α} {b : Nat} {a : α} (h : OG n (EFlat f) F v l σ) (hfn : (f a).length = n) (hn : 0 < n) (hb : (l.length + 1) * bytes ≤ 70368744177664) (hl : l.length + 1 ≤ 70368744177664)
    (hk : ∀ v' σ', OG n (EFlat f) F v' (l ++ [a]) σ' → K v' σ') : APPL true n bytes v (.gl b n [f a]) σ K := by
  obtain ⟨H, h1, h2, h3⟩ := h
  have : srcH n (.gl b n [f a]) σ = some [f a] := by simp [srcH, srcA]
  rw [APPL, this]
  exact h1.app (F := F) (He := .emp) (l' := [a]) (OList.one (H := .emp) ⟨rfl, rfl⟩) (by simpa using hfn) (by simp) h2 (.emp_right _) (.emp_right _) ((AHeap.le_un_left _ _).trans h3) ((AHeap.le_un_right h2).trans h3) (AHeap.emp_le _) hn (by simpa using hb) (by simpa using hl)
    fun v' H' σ' a1 a2 a3 => hk _ _ ⟨H', a1, a2, a3⟩

/-- append of an element that owns memory -/
theorem OG.appo {α : Type} {n bytes : Nat} {E : AHeap → List AV → α → Prop} {F He : AHeap} {v : AV} {l : List α} {b : Nat} {a : α} {r : List AV} (h : OG n E (F.un He) v l σ) (hd : Dis F He) (he : E He r a) (hrn : r.length = n) (hn : 0 < n) (hb : (l.length + 1) * bytes ≤ 70368744177664) (hl : l.length + 1 ≤ 70368744177664)
    (hk : ∀ v' σ', OG n E F v' (l ++ [a]) σ' → K v' σ') : APPL true n bytes v (.gl b n [r]) σ K := by
  obtain ⟨H, h1, h2, h3⟩ := h
  have : srcH n (.gl b n [r]) σ = some [r] := by simp [srcH, srcA]
  rw [APPL, this]
  have hle := (AHeap.le_un_left _ _).trans h3
  exact h1.app (F := F) (He := He) (l' := [a]) (OList.one he) (by simpa using hrn) (by simp) h2.of_un_left_l hd h2.of_un_left_r.symm ((AHeap.le_un_left _ _).trans hle) ((AHeap.le_un_right h2).trans h3) ((AHeap.le_un_right hd).trans hle) hn (by simpa using hb) (by simpa using hl)
    fun v' H' σ' a1 a2 a3 => hk _ _ ⟨H', a1, a2, a3⟩

/- more steps -/
theorem s_cuts {l : List UInt8} {a h : Int} (h0 : 0 ≤ a) (h1 : a ≤ h) (h2 : h ≤ l.length) (hk : K (St (bs ((l.drop a.toNat).take (h.toNat - a.toNat)))) σ) : CUTS (St (bs l)) (some (I a)) (some (I h)) σ K := by
  simp only [CUTS, Option.getD_some, bs_extract]
  exact ⟨h0, h1, by simpa using h2, hk⟩
theorem s_cuts_lo {l : List UInt8} {a : Int} (h0 : 0 ≤ a) (h1 : a ≤ l.length) (hk : K (St (bs (l.drop a.toNat))) σ) : CUTS (St (bs l)) (some (I a)) none σ K := by
  simp only [CUTS, Option.getD_some, Option.getD_none, bs_extract]
  refine ⟨h0, by simpa using h1, by simp, ?_⟩
  rw [List.take_of_length_le (by simp)]
  exact hk
theorem s_cuts_hi {l : List UInt8} {h : Int} (h1 : 0 ≤ h) (h2 : h ≤ l.length) (hk : K (St (bs (l.take h.toNat))) σ) : CUTS (St (bs l)) none (some (I h)) σ K := by
  simp only [CUTS, Option.getD_some, Option.getD_none, bs_extract]
  refine ⟨by omega, by omega, by simpa using h2, ?_⟩
  simpa using hk
theorem s_cutl {n : Nat} {xs : List (List AV)} {a h : Int} (h0 : 0 ≤ a) (h1 : a ≤ h) (h2 : h ≤ xs.length) (hk : K (.sl n ((xs.drop a.toNat).take (h - a).toNat)) σ) : CUTL n (.sl n xs) (some (I a)) (some (I h)) σ K := ⟨rfl, h0, h1, h2, hk⟩
theorem s_cutl_lo {n : Nat} {xs : List (List AV)} {a : Int} (h0 : 0 ≤ a) (h1 : a ≤ xs.length) (hk : K (.sl n (xs.drop a.toNat)) σ) : CUTL n (.sl n xs) (some (I a)) none σ K := ⟨rfl, h0, h1, by simp, by rw [List.take_of_length_le (by simp; omega)]; exact hk⟩
theorem s_cutl_hi {n : Nat} {xs : List (List AV)} {h : Int} (h1 : 0 ≤ h) (h2 : h ≤ xs.length) (hk : K (.sl n (xs.take h.toNat)) σ) : CUTL n (.sl n xs) none (some (I h)) σ K := ⟨rfl, by omega, h1, h2, by simpa using hk⟩
theorem s_st1 {b o : Nat} {cs : List AV} {v : AV} (hb : σ b = some (.cells 0 cs)) (hv : v.cell1 = true) (ho : o < cs.length) (hk : K .un (σ.ins b (.cells 0 (cs.set o v)))) : STORE 1 (.pt b o) v σ K := by
  have h1 : v.cellsN 1 = some [v] := by cases v <;> simp_all [AV.cellsN, AV.cell1]
  rw [STORE_pt hb h1 (by omega)]
  have : wrCells cs o [v] = cs.set o v := by simp [wrCells, List.set_eq_take_append_cons_drop, ho]
  rw [this]; exact hk
theorem s_sta {n b : Nat} {cs vs : List AV} (hb : σ b = some (.cells 0 cs)) (hl : cs.length = n) (hv : vs.length = n) (h1 : vs.all AV.cell1 = true) (hk : K .un (σ.ins b (.cells 0 vs))) : STORE n (.pt b 0) (.ag vs) σ K := by
  have hc : (AV.ag vs).cellsN n = some vs := by simp only [AV.cellsN, hv, h1, decide_true, Bool.and_self, if_true]
  rw [STORE_pt hb hc (by omega)]
  have : wrCells cs 0 vs = vs := by simp [wrCells, hl, hv]
  rw [this]; exact hk
theorem ins_old {b c : Nat} {x y : ABlk} (h : σ b = some x) (hc : σ c = none) : (σ.ins c y) b = some x := by
  have : b ≠ c := fun e => by subst e; rw [hc] at h; simp at h
  rw [AHeap.ins_ne _ _ this]; exact h
theorem ins_other {b c : Nat} {x y : ABlk} (h : σ b = some x) (hc : b ≠ c) : (σ.ins c y) b = some x := by rw [AHeap.ins_ne _ _ hc]; exact h
theorem ne_of_none {b c : Nat} {x : ABlk} (h : σ b = some x) (hc : σ c = none) : b ≠ c := fun e => by subst e; rw [hc] at h; simp at h
theorem s_field1 {cs : List AV} {o : Nat} {v : AV} (hv : cs[o]? = some v) (h : K v σ) : FIELD .one o (.ag cs) σ K := by simp [FIELD, rdCells, hv, OPT, h]
theorem s_fieldn {cs : List AV} {n o : Nat} (hv : o + n ≤ cs.length) (h : K (.ag ((cs.drop o).take n)) σ) : FIELD (.agg n) o (.ag cs) σ K := by simp [FIELD, rdCells, hv, OPT, h]
theorem s_build {z : List AV} {parts : List (Nat × Nat × AV)} {cs : List AV} (hf : fillA z parts = some cs) (h : K (.ag cs) σ) : BUILD z parts σ K := by simp [BUILD, hf, OPT, h]
theorem s_new {z : List AV} (h : ∀ b, σ b = none → K (.pt b 0) (σ.ins b (.cells 0 z))) : NEW z σ K := h

theorem s_cvc {k : IntKind} {c : UInt8} (h : K (I (c.toNat : Nat)) σ) : CONV (.int .i64) (.sc (.int k (c.toNat : Nat))) σ K := by
  have : IntKind.i64.wrap ((c.toNat : Nat) : Int) = (c.toNat : Nat) := by have := c.toNat_lt; exact wrap64 (by omega)
  simp only [CONV, this]; exact h
/-- number operations as they are -/
def orI (k : IntKind) (a b : Int) : Int := k.wrap (BitVec.ofInt k.bits a ||| BitVec.ofInt k.bits b).toNat
def andI (k : IntKind) (a b : Int) : Int := k.wrap (BitVec.ofInt k.bits a &&& BitVec.ofInt k.bits b).toNat
def xorI (k : IntKind) (a b : Int) : Int := k.wrap (BitVec.ofInt k.bits a ^^^ BitVec.ofInt k.bits b).toNat
def andNotI (k : IntKind) (a b : Int) : Int := k.wrap (BitVec.ofInt k.bits a &&& ~~~ BitVec.ofInt k.bits b).toNat
theorem s_or {k t a b} (h : K (.sc (.int k (orI k a b))) σ) : BIN P .or t (.sc (.int k a)) (.sc (.int k b)) σ K := by simpa [BIN, binOp, Op.intBits, OPT, pureV, pure, orI] using h
theorem s_and {k t a b} (h : K (.sc (.int k (andI k a b))) σ) : BIN P .and t (.sc (.int k a)) (.sc (.int k b)) σ K := by simpa [BIN, binOp, Op.intBits, OPT, pureV, pure, andI] using h
theorem s_xor {k t a b} (h : K (.sc (.int k (xorI k a b))) σ) : BIN P .xor t (.sc (.int k a)) (.sc (.int k b)) σ K := by simpa [BIN, binOp, Op.intBits, OPT, pureV, pure, xorI] using h
theorem s_andnot {k t a b} (h : K (.sc (.int k (andNotI k a b))) σ) : BIN P .andNot t (.sc (.int k a)) (.sc (.int k b)) σ K := by simpa [BIN, binOp, Op.intBits, OPT, pureV, pure, andNotI] using h
theorem s_shl {k k' t a b} (hb : 0 ≤ b) (h : K (.sc (.int k (k.wrap (a * 2 ^ min b.toNat k.bits)))) σ) : BIN P .shl t (.sc (.int k a)) (.sc (.int k' b)) σ K := by
  have : ¬ b < 0 := by omega
  simpa [BIN, binOp, Op.shift, OPT, pureV, pure, this] using h
theorem s_shr {k k' t a b} (hb : 0 ≤ b) (h : K (.sc (.int k (a.fdiv (2 ^ min b.toNat k.bits)))) σ) : BIN P .shr t (.sc (.int k a)) (.sc (.int k' b)) σ K := by
  have : ¬ b < 0 := by omega
  simpa [BIN, binOp, Op.shift, OPT, pureV, pure, this] using h
theorem s_quo {k t a b} (hb : b ≠ 0) (h : K (.sc (.int k (k.wrap (a.tdiv b)))) σ) : BIN P .quo t (.sc (.int k a)) (.sc (.int k b)) σ K := by rw [BIN_quo hb]; exact h
theorem s_rem {k t a b} (hb : b ≠ 0) (h : K (.sc (.int k (a.tmod b))) σ) : BIN P .rem t (.sc (.int k a)) (.sc (.int k b)) σ K := by rw [BIN_rem hb]; exact h
theorem s_neg {k a} (hr : k.wrap (0 - a) = 0 - a) (h : K (.sc (.int k (0 - a))) σ) : UN P .neg (.sc (.int k a)) σ K := by rw [UN_neg, hr]; exact h
theorem s_sadd {t} {a b : List UInt8} (hl : a.length + b.length ≤ 9223372036854775807) (h : K (St (bs (a ++ b))) σ) : BIN P .add t (St (bs a)) (St (bs b)) σ K := by rw [BIN_sadd hl]; exact h

end Go.Al
