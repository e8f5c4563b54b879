/- The depth of the stack is followed: in plain Lean. -/
import Derived.Test.YtpooknfdodimdaaGreatDoorSp10
set_option linter.unusedVariables false
set_option linter.unusedSimpArgs false
namespace Go.Al

instance : Inhabited Ins := ⟨⟨0, 0, 0, [], []⟩⟩

/-- the instructions that follow one -/
def nextM (x : Ins) (i : Int) : List Int := if x.op = 11 then [x.a] else if x.op = 12 then [x.a, i + 1] else if x.op = 14 ∨ x.op = 17 then [] else [i + 1]
/-- a depth is told to those that follow -/
def spreadM (n : Nat) (now : Int) : List Int → List Int → Bool → Int × List Int × Bool
  | [], d, w => (0, d, w)
  | t :: r, d, w => if t = n then (10, d, w) else if d.getD t.toNat 0 = -1 then spreadM n now r (d.set t.toNat now) true else if d.getD t.toNat 0 ≠ now then (8, d, w) else spreadM n now r d w
/-- one instruction -/
def reachM (l : List Ins) (d : List Int) (i : Nat) : Int × List Int × Bool :=
  let x := l.getD i default
  let h := d.getD i 0
  let now := h - (effM x).1 + (effM x).2
  if h < (effM x).1 then (11, d, false) else if now > 60 then (14, d, false) else if x.op = 14 ∧ now ≠ 0 then (8, d, false) else spreadM l.length now (nextM x i) d false
/-- a round -/
def roundM (l : List Ins) : Nat → Nat → List Int → Bool → Int × Int × List Int × Bool
  | 0, _, d, w => (0, 0, d, w)
  | k + 1, i, d, w =>
    if d.getD i 0 = -1 then roundM l k (i + 1) d w else
    match reachM l d i with
    | (c, d', w') => if c = 0 then roundM l k (i + 1) d' (w || w') else (c, i, d', w)
/-- rounds, as long as there is something new -/
def flowM (l : List Ins) : Nat → List Int → Int × Int
  | 0, _ => (0, 0)
  | f + 1, d =>
    match roundM l l.length 0 d false with
    | (c, i, d', w) => if c = 0 then (if w then flowM l f d' else (0, 0)) else (c, i)
def depth0 (n : Nat) : List Int := (List.replicate n (-1)).set 0 0
def flow0M (l : List Ins) : Int × Int := flowM l (l.length + 1) (depth0 l.length)

/-- how many have not been reached -/
def cntM (d : List Int) : Nat := d.countP (· == -1)
/-- depths as they come -/
def DOk (n : Nat) (d : List Int) : Prop := d.length = n ∧ ∀ x ∈ d, -1 ≤ x ∧ x ≤ 60

theorem DOk.get {n : Nat} {d : List Int} (h : DOk n d) (i : Nat) : -1 ≤ d.getD i 0 ∧ d.getD i 0 ≤ 60 := by
  by_cases hi : i < d.length
  · rw [List.getD_eq_getElem?_getD, List.getElem?_eq_getElem hi]; exact h.2 _ (List.getElem_mem _)
  · rw [List.getD_eq_getElem?_getD, List.getElem?_eq_none (by omega)]; simp
theorem DOk.set {n : Nat} {d : List Int} (h : DOk n d) (i : Nat) {v : Int} (hv : -1 ≤ v ∧ v ≤ 60) : DOk n (d.set i v) := by
  refine ⟨by simp [h.1], fun x hx => ?_⟩
  rcases List.mem_or_eq_of_mem_set hx with h' | h'
  · exact h.2 x h'
  · rw [h']; exact hv
theorem cnt_set {d : List Int} {i : Nat} {v : Int} (hi : i < d.length) (h : d.getD i 0 = -1) (hv : v ≠ -1) : cntM (d.set i v) + 1 = cntM d := by
  unfold cntM
  rw [List.countP_set hi]
  have h1 : (d[i] == -1) = true := by rw [List.getD_eq_getElem?_getD, List.getElem?_eq_getElem hi] at h; simpa using h
  have h2 : (v == -1) = false := by simpa using hv
  rw [h1, h2]
  have : 0 < List.countP (fun x => x == -1) d := List.countP_pos_iff.2 ⟨d[i], List.getElem_mem _, h1⟩
  simp; omega

theorem effM_ok {x : Ins} {c : Code} (h : insM x c = true) (hr : 0 ≤ c.result ∧ c.result ≤ 1) : 0 ≤ (effM x).1 ∧ (effM x).1 ≤ 20 ∧ 0 ≤ (effM x).2 ∧ (effM x).2 ≤ 1 := by
  simp only [insM, ins1M, Bool.and_eq_true] at h
  obtain ⟨_, h⟩ := h
  unfold effM
  repeat' split
  all_goals try omega
  all_goals simp_all [inM]
  all_goals omega
theorem nextM_ok {x : Ins} {c : Code} {i : Nat} (h : insM x c = true) (hi : i < c.list.length) : ∀ t ∈ nextM x i, 0 ≤ t ∧ t ≤ c.list.length := by
  simp only [insM, ins1M, Bool.and_eq_true] at h
  obtain ⟨_, h⟩ := h
  unfold nextM
  intro t ht
  repeat' split at ht
  all_goals simp only [List.mem_cons, List.not_mem_nil, or_false] at ht
  · subst ht; simp_all [inM]; omega
  · rcases ht with rfl | rfl
    · simp_all [inM]; omega
    · omega
  · subst ht; omega

/-- the first part of what has to be right -/
def verify0M (c : Code) : Bool := decide (1 ≤ c.list.length) && decide (c.list.length ≤ 2000) && inM c.params 0 20 && inM c.cells c.params 2000 && inM c.result 0 1 && (nameKM c.name || (decide (c.name = []) && decide (c.cells = 0) && decide (c.result = 0)))
def verifyM (c : Code) : Int × Int :=
  if verify0M c then
    match c.list.findIdx? (fun x => !insM x c) with
    | some i => (3, i)
    | none => flow0M c.list
  else (1, 0)

structure Code.Fine (c : Code) : Prop where
  name : c.name.length < 2 ^ 60
  list : c.list.length < 2 ^ 60
  ins : ∀ x ∈ c.list, x.mod.length < 2 ^ 60 ∧ x.name.length < 2 ^ 60

theorem depth0_ok {n : Nat} (hn : 0 < n) : DOk n (depth0 n) := by
  refine ⟨by simp [depth0], fun x hx => ?_⟩
  rcases List.mem_or_eq_of_mem_set hx with h | h
  · have := List.eq_of_mem_replicate h; omega
  · omega
theorem cnt_le (d : List Int) : cntM d ≤ d.length := List.countP_le_length

end Go.Al
