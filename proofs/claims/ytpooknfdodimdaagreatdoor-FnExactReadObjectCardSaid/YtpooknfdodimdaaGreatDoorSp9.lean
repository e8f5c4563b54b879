/- What readers of bytes make: in plain Lean. -/
import Derived.Test.YtpooknfdodimdaaGreatDoorSp7
set_option linter.unusedVariables false
set_option linter.unusedSimpArgs false
namespace Go.Al

/-- a reader of bytes -/
def Rd (α : Type) : Type := List UInt8 → Option (α × List UInt8)
namespace Rd
def ret {α : Type} (a : α) : Rd α := fun l => some (a, l)
def andThen {α β : Type} (p : Rd α) (q : α → Rd β) : Rd β := fun l => match p l with | some (a, r) => q a r | none => none
def many {α : Type} (p : Rd α) : Nat → Rd (List α)
  | 0 => ret []
  | n + 1 => andThen p fun a => andThen (many p n) fun l => ret (a :: l)
def bytes (n : Nat) : Rd (List UInt8) := fun l => if n ≤ l.length then some (l.take n, l.drop n) else none

/-- state s with flag f comes by p to v, s' with flag f' -/
def To {α : Type} (p : Rd α) (f : Bool) (l : List UInt8) (v : α) (f' : Bool) (l' : List UInt8) : Prop :=
  (f' = false → f = false ∧ p l = some (v, l')) ∧ (f' = true → f = true ∨ p l = none)

theorem To.ret {α : Type} (a : α) (f : Bool) (l : List UInt8) : To (ret a) f l a f l := ⟨fun h => ⟨h, rfl⟩, fun h => .inl h⟩
theorem To.bad {α : Type} {p : Rd α} {l l' : List UInt8} {v : α} : To p true l v true l' := ⟨fun h => by simp at h, fun _ => .inl rfl⟩
theorem To.then {α β : Type} {p : Rd α} {q : α → Rd β} {f f' f'' : Bool} {l l' l'' : List UInt8} {v : α} {w : β} (h : To p f l v f' l') (h' : To (q v) f' l' w f'' l'') : To (andThen p q) f l w f'' l'' := by
  refine ⟨fun e => ?_, fun e => ?_⟩
  · obtain ⟨a, b⟩ := h'.1 e
    obtain ⟨c, d⟩ := h.1 a
    exact ⟨c, by simp [andThen, d, b]⟩
  · cases hf : f' with
    | true =>
      rcases h.2 hf with a | a
      · exact .inl a
      · exact .inr (by simp [andThen, a])
    | false =>
      obtain ⟨c, d⟩ := h.1 hf
      rcases h'.2 e with a | a
      · rw [hf] at a; simp at a
      · exact .inr (by simp [andThen, d, a])
theorem andThen_assoc {α β γ : Type} (p : Rd α) (q : α → Rd β) (r : β → Rd γ) : andThen (andThen p q) r = andThen p fun a => andThen (q a) r := by
  funext l; simp only [andThen]; cases p l <;> rfl
theorem andThen_ret {α : Type} (p : Rd α) : andThen p ret = p := by
  funext l; simp only [andThen, ret]; cases p l <;> rfl
theorem ret_andThen {α β : Type} (a : α) (q : α → Rd β) : andThen (ret a) q = q a := rfl

/-- one more behind many -/
theorem many_snoc {α : Type} (p : Rd α) (n : Nat) : many p (n + 1) = andThen (many p n) fun l => andThen p fun a => ret (l ++ [a]) := by
  induction n with
  | zero => simp [many, ret_andThen]
  | succ n ih =>
    have e1 : many p (n + 1 + 1) = andThen p fun a => andThen (many p (n + 1)) fun l => ret (a :: l) := rfl
    have e2 : many p (n + 1) = andThen p fun a => andThen (many p n) fun l => ret (a :: l) := rfl
    conv => lhs; rw [e1, ih]
    conv => rhs; rw [e2]
    simp only [andThen_assoc, ret_andThen]
    rfl
theorem To.snoc {α : Type} {p : Rd α} {n : Nat} {f f' f'' : Bool} {l l' l'' : List UInt8} {vs : List α} {v : α} (h : To (many p n) f l vs f' l') (h' : To p f' l' v f'' l'') : To (many p (n + 1)) f l (vs ++ [v]) f'' l'' := by
  rw [many_snoc]; exact h.then (h'.then (.ret _ _ _))
/-- what went wrong stays so, however many are read -/
theorem To.many_bad {α : Type} {p : Rd α} {n m : Nat} {f : Bool} {l l' : List UInt8} {vs vs' : List α} (h : To (many p n) f l vs true l') (hm : n ≤ m) {l'' : List UInt8} : To (many p m) f l vs' true l'' := by
  refine ⟨fun e => by simp at e, fun _ => ?_⟩
  rcases h.2 rfl with a | a
  · exact .inl a
  · right
    induction m with
    | zero => have : n = 0 := by omega
              subst this; exact a
    | succ m ih =>
      by_cases e : n = m + 1
      · subst e; exact a
      · rw [many_snoc]; simp [andThen, ih (by omega)]
end Rd

/-- a number of bytes, the highest first -/
def accI (n c : Int) : Int := orI .i64 (IntKind.i64.wrap (n * 256)) c
def beI (l : List UInt8) : Int := l.foldl (fun n c => accI n (c.toNat : Nat)) 0
theorem beI_snoc (l : List UInt8) (c : UInt8) : beI (l ++ [c]) = accI (beI l) (c.toNat : Nat) := by simp [beI]
def Rd.number (n : Nat) : Rd Int := Rd.andThen (Rd.bytes n) fun b => Rd.ret (beI b)
def Rd.text : Rd (List UInt8) := Rd.andThen (Rd.number 1) fun n => Rd.bytes n.toNat
theorem Rd.bytes_succ (n : Nat) : Rd.bytes (n + 1) = Rd.andThen (Rd.bytes n) fun l => Rd.andThen (Rd.bytes 1) fun c => Rd.ret (l ++ c) := by
  funext l
  simp only [Rd.bytes, Rd.andThen, Rd.ret]
  by_cases h : n + 1 ≤ l.length
  · rw [if_pos h, if_pos (by omega)]
    simp only [List.length_drop]
    rw [if_pos (by omega), List.take_add, List.drop_drop]
  · rw [if_neg h]
    by_cases h2 : n ≤ l.length
    · rw [if_pos h2]
      simp only [List.length_drop]
      rw [if_neg (by omega)]
    · rw [if_neg h2]
theorem wrap_range (n : Int) : -9223372036854775808 ≤ IntKind.i64.wrap n ∧ IntKind.i64.wrap n < 9223372036854775808 := by
  unfold IntKind.wrap
  simp only [IntKind.signed, IntKind.bits, Bool.true_and, decide_eq_true_eq, show (2 : Int) ^ 64 = 18446744073709551616 from rfl, show (2 : Int) ^ (64 - 1) = 9223372036854775808 from rfl]
  split <;> omega
theorem accI_range (n c : Int) : -9223372036854775808 ≤ accI n c ∧ accI n c < 9223372036854775808 := wrap_range _
theorem beI_range (l : List UInt8) : -9223372036854775808 ≤ beI l ∧ beI l < 9223372036854775808 := by
  rcases List.eq_nil_or_concat l with rfl | ⟨l', c, rfl⟩
  · simp [beI]
  · rw [List.concat_eq_append, beI_snoc]; exact accI_range _ _
/-- the ors of numbers that share no bit -/
theorem or_low (a b : Nat) (ha : a < 256) (hb : b < 256) : orI .i64 ((a * 256 : Nat) : Int) (b : Int) = ((a * 256 + b : Nat) : Int) := by
  have h1 : (a * 256) ||| b = a * 256 + b := by
    have := Nat.two_pow_add_eq_or_of_lt (i := 8) (b := b) (by omega) a
    simpa [Nat.mul_comm] using this.symm
  unfold orI
  simp only [IntKind.bits]
  have e : (BitVec.ofInt 64 ((a * 256 : Nat) : Int) ||| BitVec.ofInt 64 (b : Int)).toNat = a * 256 + b := by
    rw [BitVec.toNat_or]
    simp only [BitVec.ofInt_natCast, BitVec.toNat_ofNat]
    rw [Nat.mod_eq_of_lt (by omega), Nat.mod_eq_of_lt (by omega), h1]
  show IntKind.i64.wrap (((BitVec.ofInt 64 ((a * 256 : Nat) : Int) ||| BitVec.ofInt 64 (b : Int)).toNat : Nat) : Int) = _
  rw [e, wrap64 (by omega)]
theorem accI_low (a b : Nat) (ha : a < 256) (hb : b < 256) : accI (a : Int) (b : Int) = ((a * 256 + b : Nat) : Int) := by
  unfold accI
  have : IntKind.i64.wrap ((a : Int) * 256) = ((a * 256 : Nat) : Int) := by rw [wrap64 (by omega)]; omega
  rw [this, or_low a b ha hb]
theorem byte_lt (c : UInt8) : c.toNat < 256 := c.toNat_lt
theorem beI_one (c : UInt8) : beI [c] = (c.toNat : Nat) := by
  have := accI_low 0 c.toNat (by omega) (byte_lt c)
  simpa [beI] using this
theorem beI_two (a b : UInt8) : beI [a, b] = ((a.toNat * 256 + b.toNat : Nat) : Int) := by
  have h1 : beI [a, b] = accI (beI [a]) (b.toNat : Nat) := rfl
  rw [h1, beI_one, accI_low _ _ (byte_lt a) (byte_lt b)]
theorem beI_le1 {l : List UInt8} (h : l.length ≤ 1) : 0 ≤ beI l ∧ beI l < 256 := by
  match l, h with
  | [], _ => simp [beI]
  | [c], _ => rw [beI_one]; have := byte_lt c; omega
theorem beI_le2 {l : List UInt8} (h : l.length ≤ 2) : 0 ≤ beI l ∧ beI l < 65536 := by
  match l, h with
  | [], _ => simp [beI]
  | [c], _ => rw [beI_one]; have := byte_lt c; omega
  | [a, b], _ => rw [beI_two]; have := byte_lt a; have := byte_lt b; omega
/-- one byte more -/
theorem Rd.To.number_succ {n : Nat} {f f' f'' : Bool} {l l' l'' : List UInt8} {v c : Int} (h : Rd.To (Rd.number n) f l v f' l') (h' : Rd.To (Rd.number 1) f' l' c f'' l'') : Rd.To (Rd.number (n + 1)) f l (accI v c) f'' l'' := by
  refine ⟨fun e => ?_, fun e => ?_⟩
  · obtain ⟨a, b⟩ := h'.1 e
    obtain ⟨c1, d⟩ := h.1 a
    refine ⟨c1, ?_⟩
    simp only [Rd.number, Rd.andThen, Rd.ret, Rd.bytes] at b d ⊢
    split at d
    · rename_i x y hx
      split at hx <;> simp at hx
      rename_i hn
      obtain ⟨rfl, rfl⟩ := hx
      simp at d
      obtain ⟨rfl, rfl⟩ := d
      split at b
      · rename_i x y hx
        split at hx <;> simp at hx
        rename_i h1
        obtain ⟨rfl, rfl⟩ := hx
        simp at b
        obtain ⟨rfl, rfl⟩ := b
        simp at h1
        rw [if_pos (by omega)]
        obtain ⟨c, r, hc⟩ : ∃ c r, l.drop n = c :: r := by
          cases hh : l.drop n with
          | nil => have := congrArg List.length hh; simp at this; omega
          | cons c r => exact ⟨c, r, rfl⟩
        have e1 : l.take (n + 1) = l.take n ++ [c] := by rw [List.take_add, hc]; rfl
        have e2 : l.drop (n + 1) = r := by rw [← List.drop_drop, hc]; rfl
        rw [e1, e2, hc]; simp [beI_snoc, beI_one]
      · simp at b
    · simp at d
  · rcases h'.2 e with a | a
    · rcases h.2 a with b | b
      · exact .inl b
      · right
        simp only [Rd.number, Rd.andThen, Rd.ret, Rd.bytes] at b ⊢
        split at b
        · simp at b
        · rename_i hx
          split at hx <;> simp at hx
          rw [if_neg (by omega)]
    · cases hf : f' with
      | true =>
        rcases h.2 hf with b | b
        · exact .inl b
        · right
          simp only [Rd.number, Rd.andThen, Rd.ret, Rd.bytes] at b ⊢
          split at b
          · simp at b
          · rename_i hx
            split at hx <;> simp at hx
            rw [if_neg (by omega)]
      | false =>
        obtain ⟨c1, d⟩ := h.1 hf
        right
        simp only [Rd.number, Rd.andThen, Rd.ret, Rd.bytes] at a d ⊢
        split at d
        · rename_i x y hx
          split at hx <;> simp at hx
          obtain ⟨rfl, rfl⟩ := hx
          simp at d
          obtain ⟨rfl, rfl⟩ := d
          split at a
          · simp at a
          · rename_i hx
            split at hx <;> simp at hx
            rename_i hn
            simp at hn
            rw [if_neg (by omega)]
        · simp at d


def placedM (op : Int) : Bool := decide (op = 3) || decide (op = 13)
def Rd.ins : Rd Ins :=
  .andThen (.number 1) fun op => .andThen (.number 8) fun a =>
    if placedM op then .andThen (.number 1) fun b => .andThen .text fun m => .andThen .text fun n => .ret ⟨op, a, b, m, n⟩
    else .ret ⟨op, a, 0, [], []⟩
def Rd.code : Rd Code :=
  .andThen .text fun name => .andThen (.number 1) fun params => .andThen (.number 2) fun cells => .andThen (.number 1) fun result =>
    .andThen (.number 2) fun k => .andThen (.many .ins k.toNat) fun l => .ret ⟨name, params, cells, result, l⟩
def Rd.need : Rd Need := .andThen .text fun m => .andThen (.number 8) fun p => .ret ⟨m, p⟩
def Rd.global : Rd Global := .andThen .text fun m => .andThen (.number 1) fun p => .ret ⟨m, p⟩
/-- behind the head -/
def Rd.object : Rd Object :=
  .andThen .text fun m => .andThen (.number 8) fun p => .andThen (.number 1) fun a => .andThen (.many .need a.toNat) fun needs =>
    .andThen (.number 1) fun b => .andThen (.many .global b.toNat) fun globals => .andThen (.number 1) fun c => .andThen (.many .code c.toNat) fun procs =>
      .ret ⟨m, p, needs, globals, procs⟩

end Go.Al
