/- Externs: slices.Sorted(slices.Values(list)), slices.Compact. (The proofs of the iterator and of AppendSeq are turned from the kit's worked proofs at two dumps.) -/
import Derived.Test.YtpooknfdodimdaaGreatDoorSp16
import Derived.Shelf.SlIter.Collect
import Derived.Shelf.SortM.Plain
import Derived.Shelf.SortM.SortNone
import Derived.Shelf.Slices.CompactS
import Derived.Sort.OwnSorted
import Derived.RangeFuncBox
import Derived.RangeFuncLeaves
import Derived.Ground.GgzProg
import Derived.Ground.SlgmProg
import Derived.WalkKit
import Derived.OwnWalkIn
import Derived.TacticsInMore
import Derived.LoopNIn
import Derived.LoopIn
set_option linter.unusedVariables false
set_option linter.unusedSimpArgs false
set_option maxRecDepth 100000
set_option maxHeartbeats 4000000
namespace Go.Proofs
open Go.RowKit Go.Maps Go.Sort Go.Shelf

attribute [local go_sem] Oper.semAt_some

def Tryz.laysAp_ren : Go.Shelf.Ren := ⟨fun | 11 => 94 | n => n, fun | 24 => 75 | 26 => 9 | 28 => 91 | 0 => 0 | 33 => 73 | 4 => 4 | n => n, fun | n => n⟩
theorem Tryz.laysAp : Go.Proofs.SlLaysZ.n11 Tryz.prog Tryz.laysAp_ren := {
  mixed := by kernel_rfl
  f11 := ⟨Tryz.f94.name, by decide, Tryz.func94.trans (congrArg some (by kernel_rfl))⟩
  t0 := Tryz.underlying0
  a0 := Tryz.isAgg0
  z0 := Tryz.sizeOf0
  v0 := Tryz.zeroValue0
  t24 := Tryz.underlying75
  a24 := Tryz.isAgg75
  z24 := Tryz.sizeOf75
  v24 := Tryz.zeroValue75
  t26 := Tryz.underlying9
  a26 := Tryz.isAgg9
  z26 := Tryz.sizeOf9
  v26 := Tryz.zeroValue9
  t28 := Tryz.underlying91
  a28 := Tryz.isAgg91
  z28 := Tryz.sizeOf91
  v28 := Tryz.zeroValue91
  i26 := by kernel_rfl }
def Tryz.lays194_ren : Go.Shelf.Ren := ⟨fun | 194 => 61 | n => n, fun | 31 => 75 | 9 => 9 | 3 => 3 | 4 => 4 | 0 => 0 | n => n, fun | n => n⟩
theorem Tryz.lays194 : Go.Proofs.Lays.n194 Tryz.prog Tryz.lays194_ren := {
  mixed := by kernel_rfl
  f194 := Tryz.func61.trans (congrArg some (by kernel_rfl))
  t0 := Tryz.underlying0
  a0 := Tryz.isAgg0
  z0 := Tryz.sizeOf0
  v0 := Tryz.zeroValue0
  t3 := Tryz.underlying3
  a3 := Tryz.isAgg3
  z3 := Tryz.sizeOf3
  v3 := Tryz.zeroValue3
  t4 := Tryz.underlying4
  a4 := Tryz.isAgg4
  z4 := Tryz.sizeOf4
  v4 := Tryz.zeroValue4
  t9 := Tryz.underlying9
  a9 := Tryz.isAgg9
  z9 := Tryz.sizeOf9
  v9 := Tryz.zeroValue9
  t31 := Tryz.underlying75
  a31 := Tryz.isAgg75
  z31 := Tryz.sizeOf75
  v31 := Tryz.zeroValue75 }
def Tryz.mSort_ren : Go.Shelf.Ren := ⟨fun | 6 => 80 | 8 => 96 | 9 => 95 | 19 => 112 | 20 => 113 | 21 => 103 | 22 => 104 | 23 => 105 | 24 => 106 | 25 => 107 | 26 => 108 | 27 => 109 | 28 => 110 | 29 => 111 | 36 => 117 | 31 => 118 | 32 => 119 | 37 => 120 | 38 => 121 | 39 => 122 | 41 => 125 | n => n, fun | 27 => 75 | 29 => 9 | 3 => 3 | 32 => 72 | 26 => 75 | 0 => 0 | 44 => 126 | 46 => 128 | 4 => 4 | 36 => 118 | 35 => 117 | 41 => 123 | 5 => 5 | 9 => 9 | 53 => 138 | 57 => 142 | 63 => 155 | 64 => 77 | n => n, fun | n => n⟩
theorem Tryz.mSort : Go.Proofs.SlLaysM.n6 Tryz.prog Tryz.mSort_ren := {
  mixed := by kernel_rfl
  f6 := ⟨Tryz.f80.name, by decide, Tryz.func80.trans (congrArg some (by kernel_rfl))⟩
  f8 := Tryz.func96.trans (congrArg some (by kernel_rfl))
  f9 := ⟨Tryz.f95.name, by decide, Tryz.func95.trans (congrArg some (by kernel_rfl))⟩
  f19 := Tryz.func112.trans (congrArg some (by kernel_rfl))
  f20 := Tryz.func113.trans (congrArg some (by kernel_rfl))
  f21 := ⟨Tryz.f103.name, by decide, Tryz.func103.trans (congrArg some (by kernel_rfl))⟩
  f22 := ⟨Tryz.f104.name, by decide, Tryz.func104.trans (congrArg some (by kernel_rfl))⟩
  f23 := ⟨Tryz.f105.name, by decide, Tryz.func105.trans (congrArg some (by kernel_rfl))⟩
  f24 := ⟨Tryz.f106.name, by decide, Tryz.func106.trans (congrArg some (by kernel_rfl))⟩
  f25 := ⟨Tryz.f107.name, by decide, Tryz.func107.trans (congrArg some (by kernel_rfl))⟩
  f26 := ⟨Tryz.f108.name, by decide, Tryz.func108.trans (congrArg some (by kernel_rfl))⟩
  f27 := ⟨Tryz.f109.name, by decide, Tryz.func109.trans (congrArg some (by kernel_rfl))⟩
  f28 := ⟨Tryz.f110.name, by decide, Tryz.func110.trans (congrArg some (by kernel_rfl))⟩
  f29 := ⟨Tryz.f111.name, by decide, Tryz.func111.trans (congrArg some (by kernel_rfl))⟩
  f31 := Tryz.func118.trans (congrArg some (by kernel_rfl))
  f32 := Tryz.func119.trans (congrArg some (by kernel_rfl))
  f36 := ⟨Tryz.f117.name, by decide, Tryz.func117.trans (congrArg some (by kernel_rfl))⟩
  f37 := ⟨Tryz.f120.name, by decide, Tryz.func120.trans (congrArg some (by kernel_rfl))⟩
  f38 := ⟨Tryz.f121.name, by decide, Tryz.func121.trans (congrArg some (by kernel_rfl))⟩
  f39 := ⟨Tryz.f122.name, by decide, Tryz.func122.trans (congrArg some (by kernel_rfl))⟩
  f41 := ⟨Tryz.f125.name, by decide, Tryz.func125.trans (congrArg some (by kernel_rfl))⟩
  t0 := Tryz.underlying0
  a0 := Tryz.isAgg0
  z0 := Tryz.sizeOf0
  v0 := Tryz.zeroValue0
  t3 := Tryz.underlying3
  a3 := Tryz.isAgg3
  z3 := Tryz.sizeOf3
  v3 := Tryz.zeroValue3
  t4 := Tryz.underlying4
  a4 := Tryz.isAgg4
  z4 := Tryz.sizeOf4
  v4 := Tryz.zeroValue4
  t5 := Tryz.underlying5
  a5 := Tryz.isAgg5
  z5 := Tryz.sizeOf5
  v5 := Tryz.zeroValue5
  t9 := Tryz.underlying9
  a9 := Tryz.isAgg9
  z9 := Tryz.sizeOf9
  v9 := Tryz.zeroValue9
  t26 := Tryz.underlying75
  a26 := Tryz.isAgg75
  z26 := Tryz.sizeOf75
  v26 := Tryz.zeroValue75
  t27 := Tryz.underlying75
  a27 := Tryz.isAgg75
  z27 := Tryz.sizeOf75
  v27 := Tryz.zeroValue75
  t29 := Tryz.underlying9
  a29 := Tryz.isAgg9
  z29 := Tryz.sizeOf9
  v29 := Tryz.zeroValue9
  t32 := Tryz.underlying72
  a32 := Tryz.isAgg72
  z32 := Tryz.sizeOf72
  v32 := Tryz.zeroValue72
  t35 := Tryz.underlying117
  a35 := Tryz.isAgg117
  z35 := Tryz.sizeOf117
  v35 := Tryz.zeroValue117
  t36 := Tryz.underlying118
  a36 := Tryz.isAgg118
  z36 := Tryz.sizeOf118
  v36 := Tryz.zeroValue118
  t41 := Tryz.underlying123
  a41 := Tryz.isAgg123
  z41 := Tryz.sizeOf123
  v41 := Tryz.zeroValue123
  t44 := Tryz.underlying126
  a44 := Tryz.isAgg126
  z44 := Tryz.sizeOf126
  v44 := Tryz.zeroValue126
  t46 := Tryz.underlying128
  a46 := Tryz.isAgg128
  z46 := Tryz.sizeOf128
  v46 := Tryz.zeroValue128
  t53 := Tryz.underlying138
  a53 := Tryz.isAgg138
  z53 := Tryz.sizeOf138
  v53 := Tryz.zeroValue138
  t57 := Tryz.underlying142
  a57 := Tryz.isAgg142
  z57 := Tryz.sizeOf142
  v57 := Tryz.zeroValue142
  t63 := Tryz.underlying155
  a63 := Tryz.isAgg155
  z63 := Tryz.sizeOf155
  v63 := Tryz.zeroValue155
  t64 := Tryz.underlying77
  a64 := Tryz.isAgg77
  z64 := Tryz.sizeOf77
  v64 := Tryz.zeroValue77 }

/-- slices.Values's closure over a slice of texts, at rounds that keep what lay below n₀ -/
theorem Tryz.values1 (F : Fence) (n : Nat) (h7 : F.fn 81) (hro : F.round = none) (hn : 1 ≤ n) (l Bs ob b off len cap : Nat) (zs : List (List UInt8)) (hl : zs.length = len) (hreach : len * 16 ≤ 140737488351232) (J : List (List UInt8) → World → Prop)
    (hY : ∀ pre x W, J pre W → pre.length < len → YieldAt F (n - 1) Tryz.prog l #[encStr x] W fun e W' => e = .returned (.bool true) ∧ J (pre ++ [x]) W')
    (W : World) (hBs : W.cell? ⟨Bs, ob, none⟩ = some (.slice (some ⟨b, off, none⟩) len cap)) (hc : ∀ s W, J s W → ∀ j, j < len → W.cell? ⟨b, off + j, none⟩ = some (encStr (zs[j]?.getD []))) (h0 : J [] W) :
    CallsIn F n Tryz.prog 81 #[.func (.yield l) #[] #[], .pointer (some ⟨Bs, ob, none⟩)] W fun e W' => (∃ v, e = .returned v) ∧ J zs W' := by
  refine callsIn_of_wp Tryz.func81 rfl h7 ?_ hro
  simp only [Tryz.ntmps81, List.size_toArray, List.length_cons, List.length_nil, Nat.reduceAdd, Nat.reduceSub, Array.replicate_succ, Array.replicate_zero, List.push_toArray, List.append_toArray, List.nil_append, List.cons_append]
  gi_wp2
  gi_loopw [7] (fun i wr => ∃ k : Nat, k ≤ len ∧ i = .int .i64 k ∧ J (zs.take k) wr)
    (fun i _ => len - (intOf i).toNat)
  case atStart => exact ⟨0, Nat.zero_le _, rfl, h0⟩
  case round =>
    obtain ⟨k, hk, rfl, hJs⟩ := hrel
    have hcx : k < len → wr.cell? ⟨b, off + k, none⟩ = some (encStr (zs[k]?.getD [])) := fun h => hc _ _ hJs k h
    by_cases hlt : k < len
    · have hkz : k < zs.length := by omega
      obtain ⟨fn, tmps, assign, body, hy, hR⟩ := hY _ (zs[k]) wr hJs (by rw [List.length_take]; omega)
      have hcx' := hcx hlt
      rw [List.getElem?_eq_getElem hkz, Option.getD_some] at hcx'
      clear hcx
      gi_wp2
      refine hR.mono ?_
      rintro e W3 ⟨rfl, hJ3⟩
      gi_wp2
      go_roundw
      case rel =>
        refine ⟨k + 1, by omega, by simp, ?_⟩
        rw [List.take_add_one, List.getElem?_eq_getElem hkz]
        exact hJ3
      case measure => simp [intOf]; omega
    · obtain rfl : k = len := by omega
      gi_wp2
      go_end0
      rw [← hl, List.take_length] at hJs
      exact ⟨⟨_, rfl⟩, hJs⟩

/-- .. over a slice of length 0 -/
theorem Tryz.values0 (F : Fence) (n : Nat) (h7 : F.fn 81) (hro : F.round = none) (l Bs ob cap : Nat) (a : Option Addr) (J : List (List UInt8) → World → Prop) (W : World) (hBs : W.cell? ⟨Bs, ob, none⟩ = some (.slice a 0 cap)) (h0 : J [] W) :
    CallsIn F n Tryz.prog 81 #[.func (.yield l) #[] #[], .pointer (some ⟨Bs, ob, none⟩)] W fun e W' => (∃ v, e = .returned v) ∧ J [] W' := by
  refine callsIn_of_wp Tryz.func81 rfl h7 ?_ hro
  simp only [Tryz.ntmps81, List.size_toArray, List.length_cons, List.length_nil, Nat.reduceAdd, Nat.reduceSub, Array.replicate_succ, Array.replicate_zero, List.push_toArray, List.append_toArray, List.nil_append, List.cons_append]
  gi_wp2
  gi_loopw [7] (fun i wr => i = .int .i64 0 ∧ J [] wr) (fun _ _ => 0)
  case atStart => exact ⟨rfl, h0⟩
  case round =>
    obtain ⟨rfl, hJs⟩ := hrel
    gi_wp2
    go_end0
    exact ⟨⟨_, rfl⟩, hJs⟩

/-- slices.AppendSeq(nil, seq), against an iterator that gives zs to rounds that keep what lay before the call -/
theorem Tryz.appendSeq (F : Fence) (n : Nat) (h11 : F.fn 94) (hro : F.round = none) (hn : 2 ≤ n) (g : Nat) (lb : Array Value) (hFg : F.fn g) (eg : ∀ args w, (callFunc g args).run Tryz.prog w = .ok (.enter g args) w)
    (zs : List (List UInt8)) (hN : zs.length ≤ maxLen) (hNb : zs.length * 16 ≤ 140737488355328) (w : World)
    (hseq : ∀ (l : Nat) (J : List (List UInt8) → World → Prop) (W : World), Below w.heap.size w W → (∀ s W, J s W → Below w.heap.size w W) →
      (∀ pre x W, J pre W → pre.length < zs.length → YieldAt F (n - 1 - 1) Tryz.prog l #[encStr x] W fun e W' => e = .returned (.bool true) ∧ J (pre ++ [x]) W') → J [] W →
      CallsIn F (n - 1) Tryz.prog g (#[.func (.yield l) #[] #[]] ++ lb) W fun e W' => (∃ v, e = .returned v) ∧ J zs W') :
    CallsIn F n Tryz.prog 94 #[.slice none 0 0, .func (.func g) #[] lb] w fun e w' => ∃ (v : Value), e = .returned v ∧ w'.ownsRow w.heap.size 9 1 v zs.length (zs.map encStr) ∧ (v = .slice none 0 0 ↔ zs = []) ∧ Below w.heap.size w w' := by
  have h1 : 1 ≤ n := by omega
  refine callsIn_of_wp_marks Tryz.func94 rfl h11 ?_ hro
  simp only [Tryz.ntmps94, List.size_toArray, List.length_cons, List.length_nil, Nat.reduceAdd, Nat.reduceSub, Array.replicate_succ, Array.replicate_zero, List.push_toArray, List.append_toArray, List.nil_append, List.cons_append]
  gi_wp2
  refine wpIn_rangeFunc ?_
  intro fn hfn
  rw [hro]
  obtain ⟨W0, hW0⟩ : ∃ W0, w.alloc (.cells #[.slice none 0 0] 75) = W0 := ⟨_, rfl⟩
  have hs0 : W0.heap.size = w.heap.size + 1 := by rw [← hW0]; simp
  have hv0 : W0.heap[w.heap.size]? = some (.cells #[.slice none 0 0] 75 (0, 0)) := by rw [← hW0]; exact World.alloc_heap_new w _
  have hb0 : Below w.heap.size w W0 := by rw [← hW0]; exact (Below.refl _ w).alloc (Nat.le_refl _) _
  rw [hW0]
  obtain ⟨W1, hW1⟩ : ∃ W1, (W0.alloc (.deferred (some []))).alloc (.loop (AnyZ.apRec Tryz.laysAp_ren fn (.func (.func g) #[] lb) w.heap.size W0.heap.size .ready none)) = W1 := ⟨_, rfl⟩
  have hold : ∀ k, k < W0.heap.size → W1.heap[k]? = W0.heap[k]? := fun k hk => by
    rw [← hW1]; exact (Below.heap_alloc _ _ k (by simp; omega)).trans (Below.heap_alloc _ _ k hk)
  have hb1 : Below w.heap.size w W1 := by rw [← hW1]; exact (hb0.alloc hb0.size _).alloc (by have := hb0.size; simp; omega) _
  have hs1 : W1.heap.size = W0.heap.size + 2 := by rw [← hW1]; simp
  have hM : AnyZ.ApAt Tryz.laysAp_ren w fn (.func (.func g) #[] lb) w.heap.size (W0.heap.size + 1) W0.heap.size [] W1 :=
    ⟨⟨_, (hold w.heap.size (by omega)).trans hv0, ⟨rfl, .inl ⟨rfl, rfl⟩⟩, by simp⟩,
     by rw [← hW1]; have := World.alloc_heap_new (W0.alloc (.deferred (some []))) (.loop (AnyZ.apRec Tryz.laysAp_ren fn (.func (.func g) #[] lb) w.heap.size W0.heap.size .ready none)); rwa [World.size_alloc] at this,
     by rw [← hW1]; exact (Below.heap_alloc _ _ _ (by simp)).trans (World.alloc_heap_new W0 _), hb1⟩
  refine ⟨W0.heap.size + 1, [{ target := .collected W0.heap.size, args := #[] }], W1, { target := .fn (.func g) lb, args := #[.func (.yield (W0.heap.size + 1)) #[] #[]] }, W1, g,
    #[.func (.yield (W0.heap.size + 1)) #[] #[]] ++ lb, W1, ?_, ?_, ?_, ?_, fun _ => h1, ?_⟩
  · rw [← hW1]; exact run_enterLoop_outer _ _ _ _ _
  · simp [resolve, go_sem]
  · intro f' hf'; simp [Target.leads] at hf'; subst hf'; exact hFg
  · simp [invoke, go_sem, eg]
  · refine (hseq (W0.heap.size + 1) (AnyZ.ApAt Tryz.laysAp_ren w fn (.func (.func g) #[] lb) w.heap.size (W0.heap.size + 1) W0.heap.size) W1 hb1 (fun _ _ h => h.below)
      (fun pre x W hJ hl => by
        obtain ⟨a1, a2, a3, a4, a5, a6⟩ := AnyZ.apYield Tryz.laysAp F (n - 1 - 1) w fn hfn (.func (.func g) #[] lb) w.heap.size (W0.heap.size + 1) W0.heap.size (by omega) (by omega) (by omega) (Nat.le_refl _) (by omega) zs.length hN hNb pre x W hJ hl
        exact ⟨a1, a2, a3, a4, a5, a6.mono fun e W' ⟨a, b, _⟩ => ⟨a, b⟩⟩) hM).mono ?_
    rintro e W2 ⟨⟨v0, rfl⟩, h2⟩
    obtain ⟨v, hv, hrow, hnil⟩ := h2.box
    have hend := run_endLoop (P := Tryz.prog) h2.L (by simp [AnyZ.apRec])
    obtain ⟨W3, hW3⟩ : ∃ W3, W2.putObj (W0.heap.size + 1) (.loop { AnyZ.apRec Tryz.laysAp_ren fn (.func (.func g) #[] lb) w.heap.size W0.heap.size .ready none with state := .exhausted }) = W3 := ⟨_, rfl⟩
    rw [hW3] at hend
    have hg3 : W2.grownBy W3 (some (W0.heap.size + 1)) := by rw [← hW3]; exact grownBy_putObj_a _ _ _
    have hv3 : W3.heap[w.heap.size]? = some (.cells #[v] 75 (0, 0)) := by rw [← hW3]; exact (World.putObj_heap_other (by omega)).trans hv
    have hK3 : W3.heap[W0.heap.size]? = some (.deferred (some [])) := by rw [← hW3]; exact (World.putObj_heap_other (by omega)).trans h2.K
    have hrow : W2.ownsRow w.heap.size 9 1 v zs.length (zs.map encStr) := hrow
    have hrow3 := hrow.kept hg3 (ownsRow_ne_a hrow h2.L (fun cur e => by cases e))
    have hb3 : Below w.heap.size w W3 := h2.below.grown hg3 h2.below.size (fun k e => by cases e; omega)
    obtain ⟨hc3, hf3⟩ := cell_of_box_a hv3
    clear hW3
    refine ⟨none, W3, hend, ?_⟩
    gi_wp2
    rw [← hs0]
    refine ⟨by simp, .inl ⟨_, _, rfl, run_takeDeferred hK3, ?_⟩⟩
    exact ⟨_, results_tmp rfl _ _ _, v, rfl, hrow3.kept (grownBy_putObj_a _ _ _) (ownsRow_ne_a hrow3 hK3 (fun cur e => by cases e)), hnil, hb3.grown (grownBy_putObj_a _ _ _) hb3.size (fun k e => by cases e; omega)⟩

/-- slices.Collect, against such an iterator -/
theorem Tryz.collect (F : Fence) (n : Nat) (h8 : F.fn 79) (h11 : F.fn 94) (hro : F.round = none) (hn : 3 ≤ n) (g : Nat) (lb : Array Value) (hFg : F.fn g) (eg : ∀ args w, (callFunc g args).run Tryz.prog w = .ok (.enter g args) w)
    (zs : List (List UInt8)) (hN : zs.length ≤ maxLen) (hNb : zs.length * 16 ≤ 140737488355328) (w : World)
    (hseq : ∀ (l : Nat) (J : List (List UInt8) → World → Prop) (W : World), Below w.heap.size w W → (∀ s W, J s W → Below w.heap.size w W) →
      (∀ pre x W, J pre W → pre.length < zs.length → YieldAt F (n - 1 - 1 - 1) Tryz.prog l #[encStr x] W fun e W' => e = .returned (.bool true) ∧ J (pre ++ [x]) W') → J [] W →
      CallsIn F (n - 1 - 1) Tryz.prog g (#[.func (.yield l) #[] #[]] ++ lb) W fun e W' => (∃ v, e = .returned v) ∧ J zs W') :
    CallsIn F n Tryz.prog 79 #[.func (.func g) #[] lb] w fun e w' => ∃ (v : Value), e = .returned v ∧ w'.ownsRow w.heap.size 9 1 v zs.length (zs.map encStr) ∧ (v = .slice none 0 0 ↔ zs = []) ∧ Below w.heap.size w w' := by
  have h1 : 1 ≤ n := by omega
  refine callsIn_of_wp Tryz.func79 rfl h8 ?_ hro
  simp only [Tryz.ntmps79, List.size_toArray, List.length_cons, List.length_nil, Nat.reduceAdd, Nat.reduceSub, Array.replicate_succ, Array.replicate_zero, List.push_toArray, List.append_toArray, List.nil_append, List.cons_append]
  gi_wp2_with (gi_at_call 94; refine (Tryz.appendSeq F (n - 1) h11 hro (by omega) g lb hFg eg zs hN hNb _ hseq).mono ?_; rintro e w' ⟨v, rfl, hrow, hnil, hb⟩)
  go_ret
  exact ⟨v, rfl, hrow, hnil, hb⟩

end Go.Proofs
namespace Go.Al
open Go.Proofs Go.RowKit Go.Sort
variable {G : Seal} {σ : AHeap} {K : KAV}

/-- an owned block is written anew, new blocks come -/
theorem Step.rewrite {S : Seal} {σ : AHeap} {w w' : World} (hI : Inv S σ w) {b : Nat} {cs : List AV} (hb : σ b = some (.cells 0 cs)) (hsz : w.heap.size ≤ w'.heap.size) (hk : ∀ k, k < w.heap.size → k ≠ b → w'.heap[k]? = w.heap[k]?)
    (hsh : w'.shape? b = w.shape? b) (hfz : ∀ j, w'.frozen? ⟨b, j, none⟩ = w.frozen? ⟨b, j, none⟩) (cs' : List AV) (hl : cs'.length ≤ cs.length)
    (hr : ∀ i, i < cs'.length → ∃ v, w'.cell? ⟨b, i, none⟩ = some v ∧ Rel S (cs'.getD i .un) v) (ho : w'.os = w.os ∧ w'.output = w.output) : Step S σ w S (σ.ins b (.cells 0 cs')) w' := by
  obtain ⟨e1, n1, h1, h2, h3, h4, h5⟩ := hI.own b 0 cs hb
  refine ⟨.refl S, ⟨fun c o v h => ?_, fun c s h => ?_, fun c l x h => ?_, fun c es h => ?_⟩, fun c hc hno => ?_, fun c hc => ?_, hsz, fun c o v h => .inl h, ho⟩
  · have hc : c ≠ b := fun e => by subst e; rw [h3 o (Nat.zero_le _)] at h; simp at h
    have := hI.cell _ _ _ h
    unfold World.cell? at this ⊢
    rw [hk c (lt_of_cell? (hI.cell _ _ _ h)) hc]; exact this
  · by_cases hc : c = b
    · subst hc; rw [hsh]; exact hI.shape _ _ h
    · have := hI.shape _ _ h
      unfold World.shape? at this ⊢
      rw [hk c (lt_of_shape? (hI.shape _ _ h)) hc]; exact this
  · by_cases hc : c = b
    · subst hc
      rw [AHeap.ins_self] at h
      simp only [Option.some.injEq, ABlk.cells.injEq] at h
      obtain ⟨rfl, rfl⟩ := h
      exact ⟨e1, n1, h1, by omega, h3, fun j hj => by rw [hfz]; exact h4 j hj, fun i hi => by rw [Nat.zero_add]; exact hr i hi⟩
    · rw [AHeap.ins_ne _ _ hc] at h
      have hlt := hI.lt_own h
      obtain ⟨e2, n2, g1, g2, g3, g4, g5⟩ := hI.own c l x h
      refine ⟨e2, n2, g1, g2, g3, fun j hj => ?_, fun i hi => ?_⟩
      · have := g4 j hj; unfold World.frozen? at this ⊢; rw [hk c hlt hc]; exact this
      · obtain ⟨v, hv, hR⟩ := g5 i hi
        exact ⟨v, by unfold World.cell? at hv ⊢; rw [hk c hlt hc]; exact hv, hR⟩
  · have hc : c ≠ b := fun e => by subst e; simp at h
    rw [AHeap.ins_ne _ _ hc] at h
    obtain ⟨ents, clock, g1, g2, g3⟩ := hI.map c es h
    exact ⟨ents, clock, by rw [hk c (hI.lt_own h) hc]; exact g1, g2, g3⟩
  · exact hk c hc (fun e => by subst e; rw [hb] at hno; simp at hno)
  · by_cases h : c = b
    · subst h; exact .inl (by simp [hb])
    · rw [AHeap.ins_ne _ _ h] at hc; exact .inl hc

/-- one new block is known, nothing that lay has turned -/
theorem Step.fresh {S : Seal} {w w' : World} (hI : Inv S .emp w) {g : Nat} {e : TypeId} {cur : Array Value} (hB : Below w.heap.size w w') (hg : w.heap.size ≤ g) (hblk : w'.heap[g]? = some (.cells cur e (0, 0))) (cs : List AV) (hl : cs.length ≤ cur.size)
    (hr : ∀ i, i < cs.length → Rel S (cs.getD i .un) (cur.getD i undef)) : Step S .emp w ⟨S.cell, fun b => if b = g then some (e, cur.size) else S.shape b⟩ (AHeap.emp.ins g (.cells 0 cs)) w' := by
  have hcell : ∀ c o v, S.cell c o = some v → c ≠ g := fun c o v h e => by have := lt_of_cell? (hI.cell _ _ _ h); simp at this; omega
  have hshp : ∀ c s, S.shape c = some s → c ≠ g := fun c s h e => by have := lt_of_shape? (hI.shape _ _ h); omega
  have hle : S.le ⟨S.cell, fun b => if b = g then some (e, cur.size) else S.shape b⟩ := ⟨fun _ _ _ h => h, fun c s h => by simp only; rw [if_neg (hshp c s h)]; exact h⟩
  refine ⟨hle, ⟨fun c o v h => ?_, fun c s h => ?_, fun c l x h => ?_, fun c es h => ?_⟩, fun c hc _ => hB.block c hc, fun c hc => ?_, hB.size, fun c o v h => .inl h, hB.os, hB.output⟩
  · have := hI.cell _ _ _ h
    unfold World.cell? at this ⊢
    rw [hB.block c (lt_of_cell? (hI.cell _ _ _ h))]; exact this
  · simp only at h
    by_cases hc : c = g
    · subst hc
      rw [if_pos rfl] at h
      simp only [Option.some.injEq] at h
      subst h
      simp [World.shape?, hblk]
    · rw [if_neg hc] at h
      have := hI.shape _ _ h
      unfold World.shape? at this ⊢
      rw [hB.block c (lt_of_shape? (hI.shape _ _ h))]; exact this
  · by_cases hc : c = g
    · subst hc
      rw [AHeap.ins_self] at h
      simp only [Option.some.injEq, ABlk.cells.injEq] at h
      obtain ⟨rfl, rfl⟩ := h
      refine ⟨e, cur.size, by simp, by omega, fun j _ => ?_, fun j _ => ?_, fun i hi => ⟨cur.getD i undef, ?_, (hr i hi).mono hle⟩⟩
      · cases hx : S.cell c j with
        | none => rfl
        | some v => exact absurd rfl (hcell _ _ _ hx)
      · simp [World.frozen?, hblk]
      · rw [Nat.zero_add]
        have : i < cur.size := by omega
        simp [World.cell?, hblk, this]
    · rw [AHeap.ins_ne _ _ hc] at h; simp [AHeap.emp] at h
  · by_cases hc : c = g
    · subst hc; simp at h
    · rw [AHeap.ins_ne _ _ hc] at h; simp [AHeap.emp] at h
  · by_cases h : c = g
    · subst h; exact .inr hg
    · rw [AHeap.ins_ne _ _ h] at hc; exact absurd rfl hc

theorem Step.below {S : Seal} {w w' : World} (hI : Inv S .emp w) (hB : Below w.heap.size w w') : Step S .emp w S .emp w' := by
  refine ⟨.refl S, ⟨fun c o v h => ?_, fun c s h => ?_, fun c l x h => by simp [AHeap.emp] at h, fun c es h => by simp [AHeap.emp] at h⟩, fun c hc _ => hB.block c hc, fun c hc => absurd rfl hc, hB.size, fun c o v h => .inl h, hB.os, hB.output⟩
  · have := hI.cell _ _ _ h
    unfold World.cell? at this ⊢
    rw [hB.block c (lt_of_cell? (hI.cell _ _ _ h))]; exact this
  · have := hI.shape _ _ h
    unfold World.shape? at this ⊢
    rw [hB.block c (lt_of_shape? (hI.shape _ _ h))]; exact this

abbrev tcell (s : List UInt8) : AV := St (bs s)

theorem slices_Collect_c (l : List (List UInt8)) (hl : l.length * 16 ≤ 140737488351232) : ACalls PP G N.slices_Collect_string [.fn (.func N.slices_Values_string_string_1) [] [.rp [SLs l] 0]] .emp fun r τ =>
    (l = [] ∧ r = .nl ∧ τ = .emp) ∨ (l ≠ [] ∧ ∃ b, r = .ar b 1 0 l.length ∧ τ = AHeap.emp.ins b (.cells 0 (l.map tcell))) := by
  refine ⟨by kernel_rfl, fun S w vs hG hI hR => ?_⟩
  obtain ⟨hlen, hrel⟩ := hR
  have h0 := hrel 0 (by simp)
  cases vs with | mk vl =>
  match vl, hlen with
  | [v], _ =>
    simp only [List.getD_cons_zero] at h0
    cases h0 with
    | fn _ _ _ vf vc hf hc hrf hrc =>
      have hvf : vf = #[] := Array.eq_empty_of_size_eq_zero (by simpa using hf)
      subst hvf
      obtain ⟨p, rfl⟩ : ∃ p, vc = #[p] := by
        cases vc with | mk vl =>
        match vl, hc with
        | [p], _ => exact ⟨p, rfl⟩
      have hrp := hrc 0 (by simp)
      simp at hrp
      cases hrp with
      | rp _ _ b o val hs hr =>
        have hs0 := hs 0 (by simp)
        have hr0 := hr 0 (by simp)
        simp only [List.getD_cons_zero, Nat.add_zero] at hs0 hr0 ⊢
        generalize hsv : val 0 = sv at hs0 hr0
        have hcellB := hI.cell _ _ _ hs0
        have hltB := lt_of_cell? hcellB
        simp only at hltB
        have hl' : (l.map fun s => [St (bs s)]).length = l.length := by simp
        have key : Calls PP N.slices_Collect_string #[.func (.func N.slices_Values_string_string_1) #[] #[.pointer (some ⟨b, o, none⟩)]] w fun e w' => ∃ (v : Value), e = .returned v ∧ w'.ownsRow w.heap.size 9 1 v l.length (l.map encStr) ∧ (v = .slice none 0 0 ↔ l = []) ∧ Below w.heap.size w w' := by
          refine (callsIn_wide (n := 6)).1 ?_
          refine Tryz.collect Fence.wide 6 trivial trivial rfl (by omega) N.slices_Values_string_string_1 #[.pointer (some ⟨b, o, none⟩)] trivial (enters_of Tryz.func81 (by kernel_rfl) rfl) l (by unfold maxLen; omega) (by omega) w ?_
          intro lp J W hB hJ hY h0
          have hBs : W.cell? ⟨b, o, none⟩ = some sv := (hB.cell (p := ⟨b, o, none⟩) hltB).trans hcellB
          cases hr0 with
          | sl _ _ a cap val2 hcap hz h1 hs2 hr2 =>
            rw [hl'] at hBs
            by_cases hne : l = []
            · subst hne
              exact Tryz.values0 Fence.wide 4 trivial rfl lp b o cap a J W hBs h0
            · obtain ⟨b2, o2, rfl, hcells⟩ := hs2 (by simpa using hne)
              refine Tryz.values1 Fence.wide 4 trivial rfl (by omega) lp b o b2 o2 l.length cap l rfl (by omega) J hY W hBs (fun s W' hs' j hj => ?_) h0
              have hc := hcells j 0 (by simpa using hj) (by omega)
              have hv := hr2 j 0 (by simpa using hj) (by omega)
              simp only [Nat.mul_one, Nat.add_zero] at hc
              have hw := hI.cell _ _ _ hc
              have hlt2 := lt_of_cell? hw
              rw [((hJ s W' hs').cell (p := ⟨b2, o2 + j, none⟩) hlt2).trans hw]
              have he : ((l.map fun s => [St (bs s)]).getD j []).getD 0 .un = St (bs l[j]) := by simp [List.getD, hj]
              rw [he] at hv
              rw [Rel.sc_inv hv]
              simp [List.getElem?_eq_getElem hj, bs, encStr]
        refine key.mono fun e w' ⟨v, he, hrow, hnil, hB⟩ => ?_
        subst he
        by_cases hne : l = []
        · refine ⟨v, .nl, S, .emp, rfl, Step.below hI hB, ?_, .inl ⟨hne, rfl, rfl⟩⟩
          rw [hnil.2 hne]; exact .nl none
        · rcases hrow.2 with ⟨rfl, h0⟩ | ⟨g, cp, cur, rfl, hbase, hgb, r1, r2, r3, r4⟩
          · exact absurd (List.length_eq_zero_iff.1 h0) hne
          · have hst := Step.fresh hI hB hbase hgb (l.map tcell) (by simp; omega) (fun i hi => by
              simp at hi
              have e1 : (l.map tcell).getD i .un = tcell l[i] := by simp [List.getD, hi]
              have e2 : cur.getD i undef = encStr l[i] := by
                have h3 := congrArg (fun x => x[i]?) r4
                simp only [List.getElem?_map, List.getElem?_eq_getElem hi, Option.map_some, Nat.mul_one] at h3
                rw [List.getElem?_take, if_pos hi] at h3
                rw [agetD, List.getD_eq_getElem?_getD, h3]; rfl
              rw [e1, e2]
              exact .sc _)
            refine ⟨_, .ar g 1 0 l.length, _, _, rfl, hst, .ar g 1 0 l.length cp _ 9 cur.size (by simp) r1 (by omega) (fun _ => rfl), .inr ⟨hne, g, rfl, rfl⟩⟩

theorem holds_own {S : Seal} {w : World} (hI : Inv S σ w) {b : Nat} {l : List (List UInt8)} (hb : σ b = some (.cells 0 (l.map tcell))) : Holds encStr w b 0 l.toArray := by
  obtain ⟨e1, n1, h1, h2, h3, h4, h5⟩ := hI.own b 0 _ hb
  intro j hj
  have hj' : j < l.length := by simpa using hj
  obtain ⟨v, hv, hR⟩ := h5 j (by simpa using hj')
  have he : (l.map tcell).getD j .un = St (bs l[j]) := by simp [List.getD, hj']
  rw [he] at hR
  rw [Rel.sc_inv hR] at hv
  refine ⟨?_, by rw [Nat.zero_add]; exact h4 j (Nat.zero_le _)⟩
  rw [hv]
  simp [hj', bs]

/-- what a row of texts is behind a rewriting by the kit's words -/
theorem step_putRow {S : Seal} {w : World} (hI : Inv S σ w) {b : Nat} {l l' : List (List UInt8)} (hb : σ b = some (.cells 0 (l.map tcell))) (hl : l'.length = l.length) (n : Nat) (os : Array Obj) :
    Step S σ w S (σ.ins b (.cells 0 (l'.map tcell))) (grow (putRow encStr (Sort.ahead w n) b 0 l'.toArray) os) := by
  have hlt := hI.lt_own hb
  obtain ⟨e1, n1, h1, h2, h3, h4, h5⟩ := hI.own b 0 _ hb
  have hH := holds_own hI hb
  have hsh := hI.shape _ _ h1
  obtain ⟨cur, fr, hcur⟩ : ∃ cur fr, w.heap[b]? = some (.cells cur e1 fr) := by
    unfold World.shape? at hsh
    cases hh : w.heap[b]? with
    | none => simp [hh] at hsh
    | some o =>
      cases o <;> simp [hh] at hsh
      obtain ⟨rfl, _⟩ := hsh
      exact ⟨_, _, rfl⟩
  have hs := heap_sorted (n := n) (os := os) l'.toArray hcur
  refine Step.rewrite hI hb (by simp) (fun k hk hne => (grownBy_sorted (n := n) (os := os) l'.toArray).block k hk (fun e => hne (by simpa using e))) ?_ (fun j => ?_) _ (by simp [hl]) (fun i hi => ?_) ⟨(grownBy_sorted (n := n) (os := os) l'.toArray).os, (grownBy_sorted (n := n) (os := os) l'.toArray).output⟩
  · simp [World.shape?, hs, hcur, putCells]
  · simp [World.frozen?, hs, hcur]
  · simp only [List.length_map] at hi
    refine ⟨encStr l'[i], ?_, ?_⟩
    · have := cell?_putRow encStr (Sort.ahead w n) b 0 l.toArray l'.toArray hH (by simp [hl]) i (by simpa using hi)
      rw [cell?_grow _ _ _ (by simpa using hlt)]
      rw [Nat.zero_add] at this
      rw [this]
      simp [hi]
    · have he : (l'.map tcell).getD i .un = St (bs l'[i]) := by simp [List.getD, hi]
      rw [he]
      exact .sc _

theorem slices_Sort_c {b : Nat} {l : List (List UInt8)} (hne : l ≠ []) (hl : l.length < 2 ^ 60) (hb : σ b = some (.cells 0 (l.map tcell))) (hk : K (.tu []) (σ.ins b (.cells 0 ((l.mergeSort fun x y => decide (x ≤ y)).map tcell)))) :
    ACalls PP G N.slices_Sort_string_string [.ar b 1 0 l.length] σ K := by
  refine ⟨by kernel_rfl, fun S w vs hG hI hR => ?_⟩
  obtain ⟨hlen, hrel⟩ := hR
  have h0 := hrel 0 (by simp)
  cases vs with | mk vl =>
  match vl, hlen with
  | [v], _ =>
    simp only [List.getD_cons_zero] at h0
    cases h0 with
    | ar _ _ _ _ cap a e n hsh hc hn ha =>
      have hpos : 0 < l.length := List.length_pos_iff.2 hne
      have haa := ha (by omega)
      subst haa
      refine (AnyM.slices_Sort_string Tryz.mSort b 0 cap l w (holds_own hI hb) (hI.lt_own hb) (by omega)).mono fun e w' ⟨he, m, os, hw⟩ => ?_
      subst he hw
      refine ⟨_, .tu [], S, _, rfl, step_putRow hI hb (by simp [List.length_mergeSort]) m os, .tu [] #[] rfl (fun j hj => by simp at hj), hk⟩

theorem slices_Sort_nil_c (hk : K (.tu []) σ) : ACalls PP G N.slices_Sort_string_string [.nl] σ K := by
  refine ⟨by kernel_rfl, fun S w vs hG hI hR => ?_⟩
  obtain ⟨hlen, hrel⟩ := hR
  have h0 := hrel 0 (by simp)
  cases vs with | mk vl =>
  match vl, hlen with
  | [v], _ =>
    simp only [List.getD_cons_zero] at h0
    cases h0 with
    | nl a =>
      refine (AnyM.slices_Sort_string_none Tryz.mSort a 0 w).mono fun e w' ⟨he, hw⟩ => ?_
      subst he hw
      exact ⟨_, .tu [], S, _, rfl, .refl hI, .tu [] #[] rfl (fun j hj => by simp at hj), hk⟩

theorem slices_Sorted_c (l : List (List UInt8)) (hl : l.length * 16 ≤ 140737488351232) : ACalls PP G N.slices_Sorted_string [.fn (.func N.slices_Values_string_string_1) [] [.rp [SLs l] 0]] .emp fun r τ =>
    (l = [] ∧ r = .nl ∧ τ = .emp) ∨ (l ≠ [] ∧ ∃ b, r = .ar b 1 0 l.length ∧ τ = AHeap.emp.ins b (.cells 0 ((l.mergeSort fun x y => decide (x ≤ y)).map tcell))) := F.slices_Sorted_string_ok (by
  unfold F.slices_Sorted_string
  refine (slices_Collect_c l hl).mono fun r τ h => ?_
  rcases h with ⟨h1, rfl, rfl⟩ | ⟨h1, b, rfl, rfl⟩
  · exact slices_Sort_nil_c (Fin.mk (.inl ⟨h1, rfl, rfl⟩))
  · refine slices_Sort_c h1 (by omega) (AHeap.ins_self _ _ _) ?_
    rw [AHeap.ins_ins]
    exact Fin.mk (.inr ⟨h1, b, rfl, rfl⟩))

theorem slices_Compact_c {b : Nat} {l : List (List UInt8)} (hne : l ≠ []) (hl : l.length < 2 ^ 60) (hb : σ b = some (.cells 0 (l.map tcell))) (hk : K (.ar b 1 0 (Lib.compact l).length) (σ.ins b (.cells 0 []))) :
    ACalls PP G N.slices_Compact_string_string [.ar b 1 0 l.length] σ K := by
  refine ⟨by kernel_rfl, fun S w vs hG hI hR => ?_⟩
  obtain ⟨hlen, hrel⟩ := hR
  have h0 := hrel 0 (by simp)
  cases vs with | mk vl =>
  match vl, hlen with
  | [v], _ =>
    simp only [List.getD_cons_zero] at h0
    cases h0 with
    | ar _ _ _ _ cap a e n hsh hc hn ha =>
      have hpos : 0 < l.length := List.length_pos_iff.2 hne
      have haa := ha (by omega)
      subst haa
      have hcl : (Lib.compact l).length ≤ l.length := by
        simp only [Lib.compact, Lib.compactUpTo, List.length_map]
        exact Nat.le_trans (List.length_filter_le _ _) (by simp)
      refine (Any.slices_Compact_string Tryz.lays194 b 0 cap l w (holds_own hI hb) (by omega) hc).mono fun e w' ⟨he, q, hw⟩ => ?_
      subst he
      have hst := step_putRow hI hb (l' := Lib.compact l ++ List.replicate (l.length - (Lib.compact l).length) []) (by simp; omega) q #[]
      rw [grow_empty] at hst
      have hdrop : Step S (σ.ins b (.cells 0 ((Lib.compact l ++ List.replicate (l.length - (Lib.compact l).length) []).map tcell))) w' S (σ.ins b (.cells 0 [])) w' := by
        rw [hw]
        have := Step.rewrite hst.inv (AHeap.ins_self _ _ _) (Nat.le_refl _) (fun _ _ _ => rfl) rfl (fun _ => rfl) [] (Nat.zero_le _) (fun i hi => by simp at hi) ⟨rfl, rfl⟩
        rwa [AHeap.ins_ins] at this
      rw [hw] at hdrop ⊢
      exact ⟨_, .ar b 1 0 (Lib.compact l).length, S, _, rfl, hst.trans hdrop, .ar b 1 0 _ cap _ _ n hsh (by omega) hn (fun _ => rfl), hk⟩

theorem slices_Compact_nil_c (hk : K .nl σ) : ACalls PP G N.slices_Compact_string_string [.nl] σ K := by
  refine ⟨by kernel_rfl, fun S w vs hG hI hR => ?_⟩
  obtain ⟨hlen, hrel⟩ := hR
  have h0 := hrel 0 (by simp)
  cases vs with | mk vl =>
  match vl, hlen with
  | [v], _ =>
    simp only [List.getD_cons_zero] at h0
    cases h0 with
    | nl a =>
      refine (Any.slices_Compact_string_empty Tryz.lays194 a 0 w).mono fun e w' ⟨he, hw⟩ => ?_
      subst he hw
      exact ⟨_, .nl, S, _, rfl, .refl hI, .nl a, hk⟩

theorem compact_len {l : List (List UInt8)} : decide ((Lib.compact (l.mergeSort fun x y => decide (x ≤ y))).length = l.length) = decide l.Nodup := by
  have hp := List.mergeSort_perm l (fun x y => decide (x ≤ y))
  have hs : (l.mergeSort fun x y => decide (x ≤ y)).Pairwise (fun x y => decide (x ≤ y) = true) := List.pairwise_mergeSort (fun a b c h1 h2 => by simp at *; exact List.le_trans h1 h2) (fun a b => by simp; exact List.le_total a b) l
  generalize hse : (l.mergeSort fun x y => decide (x ≤ y)) = s at *
  rw [← hp.length_eq]
  have hnd : l.Nodup ↔ s.Nodup := hp.nodup_iff.symm
  rw [decide_eq_decide, hnd]
  rw [List.pairwise_iff_getElem] at hs
  constructor
  · intro h
    have hk : ∀ j, j < s.length → Lib.keeps s.toArray j = true := by
      simp only [Lib.compact, Lib.compactUpTo, List.length_map] at h
      have h2 : ((List.range s.length).filter (Lib.keeps s.toArray)).length = (List.range s.length).length := by rw [h]; simp
      rw [List.length_filter_eq_length_iff] at h2
      intro j hj
      exact h2 j (by simpa using hj)
    rw [List.nodup_iff_pairwise_ne, List.pairwise_iff_getElem]
    intro i j hi hj hij he
    have h1 := hk (i + 1) (by omega)
    have hi1 : i + 1 < s.length := by omega
    simp only [Lib.keeps, Nat.add_sub_cancel] at h1
    have e1 : s.toArray[i + 1]! = s[i + 1] := by simp [hi1]
    have e2 : s.toArray[i]! = s[i] := by simp [hi]
    rw [e1, e2] at h1
    simp at h1
    refine h1 (List.le_antisymm ?_ ?_)
    · by_cases hjj : i + 1 = j
      · subst hjj; rw [he]; exact List.le_refl _
      · have := hs (i + 1) j hi1 hj (by omega)
        rw [he]
        simpa using this
    · simpa using hs i (i + 1) hi hi1 (by omega)
  · intro h
    rw [Lib.compact_all s (fun j hj => by
      simp only [Lib.keeps]
      by_cases h0 : j = 0
      · simp [h0]
      · have e1 : s.toArray[j]! = s[j] := by simp [hj]
        have hj1 : j - 1 < s.length := by omega
        have e2 : s.toArray[j - 1]! = s[j - 1] := by simp [hj1]
        rw [e1, e2]
        rw [List.nodup_iff_pairwise_ne, List.pairwise_iff_getElem] at h
        have := h (j - 1) j hj1 hj (by omega)
        simp only [decide_eq_true_eq]
        exact .inr fun e => this e.symm)]

theorem impl_areDifferent_c (l : List (List UInt8)) (hl : l.length * 16 ≤ 140737488351232) : PureF PP G N.impl_areDifferent [SLs l] (Bo (decide l.Nodup)) := F.impl_areDifferent_ok (by
  unfold F.impl_areDifferent
  have hv : ACalls PP G N.slices_Values_string_string [SLs l] .emp fun r τ => ∃ b, r = .fn (.func N.slices_Values_string_string_1) [] [.pt b 0] ∧ τ = AHeap.emp.ins b (.cells 0 [SLs l]) := F.slices_Values_string_string_ok (by
    unfold F.slices_Values_string_string
    refine s_box1 rfl fun b hb => ?_
    refine s_mkfn ?_
    exact Fin.mk ⟨b, rfl, rfl⟩)
  refine hv.mono ?_
  rintro r τ ⟨b, rfl, rfl⟩
  refine ACalls.give .emp (AHeap.emp.ins b (.cells 0 [SLs l])) (slices_Sorted_c l hl) (AHeap.emp_le _) (AHeap.le.refl _) (.emp_left _) (.cons (.fn _ [] [] _ _ rfl (by simp) rfl fun j hj => ?_) .nil) ?_
  · have : j = 0 := by simpa using hj
    subst this
    exact .pt b 0 [SLs l] [SLs l] (AHeap.ins_self _ _ _) (by simp) fun j hj => .refl _
  rw [← compact_len]
  rintro r τ (⟨h1, rfl, rfl⟩ | ⟨h1, b2, rfl, rfl⟩) _
  · refine slices_Compact_nil_c ?_
    subst h1
    repeat' first
      | (with_reducible first | refine s_join ?_ | refine s_ift ?_ | refine s_iff ?_ | refine s_igtt ?_ | refine s_igtf ?_ | refine s_igft ?_ | refine s_igff ?_ | refine s_igu ?_ | refine s_pt ?_ | refine s_pf ?_ | refine s_nott ?_ | refine s_notf ?_ | refine s_not ?_ | refine s_lslm ?_ | refine s_lsl ?_ | refine s_lgl ?_ | refine s_lnl ?_ | refine s_lar ?_ | refine s_lst ?_ | refine s_ncp ?_ | refine s_ncr ?_ | refine s_ncf ?_ | refine s_fap ?_ | refine s_far ?_ | refine s_mkfn ?_ | refine s_cvc ?_ | refine s_cvi ?_ | refine s_cvb ?_ | refine s_or ?_ | refine s_and ?_ | refine s_xor ?_ | refine s_andnot ?_)
      | (with_reducible first | refine BIN_eql_b (fun h => ?_) (fun h => ?_) | refine BIN_neq_b (fun h => ?_) (fun h => ?_) | refine BIN_lss_b (fun h => ?_) (fun h => ?_) | refine BIN_leq_b (fun h => ?_) (fun h => ?_) | refine BIN_gtr_b (fun h => ?_) (fun h => ?_) | refine BIN_geq_b (fun h => ?_) (fun h => ?_) | refine BIN_seql_b (fun h => ?_) (fun h => ?_) | refine BIN_sneq_b (fun h => ?_) (fun h => ?_) | refine s_ldr rfl ?_ | refine s_tup rfl ?_ | refine s_ifb (fun h => ?_) (fun h => ?_) | refine s_shl (by decide) ?_ | refine s_shr (by decide) ?_ | refine s_add (wrap64 (by omega)) ?_ | refine s_sub (wrap64 (by omega)) ?_ | refine s_ixn (by omega) ?_ | refine s_ix0 (by omega) ?_ | refine s_iam (by omega) ?_)
      | refine s_boxag rfl rfl (fun b hb => ?_)
      | (with_reducible first | refine s_ldp (AHeap.ins_self _ _ _) rfl ?_ | refine s_ldp (ins_prev (by assumption)) rfl ?_ | refine s_ldp (by assumption) rfl ?_ | refine s_ldp (ins_old (by assumption) (by assumption)) rfl ?_ | refine s_ldp (ins_other (by assumption) (by assumption)) rfl ?_ | refine s_ldpa (ins_old (by assumption) (by assumption)) rfl ?_ | refine s_ldpa (ins_other (by assumption) (by assumption)) rfl ?_ | refine s_ldpa (by assumption) rfl ?_ | refine s_ldpa (ins_prev (by assumption)) rfl ?_ | refine s_ldpa (AHeap.ins_self _ _ _) rfl ?_ | refine s_st1 (by assumption) rfl (by simp) ?_ | refine s_st1 (AHeap.ins_self _ _ _) rfl (by simp) ?_ | refine s_st1 (ins_prev (by assumption)) rfl (by simp) ?_ | refine s_sta (by assumption) rfl rfl rfl ?_ | refine s_sta (AHeap.ins_self _ _ _) rfl rfl rfl ?_ | refine s_field1 rfl ?_ | refine s_cuts (by omega) (by omega) (by omega) ?_ | refine s_cuts_lo (by omega) (by omega) ?_ | refine s_cuts_hi (by omega) (by omega) ?_)
      | refine ⟨by first | exact s_ldp (AHeap.ins_self _ _ _) rfl s_same | exact s_ldp (ins_prev (by assumption)) rfl s_same | exact s_ldp (by assumption) rfl s_same | exact s_ldr rfl s_same, ?_⟩
      | (with_reducible first | refine s_bneq_tt u_bool ?_ | refine s_bneq_tf u_bool ?_ | refine s_bneq_ft u_bool ?_ | refine s_bneq_ff u_bool ?_ | refine s_beql_tt u_bool ?_ | refine s_beql_tf u_bool ?_ | refine s_beql_ft u_bool ?_ | refine s_beql_ff u_bool ?_)
      | simp only [nth_zero, nth_succ, Nat.zero_add, Nat.reduceAdd, List.length_map, AHeap.ins_ins]
    · refine Fin.eqv ?_
      have : Lib.compact ([] : List (List UInt8)) = [] := rfl
      simp [this]
    · exfalso; rename_i h; simp at h
  · have hml : (l.mergeSort fun x y => decide (x ≤ y)).length = l.length := List.length_mergeSort l
    rw [← hml]
    refine slices_Compact_c (fun e => h1 (by have := congrArg List.length e; rw [hml] at this; exact List.length_eq_zero_iff.1 this)) (by omega) (AHeap.ins_self _ _ _) ?_
    repeat' first
      | (with_reducible first | refine s_join ?_ | refine s_ift ?_ | refine s_iff ?_ | refine s_igtt ?_ | refine s_igtf ?_ | refine s_igft ?_ | refine s_igff ?_ | refine s_igu ?_ | refine s_pt ?_ | refine s_pf ?_ | refine s_nott ?_ | refine s_notf ?_ | refine s_not ?_ | refine s_lslm ?_ | refine s_lsl ?_ | refine s_lgl ?_ | refine s_lnl ?_ | refine s_lar ?_ | refine s_lst ?_ | refine s_ncp ?_ | refine s_ncr ?_ | refine s_ncf ?_ | refine s_fap ?_ | refine s_far ?_ | refine s_mkfn ?_ | refine s_cvc ?_ | refine s_cvi ?_ | refine s_cvb ?_ | refine s_or ?_ | refine s_and ?_ | refine s_xor ?_ | refine s_andnot ?_)
      | (with_reducible first | refine BIN_eql_b (fun h => ?_) (fun h => ?_) | refine BIN_neq_b (fun h => ?_) (fun h => ?_) | refine BIN_lss_b (fun h => ?_) (fun h => ?_) | refine BIN_leq_b (fun h => ?_) (fun h => ?_) | refine BIN_gtr_b (fun h => ?_) (fun h => ?_) | refine BIN_geq_b (fun h => ?_) (fun h => ?_) | refine BIN_seql_b (fun h => ?_) (fun h => ?_) | refine BIN_sneq_b (fun h => ?_) (fun h => ?_) | refine s_ldr rfl ?_ | refine s_tup rfl ?_ | refine s_ifb (fun h => ?_) (fun h => ?_) | refine s_shl (by decide) ?_ | refine s_shr (by decide) ?_ | refine s_add (wrap64 (by omega)) ?_ | refine s_sub (wrap64 (by omega)) ?_ | refine s_ixn (by omega) ?_ | refine s_ix0 (by omega) ?_ | refine s_iam (by omega) ?_)
      | refine s_boxag rfl rfl (fun b hb => ?_)
      | (with_reducible first | refine s_ldp (AHeap.ins_self _ _ _) rfl ?_ | refine s_ldp (ins_prev (by assumption)) rfl ?_ | refine s_ldp (by assumption) rfl ?_ | refine s_ldp (ins_old (by assumption) (by assumption)) rfl ?_ | refine s_ldp (ins_other (by assumption) (by assumption)) rfl ?_ | refine s_ldpa (ins_old (by assumption) (by assumption)) rfl ?_ | refine s_ldpa (ins_other (by assumption) (by assumption)) rfl ?_ | refine s_ldpa (by assumption) rfl ?_ | refine s_ldpa (ins_prev (by assumption)) rfl ?_ | refine s_ldpa (AHeap.ins_self _ _ _) rfl ?_ | refine s_st1 (by assumption) rfl (by simp) ?_ | refine s_st1 (AHeap.ins_self _ _ _) rfl (by simp) ?_ | refine s_st1 (ins_prev (by assumption)) rfl (by simp) ?_ | refine s_sta (by assumption) rfl rfl rfl ?_ | refine s_sta (AHeap.ins_self _ _ _) rfl rfl rfl ?_ | refine s_field1 rfl ?_ | refine s_cuts (by omega) (by omega) (by omega) ?_ | refine s_cuts_lo (by omega) (by omega) ?_ | refine s_cuts_hi (by omega) (by omega) ?_)
      | refine ⟨by first | exact s_ldp (AHeap.ins_self _ _ _) rfl s_same | exact s_ldp (ins_prev (by assumption)) rfl s_same | exact s_ldp (by assumption) rfl s_same | exact s_ldr rfl s_same, ?_⟩
      | (with_reducible first | refine s_bneq_tt u_bool ?_ | refine s_bneq_tf u_bool ?_ | refine s_bneq_ft u_bool ?_ | refine s_bneq_ff u_bool ?_ | refine s_beql_tt u_bool ?_ | refine s_beql_tf u_bool ?_ | refine s_beql_ft u_bool ?_ | refine s_beql_ff u_bool ?_)
      | simp only [nth_zero, nth_succ, Nat.zero_add, Nat.reduceAdd, List.length_map, AHeap.ins_ins]
    · refine Fin.eqv ?_
      rw [decide_eq_true (by omega)]
    · refine Fin.eqv ?_
      rw [decide_eq_false (by omega)])

end Go.Al
