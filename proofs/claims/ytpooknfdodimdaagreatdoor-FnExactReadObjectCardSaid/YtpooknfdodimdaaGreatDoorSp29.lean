/- The law of ReadObject (laws.FnExactReadObject) returns true at every argument and leaves the argument as it was: its row and its tied card, without a condition of their own (the row lists two package-level variables of Go's library, tied to the program's text by the card). -/
import Derived.Test.YtpooknfdodimdaaGreatDoorSp28
import Derived.Test.YtpooknfdodimdaaGreatDoorRows
import Derived.Test.YtpooknfdodimdaaGreatDoorCards
import Derived.Test.YtpooknfdodimdaaGreatDoorTie
import Derived.ProofKit
import Derived.LaidMore
import Derived.LaidLaws
import Derived.LaidHandle
import Derived.MakeChecks
import Derived.OpenShut
import Derived.Stop.Joined
import Derived.SevenTiedAt
import Derived.Lib.LaidTab
set_option linter.unusedVariables false
set_option linter.unusedSimpArgs false
set_option maxRecDepth 100000
namespace Go.Al

/-- all that lies there, sealed -/
def sealW (W : World) : Seal := ⟨fun b o => W.cell? ⟨b, o, none⟩, W.shape?⟩
theorem inv_sealW (W : World) : Inv (sealW W) .emp W := ⟨fun _ _ _ h => h, fun _ _ h => h, fun b lo cs h => by simp [AHeap.emp] at h, fun b es h => by simp [AHeap.emp] at h⟩

theorem pure_run {f : FuncId} {args : List AV} {r : AV} {W : World} {vs : Array Value} (h : PureF PP (sealW W) f args r) (hR : RelL (sealW W) args vs.toList) :
    Calls PP f vs W fun e W' => ∃ v S', e = .returned v ∧ Rel S' r v ∧ W'.os = W.os ∧ W'.output = W.output ∧ (∀ b, b < W.heap.size → W'.heap[b]? = W.heap[b]?) ∧ W.heap.size ≤ W'.heap.size :=
  (h.2 (sealW W) W vs (.refl _) (inv_sealW W) hR).mono fun e w' ⟨v, r', S', σ', he, hs, hr, h1, h2⟩ => ⟨v, S', he, h1 ▸ hr, hs.out.1, hs.out.2, fun b hb => hs.keep b hb rfl, hs.size⟩

theorem gtab_of {W : World} (h : Lib.TabIs PP W "strings.asciiSpace" .u8 Lib.asciiSpaceTab) : GTab (sealW W) := fun w hc hs => by
  unfold Lib.TabIs World.var? at h ⊢
  cases hg : PP.globalNamed "strings.asciiSpace" with
  | none => rw [hg] at h; simp at h
  | some g =>
    rw [hg] at h
    simp only [Option.bind_some] at h ⊢
    obtain ⟨cs, t, fr, hh⟩ : ∃ cs t fr, W.heap[g]? = some (.cells cs t fr) := by
      cases hh : W.heap[g]? with
      | none => simp [hh] at h
      | some o => cases o <;> simp [hh] at h; exact ⟨_, _, _, rfl⟩
    simp only [hh, Option.some.injEq] at h
    have h1 := hs g (t, cs.size) (by simp [sealW, World.shape?, hh])
    obtain ⟨cs', t', fr', hw⟩ : ∃ cs t fr, w.heap[g]? = some (.cells cs t fr) := by
      cases hw : w.heap[g]? with
      | none => simp [World.shape?, hw] at h1
      | some o => cases o <;> simp [World.shape?, hw] at h1; exact ⟨_, _, _, rfl⟩
    simp only [World.shape?, hw, Option.some.injEq, Prod.mk.injEq] at h1
    simp only [hw, Option.some.injEq]
    rw [← h]
    refine Array.ext h1.2 fun i hi hi2 => ?_
    have := hc g i cs[i] (by simp [sealW, World.cell?, hh, hi2])
    simp [World.cell?, hw, hi] at this
    exact this

theorem laidMet_tail {P : Program} {x : String × DataW Unit} {rest : List (String × DataW Unit)} {W : World} (h : laidMet P (x :: rest) W) : laidMet P rest W := by
  obtain ⟨ps, ⟨g, t, cs, f, p, q, _, _, _, _, hrest, rfl⟩, hn, hfz⟩ := h
  exact ⟨q, hrest, (List.nodup_append.1 hn).2.1, fun b off hm => hfz b off (List.mem_append_right _ hm)⟩

/-- a slice of bytes as data -/
def bytesOf (zs : List Int) : List UInt8 := zs.map fun z => UInt8.ofNat z.toNat
theorem byteOf_back {z : Int} (h : (Lit.int .u8 z).wf = true) : ((UInt8.ofNat z.toNat).toNat : Int) = z := by
  have := bounds_u8 h
  rw [UInt8.toNat_ofNat']
  omega
theorem rel_bytes {W : World} {a : Addr} {len cap : Nat} {zs : List Int} (hl : len ≤ cap) (hlz : len ≤ zs.length) (hcell : ∀ i, i < zs.length → W.cell? (a.add i) = some (.int .u8 (zs.getD i 0))) (hwz : ∀ n ∈ zs, (Lit.int .u8 n).wf = true) :
    Rel (sealW W) (.sl 1 ((bytesOf (zs.take len)).map bcell)) (.slice (some a) len cap) := by
  have hlen : ((bytesOf (zs.take len)).map bcell).length = len := by simp [bytesOf]; omega
  have key := Rel.sl (S := sealW W) 1 ((bytesOf (zs.take len)).map bcell) (some a) cap (fun i _ => .int .u8 (zs.getD i 0)) (by omega) (by simp) (by simp) (fun hne => ?_) (fun i j hi hj => ?_)
  · rw [hlen] at key; exact key
  · have hpos : 0 < len := by
      rw [← hlen]; exact List.length_pos_iff.2 hne
    obtain ⟨b, off, spot⟩ := a
    have hspot : spot = none := by simpa [Addr.add] using World.cell?_spot (hcell 0 (by omega))
    subst hspot
    refine ⟨b, off, rfl, fun i j hi hj => ?_⟩
    have := hcell i (by omega)
    show W.cell? ⟨b, off + (i * 1 + j), none⟩ = _
    rw [show off + (i * 1 + j) = off + i by omega]
    by_cases h0 : i = 0
    · subst h0; simpa [Addr.add] using this
    · simpa [Addr.add, h0] using this
  · have hj0 : j = 0 := by omega
    subst hj0
    rw [hlen] at hi
    have hi2 : i < zs.length := by omega
    have e1 : (((bytesOf (zs.take len)).map bcell).getD i []).getD 0 .un = U8 ((UInt8.ofNat (zs[i]).toNat).toNat : Nat) := by
      simp [bytesOf, List.getD, hi, hi2]
    have e2 : zs.getD i 0 = zs[i] := by simp [List.getD, hi2]
    rw [e1, e2, byteOf_back (hwz _ (List.getElem_mem _))]
    exact .sc _

theorem keptBut_same {W W' : World} {may : MemPlace → Prop} (h1 : W'.os = W.os) (h2 : W'.output = W.output) (h3 : ∀ b, b < W.heap.size → W'.heap[b]? = W.heap[b]?) : W.keptBut W' may := by
  refine ⟨h1, h2, fun i hi => ?_⟩
  rw [h3 i hi]
  cases W.heap[i]? with
  | none => rfl
  | some o => cases o <;> first | exact ⟨rfl, rfl, rfl, fun _ _ => rfl⟩ | exact .inr ⟨rfl, rfl⟩ | rfl
end Go.Al

namespace Go.Proofs.YtpooknfdodimdaaGreatDoor
open Go.ChangeShapes Go.WideShapes Go.ChangeAt Go.RowKit Go.Al

theorem own : ownKnob Tryz.prog.godebug = none := by kernel_rfl
abbrev laid2 : List (String × DataW Unit) := [("unicode.White_Space", Rows.laid_unicode_White_Space), ("strings.asciiSpace", Rows.laid_strings_asciiSpace)]
theorem tabLaid : (Rows.laid_strings_asciiSpace : DataW Unit) = Lib.tabData .u8 Lib.asciiSpaceTab := by kernel_rfl
theorem tab_of {W : World} (h : laidMetH Tryz.prog laid2 W) : Lib.TabIs Tryz.prog W "strings.asciiSpace" .u8 Lib.asciiSpaceTab := by
  rw [MakeChecks.laidMetH_plain _ _ _ (by kernel_rfl)] at h
  have h2 := laidMet_tail h
  rw [tabLaid] at h2
  exact Lib.tabIs_of_head (g := 0) (t := 110) (e := 5) (n := 256) (by kernel_rfl) (by kernel_rfl) (by kernel_rfl) (by kernel_rfl) (by kernel_rfl) (by kernel_rfl) h2

theorem door_met (os : Os) (args : Array Value) : laidMetH Tryz.prog laid2 ((World.doorLaid Tryz.prog 33 os).forCall (fun _ _ => 0) ⟨#[], args, []⟩).memory :=
  laidMetH_of_parts3 (fuel := 8) (laidMet_of_run' 8 (by kernel_rfl) (by kernel_rfl)) (by kernel_rfl) (by kernel_rfl)

theorem lifted (os : Os) (started : os.Started) (H : Type) (enc : TypeId × Value → H) :
    ReturnsInHanded {} Tryz.checked os 3 .any (fun w args => (Rows.fnExactReadObjectSpec.pre enc Tryz.prog Tryz.f3 [] false w args ∧ laidMetH Tryz.prog laid2 w) ∧ sizedMet enc Tryz.prog Tryz.f3 (OpenSpec.ofChange Rows.fnExactReadObjectSpec) false w args)
      (Rows.fnExactReadObjectSpec.post enc Tryz.prog Tryz.f3 false true false false) := by
  refine returnsInHanded_of_change_and (C := Tryz.checked) (X := fun w _ => laidMetH Tryz.prog laid2 w) (fun _ _ _ hh h => h.of_heap hh) own started (by kernel_rfl) Tryz.func3
    (ChangeSpec.witness_shaped (enc := enc) (C := Tryz.checked) (os := os) (X := fun w _ => laidMetH Tryz.prog laid2 w) false (World.doorLaid Tryz.prog 33 os) #[.slice none 0 0] 8 rfl (World.shaped_of_RefB (by kernel_rfl) (by kernel_rfl)) (by kernel_rfl) (by kernel_rfl) (by kernel_rfl) (door_met os _)) ?_
  intro W base args ds gs before hval0 hW _ _ hL _
  have hval : ∀ (j : Nat) t v, Tryz.f3.params[j]? = some t → args[j]? = some v → Value.okWide Tryz.prog W .any base t v := hval0
  have hW' := hW
  obtain ⟨p, q, hA0, hV, rfl, hfz, hnd⟩ := hW
  have hA : DataW.TrodAll enc Tryz.prog W 0 (fun _ => true) true Tryz.f3.params.toList args.toList ds p := hA0
  rw [Tryz.params3] at hA hval
  obtain ⟨v0, d0, rfl, rfl, ⟨fuel, h0⟩⟩ := trodAll_one hA
  obtain ⟨rfl, rfl⟩ := trodVars_none hV
  have hT : GTab (sealW W) := gtab_of (tab_of hL)
  obtain ⟨a0, len0, cap0, rfl⟩ := okWide_slice Tryz.underlying22 (hval 0 22 v0 rfl rfl)
  clear hA0 hval0
  simp only [List.append_nil] at hW'
  have c5 : Tryz.prog.cellsOf 5 = 1 := by kernel_rfl
  rcases open_ints Tryz.underlying22 Tryz.underlying5 c5 h0 with ⟨hcs, hx⟩ | ⟨a, len, cap, zs, hcs, _, hl, hm, hz, hx, hcell, hwz⟩
  · simp [Value.cells] at hcs
    obtain ⟨rfl, rfl, rfl⟩ := hcs
    simp only [Prod.mk.injEq] at hx
    obtain ⟨rfl, rfl⟩ := hx
    have hR : RelL (sealW W) [.sl 1 (([] : List UInt8).map bcell)] [Value.slice none 0 0] := ⟨rfl, fun j hj => match j, hj with
      | 0, _ => .sl 1 [] none 0 (fun _ _ => undef) (Nat.le_refl _) (by simp) (by simp) (fun h => absurd rfl h) (fun i j hi => by simp at hi)⟩
    refine (pure_run (vs := #[.slice none 0 0]) (laws_FnExactReadObject_c hT []) hR).mono fun e W' ⟨v, S', he, hr, h1, h2, h3, h4⟩ => ?_
    have hv := Rel.sc_inv hr
    subst he hv
    exact ⟨_, rfl, _, _, _, [], [], [], hW', trodAll_mk1 (shut_bool Tryz.underlying4 true), trodAll_mk1 (shut_slice_nil Tryz.underlying22), rfl, keptBut_same h1 h2 h3, fun h => by cases h⟩
  · simp [Value.cells] at hcs
    obtain ⟨rfl, rfl, rfl⟩ := hcs
    simp only [Prod.mk.injEq] at hx
    obtain ⟨rfl, rfl⟩ := hx
    simp only [if_true] at hz
    have hR : RelL (sealW W) [.sl 1 ((bytesOf (zs.take len0)).map bcell)] [Value.slice (some a) len0 cap0] := ⟨rfl, fun j hj => match j, hj with
      | 0, _ => rel_bytes hl (by omega) hcell hwz⟩
    refine (pure_run (vs := #[.slice (some a) len0 cap0]) (laws_FnExactReadObject_c hT (bytesOf (zs.take len0))) hR).mono fun e W' ⟨v, S', he, hr, h1, h2, h3, h4⟩ => ?_
    have hv := Rel.sc_inv hr
    subst he hv
    have hcell2 : ∀ i, i < zs.length → W'.cell? (a.add i) = some (.int .u8 (zs.getD i 0)) := fun i hi => by
      have hb : (a.add i).block < W.heap.size := World.block_lt_of_cell? _ _ (hcell i hi)
      have := hcell i hi
      unfold World.cell? at this ⊢
      rw [h3 _ hb]; exact this
    have hz2 : zs.length = if (fun b => decide (b < W.heap.size)) a.block then cap0 else len0 := by
      by_cases h0 : zs.length = 0
      · split <;> omega
      · have hb : (a.add 0).block < W.heap.size := World.block_lt_of_cell? _ _ (hcell 0 (by omega))
        have hb : a.block < W.heap.size := hb
        simp [hb, hz]
    have targ := shut_ints (enc := enc) (w := W') (base := 0) (spare := fun b => decide (b < W.heap.size)) (held := true) 0 Tryz.underlying22 Tryz.underlying5 c5 (Nat.zero_le _) hl hm hz2 hcell2 hwz
    exact ⟨_, rfl, _, _, _, [], _, [], hW', trodAll_mk1 (shut_bool Tryz.underlying4 true), trodAll_mk1 ⟨2, targ⟩, rfl, keptBut_same h1 h2 h3, fun h => by cases h⟩

theorem fnExactReadObject_holds : Rows.FnExactReadObjectSaid :=
  OpenClaim.holds_of_wide 3 Tryz.f3 rfl rfl rfl rfl rfl rfl rfl ⟨rfl, rfl, rfl, rfl, rfl⟩ rfl rfl rfl rfl rfl (by kernel_rfl) Tryz.func3 (by kernel_rfl)
    (of_decide_eq_true (by kernel_rfl)) (by unfold Func.isWrapper; rw [if_neg (of_decide_eq_false (by kernel_rfl))]; exact ⟨rfl, rfl⟩)
    (fun os started H enc _ => lifted os started H enc)

/-- THE TIED CARD -/
theorem fnExactReadObject_card : Rows.FnExactReadObjectCardSaid :=
  Claim7.holds_tied_plain_at .later [] [.listed, .data] true Rows.fnExactReadObjectCard.stood.harness false
    fnExactReadObject_holds (fun _ h => by cases h) (by kernel_rfl) (fun _ h => by cases h) fnExactReadObject_row_tie rfl ⟨rfl, rfl⟩ (by kernel_rfl) rfl
    (fun f fn hf hfn => by
      obtain rfl : f = 3 := Option.some.inj ((show Tryz.prog.funcNamed Rows.fnExactReadObjectRow.func = some 3 by kernel_rfl).symm.trans hf) |>.symm
      obtain rfl : fn = Tryz.f3 := (Option.some.inj (Tryz.func3.symm.trans hfn)).symm
      exact ⟨by kernel_rfl, fun j t ht => by
        rw [Tryz.params3] at ht
        have hm : t ∈ [22] := by simpa using Array.mem_of_getElem? ht
        have hall : ([22].all fun u => !Tryz.prog.wantsStandIn u) = true := by kernel_rfl
        exact (show Tryz.prog.wantsStandIn t = false by simpa using List.all_eq_true.1 hall t hm)⟩)
    (by kernel_rfl)
#print axioms fnExactReadObject_card
end Go.Proofs.YtpooknfdodimdaaGreatDoor
