/- Externs: strings.Fields, by the kit's contract. -/
import Derived.Test.YtpooknfdodimdaaGreatDoorSp7
import Derived.Shelf.Lay
import Derived.Shelf.Strings.Fields
set_option linter.unusedVariables false
set_option linter.unusedSimpArgs false
set_option maxRecDepth 100000
namespace Go.Proofs
open Go.Shelf
shelf_lay Lays.n157 Nm 157 at Tryz as Tryz.lays157
theorem Tryz.hi157 : (Tryz.prog.info? (Tryz.lays157_ren.t 9)).map (fun i => (i.zero, i.size, i.bytes)) = some (some (.string ByteArray.empty), 1, 16) := by kernel_rfl
theorem Tryz.hg157 : Tryz.prog.globalNamed "strings.asciiSpace" = some (Tryz.lays157_ren.g 0) := by kernel_rfl
theorem Tryz.hf157 : Tryz.lays157_ren.f 157 = Go.Al.N.strings_Fields := by kernel_rfl
end Go.Proofs
namespace Go.Al
open Go.Proofs
variable {G : Seal}

/-- the sealed memory holds the table of white space -/
def GTab (G : Seal) : Prop := ∀ w : World, (∀ b o v, G.cell b o = some v → w.cell? ⟨b, o, none⟩ = some v) → (∀ b s, G.shape b = some s → w.shape? b = some s) → Lib.TabIs PP w "strings.asciiSpace" .u8 Lib.asciiSpaceTab

theorem strings_Fields_c (hT : GTab G) (t : List UInt8) (hl : t.length < 4294967281) (ha : ∀ b ∈ t, b.toNat < 128) : PureF PP G N.strings_Fields [St (bs t)] (SLs (Lib.fields t)) := by
  refine ⟨by kernel_rfl, fun S w vs hG hI hR => ?_⟩
  have hv : vs = #[.string (bs t)] := by
    obtain ⟨h1, h2⟩ := hR
    have h3 := h2 0 (by simp)
    cases vs with | mk l =>
    match l, h1 with
    | [v], _ => have := Rel.sc_inv h3; simp at this; rw [this]
  subst hv
  have hc := Any.strings_Fields Tryz.lays157 Tryz.hi157 Tryz.hg157 (bs t) w (by simpa using hl) (fun j b hb => by rw [bs_data] at hb; exact ha b (List.mem_of_getElem? hb)) (hT w (fun b o v h => hI.cell _ _ _ (hG.cell _ _ _ h)) (fun b s h => hI.shape _ _ (hG.shape _ _ h)))
  rw [Tryz.hf157, bs_data] at hc
  refine hc.mono fun e w' ⟨he, hw⟩ => ?_
  subst he hw
  have hs := Step.new' hI (Tryz.lays157_ren.t 9) ((Lib.fields t).map fun l => Value.string ⟨l.toArray⟩).toArray
  refine ⟨_, SLs (Lib.fields t), _, .emp, rfl, hs, ?_, rfl, rfl⟩
  have := Rel.sl (S := S.add w.heap.size (Tryz.lays157_ren.t 9) ((Lib.fields t).map fun l => Value.string ⟨l.toArray⟩).toArray ((Lib.fields t).map fun l => Value.string ⟨l.toArray⟩).toArray.size) 1 ((Lib.fields t).map fun s => [St (bs s)]) (some ⟨w.heap.size, 0, none⟩) (Lib.fields t).length
    (fun i _ => .string (bs ((Lib.fields t).getD i []))) (by simp) (by simp) (by simp) (fun hne => ⟨w.heap.size, 0, rfl, fun i j hi hj => ?_⟩) (fun i j hi hj => ?_)
  · simpa using this
  · have hj0 : j = 0 := by omega
    subst hj0
    simp only [List.length_map] at hi
    simp [Seal.add, hi, bs, List.getD]
  · have hj0 : j = 0 := by omega
    subst hj0
    simp only [List.length_map] at hi
    simp [List.getD, hi]
    exact .sc _

end Go.Al
