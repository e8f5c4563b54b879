/- Externs: strings.Fields, by the kit's contract. -/
import Derived.Test.YtpooknfdodimdaaGreatDoorSp7
import Derived.Shelf.Strings.Fields
set_option linter.unusedVariables false
set_option linter.unusedSimpArgs false
set_option maxRecDepth 100000
namespace Go.Proofs
open Go.Shelf
def Tryz.lays157_ren : Go.Shelf.Ren := ⟨fun | 157 => 89 | 229 => 98 | 199 => 99 | 261 => 114 | 311 => 123 | 312 => 124 | n => n, fun | 9 => 9 | 31 => 75 | 3 => 3 | 5 => 5 | 4 => 4 | 119 => 110 | 0 => 0 | 40 => 112 | 152 => 129 | 21 => 21 | 154 => 131 | 51 => 126 | 141 => 133 | 196 => 147 | 193 => 144 | 198 => 150 | 49 => 148 | 194 => 145 | 201 => 153 | 226 => 157 | 46 => 72 | 227 => 158 | n => n, fun | 0 => 0 | 6 => 1 | n => n⟩
theorem Tryz.lays157 : Go.Proofs.Lays.n157 Tryz.prog Tryz.lays157_ren := {
  mixed := by kernel_rfl
  f157 := Tryz.func89.trans (congrArg some (by kernel_rfl))
  f199 := Tryz.func99.trans (congrArg some (by kernel_rfl))
  f229 := Tryz.func98.trans (congrArg some (by kernel_rfl))
  f261 := Tryz.func114.trans (congrArg some (by kernel_rfl))
  f311 := Tryz.func123.trans (congrArg some (by kernel_rfl))
  f312 := Tryz.func124.trans (congrArg some (by kernel_rfl))
  t0 := Tryz.underlying0
  a0 := Tryz.isAgg0
  z0 := Tryz.sizeOf0
  v0 := Tryz.zeroValue0
  t3 := Tryz.underlying3
  a3 := Tryz.isAgg3
  z3 := Tryz.sizeOf3
  v3 := Tryz.zeroValue3
  t4 := Tryz.underlying4
  a4 := Tryz.isAgg4
  z4 := Tryz.sizeOf4
  v4 := Tryz.zeroValue4
  t5 := Tryz.underlying5
  a5 := Tryz.isAgg5
  z5 := Tryz.sizeOf5
  v5 := Tryz.zeroValue5
  t9 := Tryz.underlying9
  a9 := Tryz.isAgg9
  z9 := Tryz.sizeOf9
  v9 := Tryz.zeroValue9
  t21 := Tryz.underlying21
  a21 := Tryz.isAgg21
  z21 := Tryz.sizeOf21
  v21 := Tryz.zeroValue21
  t31 := Tryz.underlying75
  a31 := Tryz.isAgg75
  z31 := Tryz.sizeOf75
  v31 := Tryz.zeroValue75
  t40 := Tryz.underlying112
  a40 := Tryz.isAgg112
  z40 := Tryz.sizeOf112
  v40 := Tryz.zeroValue112
  t46 := Tryz.underlying72
  a46 := Tryz.isAgg72
  z46 := Tryz.sizeOf72
  v46 := Tryz.zeroValue72
  t49 := Tryz.underlying148
  a49 := Tryz.isAgg148
  z49 := Tryz.sizeOf148
  v49 := Tryz.zeroValue148
  t51 := Tryz.underlying126
  a51 := Tryz.isAgg126
  z51 := Tryz.sizeOf126
  v51 := Tryz.zeroValue126
  t119 := Tryz.underlying110
  a119 := Tryz.isAgg110
  z119 := Tryz.sizeOf110
  t141 := Tryz.underlying133
  a141 := Tryz.isAgg133
  z141 := Tryz.sizeOf133
  v141 := Tryz.zeroValue133
  t152 := Tryz.underlying129
  a152 := Tryz.isAgg129
  z152 := Tryz.sizeOf129
  v152 := Tryz.zeroValue129
  t154 := Tryz.underlying131
  a154 := Tryz.isAgg131
  z154 := Tryz.sizeOf131
  v154 := Tryz.zeroValue131
  t193 := Tryz.underlying144
  a193 := Tryz.isAgg144
  z193 := Tryz.sizeOf144
  v193 := Tryz.zeroValue144
  t194 := Tryz.underlying145
  a194 := Tryz.isAgg145
  z194 := Tryz.sizeOf145
  v194 := Tryz.zeroValue145
  t196 := Tryz.underlying147
  a196 := Tryz.isAgg147
  z196 := Tryz.sizeOf147
  v196 := Tryz.zeroValue147
  t198 := Tryz.underlying150
  a198 := Tryz.isAgg150
  z198 := Tryz.sizeOf150
  v198 := Tryz.zeroValue150
  t201 := Tryz.underlying153
  a201 := Tryz.isAgg153
  z201 := Tryz.sizeOf153
  v201 := Tryz.zeroValue153
  t226 := Tryz.underlying157
  a226 := Tryz.isAgg157
  z226 := Tryz.sizeOf157
  v226 := Tryz.zeroValue157
  t227 := Tryz.underlying158
  a227 := Tryz.isAgg158
  z227 := Tryz.sizeOf158
  v227 := Tryz.zeroValue158
  g0 := by kernel_rfl
  g6 := by kernel_rfl }
theorem Tryz.hi157 : (Tryz.prog.info? (Tryz.lays157_ren.t 9)).map (fun i => (i.zero, i.size, i.bytes)) = some (some (.string ByteArray.empty), 1, 16) := by kernel_rfl
theorem Tryz.hg157 : Tryz.prog.globalNamed "strings.asciiSpace" = some (Tryz.lays157_ren.g 0) := by kernel_rfl
theorem Tryz.hf157 : Tryz.lays157_ren.f 157 = Go.Al.N.strings_Fields := by kernel_rfl
end Go.Proofs
namespace Go.Al
open Go.Proofs
variable {G : Seal}

/-- the sealed memory holds the table of white space -/
def GTab (G : Seal) : Prop := ∀ w : World, (∀ b o v, G.cell b o = some v → w.cell? ⟨b, o, none⟩ = some v) → (∀ b s, G.shape b = some s → w.shape? b = some s) → Lib.TabIs PP w "strings.asciiSpace" .u8 Lib.asciiSpaceTab

theorem strings_Fields_c (hT : GTab G) (t : List UInt8) (hl : t.length < 4294967281) (ha : ∀ b ∈ t, b.toNat < 128) : PureF PP G N.strings_Fields [St (bs t)] (SLs (Lib.fields t)) := by
  refine ⟨by kernel_rfl, fun S w vs hG hI hR => ?_⟩
  have hv : vs = #[.string (bs t)] := by
    obtain ⟨h1, h2⟩ := hR
    have h3 := h2 0 (by simp)
    cases vs with | mk l =>
    match l, h1 with
    | [v], _ => have := Rel.sc_inv h3; simp at this; rw [this]
  subst hv
  have hc := Any.strings_Fields Tryz.lays157 Tryz.hi157 Tryz.hg157 (bs t) w (by simpa using hl) (fun j b hb => by rw [bs_data] at hb; exact ha b (List.mem_of_getElem? hb)) (hT w (fun b o v h => hI.cell _ _ _ (hG.cell _ _ _ h)) (fun b s h => hI.shape _ _ (hG.shape _ _ h)))
  rw [Tryz.hf157, bs_data] at hc
  refine hc.mono fun e w' ⟨he, hw⟩ => ?_
  subst he hw
  have hs := Step.new' hI (Tryz.lays157_ren.t 9) ((Lib.fields t).map fun l => Value.string ⟨l.toArray⟩).toArray
  refine ⟨_, SLs (Lib.fields t), _, .emp, rfl, hs, ?_, rfl, rfl⟩
  have := Rel.sl (S := S.add w.heap.size (Tryz.lays157_ren.t 9) ((Lib.fields t).map fun l => Value.string ⟨l.toArray⟩).toArray ((Lib.fields t).map fun l => Value.string ⟨l.toArray⟩).toArray.size) 1 ((Lib.fields t).map fun s => [St (bs s)]) (some ⟨w.heap.size, 0, none⟩) (Lib.fields t).length
    (fun i _ => .string (bs ((Lib.fields t).getD i []))) (by simp) (by simp) (by simp) (fun hne => ⟨w.heap.size, 0, rfl, fun i j hi hj => ?_⟩) (fun i j hi hj => ?_)
  · simpa using this
  · have hj0 : j = 0 := by omega
    subst hj0
    simp only [List.length_map] at hi
    simp [Seal.add, hi, bs, List.getD]
  · have hj0 : j = 0 := by omega
    subst hj0
    simp only [List.length_map] at hi
    simp [List.getD, hi]
    exact .sc _

end Go.Al
