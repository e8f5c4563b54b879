/- The abstract logic, part 5: more operations. -/
import Derived.Test.YtpooknfdodimdaaGreatDoorAl4
import Derived.Laws.Tables
import Derived.Deep.AppendSrc
set_option linter.unusedVariables false
set_option linter.unusedSimpArgs false
namespace Go.Al
variable {P : Program} {G S : Seal} {σ : AHeap} {w : World} {K : KAV}

theorem PICK_sound {c a b : AV} {x y z : Value} (hI : Inv S σ w) (hc : Rel S c x) (ha : Rel S a y) (hb : Rel S b z) (h : PICK c a b σ K) :
    Runs P (do pure (if ← asBool x then y else z)) S σ w K := by
  unfold PICK at h
  split at h
  · rename_i t
    cases hc
    cases t
    · exact Runs.same hI (by simp [asBool]) hb h
    · exact Runs.same hI (by simp [asBool]) ha h
  · exact h.elim

def nilOk (x : Value) : Prop := match x with | .pointer none | .nilIface | .nilFunc => False | .func (.method _) _ _ => False | _ => True

theorem NILCK_sound {v : AV} {x : Value} (hI : Inv S σ w) (hv : Rel S v x) (h : NILCK v σ K) : nilOk x ∧ Rel S v x ∧ K v σ := by
  unfold NILCK at h
  split at h
  · cases hv; exact ⟨trivial, .pt _ _, h⟩
  · cases hv with
    | rp _ _ b o val hs hr => exact ⟨trivial, .rp _ _ b o val hs hr, h⟩
  · cases hv with
    | fn f first cap vf vc h1 h2 h3 h4 => exact ⟨trivial, .fn _ _ _ _ _ h1 h2 h3 h4, h⟩
  · exact h.elim

theorem FA_sound {s : TypeId} {f off : Nat} {v : AV} {x : Value} (hI : Inv S σ w) (hv : Rel S v x) (ho : fieldOff P s f = some off) (h : FA off v σ K) : Runs P (Instr.fieldAt s x f) S σ w K := by
  unfold fieldOff at ho
  split at ho <;> try simp at ho
  rename_i fs hu
  split at ho <;> try simp at ho
  rename_i fd hf
  split at ho <;> try simp at ho
  rename_i i hi
  obtain ⟨h0, rfl⟩ := ho
  have hrun : ∀ a, (Instr.fieldAt s (.pointer (some a)) f).run P w = .ok (.pointer (some (a.add fd.offset))) w := fun a => by
    simp [Instr.fieldAt, underlying, hu, hf, Instr.sureAddr, fieldPlace, sizeOf, typeInfo, hi, h0]
  cases hv <;> simp only [FA] at h <;> try exact h.elim
  · rename_i xs off b o val hs hr
    exact Runs.same hI (by rw [hrun, addr_add, Nat.add_assoc]) (.rp xs _ b o val hs hr) h
  · rename_i b off
    exact Runs.same hI (by rw [hrun, addr_add]) (.pt _ _) h

theorem IFT_elim {b : Bool} {A : Prop} (h : IFT b A) : b = true ∧ A := by
  cases b with
  | true => exact ⟨rfl, h⟩
  | false => exact h.elim
theorem OPT_elim {α : Type} {x : Option α} {k : α → Prop} (h : OPT x k) : ∃ a, x = some a ∧ k a := by
  unfold OPT at h
  split at h
  · exact ⟨_, rfl, h⟩
  · exact h.elim

theorem part_sound {t : TypeId} {off : Nat} {cs : List AV} {vs : Array Value} (hl : vs.size = cs.length) (hr : ∀ j, j < cs.length → Rel S (cs.getD j .un) (vs.getD j undef)) {v : AV}
    (hv : rdCells (ldk P t) cs off = some v) : ∃ x, (part t vs off).run P w = .ok x w ∧ Rel S v x := by
  cases hk : ldk P t with
  | bad => simp [hk, rdCells] at hv
  | one =>
    simp [hk, rdCells] at hv
    obtain ⟨hlt, rfl⟩ := List.getElem?_eq_some_iff.1 hv
    have := hr off hlt
    refine ⟨vs.getD off undef, ?_, by simpa [List.getD, hlt] using this⟩
    have h' : off < vs.size := by omega
    simp [part, ldk_one hk, h', Array.getD]
  | agg n =>
    simp only [hk, rdCells] at hv
    split at hv
    · rename_i hle
      simp at hv
      subst hv
      refine ⟨_, by simp [part, ldk_agg hk]; rfl, .ag _ _ (by simp; omega) fun j hj => ?_⟩
      have hj' : j < n := by simp at hj; omega
      have := hr (off + j) (by omega)
      have e1 : ((cs.drop off).take n).getD j .un = cs.getD (off + j) .un := by simp [List.getD, List.getElem?_take, hj']
      have e2 : (vs.extract off (off + n)).getD j undef = vs.getD (off + j) undef := by
        have : j < min (off + n) vs.size - off := by omega
        have h3 : off + j < vs.size := by omega
        simp [Array.getD, this, h3]
      rw [e1, e2]; exact this
    · simp at hv

theorem FIELD_sound {t : TypeId} {f off : Nat} {k : LdK} {v : AV} {x : Value} (hI : Inv S σ w) (hv : Rel S v x) (ho : fieldK P t f = some (off, k)) (h : FIELD k off v σ K) : Runs P (Instr.field t x f) S σ w K := by
  unfold fieldK at ho
  split at ho <;> try simp at ho
  rename_i fs hu
  split at ho <;> try simp at ho
  rename_i fd hf
  obtain ⟨rfl, rfl⟩ := ho
  cases hv <;> simp only [FIELD] at h <;> try exact h.elim
  rename_i cs vs hl hr
  obtain ⟨y, hy, hK⟩ := OPT_elim h
  obtain ⟨z, hz, hR⟩ := part_sound (P := P) (w := w) hl hr hy
  exact Runs.same hI (by simp [Instr.field, underlying, hu, hf, asAgg, hz]) hR hK

theorem TUP_sound {i : Nat} {v : AV} {x : Value} (hI : Inv S σ w) (hv : Rel S v x) (h : TUP v i σ K) : Runs P (Instr.extract x i) S σ w K := by
  cases hv <;> simp only [TUP] at h <;> try exact h.elim
  rename_i cs vs hl hr
  obtain ⟨y, hy, hK⟩ := OPT_elim h
  obtain ⟨hlt, rfl⟩ := List.getElem?_eq_some_iff.1 hy
  have := hr i hlt
  refine Runs.same hI (x := vs.getD i undef) ?_ (by simpa [List.getD, hlt] using this) hK
  have h' : i < vs.size := by omega
  simp [Instr.extract, h', Array.getD]

/- runs without memory -/
theorem pureV_run {α : Type} : ∀ (s : Sem α) (a : α), pureV P s = some a → ∀ w, s.run P w = .ok a w := by
  intro s
  induction s with
  | pure b => intro a h w; simp [pureV] at h; subst h; rfl
  | program k ih => intro a h w; simp only [pureV] at h; exact ih P a h w
  | mark m k ih => intro a h w; simp only [pureV] at h; exact ih a h w
  | _ => intro a h w; simp [pureV] at h

theorem eqGuard_scalar (op : BinOp) (t : TypeId) (x y : Operand) (a b : Value) (ha : scalarV a = true) : (eqGuard op t x y a b).run P w = .ok () w := by
  unfold eqGuard
  cases op <;> cases a <;> simp [scalarV] at ha <;> cases b <;> simp

theorem BIN_sound {op : BinOp} {t : TypeId} {xo yo : Operand} {u v : AV} {x y : Value} (hI : Inv S σ w) (hu : Rel S u x) (hv : Rel S v y) (h : BIN P op t u v σ K) :
    Runs P (do eqGuard op t xo yo x y; binOp op t x y) S σ w K := by
  unfold BIN at h
  split at h
  · cases hu; cases hv
    obtain ⟨z, hz, hK⟩ := OPT_elim h
    exact Runs.same hI (by simp [eqGuard_scalar (P := P) (w := w) op t xo yo _ _ (show scalarV (.int _ _) = true from rfl), pureV_run _ _ hz]) (.sc z) hK
  · cases hu; cases hv
    obtain ⟨z, hz, hK⟩ := OPT_elim h
    exact Runs.same hI (by simp [eqGuard_scalar (P := P) (w := w) op t xo yo _ _ (show scalarV (.string _) = true from rfl), pureV_run _ _ hz]) (.sc z) hK
  · cases hu; cases hv
    obtain ⟨z, hz, hK⟩ := OPT_elim h
    exact Runs.same hI (by simp [eqGuard_scalar (P := P) (w := w) op t xo yo _ _ (show scalarV (.bool _) = true from rfl), pureV_run _ _ hz]) (.sc z) hK
  · exact h.elim

theorem UN_sound {op : UnOp} {v : AV} {x : Value} (hI : Inv S σ w) (hv : Rel S v x) (h : UN P op v σ K) : Runs P (Op.unary op x) S σ w K := by
  unfold UN at h
  split at h
  · cases hv
    obtain ⟨z, hz, hK⟩ := OPT_elim h
    exact Runs.same hI (pureV_run _ _ hz _) (.sc z) hK
  · exact h.elim

theorem MKFN_sound {f : Fn} {as cs : List AV} {vf vc : Array Value} (hI : Inv S σ w) (ha : RelL S as vf.toList) (hc : RelL S cs vc.toList) (h : MKFN f as cs σ K) : Runs P (Instr.makeFunc f vf vc) S σ w K :=
  Runs.same hI rfl (.fn f as cs vf vc (by simpa using ha.1) (by simpa using hc.1) (fun j hj => by rw [agetD]; exact ha.2 j hj) (fun j hj => by rw [agetD]; exact hc.2 j hj)) h

theorem IX_sound {t : TypeId} {v i : AV} {x y : Value} (hI : Inv S σ w) (hv : Rel S v x) (hi : Rel S i y) (hu : P.underlying t = some .string) (h : IX v i σ K) : Runs P (Instr.index t x y) S σ w K := by
  unfold IX at h
  split at h
  · rename_i s k n
    cases hv; cases hi
    obtain ⟨h0, c, hc, hK⟩ := h
    exact Runs.same hI (x := .int .u8 c.toNat) (by simp [Instr.index, asIntOf, underlying, hu, h0, hc]) (.sc _) hK
  · exact h.elim

theorem rp_of_sl {xs : List (List AV)} {sz b o : Nat} {val : Nat → Nat → Value} (hz : ∀ x ∈ xs, x.length = sz) (hs : ∀ i j, i < xs.length → j < sz → S.cell b (o + (i * sz + j)) = some (val i j))
    (hr : ∀ i j, i < xs.length → j < sz → Rel S ((xs.getD i []).getD j .un) (val i j)) {i : Nat} {x : List AV} (hx : xs[i]? = some x) : Rel S (.rp x 0) (.pointer (some ⟨b, o + i * sz, none⟩)) := by
  obtain ⟨hlt, rfl⟩ := List.getElem?_eq_some_iff.1 hx
  have hl : xs[i].length = sz := hz _ (List.getElem_mem hlt)
  have := Rel.rp (S := S) xs[i] 0 b (o + i * sz) (fun j => val i j) (fun j hj => by rw [Nat.add_assoc]; exact hs i j hlt (by omega)) (fun j hj => by
    have := hr i j hlt (by omega)
    rwa [getD_of hx] at this)
  simpa using this

theorem IA_sound {t : TypeId} {v i : AV} {x y : Value} (hI : Inv S σ w) (hv : Rel S v x) (hi : Rel S i y) (h : IA (idxK P t) v i σ K) : Runs P (Instr.indexAt t x y) S σ w K := by
  unfold IA at h
  split at h <;> try exact h.elim
  rename_i k n
  cases hi
  cases hk : idxK P t with
  | bad => simp [hk] at h
  | slice sz =>
    have ⟨e, ie, hu, hie, hsz⟩ : ∃ e ie, P.underlying t = some (.slice e) ∧ P.info? e = some ie ∧ ie.size = sz := by
      unfold idxK at hk
      split at hk <;> (try simp at hk)
      · rename_i e hu
        split at hk <;> simp at hk
        rename_i ie hie
        exact ⟨e, ie, hu, hie, hk⟩
      · split at hk <;> (try simp at hk)
        split at hk <;> simp at hk
    have hrun : ∀ (a : Addr) (len cap : Nat), 0 ≤ n → n < len → (Instr.indexAt t (.slice (some a) len cap) (.int k n)).run P w = .ok (.pointer (some (a.add (n.toNat * sz)))) w := fun a len cap h0 h1 => by
      simp [Instr.indexAt, asIntOf, underlying, hu, h0, h1, sizeOf, typeInfo, hie, hsz]
    rw [hk] at h
    cases hv <;> simp only at h <;> try exact h.elim
    · rename_i sz' xs a cap val hc hz h1 hs hr
      obtain ⟨h0, rfl, z, hz', hK⟩ := h
      have hlt := (List.getElem?_eq_some_iff.1 hz').1
      obtain ⟨b, o, rfl, hb⟩ := hs (fun hn => by simp [hn] at hlt)
      exact Runs.same hI (by rw [hrun _ _ _ h0 (by omega), addr_add]) (rp_of_sl hz hb hr hz') hK
    · rename_i b sz' xs cap e' n' val hne hc hz h1 hsh hn hs hr
      obtain ⟨h0, rfl, z, hz', hK⟩ := h
      have hlt := (List.getElem?_eq_some_iff.1 hz').1
      exact Runs.same hI (by rw [hrun _ _ _ h0 (by omega), addr_add]) (rp_of_sl (o := 0) hz (fun i j hi hj => by rw [Nat.zero_add]; exact hs i j hi hj) hr hz') hK
    · rename_i b sz' off len cap a e' n' hsh hc hn ha
      obtain ⟨h0, h1, rfl, hK⟩ := h
      have := ha (by omega)
      subst this
      exact Runs.same hI (by rw [hrun _ _ _ h0 h1, addr_add]) (.pt _ _) hK
  | array len sz =>
    have ⟨e, ie, hu, hie, hsz, hl⟩ : ∃ e ie, P.underlying t = some (.array len e) ∧ P.info? e = some ie ∧ ie.size = sz ∧ ¬ len ≤ 1 := by
      unfold idxK at hk
      split at hk <;> (try simp at hk)
      · split at hk <;> simp at hk
      · rename_i n e hu
        split at hk <;> (try simp at hk)
        rename_i ie hie
        split at hk <;> simp at hk
        rename_i hle
        obtain ⟨rfl, rfl⟩ := hk
        exact ⟨e, ie, hu, hie, rfl, hle⟩
    have hrun : ∀ (a : Addr), 0 ≤ n → n < len → (Instr.indexAt t (.pointer (some a)) (.int k n)).run P w = .ok (.pointer (some (a.add (n.toNat * sz)))) w := fun a h0 h1 => by
      simp [Instr.indexAt, asIntOf, underlying, hu, h0, h1, sizeOf, typeInfo, hie, hsz, Instr.sureAddr]
    rw [hk] at h
    cases hv <;> simp only at h <;> try exact h.elim
    · rename_i xs off b o val hs hr
      obtain ⟨h0, h1, hK⟩ := h
      exact Runs.same hI (by rw [hrun _ h0 h1, addr_add, Nat.add_assoc]) (.rp xs _ b o val hs hr) hK
    · rename_i b off
      obtain ⟨h0, h1, hK⟩ := h
      exact Runs.same hI (by rw [hrun _ h0 h1, addr_add]) (.pt _ _) hK

theorem LENS_sound {t ty : TypeId} {v : AV} {x : Value} (hI : Inv S σ w) (hv : Rel S v x) (hu : P.underlying t = some .string) (h : LENS v σ K) : Runs P (Builtin.len_ #[t] ty #[x]) S σ w K := by
  unfold LENS at h
  split at h
  · cases hv; exact Runs.same hI (by simp [Builtin.len_, underlying, hu]) (.sc (goInt _)) h
  · exact h.elim

theorem LENL_sound {t e ty : TypeId} {v : AV} {x : Value} (hI : Inv S σ w) (hv : Rel S v x) (hu : P.underlying t = some (.slice e)) (h : LENL v σ K) : Runs P (Builtin.len_ #[t] ty #[x]) S σ w K := by
  have hrun : ∀ a n c, (Builtin.len_ #[t] ty #[.slice a n c]).run P w = .ok (goInt n) w := fun a n c => by simp [Builtin.len_, underlying, hu]
  unfold LENL at h
  split at h
  · cases hv; exact Runs.same hI (hrun _ _ _) (.sc (goInt _)) h
  · cases hv; exact Runs.same hI (hrun _ _ _) (.sc (goInt _)) h
  · cases hv; exact Runs.same hI (hrun _ _ _) (.sc (goInt _)) h
  · cases hv; exact Runs.same hI (hrun _ _ _) (.sc (goInt _)) h
  · exact h.elim

theorem run_bound {k : IntKind} {n : Int} {y : Nat} {c : BoundsCode} (h0 : 0 ≤ n) (h1 : n ≤ y) : (Instr.sliceBound (.int k n) y c).run P w = .ok n.toNat w := by
  simp [Instr.sliceBound, asIntOf, h0, h1]

theorem run_bounds {isS : Bool} {len cap : Nat} {lo hi : Option Value} {k k' : IntKind} {l h : Int} (hl : lo = none ∧ l = 0 ∨ lo = some (.int k l)) (hh : hi = none ∧ h = len ∨ hi = some (.int k' h)) (h0 : 0 ≤ l) (h1 : l ≤ h) (h2 : h ≤ cap) :
    (Instr.sliceBounds isS len cap lo hi none).run P w = .ok (l.toNat, h.toNat, cap) w := by
  have e1 : (Instr.sliceBound (.int k l) h.toNat .sliceB).run P w = .ok l.toNat w := run_bound h0 (by omega)
  have e2 : ∀ c, (Instr.sliceBound (.int k' h) cap c).run P w = .ok h.toNat w := fun c => run_bound (by omega) h2
  rcases hl with ⟨rfl, rfl⟩ | rfl <;> rcases hh with ⟨rfl, rfl⟩ | rfl <;> simp [Instr.sliceBounds, e1, e2]
  simp at e1
  simp [e1]

/-- an optional bound -/
theorem bound_rel {lo : Option AV} {lv : Option Value} (hr : match lo, lv with | none, none => True | some a, some x => Rel S a x | _, _ => False) {k : IntKind} {l d : Int} (h : lo.getD (I d) = .sc (.int k l)) :
    lv = none ∧ l = d ∨ lv = some (.int k l) := by
  cases lo <;> cases lv <;> simp at hr
  · simp at h; exact .inl ⟨rfl, h.2.symm⟩
  · simp at h; subst h; cases hr; exact .inr rfl

def OptRel (S : Seal) (lo : Option AV) (lv : Option Value) : Prop := match lo, lv with | none, none => True | some a, some x => Rel S a x | _, _ => False

theorem CUTS_sound {t : TypeId} {v : AV} {x : Value} {lo hi : Option AV} {lv hv' : Option Value} (hI : Inv S σ w) (hv : Rel S v x) (hl : OptRel S lo lv) (hh : OptRel S hi hv') (hu : P.underlying t = some .string)
    (h : CUTS v lo hi σ K) : Runs P (Instr.sliceAt t x lv hv' none) S σ w K := by
  unfold CUTS at h
  split at h <;> try exact h.elim
  split at h <;> try exact h.elim
  rename_i s _ _ k l k' m e1 e2
  cases hv
  obtain ⟨h0, h1, h2, hK⟩ := h
  have hb := run_bounds (P := P) (w := w) (isS := false) (len := s.size) (bound_rel hl e1) (bound_rel hh e2) h0 h1 h2
  exact Runs.same hI (x := .string (s.extract l.toNat m.toNat)) (by simp [Instr.sliceAt, Instr.slice, underlying, hu, hb]) (.sc _) hK

theorem sub_rel {xs : List (List AV)} {sz b o : Nat} {val : Nat → Nat → Value} {l m cap : Nat} (hz : ∀ x ∈ xs, x.length = sz) (h1 : ∀ x ∈ xs, x.all AV.cell1 = true) (hc : m ≤ cap) (hlm : l ≤ m) (hm : m ≤ xs.length)
    (hs : ∀ i j, i < xs.length → j < sz → S.cell b (o + (i * sz + j)) = some (val i j))
    (hr : ∀ i j, i < xs.length → j < sz → Rel S ((xs.getD i []).getD j .un) (val i j)) :
    Rel S (.sl sz ((xs.drop l).take (m - l))) (.slice (if cap = l then some ⟨b, o, none⟩ else some ⟨b, o + l * sz, none⟩) (m - l) (cap - l)) := by
  have hlen : ((xs.drop l).take (m - l)).length = m - l := by simp; omega
  have := Rel.sl (S := S) sz ((xs.drop l).take (m - l)) (if cap = l then some ⟨b, o, none⟩ else some ⟨b, o + l * sz, none⟩) (cap - l) (fun i j => val (l + i) j) (by omega)
    (fun x hx => hz x (List.mem_of_mem_drop (List.mem_of_mem_take hx))) (fun x hx => h1 x (List.mem_of_mem_drop (List.mem_of_mem_take hx))) (fun hne => ?_) (fun i j hi hj => ?_)
  · rwa [hlen] at this
  · have : 0 < m - l := by rw [← hlen]; exact List.length_pos_iff.2 hne
    refine ⟨b, o + l * sz, by rw [if_neg (by omega)], fun i j hi hj => ?_⟩
    rw [hlen] at hi
    have := hs (l + i) j (by omega) hj
    rwa [Nat.add_mul, Nat.add_assoc (l * sz), ← Nat.add_assoc o] at this
  · rw [hlen] at hi
    have := hr (l + i) j (by omega) hj
    have e : ((xs.drop l).take (m - l)).getD i [] = xs.getD (l + i) [] := by simp [List.getD, List.getElem?_take, hi]
    rw [e]; exact this

theorem CUTL_sound {t : TypeId} {sz : Nat} {v : AV} {x : Value} {lo hi : Option AV} {lv hv' : Option Value} (hI : Inv S σ w) (hv : Rel S v x) (hl : OptRel S lo lv) (hh : OptRel S hi hv') (hk : idxK P t = .slice sz)
    (h : CUTL sz v lo hi σ K) : Runs P (Instr.sliceAt t x lv hv' none) S σ w K := by
  have ⟨e, ie, hu, hie, hsz⟩ : ∃ e ie, P.underlying t = some (.slice e) ∧ P.info? e = some ie ∧ ie.size = sz := by
    unfold idxK at hk
    split at hk <;> (try simp at hk)
    · rename_i e hu
      split at hk <;> simp at hk
      rename_i ie hie
      exact ⟨e, ie, hu, hie, hk⟩
    · split at hk <;> (try simp at hk)
      split at hk <;> simp at hk
  have hrun : ∀ (a : Option Addr) (len cap : Nat) {k k' : IntKind} {l m : Int}, (lv = none ∧ l = 0 ∨ lv = some (.int k l)) → (hv' = none ∧ m = len ∨ hv' = some (.int k' m)) → 0 ≤ l → l ≤ m → m ≤ cap →
      (Instr.sliceAt t (.slice a len cap) lv hv' none).run P w = .ok (.slice (if cap = l.toNat then a else a.map (·.add (l.toNat * sz))) (m.toNat - l.toNat) (cap - l.toNat)) w := fun a len cap k k' l m e1 e2 h0 h1 h2 => by
    have hb := run_bounds (P := P) (w := w) (isS := true) (len := len) e1 e2 h0 h1 h2
    simp [Instr.sliceAt, Instr.slice, underlying, hu, hb, sizeOf, typeInfo, hie, hsz]
  unfold CUTL at h
  split at h <;> try exact h.elim
  · split at h <;> try exact h.elim
    rename_i s xs _ _ k l k' m e1 e2
    obtain ⟨rfl, h0, h1, h2, hK⟩ := h
    obtain ⟨a, cap, val, hc, hz, hcell, hs, hr, rfl⟩ : ∃ (a : Option Addr) (cap : Nat) (val : Nat → Nat → Value), xs.length ≤ cap ∧ (∀ x ∈ xs, x.length = s) ∧ (∀ x ∈ xs, x.all AV.cell1 = true) ∧
        (xs ≠ [] → ∃ b o, a = some ⟨b, o, none⟩ ∧ ∀ i j, i < xs.length → j < s → S.cell b (o + (i * s + j)) = some (val i j)) ∧
        (∀ i j, i < xs.length → j < s → Rel S ((xs.getD i []).getD j .un) (val i j)) ∧ x = .slice a xs.length cap := by
      cases hv with
      | sl _ _ a cap val hc hz h1 hs hr => exact ⟨a, cap, val, hc, hz, h1, hs, hr, rfl⟩
    by_cases hne : xs = []
    · subst hne
      have hl0 : l = 0 := by simp at h2; omega
      have hm0 : m = 0 := by simp at h2; omega
      subst hl0 hm0
      refine Runs.same hI (hrun _ _ _ (bound_rel hl e1) (bound_rel hh e2) h0 h1 (by simp at h2 ⊢)) ?_ hK
      have := Rel.sl (S := S) s [] (if cap = (0 : Int).toNat then a else a.map (·.add ((0 : Int).toNat * s))) (cap - (0 : Int).toNat) val (by simp) (by simp) (by simp) (by simp) (by simp)
      simpa using this
    · obtain ⟨b, o, rfl, hb⟩ := hs hne
      refine Runs.same hI (hrun _ _ _ (bound_rel hl e1) (bound_rel hh e2) h0 h1 (by omega)) ?_ hK
      have := sub_rel (l := l.toNat) (m := m.toNat) (cap := cap) hz hcell (by omega) (by omega) (by omega) hb hr
      rw [show (m - l).toNat = m.toNat - l.toNat by omega]
      simpa [addr_add] using this
  · split at h <;> try exact h.elim
    rename_i g s xs _ _ k l k' m e1 e2
    obtain ⟨rfl, h0, h1, h2, hK⟩ := h
    obtain ⟨cap, val, hne, hc, hz, hcell, hs, hr, rfl⟩ : ∃ (cap : Nat) (val : Nat → Nat → Value), xs ≠ [] ∧ xs.length ≤ cap ∧ (∀ x ∈ xs, x.length = s) ∧ (∀ x ∈ xs, x.all AV.cell1 = true) ∧ (∀ i j, i < xs.length → j < s → S.cell g (i * s + j) = some (val i j)) ∧
        (∀ i j, i < xs.length → j < s → Rel S ((xs.getD i []).getD j .un) (val i j)) ∧ x = .slice (some ⟨g, 0, none⟩) xs.length cap := by
      cases hv with
      | gl _ _ _ cap e' n' val hne hc hz h1 hsh hn hs hr => exact ⟨cap, val, hne, hc, hz, h1, hs, hr, rfl⟩
    refine Runs.same hI (hrun _ _ _ (bound_rel hl e1) (bound_rel hh e2) h0 h1 (by omega)) ?_ hK
    have := sub_rel (l := l.toNat) (m := m.toNat) (cap := cap) (o := 0) hz hcell (by omega) (by omega) (by omega) (fun i j hi hj => by rw [Nat.zero_add]; exact hs i j hi hj) hr
    rw [show (m - l).toNat = m.toNat - l.toNat by omega]
    simpa [addr_add] using this
  · split at h <;> try exact h.elim
    rename_i _ _ k l k' m e1 e2
    obtain ⟨rfl, rfl, hK⟩ := h
    cases hv
    rename_i a
    refine Runs.same hI (hrun _ _ _ (bound_rel hl e1) (bound_rel hh e2) (by omega) (by omega) (by omega)) ?_ hK
    simpa using Rel.nl (S := S) a
  · split at h <;> try exact h.elim
    rename_i b s o len _ _ k l k' m e1 e2
    obtain ⟨h0, h1, h2, rfl, hK⟩ := h
    obtain ⟨cap, a, e', n', hsh, hc, hn, ha, rfl⟩ : ∃ cap a e' n', S.shape b = some (e', n') ∧ len ≤ cap ∧ o + cap * s ≤ n' ∧ (0 < cap → a = some ⟨b, o, none⟩) ∧ x = .slice a len cap := by
      cases hv with
      | ar _ _ _ _ cap a e' n' hsh hc hn ha => exact ⟨cap, a, e', n', hsh, hc, hn, ha, rfl⟩
    refine Runs.same hI (hrun _ _ _ (bound_rel hl e1) (bound_rel hh e2) h0 h1 (by omega)) ?_ hK
    rw [show (m - l).toNat = m.toNat - l.toNat by omega]
    refine .ar b s _ _ _ _ e' n' hsh (by omega) ?_ (fun hpos => ?_)
    · have : l.toNat * s + (cap - l.toNat) * s = cap * s := by rw [← Nat.add_mul]; congr 1; omega
      omega
    · rw [if_neg (by omega), ha (by omega)]
      simp [addr_add]

end Go.Al
