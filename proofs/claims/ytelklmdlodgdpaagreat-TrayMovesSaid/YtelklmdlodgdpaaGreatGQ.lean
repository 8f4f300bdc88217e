import Derived.Test.YtelklmdlodgdpaaGreatGP
import Derived.BigQuiet
/-! T17 -/
namespace Go.Proofs.YtelklmdlodgdpaaGreat
open Go.RowKit Go.Maps Go.WideMaps
set_option linter.unusedVariables false
set_option maxRecDepth 100000
theorem OwnsII.look0 {w : World} {B n c : Nat} {f : Int → Option Int} (h : OwnsII w B n f c) {t : TypeId} (ht : Tryz.prog.underlying t = some (.map 3 3)) {x : Int} (hx : (Lit.int .i64 x).wf = true) :
    (Instr.lookup t (.map (some B)) (.int .i64 x) false).run Tryz.prog w = .ok (.int .i64 ((f x).getD 0)) w := by
  obtain ⟨D, hD, _, hf⟩ := h
  obtain ⟨v, ps, hrun, hv⟩ := hD.lookup keyed_int ht (intLaw.zero w) (intLaw.lay 0 (by decide)) (keyOf_int_mk Tryz.underlying3 hx)
  rw [hrun]
  obtain ⟨h1, h2⟩ := hf x
  cases hfs : f x with
  | none =>
    rw [atKey_of_not_has (h1 hfs)] at hv
    rw [intLaw.inv _ _ _ hv]; rfl
  | some y =>
    rw [(h2 y hfs).2] at hv
    rw [intLaw.inv _ _ _ hv]; rfl
theorem wpList_look0_II (w : World) {ops : Array Oper} {rest : List Oper} {o : Oper} {a : Act} {Q : Exit → Act → World → Prop}
    (hg : o.guard = none) (m x : Operand) (t : TypeId) (hop : o.op = Op.lookup t m x false) (ht : Tryz.prog.underlying t = some (.map 3 3)) (B n c : Nat) (f : Int → Option Int)
    (hm : a.eval m = .map (some B)) (hown : OwnsII w B n f c) (s : Int) (hs : (Lit.int .i64 s).wf = true) (hx : a.eval x = .int .i64 s) (y : Int) (hy : (f s).getD 0 = y)
    (hK : wpList Tryz.prog ops Q rest (a.put o.dst (.int .i64 y)) w) : wpList Tryz.prog ops Q (o :: rest) a w := by
  subst hy
  refine wpList_plain hg fun K' hK' => ?_
  have hrun := hown.look0 ht hs
  unfold Oper.wp
  simp [execOp, hop, hm, hx, hrun, Result.andThen]
  exact hK' _ _ hK
theorem grams_posN {ps : List Pce} (hg : ∀ p ∈ ps, 0 ≤ p.grams) : ∀ I : List Int, (∀ i ∈ I, i.toNat < ps.length) → 0 ≤ gramsOf ps I
  | [], _ => by unfold gramsOf; simp
  | i :: r, h => by
    have ih := grams_posN hg r (fun j hj => h j (List.mem_cons_of_mem _ hj))
    have h1 := hg _ (pcAt_memN (h i List.mem_cons_self))
    unfold gramsOf at ih ⊢
    rw [List.map_cons, List.sum_cons]
    omega
/-- The grams of the first pieces, by their numbers. -/
def gmTo (ps : List Pce) : Nat → Int → Option Int
  | 0 => fun _ => none
  | i + 1 => fun u => if u = (pcAt ps (i : Int)).id then some (pcAt ps (i : Int)).grams else gmTo ps i u
theorem ids_ne {ps : List Pce} (hu : IdsUp ps) {i j : Nat} (hi : i < ps.length) (hj : j < ps.length) (h : i ≠ j) : (pcAt ps (i : Int)).id ≠ (pcAt ps (j : Int)).id := fun e => h (by
  have := ids_inj hu (i := (i : Int)) (j := (j : Int)) (by constructor <;> omega) (by constructor <;> omega) e
  omega)
theorem gm_none {ps : List Pce} (hu : IdsUp ps) {q : Nat} (hq : q < ps.length) : ∀ i, i ≤ q → gmTo ps i (pcAt ps (q : Int)).id = none
  | 0, _ => rfl
  | i + 1, h => by
    show (if _ then _ else _) = none
    rw [if_neg (ids_ne hu hq (by omega) (by omega))]
    exact gm_none hu hq i (by omega)
theorem gm_some {ps : List Pce} (hu : IdsUp ps) {j : Nat} : ∀ i, i ≤ ps.length → j < i → gmTo ps i (pcAt ps (j : Int)).id = some (pcAt ps (j : Int)).grams
  | 0, _, h => by omega
  | i + 1, hi, h => by
    show (if _ then _ else _) = _
    by_cases e : j = i
    · subst e; rw [if_pos rfl]
    · rw [if_neg (ids_ne hu (by omega) (by omega) e)]
      exact gm_some hu i (by omega) (by omega)
theorem RdPces.atN {w : World} {a : Option Addr} {m cap : Nat} {ps : List Pce} (h : RdPces w (.slice a m cap) ps) (h0 : 0 < ps.length) :
    ∃ g off, a = some ⟨g, off, none⟩ ∧ g < w.heap.size ∧ ∀ j : Nat, j < ps.length → PceAt w g (off + j * 5) (pcAt ps (j : Int)) := by
  obtain ⟨a', c', hv, hc⟩ := h
  injection hv with h1 h2 h3
  subst h1
  obtain ⟨g, off, ha, hg, hcc⟩ := hc h0
  exact ⟨g, off, ha, hg, fun j hj => by rw [pcAt_nat hj]; exact hcc j hj⟩
theorem quiet_look_II {o : Oper} {a : Act} {K : Act → Prop} {wd : World} (m x : Operand) (t : TypeId) (hop : o.op = Op.lookup t m x false) (ht : Tryz.prog.underlying t = some (.map 3 3)) (B n c : Nat) (f : Int → Option Int)
    (hm : a.eval m = .map (some B)) (hown : OwnsII wd B n f c) (s : Int) (hs : (Lit.int .i64 s).wf = true) (hx : a.eval x = .int .i64 s) (y : Int) (hy : (f s).getD 0 = y) (hK : K (a.put o.dst (.int .i64 y))) : o.quiet Tryz.prog a (fun w' => ∃ n, w' = wd.drewN n) K := by
  subst hy
  refine ⟨_, fun w ⟨q, e⟩ => ?_, hK⟩
  subst e
  have hrun := (hown.below (below_drewN (Below.refl _ _) q)).look0 ht hs
  unfold Oper.quietAt
  simp [execOp, hop, hm, hx, hrun, Result.andThen, Oper.quietUpon]
theorem run_makeMap0 (w : World) : (Instr.makeMap 43 none).run Tryz.prog w = .ok (.map (some w.heap.size)) (w.alloc (.map #[] 0)) := by
  simp only [Instr.makeMap]
  rfl
end Go.Proofs.YtelklmdlodgdpaaGreat

/-! T21 -/
namespace Go.Proofs.YtelklmdlodgdpaaGreat
open Go.RowKit
set_option linter.unusedVariables false
set_option maxRecDepth 100000
open Classical in
/-- The numbers met so far. -/
noncomputable def mtO (pre : List Int) (u : Int) : Option Int := if u ∈ pre then some 1 else none
theorem mtO_nil : (fun _ => none : Int → Option Int) = mtO [] := funext (fun u => by unfold mtO; rw [if_neg (by simp)])
theorem mtO_none {pre : List Int} {u : Int} (h : u ∉ pre) : mtO pre u = none := by unfold mtO; rw [if_neg h]
theorem mtO_some {pre : List Int} {u : Int} (h : u ∈ pre) : mtO pre u = some 1 := by unfold mtO; rw [if_pos h]
theorem mtO_snoc (pre : List Int) (x : Int) : (fun u => if u = x then some 1 else mtO pre u) = mtO (pre ++ [x]) := funext (fun u => by
  unfold mtO
  by_cases h : u = x
  · rw [if_pos h, if_pos (by rw [h]; simp)]
  · rw [if_neg h]
    by_cases h2 : u ∈ pre
    · rw [if_pos h2, if_pos (List.mem_append_left _ h2)]
    · rw [if_neg h2, if_neg (fun h3 => by
        rcases List.mem_append.1 h3 with h3 | h3
        · exact h2 h3
        · exact h (List.mem_singleton.1 h3))])
theorem flat_fresh {bs : List Bun} (h : (bs.flatMap (fun b => b.ids)).Nodup) {q : Nat} (hq : q < bs.length) {p : Nat} (hp : p < bs[q].ids.length) : bs[q].ids[p] ∉ (bs.take q).flatMap (fun b => b.ids) ++ bs[q].ids.take p := by
  have e : bs.flatMap (fun b => b.ids) = ((bs.take q).flatMap (fun b => b.ids) ++ bs[q].ids.take p) ++ (bs[q].ids[p] :: (bs[q].ids.drop (p + 1) ++ (bs.drop (q + 1)).flatMap (fun b => b.ids))) := by
    conv => lhs; rw [← List.take_append_drop q bs, List.drop_eq_getElem_cons hq]
    rw [List.flatMap_append, List.flatMap_cons, List.append_assoc, ← List.cons_append, ← List.append_assoc (bs[q].ids.take p), ← List.drop_eq_getElem_cons hp, List.take_append_drop]
  rw [e, List.nodup_append] at h
  intro hm
  exact h.2.2 _ hm _ List.mem_cons_self rfl
theorem flat_take_succ {bs : List Bun} {q : Nat} (hq : q < bs.length) : (bs.take (q + 1)).flatMap (fun b => b.ids) = (bs.take q).flatMap (fun b => b.ids) ++ bs[q].ids := by
  rw [List.take_succ_eq_append_getElem hq, List.flatMap_append]; simp
theorem flat_take_le {bs : List Bun} (q : Nat) : ((bs.take q).flatMap (fun b => b.ids)).length ≤ (bs.flatMap (fun b => b.ids)).length := take_flat _ _ _
theorem gramsOf_take (ps : List Pce) (I : List Int) {p : Nat} (hp : p < I.length) : gramsOf ps (I.take (p + 1)) = gramsOf ps (I.take p) + (pcAt ps I[p]).grams := by
  rw [List.take_succ_eq_append_getElem hp, gramsOf_snoc]
/-- What is known of a bundle, piece by piece. -/
theorem bun_steps {k : Pck} {ps : List Pce} {zs : List Int} {ns : List ByteArray} {b : Bun} (hu : IdsUp ps) (hg : ∀ p ∈ ps, 0 ≤ p.grams ∧ p.grams ≤ 50000) (h : BunGood k ps zs ns b) (hlen : b.ids.length ≤ 300) :
    ∃ G : Nat → Int, G 0 = 0 ∧ G b.ids.length = b.grams ∧ (∀ p, p ≤ b.ids.length → 0 ≤ G p ∧ G p ≤ 15000000) ∧ ∀ p (hp : p < b.ids.length), ∃ g, gmTo ps ps.length b.ids[p] = some g ∧ G (p + 1) = G p + g ∧ 0 ≤ g ∧ g ≤ 50000 := by
  obtain ⟨I, hI, hid, hgr, _, _, _⟩ := h
  have hl : b.ids.length = I.length := by rw [hid, List.length_map]
  refine ⟨fun p => gramsOf ps (I.take p), by simp [gramsOf], by dsimp only; rw [hl, List.take_length]; exact hgr, fun p hp => ?_, fun p hp => ?_⟩
  · dsimp only
    have h0 := grams_posN (fun x hx => (hg x hx).1) (I.take p) (fun i hi => (hI i (List.mem_of_mem_take hi)).2.1)
    have h1 := grams_le (c := 50000) (by decide) (fun x hx => (hg x hx).2) (I.take p) (fun i hi => (hI i (List.mem_of_mem_take hi)).2.1)
    rw [List.length_take] at h1
    refine ⟨h0, Int.le_trans h1 ?_⟩
    have : ((min p I.length : Nat) : Int) ≤ 300 := by omega
    omega
  · have hp' : p < I.length := by omega
    obtain ⟨h0, h1, _⟩ := hI _ (List.getElem_mem hp')
    have hpm := hg _ (pcAt_memN h1)
    refine ⟨(pcAt ps I[p]).grams, ?_, gramsOf_take ps I hp', hpm.1, hpm.2⟩
    have e : b.ids[p] = (pcAt ps I[p]).id := by simp only [hid, List.getElem_map]
    rw [e]
    have := gm_some hu (j := (I[p]).toNat) ps.length (Nat.le_refl _) h1
    rw [Int.toNat_of_nonneg h0] at this
    exact this
end Go.Proofs.YtelklmdlodgdpaaGreat

/-! T24 -/
namespace Go.Proofs.YtelklmdlodgdpaaGreat
open Go.RowKit Go.Maps Go.WideMaps
set_option linter.unusedVariables false
set_option maxRecDepth 100000
def OwnsSet {κ : Type} (KT : TypeId) (lit : κ → Lit) (w : World) (B n : Nat) (K : List κ) : Prop :=
  ∃ D : DataW Unit, w.ownsMap Tryz.prog KT (plainElem Tryz.prog 4) B n D ∧ Maps.size D = K.length ∧ K.Nodup ∧ ∀ x, Maps.has D (lit x) = true ↔ x ∈ K
def litI (x : Int) : Lit := .int .i64 x
section
variable {κ : Type} {KT : TypeId} {lit : κ → Lit} {w w' : World} {B n : Nat} {K : List κ}
theorem OwnsSet.made (w : World) : OwnsSet KT lit (w.alloc (.map #[] 0)) w.heap.size 0 [] :=
  ⟨.map [], World.ownsMap_made _ _ _ _, rfl, List.nodup_nil, fun s => ⟨fun h => absurd h (by simp [Maps.has]), fun h => absurd h (by simp)⟩⟩
theorem OwnsSet.kept {row : Option Nat} (h : OwnsSet KT lit w B n K) (hg : w.grownBy w' row) (hne : some B ≠ row) : OwnsSet KT lit w' B n K := by
  obtain ⟨D, hD, hf⟩ := h
  exact ⟨D, hD.kept hg hne, hf⟩
theorem OwnsSet.below (h : OwnsSet KT lit w B n K) (hb : Below w.heap.size w w') : OwnsSet KT lit w' B n K := h.kept (grown_none hb) (by simp)
theorem OwnsSet.lt (h : OwnsSet KT lit w B n K) : B < w.heap.size := by obtain ⟨D, hD, _⟩ := h; exact hD.lt
theorem OwnsSet.len (h : OwnsSet KT lit w B n K) {t : TypeId} (ht : Tryz.prog.underlying t = some (.map KT 4)) (ty : TypeId) : (Builtin.len_ #[t] ty #[.map (some B)]).run Tryz.prog w = .ok (.int .i64 (K.length : Nat)) w := by
  obtain ⟨D, hD, hc, _⟩ := h
  rw [← hc]
  exact hD.len ht ty
/-- What a key that is put does to the set. -/
theorem set_put {D : DataW Unit} {K : List κ} (hinj : ∀ x y, lit x = lit y → x = y) (hlit : ∀ x, WideAt.IsKeyLit (lit x)) (hm : Maps.IsMap D) (htd : Maps.Tidy D) (hc : Maps.size D = K.length) (hnd : K.Nodup) (hf : ∀ x, Maps.has D (lit x) = true ↔ x ∈ K) (s : κ) (d : DataW Unit) :
    ∃ K' : List κ, Maps.size (D.put (lit s) d) = K'.length ∧ K'.Nodup ∧ (∀ x, Maps.has (D.put (lit s) d) (lit x) = true ↔ x ∈ K') ∧ ∀ x, x ∈ K' ↔ x ∈ K ∨ x = s := by
  have hh : ∀ x, Maps.has (D.put (lit s) d) (lit x) = true ↔ x ∈ K ∨ x = s := fun x => by
    by_cases e : x = s
    · subst e
      rw [has_put_same hm (hlit x) _]
      simp
    · rw [has_put_other (fun h => e (hinj _ _ h)) _, hf x]
      simp [e]
  by_cases hs : s ∈ K
  · refine ⟨K, ?_, hnd, fun x => (hh x).trans ⟨fun h => h.elim id (fun e => e ▸ hs), .inl⟩, fun x => ⟨.inl, fun h => h.elim id (fun e => e ▸ hs)⟩⟩
    rw [size_put htd, if_pos ((hf s).2 hs), hc]
  · refine ⟨K ++ [s], ?_, ?_, fun x => (hh x).trans (by simp), fun x => by simp⟩
    · rw [size_put htd, if_neg (fun h => hs ((hf s).1 h)), hc]; simp
    · rw [List.nodup_append]
      exact ⟨hnd, by simp, fun a ha b hb => by rw [List.mem_singleton.1 hb]; rintro rfl; exact hs ha⟩
end
abbrev OwnsSetS := OwnsSet 9 litK
abbrev OwnsSetI := OwnsSet 3 litI
theorem wpList_update_SS (w : World) {ops : Array Oper} {rest : List Oper} {o : Oper} {a : Act} {Q : Exit → Act → World → Prop}
    (hg : o.guard = none) (m x v : Operand) (t : TypeId) (hop : o.op = Op.mapUpdate t m x v) (ht : Tryz.prog.underlying t = some (.map 9 4)) (B n : Nat) (K : List ByteArray)
    (hm : a.eval m = .map (some B)) (hown : OwnsSetS w B n K) (hn : n < maxLen) (s : ByteArray) (hs : s.size ≤ maxLen) (hx : a.eval x = .string s) (hv : a.eval v = .bool true)
    (hK : ∀ w' K', OwnsSetS w' B (n + 1) K' → (∀ x, x ∈ K' ↔ x ∈ K ∨ x = s) → w.grownBy w' (some B) → wpList Tryz.prog ops Q rest (a.put o.dst undef) w') : wpList Tryz.prog ops Q (o :: rest) a w := by
  refine wpList_plain hg fun K' hK' => ?_
  obtain ⟨D, hD, hc, hnd, hf⟩ := hown
  obtain ⟨w', hrun, h1, h2⟩ := hD.update keyed_str ht hn (keyOf_string_mk Tryz.underlying9 hs) (boolLaw.lay true trivial)
  obtain ⟨K2, k1, k2, k3, k4⟩ := set_put (lit := litK) (fun _ _ h => litK_inj h) (fun _ => trivial) hD.isMap (hD.tidy keyed_str) hc hnd hf s (.lit (.bool true))
  unfold Oper.wp
  simp [execOp, hop, hm, hx, hv, hrun, Result.andThen]
  exact hK' _ _ (hK w' K2 ⟨_, h1, k1, k2, k3⟩ k4 h2)
theorem wpList_update_SI (w : World) {ops : Array Oper} {rest : List Oper} {o : Oper} {a : Act} {Q : Exit → Act → World → Prop}
    (hg : o.guard = none) (m x v : Operand) (t : TypeId) (hop : o.op = Op.mapUpdate t m x v) (ht : Tryz.prog.underlying t = some (.map 3 4)) (B n : Nat) (K : List Int)
    (hm : a.eval m = .map (some B)) (hown : OwnsSetI w B n K) (hn : n < maxLen) (s : Int) (hs : (Lit.int .i64 s).wf = true) (hx : a.eval x = .int .i64 s) (hv : a.eval v = .bool true)
    (hK : ∀ w' K', OwnsSetI w' B (n + 1) K' → (∀ x, x ∈ K' ↔ x ∈ K ∨ x = s) → w.grownBy w' (some B) → wpList Tryz.prog ops Q rest (a.put o.dst undef) w') : wpList Tryz.prog ops Q (o :: rest) a w := by
  refine wpList_plain hg fun K' hK' => ?_
  obtain ⟨D, hD, hc, hnd, hf⟩ := hown
  obtain ⟨w', hrun, h1, h2⟩ := hD.update keyed_int ht hn (keyOf_int_mk Tryz.underlying3 hs) (boolLaw.lay true trivial)
  obtain ⟨K2, k1, k2, k3, k4⟩ := set_put (lit := litI) (fun _ _ h => by injection h) (fun _ => trivial) hD.isMap (hD.tidy keyed_int) hc hnd hf s (.lit (.bool true))
  unfold Oper.wp
  simp [execOp, hop, hm, hx, hv, hrun, Result.andThen]
  exact hK' _ _ (hK w' K2 ⟨_, h1, k1, k2, k3⟩ k4 h2)
theorem run_makeMapSB (w : World) : (Instr.makeMap 65 none).run Tryz.prog w = .ok (.map (some w.heap.size)) (w.alloc (.map #[] 0)) := by
  simp only [Instr.makeMap]
  rfl
theorem run_makeMapIB (w : World) : (Instr.makeMap 66 none).run Tryz.prog w = .ok (.map (some w.heap.size)) (w.alloc (.map #[] 0)) := by
  simp only [Instr.makeMap]
  rfl
end Go.Proofs.YtelklmdlodgdpaaGreat
