/-
  A list of levels that comes in: how the walk reads it.
-/
import Derived.Test.YtojedplbhialpaaGreatDoorGV
import Derived.Test.YtojedplbhialpaaGreatDoorKX
import Derived.Deep.Slices
import Derived.SizedLaws
namespace Go.Proofs.YtojedplbhialpaaGreatDoor
open Go.ChangeShapes Go.WideShapes Go.ChangeAt Go.RowKit
set_option linter.unusedVariables false
set_option maxRecDepth 100000
variable {H : Type} {enc : TypeId × Value → H} {W : World} {base fuel : Nat} {spare : Nat → Bool} {held : Bool}
theorem cells_lab : Tryz.prog.cellsOf 235 = 2 := by kernel_rfl
theorem cells_lev : Tryz.prog.cellsOf 93 = 5 := by kernel_rfl
theorem cells_str1 : Tryz.prog.cellsOf 9 = 1 := by kernel_rfl
theorem cells_int1 : Tryz.prog.cellsOf 3 = 1 := by kernel_rfl
theorem cells_labs1 : Tryz.prog.cellsOf 91 = 1 := by kernel_rfl
theorem bytes_lab : Tryz.prog.bytesOf 235 = 32 := by kernel_rfl
theorem bytes_lev : Tryz.prog.bytesOf 93 = 64 := by kernel_rfl
def okW (ws : List Nat) : Prop := ∀ x ∈ ws, x ≤ reachBytes
theorem cells_at {a : Addr} {n : Nat} {cs : List Value} (h : W.cells? base a n = some cs) : ∀ i, i < n → W.cell? (a.add i) = cs[i]? := by
  unfold World.cells? at h
  split at h
  · intro i hi
    exact mapM_some_get h i i (by simp [hi])
  · cases h
theorem open_lab {cs : List Value} {x : DataW H × List MemPlace} (h : DataW.trod enc Tryz.prog W base spare held fuel 235 cs = some x) :
    ∃ l : Lab, cs = [.string l.pre, .string l.grp] ∧ l.pre.size ≤ maxLen ∧ l.grp.size ≤ maxLen := by
  obtain ⟨xs, n, _, _, hl, hxl, hf⟩ := DataW.trod_struct Tryz.underlying235 h
  rw [cells_lab] at hl
  have h0 := hf 0 _ rfl
  have h1 := hf 1 _ rfl
  have hxl' : xs.length = 2 := hxl
  rw [List.getElem?_eq_getElem (by omega)] at h0 h1
  obtain ⟨p, hp, _, hps⟩ := DataW.trod_string Tryz.underlying9 h0
  obtain ⟨g, hg, _, hgs⟩ := DataW.trod_string Tryz.underlying9 h1
  match cs, hl with
  | [a, b], _ =>
    replace hp : ([a, b].drop 0).take (Tryz.prog.cellsOf 9) = [.string p] := hp
    replace hg : ([a, b].drop 1).take (Tryz.prog.cellsOf 9) = [.string g] := hg
    rw [cells_str1] at hp hg
    have e1 : a = .string p := by simpa using hp
    have e2 : b = .string g := by simpa using hg
    exact ⟨⟨p, g⟩, by rw [e1, e2], hps, hgs⟩
theorem okW_left {a b : List Nat} (h : okW (a ++ b)) : okW a := fun x hx => h x (List.mem_append_left _ hx)
theorem okW_right {a b : List Nat} (h : okW (a ++ b)) : okW b := fun x hx => h x (List.mem_append_right _ hx)
theorem okW_all {e : TypeId} : ∀ {l : List (DataW H)}, okW (DataW.weightsAll Tryz.prog e l) → ∀ d ∈ l, okW (d.weights Tryz.prog e)
  | [], _, d, hd => by cases hd
  | d :: r, h, d', hd => by
    rw [DataW.weightsAll] at h
    rcases List.mem_cons.1 hd with rfl | hd
    · exact okW_left h
    · exact okW_all (okW_right h) d' hd
theorem addr_cell0 {a : Addr} {m : Nat} {v : Value} (h : W.cell? ((a.add (0 * m)).add 0) = some v) : ∃ b off, a = ⟨b, off, none⟩ ∧ W.cell? ⟨b, off, none⟩ = some v := by
  rw [Nat.zero_mul] at h
  obtain ⟨b, off, spot⟩ := a
  have e : ((⟨b, off, spot⟩ : Addr).add 0).add 0 = ⟨b, off, spot⟩ := by simp [Addr.add]
  rw [e] at h
  have hs : spot = none := World.cell?_spot h
  subst hs
  exact ⟨b, off, rfl, h⟩
theorem addr_cellN {b off k j : Nat} {v : Value} (h : W.cell? (((⟨b, off, none⟩ : Addr).add k).add j) = some v) : W.cell? ⟨b, off + k + j, none⟩ = some v := by
  have e : ((⟨b, off, none⟩ : Addr).add k).add j = ⟨b, off + k + j, none⟩ := by
    unfold Addr.add
    split <;> split <;> simp_all
  rw [e] at h
  exact h
theorem open_labs {cs : List Value} {x : DataW H × List MemPlace} (h : DataW.trod enc Tryz.prog W base spare held fuel 91 cs = some x) :
    ∃ (v : Value) (labs : List Lab), cs = [v] ∧ RdLabs W v labs ∧ NilOk v ∧ (∀ y ∈ labs, y.pre.size ≤ maxLen ∧ y.grp.size ≤ maxLen) ∧ (okW (x.1.weights Tryz.prog 91) → labs.length ≤ 4398046511104) := by
  rcases DataW.trod_slice Tryz.underlying91 h with ⟨rfl, rfl⟩ | ⟨a, len, cap, elems, rest, n, _, rfl, rfl, hb, hl, hm, hlen, hel, hsp, hns⟩
  · exact ⟨_, [], rfl, ⟨none, 0, rfl, fun h => absurd h (by simp)⟩, fun l c h => (by cases h; exact ⟨rfl, rfl⟩), by simp, fun _ => Nat.zero_le _⟩
  · have each : ∀ i, i < len → ∃ l : Lab, W.cell? ((a.add (i * 2)).add 0) = some (.string l.pre) ∧ W.cell? ((a.add (i * 2)).add 1) = some (.string l.grp) ∧ l.pre.size ≤ maxLen ∧ l.grp.size ≤ maxLen := fun i hi => by
      have := hel i hi
      rw [cells_lab, List.getElem?_eq_getElem (by omega), Option.bind_eq_some_iff] at this
      obtain ⟨cs', hcs, hy⟩ := this
      obtain ⟨l, rfl, h1, h2⟩ := open_lab hy
      exact ⟨l, cells_at hcs 0 (by omega), cells_at hcs 1 (by omega), h1, h2⟩
    obtain ⟨f, hf⟩ : ∃ f : Nat → Lab, ∀ i, i < len → W.cell? ((a.add (i * 2)).add 0) = some (.string (f i).pre) ∧ W.cell? ((a.add (i * 2)).add 1) = some (.string (f i).grp) ∧ (f i).pre.size ≤ maxLen ∧ (f i).grp.size ≤ maxLen := by
      refine ⟨fun i => if h : i < len then Classical.choose (each i h) else ⟨⟨#[]⟩, ⟨#[]⟩⟩, fun i hi => ?_⟩
      simp only [dif_pos hi]
      exact Classical.choose_spec (each i hi)
    refine ⟨_, (List.range len).map f, rfl, ⟨some a, cap, by simp, fun h0 => ?_⟩, fun l c h => (by cases h), fun y hy => ?_, fun hw => ?_⟩
    · have h0' : 0 < len := by simpa using h0
      obtain ⟨b, off, rfl, hc⟩ := addr_cell0 (hf 0 h0').1
      refine ⟨b, off, rfl, cell_lt hc, fun i hi => ?_⟩
      have hi' : i < len := by simpa using hi
      have hc1 := addr_cellN (hf i hi').1
      have hc2 := addr_cellN (hf i hi').2.1
      simp only [List.getElem_map, List.getElem_range]
      exact ⟨hc1, hc2⟩
    · obtain ⟨i, hi, rfl⟩ := List.mem_map.1 hy
      exact (hf i (List.mem_range.1 hi)).2.2
    · rw [List.length_map, List.length_range]
      unfold DataW.weights at hw
      rw [Tryz.underlying91] at hw
      have := hw _ List.mem_cons_self
      rw [bytes_lab, List.length_map, List.length_map, hlen] at this
      unfold reachBytes at this
      omega
theorem open_lev {cs : List Value} {x : DataW H × List MemPlace} (h : DataW.trod enc Tryz.prog W base spare held fuel 93 cs = some x) :
    ∃ (l : Lev) (sv : Value), cs = [.string l.name, .int .i64 l.pre, sv, .int .i64 l.min, .int .i64 l.cents] ∧ RdLabs W sv l.labs ∧ NilOk sv ∧ l.name.size ≤ maxLen ∧ (∀ y ∈ l.labs, y.pre.size ≤ maxLen ∧ y.grp.size ≤ maxLen) ∧ (okW (x.1.weights Tryz.prog 93) → l.labs.length ≤ 4398046511104) := by
  obtain ⟨xs, n, _, hx, hl, hxl, hf⟩ := DataW.trod_struct Tryz.underlying93 h
  rw [cells_lev] at hl
  have hxl' : xs.length = 5 := hxl
  have h0 := hf 0 _ rfl
  have h1 := hf 1 _ rfl
  have h2 := hf 2 _ rfl
  have h3 := hf 3 _ rfl
  have h4 := hf 4 _ rfl
  match xs, hxl' with
  | [x0, x1, x2, x3, x4], _ =>
    simp only [List.getElem?_cons_zero, List.getElem?_cons_succ] at h0 h1 h2 h3 h4
    obtain ⟨nm, hn, _, hns⟩ := DataW.trod_string Tryz.underlying9 h0
    obtain ⟨p, hp, _, _⟩ := DataW.trod_int Tryz.underlying3 h1
    obtain ⟨sv, labs, hs, a1, a2, a3, a4⟩ := open_labs h2
    obtain ⟨m, hm, _, _⟩ := DataW.trod_int Tryz.underlying3 h3
    obtain ⟨c, hc, _, _⟩ := DataW.trod_int Tryz.underlying3 h4
    match cs, hl with
    | [b0, b1, b2, b3, b4], _ =>
      replace hn : ([b0, b1, b2, b3, b4].drop 0).take (Tryz.prog.cellsOf 9) = [.string nm] := hn
      replace hp : ([b0, b1, b2, b3, b4].drop 1).take (Tryz.prog.cellsOf 3) = [.int .i64 p] := hp
      replace hs : ([b0, b1, b2, b3, b4].drop 2).take (Tryz.prog.cellsOf 91) = [sv] := hs
      replace hm : ([b0, b1, b2, b3, b4].drop 3).take (Tryz.prog.cellsOf 3) = [.int .i64 m] := hm
      replace hc : ([b0, b1, b2, b3, b4].drop 4).take (Tryz.prog.cellsOf 3) = [.int .i64 c] := hc
      rw [cells_str1] at hn
      rw [cells_int1] at hp hm hc
      rw [cells_labs1] at hs
      have e0 : b0 = .string nm := by simpa using hn
      have e1 : b1 = .int .i64 p := by simpa using hp
      have e2 : b2 = sv := by simpa using hs
      have e3 : b3 = .int .i64 m := by simpa using hm
      have e4 : b4 = .int .i64 c := by simpa using hc
      refine ⟨⟨nm, p, labs, m, c⟩, sv, by rw [e0, e1, e2, e3, e4], a1, a2, hns, a3, fun hw => a4 ?_⟩
      rw [hx] at hw
      unfold DataW.weights at hw
      rw [Tryz.underlying93] at hw
      simp only [List.map_cons, List.map_nil, DataW.weightsEach] at hw
      exact okW_left (okW_right (okW_right hw))
theorem open_levels_arg {v : Value} {d : DataW H} {ps : List MemPlace} (hval : Value.okWide Tryz.prog W .any base 26 v)
    (h : DataW.Trod enc Tryz.prog W 0 (fun _ => true) true 26 v d ps) (hw : okW (d.weights Tryz.prog 26)) :
    ∃ ls : List Lev, RdLevN W v ls ∧ ls.length ≤ maxLen ∧ ∀ l ∈ ls, l.labs.length ≤ 4398046511104 ∧ l.name.size ≤ maxLen ∧ ∀ x ∈ l.labs, x.pre.size ≤ maxLen ∧ x.grp.size ≤ maxLen := by
  obtain ⟨a0, len0, cap0, rfl⟩ := okWide_slice Tryz.underlying26 hval
  obtain ⟨fuel, hf0⟩ := h
  rcases DataW.trod_slice Tryz.underlying26 hf0 with ⟨hcs, hx⟩ | ⟨a, len, cap, elems, rest, n, _, hcs, hx, hb, hl, hm, hlen, hel, hsp, hns⟩
  · simp [Value.cells] at hcs
    obtain ⟨rfl, rfl, rfl⟩ := hcs
    exact ⟨[], ⟨none, 0, rfl, fun h => absurd h (by simp)⟩, Nat.zero_le _, by simp⟩
  · simp [Value.cells] at hcs
    obtain ⟨rfl, rfl, rfl⟩ := hcs
    have hd : d = .slice (elems.map (·.1)) (rest.map (·.1)) := congrArg Prod.fst hx
    subst hd
    have hwe : okW (DataW.weightsAll Tryz.prog 93 (elems.map (·.1))) := by
      unfold DataW.weights at hw
      rw [Tryz.underlying26] at hw
      exact fun x hx => hw x (List.mem_cons_of_mem _ (List.mem_append_left _ hx))
    have each : ∀ i, i < len0 → ∃ q : Lev × Value, W.cell? ((a.add (i * 5)).add 0) = some (.string q.1.name) ∧ W.cell? ((a.add (i * 5)).add 1) = some (.int .i64 q.1.pre) ∧ W.cell? ((a.add (i * 5)).add 2) = some q.2 ∧ W.cell? ((a.add (i * 5)).add 3) = some (.int .i64 q.1.min) ∧ W.cell? ((a.add (i * 5)).add 4) = some (.int .i64 q.1.cents) ∧
        RdLabs W q.2 q.1.labs ∧ NilOk q.2 ∧ q.1.labs.length ≤ 4398046511104 ∧ q.1.name.size ≤ maxLen ∧ ∀ x ∈ q.1.labs, x.pre.size ≤ maxLen ∧ x.grp.size ≤ maxLen := fun i hi => by
      have := hel i hi
      rw [cells_lev, List.getElem?_eq_getElem (by omega), Option.bind_eq_some_iff] at this
      obtain ⟨cs', hcs, hy⟩ := this
      obtain ⟨l, sv, rfl, b1, b2, b3, b4, b5⟩ := open_lev hy
      exact ⟨(l, sv), cells_at hcs 0 (by omega), cells_at hcs 1 (by omega), cells_at hcs 2 (by omega), cells_at hcs 3 (by omega), cells_at hcs 4 (by omega), b1, b2, b5 (okW_all hwe _ (List.mem_map.2 ⟨_, List.getElem_mem _, rfl⟩)), b3, b4⟩
    obtain ⟨f, hf⟩ : ∃ f : Nat → Lev × Value, ∀ i, i < len0 → W.cell? ((a.add (i * 5)).add 0) = some (.string (f i).1.name) ∧ W.cell? ((a.add (i * 5)).add 1) = some (.int .i64 (f i).1.pre) ∧ W.cell? ((a.add (i * 5)).add 2) = some (f i).2 ∧ W.cell? ((a.add (i * 5)).add 3) = some (.int .i64 (f i).1.min) ∧ W.cell? ((a.add (i * 5)).add 4) = some (.int .i64 (f i).1.cents) ∧
        RdLabs W (f i).2 (f i).1.labs ∧ NilOk (f i).2 ∧ (f i).1.labs.length ≤ 4398046511104 ∧ (f i).1.name.size ≤ maxLen ∧ ∀ x ∈ (f i).1.labs, x.pre.size ≤ maxLen ∧ x.grp.size ≤ maxLen := by
      refine ⟨fun i => if h : i < len0 then Classical.choose (each i h) else (⟨⟨#[]⟩, 0, [], 0, 0⟩, .slice none 0 0), fun i hi => ?_⟩
      simp only [dif_pos hi]
      exact Classical.choose_spec (each i hi)
    refine ⟨(List.range len0).map (fun i => (f i).1), ⟨some a, cap0, by simp, fun h0 => ?_⟩, by simp; omega, fun l hl' => ?_⟩
    · have h0' : 0 < len0 := by simpa using h0
      obtain ⟨b, off, rfl, hc⟩ := addr_cell0 (hf 0 h0').1
      refine ⟨b, off, rfl, cell_lt hc, fun i hi => ?_⟩
      have hi' : i < len0 := by simpa using hi
      obtain ⟨q0, q1, q2, q3, q4, r1, r2, _⟩ := hf i hi'
      have d0 := addr_cellN q0
      have d1 := addr_cellN q1
      have d2 := addr_cellN q2
      have d3 := addr_cellN q3
      have d4 := addr_cellN q4
      refine ⟨(f i).2, ?_, r2, ?_⟩
      · simp only [List.getElem_map, List.getElem_range]; exact r1
      · simp only [List.getElem_map, List.getElem_range]
        exact ⟨d0, d1, d2, d3, d4⟩
    · obtain ⟨i, hi, rfl⟩ := List.mem_map.1 hl'
      have := hf i (List.mem_range.1 hi)
      exact this.2.2.2.2.2.2.2
end Go.Proofs.YtojedplbhialpaaGreatDoor
