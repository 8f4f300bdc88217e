/-
  A manifest that comes in: how the walk reads it.
-/
import Derived.Test.YtojedplbhialpaaGreatDoorU11
import Derived.Test.YtojedplbhialpaaGreatDoorE1
namespace Go.Proofs.YtojedplbhialpaaGreatDoor
open Go.ChangeShapes Go.WideShapes Go.ChangeAt Go.RowKit
set_option linter.unusedVariables false
set_option maxRecDepth 100000
variable {H : Type} {enc : TypeId × Value → H} {W : World} {base fuel : Nat} {spare : Nat → Bool} {held : Bool}
theorem cells_line : Tryz.prog.cellsOf 42 = 8 := by kernel_rfl
theorem cells_lines : Tryz.prog.cellsOf 40 = 1 := by kernel_rfl
theorem cells_man : Tryz.prog.cellsOf 44 = 12 := by kernel_rfl
theorem bytes_line : Tryz.prog.bytesOf 42 = 64 := by kernel_rfl
/-- All numbers of a line are 64 bits wide. -/
structure LnW (l : Ln) : Prop where
  level : I64 l.level
  pieces : I64 l.pieces
  barred : I64 l.barred
  grams : I64 l.grams
  base : I64 l.base
  bar : I64 l.bar
  saved : I64 l.saved
  cents : I64 l.cents
theorem i64_of {n : Int} (h : (Lit.int .i64 n).wf = true) : I64 n := by
  simp only [Lit.wf, Bool.and_eq_true, decide_eq_true_eq] at h
  exact ⟨h.1, h.2⟩
theorem open_line {cs : List Value} {x : DataW H × List MemPlace} (h : DataW.trod enc Tryz.prog W base spare held fuel 42 cs = some x) :
    ∃ l : Ln, cs = lnC l ∧ LnW l := by
  obtain ⟨xs, n, _, _, hl, hxl, hf⟩ := DataW.trod_struct Tryz.underlying42 h
  rw [cells_line] at hl
  have hxl' : xs.length = 8 := hxl
  have h0 := hf 0 _ rfl
  have h1 := hf 1 _ rfl
  have h2 := hf 2 _ rfl
  have h3 := hf 3 _ rfl
  have h4 := hf 4 _ rfl
  have h5 := hf 5 _ rfl
  have h6 := hf 6 _ rfl
  have h7 := hf 7 _ rfl
  match xs, hxl' with
  | [x0, x1, x2, x3, x4, x5, x6, x7], _ =>
    simp only [List.getElem?_cons_zero, List.getElem?_cons_succ] at h0 h1 h2 h3 h4 h5 h6 h7
    obtain ⟨n0, e0, _, g0⟩ := DataW.trod_int Tryz.underlying3 h0
    obtain ⟨n1, e1, _, g1⟩ := DataW.trod_int Tryz.underlying3 h1
    obtain ⟨n2, e2, _, g2⟩ := DataW.trod_int Tryz.underlying3 h2
    obtain ⟨n3, e3, _, g3⟩ := DataW.trod_int Tryz.underlying3 h3
    obtain ⟨n4, e4, _, g4⟩ := DataW.trod_int Tryz.underlying3 h4
    obtain ⟨n5, e5, _, g5⟩ := DataW.trod_int Tryz.underlying3 h5
    obtain ⟨n6, e6, _, g6⟩ := DataW.trod_int Tryz.underlying3 h6
    obtain ⟨n7, e7, _, g7⟩ := DataW.trod_int Tryz.underlying3 h7
    match cs, hl with
    | [b0, b1, b2, b3, b4, b5, b6, b7], _ =>
      replace e0 : ([b0, b1, b2, b3, b4, b5, b6, b7].drop 0).take (Tryz.prog.cellsOf 3) = [.int .i64 n0] := e0
      replace e1 : ([b0, b1, b2, b3, b4, b5, b6, b7].drop 1).take (Tryz.prog.cellsOf 3) = [.int .i64 n1] := e1
      replace e2 : ([b0, b1, b2, b3, b4, b5, b6, b7].drop 2).take (Tryz.prog.cellsOf 3) = [.int .i64 n2] := e2
      replace e3 : ([b0, b1, b2, b3, b4, b5, b6, b7].drop 3).take (Tryz.prog.cellsOf 3) = [.int .i64 n3] := e3
      replace e4 : ([b0, b1, b2, b3, b4, b5, b6, b7].drop 4).take (Tryz.prog.cellsOf 3) = [.int .i64 n4] := e4
      replace e5 : ([b0, b1, b2, b3, b4, b5, b6, b7].drop 5).take (Tryz.prog.cellsOf 3) = [.int .i64 n5] := e5
      replace e6 : ([b0, b1, b2, b3, b4, b5, b6, b7].drop 6).take (Tryz.prog.cellsOf 3) = [.int .i64 n6] := e6
      replace e7 : ([b0, b1, b2, b3, b4, b5, b6, b7].drop 7).take (Tryz.prog.cellsOf 3) = [.int .i64 n7] := e7
      rw [cells_int1] at e0 e1 e2 e3 e4 e5 e6 e7
      have a0 : b0 = .int .i64 n0 := by simpa using e0
      have a1 : b1 = .int .i64 n1 := by simpa using e1
      have a2 : b2 = .int .i64 n2 := by simpa using e2
      have a3 : b3 = .int .i64 n3 := by simpa using e3
      have a4 : b4 = .int .i64 n4 := by simpa using e4
      have a5 : b5 = .int .i64 n5 := by simpa using e5
      have a6 : b6 = .int .i64 n6 := by simpa using e6
      have a7 : b7 = .int .i64 n7 := by simpa using e7
      exact ⟨⟨n0, n1, n2, n3, n4, n5, n6, n7⟩, by unfold lnC; rw [a0, a1, a2, a3, a4, a5, a6, a7], ⟨i64_of g0, i64_of g1, i64_of g2, i64_of g3, i64_of g4, i64_of g5, i64_of g6, i64_of g7⟩⟩
theorem open_lines {cs : List Value} {x : DataW H × List MemPlace} (h : DataW.trod enc Tryz.prog W base spare held fuel 40 cs = some x) :
    ∃ (v : Value) (l : List Ln), cs = [v] ∧ RdLns W v l ∧ NilOk v ∧ (∀ y ∈ l, LnW y) ∧ (okW (x.1.weights Tryz.prog 40) → l.length ≤ 4398046511104) := by
  rcases DataW.trod_slice Tryz.underlying40 h with ⟨rfl, rfl⟩ | ⟨a, len, cap, elems, rest, n, _, rfl, rfl, hb, hl, hm, hlen, hel, hsp, hns⟩
  · exact ⟨_, [], rfl, ⟨none, 0, rfl, fun h => absurd h (by simp)⟩, fun l c h => (by cases h; exact ⟨rfl, rfl⟩), by simp, fun _ => Nat.zero_le _⟩
  · have each : ∀ i, i < len → ∃ l : Ln, (∀ j u, (lnC l)[j]? = some u → W.cell? ((a.add (i * 8)).add j) = some u) ∧ LnW l := fun i hi => by
      have := hel i hi
      rw [cells_line, List.getElem?_eq_getElem (by omega), Option.bind_eq_some_iff] at this
      obtain ⟨cs', hcs, hy⟩ := this
      obtain ⟨l, rfl, h1⟩ := open_line hy
      refine ⟨l, fun j u hu => ?_, h1⟩
      have hj : j < 8 := (List.getElem?_eq_some_iff.1 hu).1
      rw [cells_at hcs j hj, hu]
    obtain ⟨f, hf⟩ : ∃ f : Nat → Ln, ∀ i, i < len → (∀ j u, (lnC (f i))[j]? = some u → W.cell? ((a.add (i * 8)).add j) = some u) ∧ LnW (f i) := by
      refine ⟨fun i => if h : i < len then Classical.choose (each i h) else zeroLn 0, fun i hi => ?_⟩
      simp only [dif_pos hi]
      exact Classical.choose_spec (each i hi)
    refine ⟨_, (List.range len).map f, rfl, ⟨some a, cap, by simp, fun h0 => ?_⟩, fun l c h => (by cases h), fun y hy => ?_, fun hw => ?_⟩
    · have h0' : 0 < len := by simpa using h0
      obtain ⟨b, off, rfl, hc⟩ := addr_cell0 ((hf 0 h0').1 0 _ rfl)
      refine ⟨b, off, rfl, cell_lt hc, fun i hi j u hu => ?_⟩
      have hi' : i < len := by simpa using hi
      simp only [List.getElem_map, List.getElem_range] at hu
      exact addr_cellN ((hf i hi').1 j u hu)
    · obtain ⟨i, hi, rfl⟩ := List.mem_map.1 hy
      exact (hf i (List.mem_range.1 hi)).2
    · rw [List.length_map, List.length_range]
      unfold DataW.weights at hw
      rw [Tryz.underlying40] at hw
      have := hw _ List.mem_cons_self
      rw [bytes_line, List.length_map, List.length_map, hlen] at this
      unfold reachBytes at this
      omega
/-- What is known of a manifest that comes in. -/
structure ManW (X : Man) : Prop where
  lines : ∀ l ∈ X.lines, LnW l
  total : LnW X.total
  buns : I64 X.buns
  tras : I64 X.tras
  cons : I64 X.cons
  len : X.lines.length ≤ 4398046511104
theorem open_man_arg {v : Value} {d : DataW H} {ps : List MemPlace} (hval : Value.okWide Tryz.prog W .any base 44 v)
    (h : DataW.Trod enc Tryz.prog W 0 (fun _ => true) true 44 v d ps) (hw : okW (d.weights Tryz.prog 44)) :
    ∃ (X : Man) (u : Value), v = manA X u ∧ RdLns W u X.lines ∧ NilOk u ∧ ManW X := by
  obtain ⟨cs, rfl, hcs⟩ := okWide_struct Tryz.underlying44 hval
  obtain ⟨fuel, hf0⟩ := h
  obtain ⟨xs, n, _, hx, hl, hxl, hf⟩ := DataW.trod_struct Tryz.underlying44 hf0
  rw [cells_man] at hcs hl
  have hxl' : xs.length = 5 := hxl
  have h0 := hf 0 _ rfl
  have h1 := hf 1 _ rfl
  have h2 := hf 2 _ rfl
  have h3 := hf 3 _ rfl
  have h4 := hf 4 _ rfl
  match xs, hxl' with
  | [x0, x1, x2, x3, x4], _ =>
    simp only [List.getElem?_cons_zero, List.getElem?_cons_succ] at h0 h1 h2 h3 h4
    obtain ⟨sv, L, e0, r1, r2, r3, r4⟩ := open_lines h0
    obtain ⟨T, e1, t1⟩ := open_line h1
    obtain ⟨n2, e2, _, g2⟩ := DataW.trod_int Tryz.underlying3 h2
    obtain ⟨n3, e3, _, g3⟩ := DataW.trod_int Tryz.underlying3 h3
    obtain ⟨n4, e4, _, g4⟩ := DataW.trod_int Tryz.underlying3 h4
    obtain ⟨cl, rfl⟩ : ∃ cl : List Value, cs = cl.toArray := ⟨cs.toList, by simp⟩
    have hcl : cl.length = 12 := by simpa using hcs
    match cl, hcl with
    | [b0, b1, b2, b3, b4, b5, b6, b7, b8, b9, b10, b11], _ =>
      replace e0 : ([b0, b1, b2, b3, b4, b5, b6, b7, b8, b9, b10, b11].drop 0).take (Tryz.prog.cellsOf 40) = [sv] := e0
      replace e1 : ([b0, b1, b2, b3, b4, b5, b6, b7, b8, b9, b10, b11].drop 1).take (Tryz.prog.cellsOf 42) = lnC T := e1
      replace e2 : ([b0, b1, b2, b3, b4, b5, b6, b7, b8, b9, b10, b11].drop 9).take (Tryz.prog.cellsOf 3) = [.int .i64 n2] := e2
      replace e3 : ([b0, b1, b2, b3, b4, b5, b6, b7, b8, b9, b10, b11].drop 10).take (Tryz.prog.cellsOf 3) = [.int .i64 n3] := e3
      replace e4 : ([b0, b1, b2, b3, b4, b5, b6, b7, b8, b9, b10, b11].drop 11).take (Tryz.prog.cellsOf 3) = [.int .i64 n4] := e4
      rw [cells_int1] at e2 e3 e4
      rw [cells_lines] at e0
      rw [cells_line] at e1
      unfold lnC at e1
      have a0 : b0 = sv := by simpa using e0
      have a9 : b9 = .int .i64 n2 := by simpa using e2
      have a10 : b10 = .int .i64 n3 := by simpa using e3
      have a11 : b11 = .int .i64 n4 := by simpa using e4
      simp only [List.drop_succ_cons, List.drop_zero, List.take_succ_cons, List.take_zero, List.cons.injEq, and_true] at e1
      obtain ⟨a1, a2, a3, a4, a5, a6, a7, a8⟩ := e1
      refine ⟨⟨L, T, n2, n3, n4⟩, sv, by unfold manA; rw [a0, a1, a2, a3, a4, a5, a6, a7, a8, a9, a10, a11], r1, r2, ⟨r3, t1, i64_of g2, i64_of g3, i64_of g4, r4 ?_⟩⟩
      have hd : d = _ := congrArg Prod.fst hx
      rw [hd] at hw
      unfold DataW.weights at hw
      rw [Tryz.underlying44] at hw
      simp only [List.map_cons, List.map_nil, DataW.weightsEach] at hw
      exact okW_left hw
end Go.Proofs.YtojedplbhialpaaGreatDoor
