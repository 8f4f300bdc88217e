/-
  letterbaglaw25.awake: the three examples of the chapter.
-/
import Derived.Test.YtpieagaggjngjaaGreatWT
import Derived.Test.YtpieagaggjngjaaGreatWS
import Derived.BigQuiet
namespace Go.Proofs.YtpieagaggjngjaaGreat
open Go.RowKit Go.Sort
set_option linter.unusedVariables false
set_option maxRecDepth 100000
def lv3 : Lev := ⟨⟨#[51]⟩, 3, [], 3, 5⟩
def lv1 : Lev := ⟨⟨#[49]⟩, 1, [], 2, 3⟩
def lvAll : Lev := ⟨⟨#[97, 108, 108]⟩, 0, [], 0, 0⟩
def twoL : List Lev := [lv3, lvAll]
def threeL : List Lev := [lv3, lv1, lvAll]
def twoO : Obj := .cells #[.string ⟨#[51]⟩, .int .i64 3, .slice none 0 0, .int .i64 3, .int .i64 5, .string ⟨#[97, 108, 108]⟩, .int .i64 0, .slice none 0 0, .int .i64 0, .int .i64 0] 49 (0, 0)
def threeO : Obj := .cells #[.string ⟨#[51]⟩, .int .i64 3, .slice none 0 0, .int .i64 3, .int .i64 5, .string ⟨#[49]⟩, .int .i64 1, .slice none 0 0, .int .i64 2, .int .i64 3, .string ⟨#[97, 108, 108]⟩, .int .i64 0, .slice none 0 0, .int .i64 0, .int .i64 0] 49 (0, 0)
theorem two_reads {W : World} {g : Nat} (hg : W.heap[g]? = some twoO) : RdLevs W (.slice (some ⟨g, 0, none⟩) 2 2) twoL := by
  have hgl := (Array.getElem?_eq_some_iff.1 hg).1
  have cg : ∀ j, W.cell? ⟨g, j, none⟩ = _ := fun j => cell_of_row W g j _ _ _ hg
  refine ⟨_, 2, rfl, fun _ => ⟨g, 0, rfl, hgl, fun i hi => ?_⟩⟩
  have h3 : i = 0 ∨ i = 1 := by have : i < 2 := hi
                                omega
  rcases h3 with rfl | rfl
  · exact ⟨.slice none 0 0, rd_nil W, cg 0, cg 1, cg 2, cg 3, cg 4⟩
  · exact ⟨.slice none 0 0, rd_nil W, cg 5, cg 6, cg 7, cg 8, cg 9⟩
theorem three_reads {W : World} {g : Nat} (hg : W.heap[g]? = some threeO) : RdLevs W (.slice (some ⟨g, 0, none⟩) 3 3) threeL := by
  have hgl := (Array.getElem?_eq_some_iff.1 hg).1
  have cg : ∀ j, W.cell? ⟨g, j, none⟩ = _ := fun j => cell_of_row W g j _ _ _ hg
  refine ⟨_, 3, rfl, fun _ => ⟨g, 0, rfl, hgl, fun i hi => ?_⟩⟩
  have h3 : i = 0 ∨ i = 1 ∨ i = 2 := by have : i < 3 := hi
                                        omega
  rcases h3 with rfl | rfl | rfl
  · exact ⟨.slice none 0 0, rd_nil W, cg 0, cg 1, cg 2, cg 3, cg 4⟩
  · exact ⟨.slice none 0 0, rd_nil W, cg 5, cg 6, cg 7, cg 8, cg 9⟩
  · exact ⟨.slice none 0 0, rd_nil W, cg 10, cg 11, cg 12, cg 13, cg 14⟩
theorem two_any (w : World) : Calls Tryz.prog 6 #[] w fun e w' => e = .returned (.slice (some ⟨w.heap.size, 0, none⟩) 2 2) ∧ Below w.heap.size w w' ∧ RdLevs w' (.slice (some ⟨w.heap.size, 0, none⟩) 2 2) twoL := by
  go_enter Tryz.func6, Tryz.ntmps6
  go_wp2
  go_ret
  exact ⟨rfl, (Below.refl _ w).alloc (Nat.le_refl _) _, two_reads (alloc_new w _)⟩
theorem three_any (w : World) : Calls Tryz.prog 8 #[] w fun e w' => e = .returned (.slice (some ⟨w.heap.size, 0, none⟩) 3 3) ∧ Below w.heap.size w w' ∧ RdLevs w' (.slice (some ⟨w.heap.size, 0, none⟩) 3 3) threeL := by
  go_enter Tryz.func8, Tryz.ntmps8
  go_wp2
  go_ret
  exact ⟨rfl, (Below.refl _ w).alloc (Nat.le_refl _) _, three_reads (alloc_new w _)⟩
def c100 : ByteArray := ⟨#[49, 48, 48]⟩
def c200 : ByteArray := ⟨#[50, 48, 48]⟩
def c110 : ByteArray := ⟨#[49, 49, 48]⟩
def cs1 : List ByteArray := [c100, c100, c200, c100, c200]
def cs2 : List ByteArray := [c100, c100, c100, c100, c110]
def cs3 : List ByteArray := [c100, c100, c100, c110]
theorem two_right : rightB twoL = true := by rw [rightB_eq]; kernel_rfl
theorem three_right : rightB threeL = true := by rw [rightB_eq]; kernel_rfl
theorem pg1 : planR (plsOf twoL) (pG twoL cs1) 5 = [0, 0, 1, 0, 1] := by kernel_rfl
theorem pg2 : planR (plsOf threeL) (pG threeL cs2) 5 = [0, 0, 0, 1, 1] := by kernel_rfl
theorem pg3 : planR (plsOf threeL) (pG threeL cs3) 4 = [0, 0, 0, 2] := by kernel_rfl
theorem ml1 : mailB (mail25 cs1) = true := by kernel_rfl
theorem ml2 : mailB (mail25 cs2) = true := by kernel_rfl
theorem ml3 : mailB (mail25 cs3) = true := by kernel_rfl
theorem sv1 : savingR twoL [0, 0, 1, 0, 1] = (15, 0) := by unfold savingR; rw [if_neg (by decide), if_pos ⟨two_right, by kernel_rfl⟩]; kernel_rfl
theorem sv2 : savingR threeL [0, 0, 0, 1, 1] = (21, 0) := by unfold savingR; rw [if_neg (by decide), if_pos ⟨three_right, by kernel_rfl⟩]; kernel_rfl
theorem sv3 : savingR threeL [0, 0, 0, 2] = (15, 0) := by unfold savingR; rw [if_neg (by decide), if_pos ⟨three_right, by kernel_rfl⟩]; kernel_rfl
theorem va1 : validR twoL (mail25 cs1) [0, 0, 1, 0, 1] = (true, 0) := by unfold validR; rw [if_pos ⟨two_right, ml1, rfl, by kernel_rfl⟩, if_neg (by rw [show ((codesM (mail25 cs1).ps).any (shortB twoL)) = false by kernel_rfl]; simp)]; kernel_rfl
theorem va2 : validR threeL (mail25 cs2) [0, 0, 0, 1, 1] = (true, 0) := by unfold validR; rw [if_pos ⟨three_right, ml2, rfl, by kernel_rfl⟩, if_neg (by rw [show ((codesM (mail25 cs2).ps).any (shortB threeL)) = false by kernel_rfl]; simp)]; kernel_rfl
theorem va3 : validR threeL (mail25 cs3) [0, 0, 0, 2] = (true, 0) := by unfold validR; rw [if_pos ⟨three_right, ml3, rfl, by kernel_rfl⟩, if_neg (by rw [show ((codesM (mail25 cs3).ps).any (shortB threeL)) = false by kernel_rfl]; simp)]; kernel_rfl
/-- All that awake asks of one example. -/
structure AwkOk (ls : List Lev) (cs : List ByteArray) (want : List Int) (sv : Int) : Prop where
  right : rightB ls = true
  mail : mailB (mail25 cs) = true
  pre : ∀ l ∈ ls, ∀ c ∈ cs, l.pre ≤ c.size
  plan : planR (plsOf ls) (pG ls cs) cs.length = want
  save : savingR ls want = (sv, 0)
  valid : validR ls (mail25 cs) want = (true, 0)
  len : want.length = cs.length
  few : cs.length ≤ 100
theorem awk1 : AwkOk twoL cs1 [0, 0, 1, 0, 1] 15 := ⟨two_right, ml1, by decide, pg1, sv1, va1, rfl, by decide⟩
theorem awk2 : AwkOk threeL cs2 [0, 0, 0, 1, 1] 21 := ⟨three_right, ml2, by decide, pg2, sv2, va2, rfl, by decide⟩
theorem awk3 : AwkOk threeL cs3 [0, 0, 0, 2] 15 := ⟨three_right, ml3, by decide, pg3, sv3, va3, rfl, by decide⟩
theorem mail_ex (cs : List ByteArray) (vc : Value) (w : World) (hr : ReadsT w vc cs) (hl : cs.length ≤ 100000) :
    Calls Tryz.prog 7 #[vc] w fun e w' => ∃ ap cp, e = .returned (.agg #[.int .u8 1, .int .u8 1, .string ⟨#[49, 48, 48, 48, 48]⟩, .slice ap cs.length cp]) ∧ Below w.heap.size w w' ∧ OwnsP w' w.heap.size (.slice ap cs.length cp) (mail25 cs).ps := by
  refine (mail_any cs vc w hr hl).mono ?_
  rintro e w' ⟨vp, rfl, hb, ho⟩
  obtain ⟨ap, cp, rfl, _⟩ := RdPces.of_owns ho
  have hn : (mail25 cs).ps.length = cs.length := mailTo_len _ _
  rw [hn] at ho ⊢
  exact ⟨ap, cp, rfl, hb, ho⟩
theorem mex1 (w : World) : Calls Tryz.prog 7 #[.slice (some ⟨w.heap.size, 0, none⟩) 5 5] (w.alloc (.cells #[.string ⟨#[49, 48, 48]⟩, .string ⟨#[49, 48, 48]⟩, .string ⟨#[50, 48, 48]⟩, .string ⟨#[49, 48, 48]⟩, .string ⟨#[50, 48, 48]⟩] 9)) fun e w' => ∃ ap cp, e = .returned (.agg #[.int .u8 1, .int .u8 1, .string ⟨#[49, 48, 48, 48, 48]⟩, .slice ap 5 cp]) ∧ Below w.heap.size w w' ∧ OwnsP w' w.heap.size (.slice ap 5 cp) (mail25 cs1).ps := by
  refine (mail_ex cs1 _ _ (rd_texts cs1 (alloc_new _ _)) (by decide)).mono ?_
  rintro e w' ⟨ap, cp, rfl, hb, ho⟩
  exact ⟨ap, cp, rfl, below_ac (Below.refl _ w) (Nat.le_refl _) hb, OwnsP.mono ho (by rw [World.size_alloc]; omega)⟩
theorem mex2 (w : World) : Calls Tryz.prog 7 #[.slice (some ⟨w.heap.size, 0, none⟩) 5 5] (w.alloc (.cells #[.string ⟨#[49, 48, 48]⟩, .string ⟨#[49, 48, 48]⟩, .string ⟨#[49, 48, 48]⟩, .string ⟨#[49, 48, 48]⟩, .string ⟨#[49, 49, 48]⟩] 9)) fun e w' => ∃ ap cp, e = .returned (.agg #[.int .u8 1, .int .u8 1, .string ⟨#[49, 48, 48, 48, 48]⟩, .slice ap 5 cp]) ∧ Below w.heap.size w w' ∧ OwnsP w' w.heap.size (.slice ap 5 cp) (mail25 cs2).ps := by
  refine (mail_ex cs2 _ _ (rd_texts cs2 (alloc_new _ _)) (by decide)).mono ?_
  rintro e w' ⟨ap, cp, rfl, hb, ho⟩
  exact ⟨ap, cp, rfl, below_ac (Below.refl _ w) (Nat.le_refl _) hb, OwnsP.mono ho (by rw [World.size_alloc]; omega)⟩
theorem mex3 (w : World) : Calls Tryz.prog 7 #[.slice (some ⟨w.heap.size, 0, none⟩) 4 4] (w.alloc (.cells #[.string ⟨#[49, 48, 48]⟩, .string ⟨#[49, 48, 48]⟩, .string ⟨#[49, 48, 48]⟩, .string ⟨#[49, 49, 48]⟩] 9)) fun e w' => ∃ ap cp, e = .returned (.agg #[.int .u8 1, .int .u8 1, .string ⟨#[49, 48, 48, 48, 48]⟩, .slice ap 4 cp]) ∧ Below w.heap.size w w' ∧ OwnsP w' w.heap.size (.slice ap 4 cp) (mail25 cs3).ps := by
  refine (mail_ex cs3 _ _ (rd_texts cs3 (alloc_new _ _)) (by decide)).mono ?_
  rintro e w' ⟨ap, cp, rfl, hb, ho⟩
  exact ⟨ap, cp, rfl, below_ac (Below.refl _ w) (Nat.le_refl _) hb, OwnsP.mono ho (by rw [World.size_alloc]; omega)⟩
theorem mail25_rng (cs : List ByteArray) : 0 ≤ (mail25 cs).cls ∧ (mail25 cs).cls ≤ 255 ∧ 0 ≤ (mail25 cs).ctr ∧ (mail25 cs).ctr ≤ 255 := by
  show 0 ≤ (1 : Int) ∧ (1 : Int) ≤ 255 ∧ 0 ≤ (1 : Int) ∧ (1 : Int) ≤ 255
  decide
theorem mail25_org (cs : List ByteArray) : (mail25 cs).origin.size ≤ maxLen := by
  show (⟨#[49, 48, 48, 48, 48]⟩ : ByteArray).size ≤ maxLen
  decide
theorem ints_lit {W : World} {n : Nat} {zs : List Int} (h : W.heap[n]? = some (.cells (zs.map (Value.int .i64)).toArray 3 (0, 0))) : RdInts W (.slice (some ⟨n, 0, none⟩) zs.length zs.length) zs := RowJ.rd (base := 0) (RowJ.of_ints h (Nat.zero_le _) _)
/-- One example, as it lies in the table of awake. -/
def AwkAt (w : World) (B o : Nat) : Prop := ∃ (ls : List Lev) (cs : List ByteArray) (want : List Int) (sv : Int) (al : Option Addr) (cl : Nat) (ap : Option Addr) (cp : Nat) (az : Option Addr) (cz : Nat), AwkOk ls cs want sv ∧
  RdLevs w (.slice al ls.length cl) ls ∧ RdPces w (.slice ap cs.length cp) (mail25 cs).ps ∧ RdInts w (.slice az want.length cz) want ∧
  w.cell? ⟨B, o, none⟩ = some (.slice al ls.length cl) ∧ w.cell? ⟨B, o + 1, none⟩ = some (.int .u8 1) ∧ w.cell? ⟨B, o + 2, none⟩ = some (.int .u8 1) ∧ w.cell? ⟨B, o + 3, none⟩ = some (.string ⟨#[49, 48, 48, 48, 48]⟩) ∧ w.cell? ⟨B, o + 4, none⟩ = some (.slice ap cs.length cp) ∧
  w.cell? ⟨B, o + 5, none⟩ = some (.slice az want.length cz) ∧ w.cell? ⟨B, o + 6, none⟩ = some (.int .i64 sv)
set_option maxHeartbeats 8000000 in
theorem awake_any (w : World) : Calls Tryz.prog 4 #[] w fun e w' => e = .returned (.bool true) ∧ Below w.heap.size w w' := by
  go_enter Tryz.func4, Tryz.ntmps4
  go_wp2_with (first
    | (go_at_call 6; refine (two_any _).mono ?_; rintro e w1 ⟨rfl, hb1, hr1⟩)
    | (go_at_call 7; with_reducible refine (mex1 _).mono ?_; rintro e w2 ⟨ap1, cp1, rfl, hb2, ho1⟩)
    | (go_at_call 7; with_reducible refine (mex2 _).mono ?_; rintro e w4 ⟨ap2, cp2, rfl, hb4, ho2⟩)
    | (go_at_call 7; with_reducible refine (mex3 _).mono ?_; rintro e w6 ⟨ap3, cp3, rfl, hb6, ho3⟩)
    | (go_at_call 8; (have hx := hb4); clear hx; refine (three_any _).mono ?_; rintro e w5 ⟨rfl, hb5, hr3⟩)
    | (go_at_call 8; refine (three_any _).mono ?_; rintro e w3 ⟨rfl, hb3, hr2⟩))
  obtain ⟨W0, hW0⟩ : ∃ W0, W0 = (w6.alloc (.cells #[.int .i64 0, .int .i64 0, .int .i64 0, .int .i64 2] 3)).alloc (.cells #[.slice (some ⟨w.heap.size, 0, none⟩) 2 2, .int .u8 1, .int .u8 1, .string ⟨#[49, 48, 48, 48, 48]⟩, .slice ap1 5 cp1, .slice (some ⟨w2.heap.size, 0, none⟩) 5 5, .int .i64 15, .slice (some ⟨w2.heap.size + 1, 0, none⟩) 3 3, .int .u8 1, .int .u8 1, .string ⟨#[49, 48, 48, 48, 48]⟩, .slice ap2 5 cp2, .slice (some ⟨w4.heap.size, 0, none⟩) 5 5, .int .i64 21, .slice (some ⟨w4.heap.size + 1, 0, none⟩) 3 3, .int .u8 1, .int .u8 1, .string ⟨#[49, 48, 48, 48, 48]⟩, .slice ap3 4 cp3, .slice (some ⟨w6.heap.size, 0, none⟩) 4 4, .int .i64 15] 31) := ⟨_, rfl⟩
  have z2 : (w2.alloc (.cells #[.int .i64 0, .int .i64 0, .int .i64 1, .int .i64 0, .int .i64 1] 3)).heap.size = w2.heap.size + 1 := World.size_alloc _ _
  have z4 : (w4.alloc (.cells #[.int .i64 0, .int .i64 0, .int .i64 0, .int .i64 1, .int .i64 1] 3)).heap.size = w4.heap.size + 1 := World.size_alloc _ _
  have z6 : (w6.alloc (.cells #[.int .i64 0, .int .i64 0, .int .i64 0, .int .i64 2] 3)).heap.size = w6.heap.size + 1 := World.size_alloc _ _
  have i1 : RdInts _ (.slice (some ⟨w2.heap.size, 0, none⟩) 5 5) [0, 0, 1, 0, 1] := ints_lit (zs := [0, 0, 1, 0, 1]) (alloc_new w2 (.cells #[.int .i64 0, .int .i64 0, .int .i64 1, .int .i64 0, .int .i64 1] 3))
  have i2 : RdInts _ (.slice (some ⟨w4.heap.size, 0, none⟩) 5 5) [0, 0, 0, 1, 1] := ints_lit (zs := [0, 0, 0, 1, 1]) (alloc_new w4 (.cells #[.int .i64 0, .int .i64 0, .int .i64 0, .int .i64 1, .int .i64 1] 3))
  have i3 : RdInts _ (.slice (some ⟨w6.heap.size, 0, none⟩) 4 4) [0, 0, 0, 2] := ints_lit (zs := [0, 0, 0, 2]) (alloc_new w6 (.cells #[.int .i64 0, .int .i64 0, .int .i64 0, .int .i64 2] 3))
  have s12 := hb2
  have s23 : Below w2.heap.size w2 w3 := below_ac (Below.refl _ w2) (Nat.le_refl _) hb3
  have s45 : Below w4.heap.size w4 w5 := below_ac (Below.refl _ w4) (Nat.le_refl _) hb5
  have s6a : Below (w6.alloc (.cells #[.int .i64 0, .int .i64 0, .int .i64 0, .int .i64 2] 3)).heap.size (w6.alloc (.cells #[.int .i64 0, .int .i64 0, .int .i64 0, .int .i64 2] 3)) W0 := by rw [hW0]; exact (Below.refl _ _).alloc (Nat.le_refl _) _
  have s60 : Below w6.heap.size w6 W0 := below_ac (Below.refl _ w6) (Nat.le_refl _) s6a
  have s50 : Below w5.heap.size w5 W0 := below_c hb6 hb6.size s60
  have s40 : Below w4.heap.size w4 W0 := below_c s45 s45.size s50
  have s30 : Below w3.heap.size w3 W0 := below_c hb4 hb4.size s40
  have s20 : Below w2.heap.size w2 W0 := below_c s23 s23.size s30
  have s10 : Below w1.heap.size w1 W0 := below_c hb2 hb2.size s20
  have s00 : Below w.heap.size w W0 := below_c hb1 hb1.size s10
  have s2a := below_c hb3 hb3.size s30
  have s4a := below_c hb5 hb5.size s50
  have hT : W0.heap[w6.heap.size + 1]? = some (.cells #[.slice (some ⟨w.heap.size, 0, none⟩) 2 2, .int .u8 1, .int .u8 1, .string ⟨#[49, 48, 48, 48, 48]⟩, .slice ap1 5 cp1, .slice (some ⟨w2.heap.size, 0, none⟩) 5 5, .int .i64 15, .slice (some ⟨w2.heap.size + 1, 0, none⟩) 3 3, .int .u8 1, .int .u8 1, .string ⟨#[49, 48, 48, 48, 48]⟩, .slice ap2 5 cp2, .slice (some ⟨w4.heap.size, 0, none⟩) 5 5, .int .i64 21, .slice (some ⟨w4.heap.size + 1, 0, none⟩) 3 3, .int .u8 1, .int .u8 1, .string ⟨#[49, 48, 48, 48, 48]⟩, .slice ap3 4 cp3, .slice (some ⟨w6.heap.size, 0, none⟩) 4 4, .int .i64 15] 31 (0, 0)) := by
    rw [hW0, ← z6]
    exact alloc_new _ _
  have ct : ∀ j, W0.cell? ⟨w6.heap.size + 1, j, none⟩ = _ := fun j => cell_of_row W0 _ j _ _ _ hT
  rw [z2] at hr2
  rw [z4] at hr3
  have HA : Hid (∀ k, k < 3 → AwkAt W0 (w6.heap.size + 1) (k * 7)) := fun k hk => by
    have h3 : k = 0 ∨ k = 1 ∨ k = 2 := by omega
    rcases h3 with rfl | rfl | rfl
    · exact ⟨twoL, cs1, [0, 0, 1, 0, 1], 15, _, _, _, _, _, _, awk1, RdLevs.below hr1 s10, RdPces.below (RdPces.of_owns ho1) s20, RdInts.below i1 s2a, ct 0, ct 1, ct 2, ct 3, ct 4, ct 5, ct 6⟩
    · exact ⟨threeL, cs2, [0, 0, 0, 1, 1], 21, _, _, _, _, _, _, awk2, RdLevs.below hr2 s30, RdPces.below (RdPces.of_owns ho2) s40, RdInts.below i2 s4a, ct 7, ct 8, ct 9, ct 10, ct 11, ct 12, ct 13⟩
    · exact ⟨threeL, cs3, [0, 0, 0, 2], 15, _, _, _, _, _, _, awk3, RdLevs.below hr3 s50, RdPces.below (RdPces.of_owns ho3) s60, RdInts.below i3 s6a, ct 14, ct 15, ct 16, ct 17, ct 18, ct 19, ct 20⟩
  have hTz : w6.heap.size + 1 < W0.heap.size := (Array.getElem?_eq_some_iff.1 hT).1
  rw [← hW0]
  clear hW0 z2 z4 z6 i1 i2 i3 s12 s23 s45 s6a s60 s50 s40 s30 s20 s10 s2a s4a hT ct hr1 hr2 hr3 ho1 ho2 ho3 hb1 hb2 hb3 hb4 hb5 hb6
  go_loopw [26] (fun i wr => ∃ k : Nat, k ≤ 3 ∧ i = .int .i64 k ∧ Below W0.heap.size W0 wr) (fun i _ => 3 - (intOf i).toNat)
  case atStart => exact ⟨0, Nat.zero_le _, rfl, Below.refl _ _⟩
  case round =>
    obtain ⟨k, hk, rfl, hB⟩ := hrel
    by_cases hlt : k < 3
    · obtain ⟨ls, cs, want, sv, al, cl, ap, cp, az, cz, hok, hrl, hrp, hri, e0, e1, e2, e3, e4, e5, e6⟩ := HA.out k hlt
      have m0 := (hB.cell (p := ⟨w6.heap.size + 1, k * 7, none⟩) hTz).trans e0
      have m1 := (hB.cell (p := ⟨w6.heap.size + 1, k * 7 + 1, none⟩) hTz).trans e1
      have m2 := (hB.cell (p := ⟨w6.heap.size + 1, k * 7 + 2, none⟩) hTz).trans e2
      have m3 := (hB.cell (p := ⟨w6.heap.size + 1, k * 7 + 3, none⟩) hTz).trans e3
      have m4 := (hB.cell (p := ⟨w6.heap.size + 1, k * 7 + 4, none⟩) hTz).trans e4
      have m5 := (hB.cell (p := ⟨w6.heap.size + 1, k * 7 + 5, none⟩) hTz).trans e5
      have m6 := (hB.cell (p := ⟨w6.heap.size + 1, k * 7 + 6, none⟩) hTz).trans e6
      have hrl' := RdLevs.below hrl hB
      have hrp' := RdPces.below hrp hB
      have hri' := RdInts.below hri hB
      have hcs := hok.few
      have hlen := right_len hok.right
      have hPL : ∀ W, Below wr.heap.size wr W → Calls Tryz.prog 9 #[.slice al ls.length cl, .agg #[.int .u8 1, .int .u8 1, .string ⟨#[49, 48, 48, 48, 48]⟩, .slice ap cs.length cp]] W fun e w' => ∃ g, e = .returned (.tuple #[.slice (some ⟨g, 0, none⟩) cs.length cs.length, .int .i64 0]) ∧ Below W.heap.size W w' ∧ W.heap.size ≤ g ∧ IntsAt w' g want := fun W hW => by
        have h := plan25_ok ls _ _ (mail25 cs) W (RdLevs.below hrl' hW) hok.right hok.mail (RdPces.below hrp' hW) (mail25_rng cs) (mail25_org cs) (by rw [mail_codesM]; exact hok.pre)
        have hn : (mail25 cs).ps.length = cs.length := mailTo_len _ _
        rw [hn, mail_codesM, hok.plan] at h
        exact h
      have hSV : ∀ W g, IntsAt W g want → Below wr.heap.size wr W → Calls Tryz.prog 10 #[.slice al ls.length cl, .slice (some ⟨g, 0, none⟩) cs.length cs.length] W fun e w' => e = .returned (.tuple #[.int .i64 sv, .int .i64 0]) ∧ Below W.heap.size W w' := fun W g hg hW => by
        have h := saving_any ls _ _ want W (RdLevs.below hrl' hW) (right_fits hok.right) (by omega) (RowJ.rd (base := 0) (RowJ.of_ints hg (Nat.zero_le _) want.length)) (by rw [hok.len]; omega)
        rw [hok.save, hok.len] at h
        exact h
      have hVA : ∀ W g, IntsAt W g want → Below wr.heap.size wr W → Calls Tryz.prog 11 #[.slice al ls.length cl, .agg #[.int .u8 1, .int .u8 1, .string ⟨#[49, 48, 48, 48, 48]⟩, .slice ap cs.length cp], .slice (some ⟨g, 0, none⟩) cs.length cs.length] W fun e w' => e = .returned (.tuple #[.bool true, .int .i64 0]) ∧ Below W.heap.size W w' := fun W g hg hW => by
        have hn : (mail25 cs).ps.length = cs.length := mailTo_len _ _
        have h := valid_any ls _ _ _ (mail25 cs) want W (RdLevs.below hrl' hW) (right_fits hok.right) (by omega) (RdPces.below hrp' hW) (mail25_rng cs) (mail25_org cs) (by rw [hn]; omega) (fun p hp => by have h1 := (mail_parts hok.mail).2 p hp; have := codeB_size h1; unfold maxLen; omega) (RowJ.rd (base := 0) (RowJ.of_ints hg (Nat.zero_le _) want.length)) (by rw [hok.len]; omega)
        rw [hok.valid, hok.len] at h
        exact h
      have hSM : ∀ W g, IntsAt W g want → Below wr.heap.size wr W → Calls Tryz.prog 12 #[.slice (some ⟨g, 0, none⟩) cs.length cs.length, .slice az want.length cz] W fun e w' => e = .returned (.bool true) ∧ Below W.heap.size W w' := fun W g hg hW => by
        have h := sameInts_true want _ _ W (RowJ.rd (base := 0) (RowJ.of_ints hg (Nat.zero_le _) want.length)) (RdInts.below hri' hW) (by rw [hok.len]; omega)
        rw [hok.len] at h ⊢
        exact h
      have HPL := Lib.hid hPL
      have HSV := Lib.hid hSV
      have HVA := Lib.hid hVA
      have HSM := Lib.hid hSM
      have hbx : ∀ W, Below (wr.heap.size + 1) (wr.alloc (.cells #[.slice al ls.length cl, .int .u8 1, .int .u8 1, .string ⟨#[49, 48, 48, 48, 48]⟩, .slice ap cs.length cp, .slice az want.length cz, .int .i64 sv] 31)) W → W.cell? ⟨wr.heap.size, 0, none⟩ = some (.slice al ls.length cl) ∧ W.cell? ⟨wr.heap.size, 1, none⟩ = some (.int .u8 1) ∧ W.cell? ⟨wr.heap.size, 2, none⟩ = some (.int .u8 1) ∧ W.cell? ⟨wr.heap.size, 3, none⟩ = some (.string ⟨#[49, 48, 48, 48, 48]⟩) ∧
          W.cell? ⟨wr.heap.size, 4, none⟩ = some (.slice ap cs.length cp) ∧ W.cell? ⟨wr.heap.size, 5, none⟩ = some (.slice az want.length cz) ∧ W.cell? ⟨wr.heap.size, 6, none⟩ = some (.int .i64 sv) := fun W hW =>
        ⟨(hW.cell (p := ⟨wr.heap.size, 0, none⟩) (Nat.lt_succ_self _)).trans (cell_of_row _ _ 0 _ _ _ (alloc_new wr _)), (hW.cell (p := ⟨wr.heap.size, 1, none⟩) (Nat.lt_succ_self _)).trans (cell_of_row _ _ 1 _ _ _ (alloc_new wr _)), (hW.cell (p := ⟨wr.heap.size, 2, none⟩) (Nat.lt_succ_self _)).trans (cell_of_row _ _ 2 _ _ _ (alloc_new wr _)),
          (hW.cell (p := ⟨wr.heap.size, 3, none⟩) (Nat.lt_succ_self _)).trans (cell_of_row _ _ 3 _ _ _ (alloc_new wr _)), (hW.cell (p := ⟨wr.heap.size, 4, none⟩) (Nat.lt_succ_self _)).trans (cell_of_row _ _ 4 _ _ _ (alloc_new wr _)), (hW.cell (p := ⟨wr.heap.size, 5, none⟩) (Nat.lt_succ_self _)).trans (cell_of_row _ _ 5 _ _ _ (alloc_new wr _)), (hW.cell (p := ⟨wr.heap.size, 6, none⟩) (Nat.lt_succ_self _)).trans (cell_of_row _ _ 6 _ _ _ (alloc_new wr _))⟩
      have hb0 : Below wr.heap.size wr (wr.alloc (.cells #[.slice al ls.length cl, .int .u8 1, .int .u8 1, .string ⟨#[49, 48, 48, 48, 48]⟩, .slice ap cs.length cp, .slice az want.length cz, .int .i64 sv] 31)) := (Below.refl _ _).alloc (Nat.le_refl _) _
      have HBX := Lib.hid hbx
      have hzb : (wr.alloc (.cells #[.slice al ls.length cl, .int .u8 1, .int .u8 1, .string ⟨#[49, 48, 48, 48, 48]⟩, .slice ap cs.length cp, .slice az want.length cz, .int .i64 sv] 31)).heap.size = wr.heap.size + 1 := World.size_alloc _ _
      have HZB := Lib.hid hzb
      clear hPL hSV hVA hSM hbx hzb e0 e1 e2 e3 e4 e5 e6 hrl hrp hri hrl' hrp' hri' hok hcs hlen
      go_wp2_with (first
        | (go_at_call 9; refine (HPL.out _ hb0).mono ?_; rintro e w7 ⟨g7, rfl, hb7, hg7, hi7⟩; (rw [HZB.out] at hb7 hg7); have hB7 : Below wr.heap.size wr w7 := hb0.trans (hb7.mono (Nat.le_succ _)); have hz7 := hb7.size; (rw [HZB.out] at hz7); obtain ⟨x0, x1, x2, x3, x4, x5, x6⟩ := HBX.out w7 hb7)
        | (go_at_call 10; refine (HSV.out _ g7 hi7 hB7).mono ?_; rintro e w8 ⟨rfl, hb8⟩; have hb78 := hb7.trans (hb8.mono hz7); have hB8 : Below wr.heap.size wr w8 := hb0.trans (hb78.mono (Nat.le_succ _)); have hi8 := hi7.below hb8 hi7.lt; have hz8 := hb8.size; clear x0 x1 x2 x3 x4 x5 x6; obtain ⟨x0, x1, x2, x3, x4, x5, x6⟩ := HBX.out w8 hb78)
        | (go_at_call 11; refine (HVA.out _ g7 hi8 hB8).mono ?_; rintro e w9 ⟨rfl, hb9⟩; have hb79 := hb78.trans (hb9.mono (by omega)); have hB9 : Below wr.heap.size wr w9 := hb0.trans (hb79.mono (Nat.le_succ _)); have hi9 := hi8.below hb9 hi8.lt; clear x0 x1 x2 x3 x4 x5 x6; obtain ⟨x0, x1, x2, x3, x4, x5, x6⟩ := HBX.out w9 hb79)
        | (go_at_call 12; refine (HSM.out _ g7 hi9 hB9).mono ?_; rintro e w10 ⟨rfl, hb10⟩))
      go_roundw
      case rel => exact ⟨k + 1, by omega, by go_num, below_c (below_c hB hB.size hB9) (Nat.le_trans hB.size hB9.size) hb10⟩
      case measure => simp [intOf]; omega
    · obtain rfl : k = 3 := by omega
      go_wp2_with fail
      go_ret
      exact ⟨rfl, s00.trans (hB.mono s00.size)⟩
end Go.Proofs.YtpieagaggjngjaaGreat
