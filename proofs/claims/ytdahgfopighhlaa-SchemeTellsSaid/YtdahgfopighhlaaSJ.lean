/-
  Contract of the chapter's example.
-/
import Derived.Test.YtdahgfopighhlaaSH
import Derived.Test.YtdahgfopighhlaaSI
namespace Go.Proofs.Ytdahgfopighhlaa
open Go.RowKit
set_option linter.unusedVariables false
set_option maxRecDepth 100000
def exLabs : List Lab := [⟨⟨#[49, 48, 48]⟩, ⟨#[67, 73, 84, 89]⟩⟩, ⟨⟨#[49, 48, 49]⟩, ⟨#[67, 73, 84, 89]⟩⟩]
def exLevs : List Lev := [⟨⟨#[53]⟩, 5, [], 10, 9⟩, ⟨⟨#[51]⟩, 3, exLabs, 10, 5⟩, ⟨⟨#[97, 108, 108]⟩, 0, [], 0, 0⟩]
def exLabO : Obj := .cells #[.string ⟨#[49, 48, 48]⟩, .string ⟨#[67, 73, 84, 89]⟩, .string ⟨#[49, 48, 49]⟩, .string ⟨#[67, 73, 84, 89]⟩] 47
def exLevO (b : Nat) : Obj := .cells #[.string ⟨#[53]⟩, .int .i64 5, .slice none 0 0, .int .i64 10, .int .i64 9, .string ⟨#[51]⟩, .int .i64 3, .slice (some ⟨b, 0, none⟩) 2 2, .int .i64 10, .int .i64 5, .string ⟨#[97, 108, 108]⟩, .int .i64 0, .slice none 0 0, .int .i64 0, .int .i64 0] 45
theorem example_any (w : World) : Calls Try.prog 20 #[] w fun e w' => e = .returned (.slice (some ⟨w.heap.size + 1, 0, none⟩) 3 3) ∧ (w.alloc exLabO).alloc (exLevO w.heap.size) = w' := by
  go_enter Try.func20, Try.ntmps20
  go_wp2
  go_ret
  exact ⟨rfl, rfl⟩
theorem rd_nil (w : World) : RdLabs w (.slice none 0 0) [] := ⟨none, 0, rfl, fun h => absurd h (by simp)⟩
theorem ex_reads {W : World} {g b : Nat} (hg : W.heap[g]? = some (exLevO b)) (hb : W.heap[b]? = some exLabO) : RdLevs W (.slice (some ⟨g, 0, none⟩) 3 3) exLevs := by
  have hgl := (Array.getElem?_eq_some_iff.1 hg).1
  have hbl := (Array.getElem?_eq_some_iff.1 hb).1
  have cg : ∀ j, W.cell? ⟨g, j, none⟩ = _ := fun j => cell_of_row W g j _ _ _ hg
  have cb : ∀ j, W.cell? ⟨b, j, none⟩ = _ := fun j => cell_of_row W b j _ _ _ hb
  refine ⟨_, 3, rfl, fun _ => ⟨g, 0, rfl, hgl, fun i hi => ?_⟩⟩
  have h3 : i = 0 ∨ i = 1 ∨ i = 2 := by have : i < 3 := hi
                                        omega
  rcases h3 with rfl | rfl | rfl
  · exact ⟨.slice none 0 0, rd_nil W, cg 0, cg 1, cg 2, cg 3, cg 4⟩
  · refine ⟨.slice (some ⟨b, 0, none⟩) 2 2, ⟨_, 2, rfl, fun _ => ⟨b, 0, rfl, hbl, fun j hj => ?_⟩⟩, cg 5, cg 6, cg 7, cg 8, cg 9⟩
    have h2 : j = 0 ∨ j = 1 := by have : j < 2 := hj
                                  omega
    rcases h2 with rfl | rfl
    · exact ⟨cb 0, cb 1⟩
    · exact ⟨cb 2, cb 3⟩
  · exact ⟨.slice none 0 0, rd_nil W, cg 10, cg 11, cg 12, cg 13, cg 14⟩
theorem ex_fits : ∀ l ∈ exLevs, LevFits l := by
  intro l hl
  have h : l = exLevs[0] ∨ l = exLevs[1] ∨ l = exLevs[2] := by simpa [exLevs] using hl
  rcases h with rfl | rfl | rfl
  · exact ⟨by decide, by decide, fun x hx => by cases hx⟩
  · refine ⟨by decide, by decide, fun x hx => ?_⟩
    have h : x = exLabs[0] ∨ x = exLabs[1] := by simpa [exLevs, exLabs] using hx
    rcases h with rfl | rfl <;> exact ⟨by decide, by decide⟩
  · exact ⟨by decide, by decide, fun x hx => by cases hx⟩
def exC1 : ByteArray := ⟨#[49, 48, 48, 50, 51]⟩
def exC2 : ByteArray := ⟨#[50, 48, 48, 48, 49]⟩
def exC3 : ByteArray := ⟨#[49, 48, 49, 48, 48]⟩
def exP1 : List ByteArray := [⟨#[49, 48, 48, 50, 51]⟩, ⟨#[67, 73, 84, 89]⟩, ⟨#[]⟩]
def exP2 : List ByteArray := [⟨#[50, 48, 48, 48, 49]⟩, ⟨#[50, 48, 48]⟩, ⟨#[]⟩]
def exWant : List Grp := [⟨0, ⟨#[49, 48, 48, 50, 51]⟩, 4, [1]⟩, ⟨0, ⟨#[49, 48, 49, 48, 48]⟩, 4, [2]⟩, ⟨0, ⟨#[50, 48, 48, 48, 49]⟩, 3, [0]⟩, ⟨1, ⟨#[50, 48, 48]⟩, 5, [0]⟩, ⟨1, ⟨#[67, 73, 84, 89]⟩, 5, [1, 2]⟩, ⟨2, ⟨#[]⟩, -1, [0, 1, 2]⟩]
theorem ev_right : rightB exLevs = true := by rw [rightB_eq]; kernel_rfl
theorem ev_p1 : pathR exLevs exC1 = (exP1, 0) := by unfold pathR; rw [ev_right]; kernel_rfl
theorem ev_p2 : pathR exLevs exC2 = (exP2, 0) := by unfold pathR; rw [ev_right]; kernel_rfl
theorem ev_g : (gTo exLevs [exC2, exC1, exC3] exLevs.length).1 = exWant := by kernel_rfl
theorem groupsR_ok {ls : List Lev} {cs : List ByteArray} (h1 : rightB ls = true) (h2 : cs.length ≤ 2000) (h3 : ∀ c ∈ cs, codeB c = true) (h4 : cs.any (shortB ls) = false) : groupsR ls cs = ((gTo ls cs ls.length).1, 0) := by
  unfold groupsR; rw [if_neg (by omega), if_pos ⟨h1, h3⟩, h4]; rfl
theorem ev_groups : groupsR exLevs [exC2, exC1, exC3] = (exWant, 0) := by
  rw [groupsR_ok ev_right (by decide) (List.all_eq_true.1 (show [exC2, exC1, exC3].all codeB = true by kernel_rfl)) (by kernel_rfl), ev_g]
def badLevs : List Lev := [⟨⟨#[53]⟩, 5, [⟨⟨#[49, 48, 48, 50, 51]⟩, ⟨#[50, 48, 48, 48, 49]⟩⟩], 10, 9⟩, ⟨⟨#[51]⟩, 3, exLabs, 10, 5⟩, ⟨⟨#[97, 108, 108]⟩, 0, [], 0, 0⟩]
theorem ev_bad : rightB badLevs = false := by rw [rightB_eq]; kernel_rfl
end Go.Proofs.Ytdahgfopighhlaa
