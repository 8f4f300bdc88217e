/-
  Contract of the closure of isNested.
-/
import Derived.Test.YtdahgfopighhlaaS5
namespace Go.Proofs.Ytdahgfopighhlaa
open Go.RowKit Go.Maps
set_option linter.unusedVariables false
set_option maxRecDepth 100000
/-- A box holds a level. -/
def BoxLev (w : World) (X : Nat) (l : Lev) (v : Value) : Prop :=
  w.cell? ⟨X, 0, none⟩ = some (.string l.name) ∧ w.cell? ⟨X, 1, none⟩ = some (.int .i64 l.pre) ∧ w.cell? ⟨X, 2, none⟩ = some v ∧ w.cell? ⟨X, 3, none⟩ = some (.int .i64 l.min) ∧ w.cell? ⟨X, 4, none⟩ = some (.int .i64 l.cents)
theorem BoxLev.below {w w' : World} {X : Nat} {l : Lev} {v : Value} {B : Nat} (h : BoxLev w X l v) (hb : Below B w w') (hX : X < B) : BoxLev w' X l v :=
  ⟨(hb.cell (p := ⟨X, 0, none⟩) hX).trans h.1, (hb.cell (p := ⟨X, 1, none⟩) hX).trans h.2.1, (hb.cell (p := ⟨X, 2, none⟩) hX).trans h.2.2.1, (hb.cell (p := ⟨X, 3, none⟩) hX).trans h.2.2.2.1, (hb.cell (p := ⟨X, 4, none⟩) hX).trans h.2.2.2.2⟩
theorem cell_grown {w w' : World} {row : Option Nat} {b o : Nat} {x : Value} (hg : w.grownBy w' row) (h : w.cell? ⟨b, o, none⟩ = some x) (hne : some b ≠ row) : w'.cell? ⟨b, o, none⟩ = some x := by
  have hlt := cell_lt h
  have := hg.block b hlt hne
  rw [← h]
  simp only [World.cell?, this]
theorem BoxLev.grown {w w' : World} {row : Option Nat} {X : Nat} {l : Lev} {v : Value} (h : BoxLev w X l v) (hg : w.grownBy w' row) (hX : some X ≠ row) : BoxLev w' X l v :=
  ⟨cell_grown hg h.1 hX, cell_grown hg h.2.1 hX, cell_grown hg h.2.2.1 hX, cell_grown hg h.2.2.2.1 hX, cell_grown hg h.2.2.2.2 hX⟩
theorem RdLabs.grown {w w' : World} {row : Option Nat} {v : Value} {ls : List Lab} (h : RdLabs w v ls) (hg : w.grownBy w' row) (hne : ∀ a l c, v = .slice (some a) l c → some a.block ≠ row) : RdLabs w' v ls := by
  obtain ⟨a, cap, rfl, hc⟩ := h
  exact ⟨a, cap, rfl, fun h0 => by
    obtain ⟨g, off, rfl, hg', hcc⟩ := hc h0
    have hn := hne _ _ _ rfl
    exact ⟨g, off, rfl, Nat.lt_of_lt_of_le hg' hg.size, fun i h => ⟨cell_grown hg (hcc i h).1 hn, cell_grown hg (hcc i h).2 hn⟩⟩⟩
def fitsB (f : ByteArray → Option ByteArray) (name g : ByteArray) : Bool := match f name with | none => true | some o => decide (o = g)
abbrev OwnsSS := OwnsF 9 (fun s : ByteArray => Lit.string s.data.toList)
theorem grp_size {l : Lev} {c : ByteArray} (hf : LevFits l) (hc : c.size ≤ maxLen) : (grpOf l c).size ≤ maxLen := by
  unfold grpOf labOf
  cases h : l.labs.find? (fun x => decide (x.pre = c.extract 0 l.pre.toNat)) with
  | none => simp; omega
  | some x => exact (hf.2.2 x (List.mem_of_find?_eq_some h)).2
set_option maxHeartbeats 4000000 in
theorem fits_any (next : Lev) (v : Value) (name p : ByteArray) (A X B n : Nat) (f : ByteArray → Option ByteArray) (w : World) (hA : w.cell? ⟨A, 0, none⟩ = some (.map (some B))) (hX : BoxLev w X next v) (hown : OwnsSS w B n f) (hn : n < 1000000)
    (hf : LevFits next) (hr : RdLabs w v next.labs) (hs : sortedB next.labs) (h0 : 0 ≤ next.pre) (h1 : next.pre ≤ p.size) (hps : p.size ≤ maxLen) (hns : name.size ≤ maxLen) :
    Calls Try.prog 43 #[.string name, .string p, .pointer (some ⟨A, 0, none⟩), .pointer (some ⟨X, 0, none⟩)] w fun e w' => e = .returned (.bool (fitsB f name (grpOf next p))) ∧ OwnsSS w' B (n + 1) (fun u => if u = name then some (grpOf next p) else f u) ∧ w.grownBy w' (some B) := by
  have hlk := hown.lookOk strLaw Try.underlying79 hns
  have hAlt := cell_lt hA
  have hXlt := cell_lt hX.1
  have hBA : A ≠ B := fun e => by
    obtain ⟨D, ⟨es, cl, hb, _⟩, _⟩ := hown
    subst e
    simp [World.cell?, hb] at hA
  have HCL : Hid (∀ W, Below w.heap.size w W → Calls Try.prog 30 #[lvA next v, .string p] W fun e w' => e = .returned (.string (grpOf next p)) ∧ ∃ w3, Below w.heap.size w w' ∧ (Instr.mapUpdate 79 (.map (some B)) (.string name) (.string (grpOf next p))).run Try.prog w' = .ok () w3 ∧ OwnsSS w3 B (n + 1) (fun u => if u = name then some (grpOf next p) else f u) ∧ w.grownBy w3 (some B) ∧
      (Instr.lookup 79 (.map (some B)) (.string name) false).run Try.prog w3 = .ok (.string (grpOf next p)) w3 ∧ w3.cell? ⟨A, 0, none⟩ = some (.map (some B))) := fun W hW => by
    refine (group_any next p v W hf (hr.below hW) hs h0 h1 hps).mono ?_
    rintro e w2 ⟨rfl, hb2⟩
    have hb : Below w.heap.size w w2 := below_c hW hW.size hb2
    obtain ⟨w3, hrun, ho3, hg3⟩ := (hown.below hb).update strLaw Try.underlying79 (by unfold maxLen; omega) hns (grp_size hf hps)
    refine ⟨rfl, w3, hb, hrun, ho3, ((grown_none hb).but _).trans hg3, ?_, cell_grown (((grown_none hb).but (some B)).trans hg3) hA (fun e => hBA (by injection e))⟩
    have := ho3.look strLaw Try.underlying79 hns
    simpa using this
  obtain ⟨x0, x1, x2, x3, x4⟩ := hX
  have HFI : Hid (fitsB f name (grpOf next p) = match f name with | none => true | some o => decide (o = grpOf next p)) := rfl
  clear hown hf hr hs
  unfold lvA at HCL
  generalize grpOf next p = gp at HCL HFI
  generalize fitsB f name gp = res at HFI
  cases hfn : f name with
  | none =>
    rw [hfn] at hlk HFI
    have HR : Hid (res = true) := HFI.out
    clear HFI hfn
    go_enter Try.func43, Try.ntmps43
    go_wp2_with fail
    go_region_with (go_at_call 30; refine (HCL.out _ (Below.refl _ w).drew).mono ?_; rintro e w2 ⟨rfl, w3, hb2, hrun, ho3, hg3, hlk3, hA3⟩; obtain ⟨hc2, hf2⟩ := bcell hb2)
    all_goals
      clear hc2 hf2 hlk hA x0 x1 x2 x3 x4 hrun hb2
      go_wp2_with fail
      go_ret
      exact ⟨ret_bool HR.out.symm, ho3, hg3⟩
  | some o =>
    rw [hfn] at hlk HFI
    have hb := ba_eq o gp
    have HR : Hid (res = decide (o = gp)) := HFI.out
    clear HFI hfn
    go_enter Try.func43, Try.ntmps43
    go_wp2_with fail
    go_region_with (go_at_call 30; refine (HCL.out _ (Below.refl _ w).drew).mono ?_; rintro e w2 ⟨rfl, w3, hb2, hrun, ho3, hg3, hlk3, hA3⟩; obtain ⟨hc2, hf2⟩ := bcell hb2)
    all_goals
      clear hc2 hf2 hlk hA x0 x1 x2 x3 x4 hrun hb2
      go_wp2_with fail
      go_ret
      exact ⟨ret_bool HR.out.symm, ho3, hg3⟩
end Go.Proofs.Ytdahgfopighhlaa
