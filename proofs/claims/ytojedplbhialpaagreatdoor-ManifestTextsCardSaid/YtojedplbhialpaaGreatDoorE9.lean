/-
  The walk of ManifestTexts.
-/
import Derived.Test.YtojedplbhialpaaGreatDoorE8
import Derived.Test.YtojedplbhialpaaGreatDoorGQ
import Derived.Test.YtojedplbhialpaaGreatDoorEO
namespace Go.Proofs.YtojedplbhialpaaGreatDoor
open Go.RowKit Go.Sort
set_option linter.unusedVariables false
set_option maxRecDepth 100000
set_option maxHeartbeats 16000000 in
theorem manifestTexts_walk {ls : List Lev} {X : Man} {v u : Value} {w : World} (htb : TabW w) (hr : RdLevN w v ls) (hl : ls.length ≤ maxLen) (hb : ∀ l ∈ ls, l.labs.length ≤ 4398046511104 ∧ l.name.size ≤ maxLen ∧ ∀ x ∈ l.labs, x.pre.size ≤ maxLen ∧ x.grp.size ≤ maxLen)
    (hx : RdLns w u X.lines) (hnil : NilOk u) (hm : ManW X) :
    Calls Tryz.prog 5 #[v, manA X u] w fun e w' => e = .returned (.bool true) ∧ Below w.heap.size w w' := by
  have HAW := Lib.hid (fun W (hW : Below w.heap.size w W) => awake27_any W (htb.below hW))
  have HMT := Lib.hid (fun W (hW : Below w.heap.size w W) => manifestTexts1_any ls X v u W (hr.below hW) hb hl (hx.below hW) hnil ⟨hm.buns, hm.tras, hm.cons⟩ ⟨hm.total.pieces, hm.total.barred, hm.total.grams⟩ (fun l h => ⟨(hm.lines l h).pieces, (hm.lines l h).barred, (hm.lines l h).grams⟩) (htb.below hW) hm.len)
  obtain ⟨W0, hW0⟩ : ∃ W0, W0 = w.alloc (manBox X u) := ⟨_, rfl⟩
  have hbox : W0.heap[w.heap.size]? = some (manBox X u) := by rw [hW0]; exact alloc_new w _
  have hb0 : Below w.heap.size w W0 := by rw [hW0]; exact (Below.refl _ w).alloc (Nat.le_refl _) _
  have HW0 := Lib.hid hW0
  have HB0 := Lib.hid hb0
  have HBOX := Lib.hid hbox
  unfold manBox at HW0
  obtain ⟨a, cap, rfl, _⟩ := hr
  obtain ⟨ax, cx, rfl, _⟩ := hx
  clear hb hl hnil hm hW0 hbox hb0 htb
  unfold manA at HMT ⊢
  go_enter Tryz.func5, Tryz.ntmps5
  go_wp2_with fail
  rw [← HW0.out]
  refine (HAW.out _ HB0.out).mono ?_
  rintro e w1 ⟨rfl, hb1⟩
  have HB1 := Lib.hid (below_c HB0.out HB0.out.size hb1)
  obtain ⟨x0, x1, x2, x3, x4, x5, x6, x7, x8, x9, x10, x11⟩ := cells12m (blk_keep hb1 HBOX.out)
  clear hb1
  go_wp2_with fail
  refine (HMT.out _ HB1.out).mono ?_
  rintro e w2 ⟨rfl, hb2⟩
  have HB2 := Lib.hid (below_c HB1.out HB1.out.size hb2)
  clear hb2
  go_wp2_with fail
  go_ret
  exact ⟨rfl, HB2.out⟩
end Go.Proofs.YtojedplbhialpaaGreatDoor
