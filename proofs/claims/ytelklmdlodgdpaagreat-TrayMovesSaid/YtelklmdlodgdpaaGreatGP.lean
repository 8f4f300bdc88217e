import Derived.Test.YtelklmdlodgdpaaGreatT11
import Derived.Test.YtelklmdlodgdpaaGreatTN
import Derived.Test.YtelklmdlodgdpaaGreatT9
import Derived.Test.YtelklmdlodgdpaaGreatTU
/-! T12 -/
namespace Go.Proofs.YtelklmdlodgdpaaGreat
open Go.RowKit Go.Sort
set_option linter.unusedVariables false
set_option maxRecDepth 100000
def intsO (zs : List Int) : Obj := .cells (zs.map (Value.int .i64)).toArray 3
def wantOs (b : Nat) : List Obj := [intsO [1, 2], intsO [4], intsO [3],
  .cells #[.int .i64 0, .string c100, .slice (some ⟨b, 0, none⟩) 2 2, .int .i64 20, .int .i64 0, .string c100, .slice (some ⟨b + 1, 0, none⟩) 1 1, .int .i64 10, .int .i64 1, .string ⟨#[]⟩, .slice (some ⟨b + 2, 0, none⟩) 1 1, .int .i64 10] 47,
  intsO [0], intsO [1], intsO [2],
  .cells #[.int .i64 0, .string c100, .slice (some ⟨b + 4, 0, none⟩) 1 1, .int .i64 0, .string c100, .slice (some ⟨b + 5, 0, none⟩) 1 1, .int .i64 1, .string ⟨#[]⟩, .slice (some ⟨b + 6, 0, none⟩) 1 1] 49,
  intsO [0, 1], intsO [2],
  .cells #[.int .i64 0, .slice (some ⟨b + 8, 0, none⟩) 2 2, .int .i64 1, .slice (some ⟨b + 9, 0, none⟩) 1 1] 51,
  .cells #[.slice (some ⟨b + 3, 0, none⟩) 3 3, .slice (some ⟨b + 7, 0, none⟩) 3 3, .slice (some ⟨b + 10, 0, none⟩) 2 2] 39]
theorem cells_part {W : World} {g : Nat} {cs : Array Value} {t : TypeId} {fr : Nat × Nat} (h : W.heap[g]? = some (.cells cs t fr)) {o : Nat} {pre xs post : List Value} (hcs : cs = (pre ++ (xs ++ post)).toArray) (ho : o = pre.length) :
    ∀ j u, xs[j]? = some u → W.cell? ⟨g, o + j, none⟩ = some u := fun j u hu => by
  rw [cell_of_row _ g (o + j) _ _ _ h, hcs, ho]
  have hj := (List.getElem?_eq_some_iff.1 hu).1
  simp only [List.getElem?_toArray]
  rw [List.getElem?_append_right (by omega), Nat.add_sub_cancel_left, List.getElem?_append_left hj]
  exact hu
theorem rd_block {W : World} {g : Nat} {zs : List Int} (h : W.heap[g]? = some (intsO zs)) : RdInts W (.slice (some ⟨g, 0, none⟩) zs.length zs.length) zs := rd_plan h rfl
theorem want_reads {W : World} {b : Nat} (h : ∀ j o, (wantOs b)[j]? = some o → W.heap[b + j]? = some o) : RdLod W (.slice (some ⟨b + 3, 0, none⟩) 3 3) (.slice (some ⟨b + 7, 0, none⟩) 3 3) (.slice (some ⟨b + 10, 0, none⟩) 2 2) exLod := by
  have h0 : W.heap[b]? = _ := h 0 _ rfl
  have h1 := h 1 _ rfl
  have h2 := h 2 _ rfl
  have h3 := h 3 _ rfl
  have h4 := h 4 _ rfl
  have h5 := h 5 _ rfl
  have h6 := h 6 _ rfl
  have h7 := h 7 _ rfl
  have h8 := h 8 _ rfl
  have h9 := h 9 _ rfl
  have h10 := h 10 _ rfl
  refine ⟨⟨_, 3, rfl, fun _ => ⟨b + 3, 0, rfl, (Array.getElem?_eq_some_iff.1 h3).1, fun i hi => ?_⟩⟩, ⟨_, 3, rfl, fun _ => ⟨b + 7, 0, rfl, (Array.getElem?_eq_some_iff.1 h7).1, fun i hi => ?_⟩⟩, ⟨_, 2, rfl, fun _ => ⟨b + 10, 0, rfl, (Array.getElem?_eq_some_iff.1 h10).1, fun i hi => ?_⟩⟩⟩
  · have h3' : i = 0 ∨ i = 1 ∨ i = 2 := by have : i < 3 := hi
                                           omega
    rcases h3' with rfl | rfl | rfl
    · exact ⟨_, rd_block h0, cells_part h3 (pre := []) rfl rfl⟩
    · exact ⟨_, rd_block h1, cells_part h3 (pre := [.int .i64 0, .string c100, .slice (some ⟨b, 0, none⟩) 2 2, .int .i64 20]) rfl rfl⟩
    · exact ⟨_, rd_block h2, cells_part h3 (pre := [.int .i64 0, .string c100, .slice (some ⟨b, 0, none⟩) 2 2, .int .i64 20, .int .i64 0, .string c100, .slice (some ⟨b + 1, 0, none⟩) 1 1, .int .i64 10]) (post := []) rfl rfl⟩
  · have h3' : i = 0 ∨ i = 1 ∨ i = 2 := by have : i < 3 := hi
                                           omega
    rcases h3' with rfl | rfl | rfl
    · exact ⟨_, rd_block h4, cells_part h7 (pre := []) rfl rfl⟩
    · exact ⟨_, rd_block h5, cells_part h7 (pre := [.int .i64 0, .string c100, .slice (some ⟨b + 4, 0, none⟩) 1 1]) rfl rfl⟩
    · exact ⟨_, rd_block h6, cells_part h7 (pre := [.int .i64 0, .string c100, .slice (some ⟨b + 4, 0, none⟩) 1 1, .int .i64 0, .string c100, .slice (some ⟨b + 5, 0, none⟩) 1 1]) (post := []) rfl rfl⟩
  · have h3' : i = 0 ∨ i = 1 := by have : i < 2 := hi
                                   omega
    rcases h3' with rfl | rfl
    · exact ⟨_, rd_block h8, cells_part h10 (pre := []) rfl rfl⟩
    · exact ⟨_, rd_block h9, cells_part h10 (pre := [.int .i64 0, .slice (some ⟨b + 8, 0, none⟩) 2 2]) (post := []) rfl rfl⟩
theorem rd_lod {W : World} {B : Nat} {vb vt vc : Value} {l : Lod} (h1 : OwnsX 47 4 bunCell (fun b => b.ids) W B vb l.buns) (h2 : OwnsX 49 3 traCell (fun t => t.bs) W B vt l.tras) (h3 : OwnsX 51 2 conCell (fun c => c.ts) W B vc l.cons) :
    RdLod W vb vt vc l := ⟨h1.rd (fun _ => rfl), h2.rd (fun _ => rfl), h3.rd (fun _ => rfl)⟩
/-- Pack at a scheme, a mailing and a plan that fit. -/
theorem pack_rd {ls : List Lev} {m : Mai} (h : HasPlan ls m) {v vp vz : Value} {zs : List Int} {k : Pck} {w : World} (hr : RdLevs w v ls) (hrp : RdPces w vp m.ps) (hz : RdInts w vz zs) (hzl : zs.length = m.ps.length) (hn : numsB ls.length zs = true) (hA : allR ls m zs k = 0)
    (hk : pckB k = true) (hkg : ∀ p ∈ m.ps, p.grams ≤ k.grams) {Gs : List Grp} (hG : gAll ls (codesM m.ps) ls.length = Gs) :
    Calls Tryz.prog 11 #[v, maiV m vp, vz, pckV k] w fun e w' => ∃ ab cb at' ct ac cc, e = .returned (.tuple #[lodV (.slice ab (lodP k m.ps zs Gs).buns.length cb) (.slice at' (lodP k m.ps zs Gs).tras.length ct) (.slice ac (lodP k m.ps zs Gs).cons.length cc), .int .i64 0]) ∧ Below w.heap.size w w' ∧
      RdLod w' (.slice ab (lodP k m.ps zs Gs).buns.length cb) (.slice at' (lodP k m.ps zs Gs).tras.length ct) (.slice ac (lodP k m.ps zs Gs).cons.length cc) (lodP k m.ps zs Gs) := by
  refine (pack_ok h v vp vz zs k w hr hrp hz hzl hn hA hk hkg).mono ?_
  rintro e w' ⟨vb, vt, vc, rfl, hb, h1, h2, h3⟩
  rw [hG] at h1 h2 h3
  obtain ⟨ab, cb, rfl⟩ := h1.form
  obtain ⟨at', ct, rfl⟩ := h2.form
  obtain ⟨ac, cc, rfl⟩ := h3.form
  exact ⟨ab, cb, at', ct, ac, cc, rfl, hb, rd_lod h1 h2 h3⟩
theorem ex_grams {g : Int} (hg : 10 ≤ g) : ∀ p ∈ exMl.ps, p.grams ≤ (exK g).grams := by
  intro p hp
  have h : p = exMl.ps[0] ∨ p = exMl.ps[1] ∨ p = exMl.ps[2] ∨ p = exMl.ps[3] := by simpa [exMl] using hp
  rcases h with rfl | rfl | rfl | rfl <;> exact hg
set_option maxHeartbeats 16000000 in
theorem awake26_any (w : World) : Calls Tryz.prog 9 #[] w fun e w' => e = .returned (.bool true) ∧ Below w.heap.size w w' := by
  have HEX : Hid (∀ W, Calls Tryz.prog 17 #[] W fun e w' => ∃ al cl ap cp, e = .returned (.tuple #[.slice al 2 cl, .agg #[.int .u8 1, .int .u8 1, .string ⟨#[49, 48, 48, 48, 48]⟩, .slice ap 4 cp]]) ∧ Below W.heap.size W w' ∧ RdLevs w' (.slice al 2 cl) exS ∧ RdPces w' (.slice ap 4 cp) exMl.ps) := by
    intro W
    refine (example26_any W).mono ?_
    rintro e w' ⟨vl, vp, rfl, hb, hl, hp⟩
    obtain ⟨al, cl, rfl, _⟩ := id hl
    obtain ⟨ap, cp, rfl, _⟩ := id hp
    exact ⟨al, cl, ap, cp, rfl, hb, hl, hp⟩
  have hpk1 : pckB (exK 100) = true := by kernel_rfl
  have hpk2 : pckB (exK 15) = true := by kernel_rfl
  have hpk3 : pckB (exK 9) = true := by kernel_rfl
  have HP1 : Hid (∀ W v vp vz, RdLevs W v exS → RdPces W vp exMl.ps → RdInts W vz exPl → Calls Tryz.prog 11 #[v, .agg #[.int .u8 1, .int .u8 1, .string ⟨#[49, 48, 48, 48, 48]⟩, vp], vz, .agg #[.int .i64 2, .int .i64 100, .int .i64 1, .int .i64 2]] W fun e w' => ∃ ab cb at' ct ac cc, e = .returned (.tuple #[.agg #[.slice ab 3 cb, .slice at' 3 ct, .slice ac 2 cc], .int .i64 0]) ∧ Below W.heap.size W w' ∧ RdLod w' (.slice ab 3 cb) (.slice at' 3 ct) (.slice ac 2 cc) exLod) := by
    intro W v vp vz h1 h2 h3
    have := pack_rd ex_has h1 h2 h3 rfl ex_nums (ex_all hpk1) hpk1 (ex_grams (by decide)) exG_eq
    rw [ex_lod] at this
    exact this
  have HP2 : Hid (∀ W v vp vz, RdLevs W v exS → RdPces W vp exMl.ps → RdInts W vz exPl → Calls Tryz.prog 11 #[v, .agg #[.int .u8 1, .int .u8 1, .string ⟨#[49, 48, 48, 48, 48]⟩, vp], vz, .agg #[.int .i64 2, .int .i64 15, .int .i64 1, .int .i64 2]] W fun e w' => ∃ ab cb at' nt ct ac nc cc, e = .returned (.tuple #[.agg #[.slice ab 4 cb, .slice at' nt ct, .slice ac nc cc], .int .i64 0]) ∧ Below W.heap.size W w') := by
    intro W v vp vz h1 h2 h3
    have := pack_rd ex_has h1 h2 h3 rfl ex_nums (ex_all hpk2) hpk2 (ex_grams (by decide)) exG_eq
    rw [ex_lod15] at this
    refine this.mono ?_
    rintro e w' ⟨ab, cb, at', ct, ac, cc, rfl, hb, _⟩
    exact ⟨ab, cb, at', _, ct, ac, _, cc, rfl, hb⟩
  have HP3 : Hid (∀ W v vp vz, RdLevs W v exS → RdPces W vp exMl.ps → RdInts W vz exPl → Calls Tryz.prog 11 #[v, .agg #[.int .u8 1, .int .u8 1, .string ⟨#[49, 48, 48, 48, 48]⟩, vp], vz, .agg #[.int .i64 2, .int .i64 9, .int .i64 1, .int .i64 2]] W fun e w' => e = .returned (.tuple #[.agg #[.slice none 0 0, .slice none 0 0, .slice none 0 0], .int .i64 3]) ∧ Below W.heap.size W w') := by
    intro W v vp vz h1 h2 h3
    exact pack_long exS v vp vz exMl exPl (exK 9) W h1 (right_fits exS_right) (by decide) h2 ex_has.rng ex_has.org (by decide) (fun p hp => by have := codeB_size ((mail_parts exM_mail).2 p hp); unfold maxLen; omega) h3 (by decide) (ex_all hpk3) ⟨exMl.ps[0], by simp [exMl], by decide⟩
  have hpd := pkd_of ex_has (zs := exPl) rfl ex_nums hpk1 (ex_grams (by decide))
  rw [exG_eq, ex_lod] at hpd
  have hsm : SmallL exLod := hpd.smallL (by decide)
  have HCH : Hid (∀ W v vp vz vb vt vc, RdLevs W v exS → RdPces W vp exMl.ps → RdInts W vz exPl → RdLod W vb vt vc exLod → Calls Tryz.prog 13 #[v, .agg #[.int .u8 1, .int .u8 1, .string ⟨#[49, 48, 48, 48, 48]⟩, vp], vz, .agg #[.int .i64 2, .int .i64 100, .int .i64 1, .int .i64 2], .agg #[vb, vt, vc]] W fun e w' => e = .returned (.tuple #[.bool true, .int .i64 0]) ∧ Below W.heap.size W w') := by
    intro W v vp vz vb vt vc h1 h2 h3 h4
    have := check_ok ex_has v vp vz vb vt vc exPl (exK 100) exLod W h1 h2 h3 rfl ex_nums (ex_all hpk1) h4 hsm (fun b hb i hi => by have := (hpd.own b hb).2.2 i hi; omega)
    refine Calls.mono this ?_
    rintro e w' ⟨u, rfl, hb, hu⟩
    rw [exG_eq] at hu
    rw [hu.true hpd.ok]
    exact ⟨rfl, hb⟩
  have HWH : Hid (∀ W vb vt vc, RdLod W vb vt vc exLod → Calls Tryz.prog 14 #[.agg #[vb, vt, vc], .int .i64 4] W fun e w' => e = .returned (.tuple #[.int .i64 1, .int .i64 1, .int .i64 0, .bool true]) ∧ Below W.heap.size W w') := by
    intro W vb vt vc h
    have := where_any exLod 4 vb vt vc W h hsm
    rw [ex_where] at this
    exact this
  have HSL : Hid (∀ W vb vt vc vb2 vt2 vc2, RdLod W vb vt vc exLod → RdLod W vb2 vt2 vc2 exLod → Calls Tryz.prog 18 #[.agg #[vb, vt, vc], .agg #[vb2, vt2, vc2]] W fun e w' => e = .returned (.bool true) ∧ Below W.heap.size W w') := by
    intro W vb vt vc vb2 vt2 vc2 h1 h2
    exact sameLoad_true h1 h2 hsm
  clear hpd hsm hpk1 hpk2 hpk3
  go_enter Tryz.func9, Tryz.ntmps9
  go_wp2_with (go_at_call 17; refine (HEX.out _).mono ?_; rintro e w1 ⟨al, cl, ap, cp, rfl, hb1, hl1, hp1⟩)
  change Calls _ _ _ (allocs w1 (.cells #[.int .u8 1, .int .u8 1, .string ⟨#[49, 48, 48, 48, 48]⟩, .slice ap 4 cp] 29 :: intsO exPl :: wantOs (w1.heap.size + 1 + 1))) _
  obtain ⟨w2, hw2⟩ : ∃ w2, w2 = allocs w1 (.cells #[.int .u8 1, .int .u8 1, .string ⟨#[49, 48, 48, 48, 48]⟩, .slice ap 4 cp] 29 :: intsO exPl :: wantOs (w1.heap.size + 1 + 1)) := ⟨_, rfl⟩
  rw [← hw2]
  have hbk : ∀ j o, (Obj.cells #[.int .u8 1, .int .u8 1, .string ⟨#[49, 48, 48, 48, 48]⟩, .slice ap 4 cp] 29 :: intsO exPl :: wantOs (w1.heap.size + 1 + 1))[j]? = some o → w2.heap[w1.heap.size + j]? = some o := fun j o h => by rw [hw2]; exact allocs_block _ _ _ h
  have hb12 : Below w1.heap.size w1 w2 := by rw [hw2]; exact allocs_below _ _ _ _ (Below.refl _ _) (Nat.le_refl _)
  have h2m : w2.heap[w1.heap.size]? = some (.cells #[.int .u8 1, .int .u8 1, .string ⟨#[49, 48, 48, 48, 48]⟩, .slice ap 4 cp] 29 (0, 0)) := hbk 0 _ rfl
  have h2p : RdInts w2 (.slice (some ⟨w1.heap.size + 1, 0, none⟩) 4 4) exPl := rd_block (hbk 1 _ rfl)
  have h2w := want_reads (W := w2) (b := w1.heap.size + 1 + 1) (fun j o h => by rw [show w1.heap.size + 1 + 1 + j = w1.heap.size + (j + 2) by omega]; exact hbk (j + 2) o h)
  have h2l : w2.heap[w1.heap.size + 1 + 1 + 1 + 1 + 1 + 1 + 1 + 1 + 1 + 1 + 1 + 1 + 1]? = some (.cells #[.slice (some ⟨w1.heap.size + 1 + 1 + 3, 0, none⟩) 3 3, .slice (some ⟨w1.heap.size + 1 + 1 + 7, 0, none⟩) 3 3, .slice (some ⟨w1.heap.size + 1 + 1 + 10, 0, none⟩) 2 2] 39 (0, 0)) := hbk 13 _ rfl
  obtain ⟨B4, hB4⟩ : ∃ B4, B4 = w1.heap.size + 1 + 1 + 1 + 1 + 1 + 1 + 1 + 1 + 1 + 1 + 1 + 1 + 1 := ⟨_, rfl⟩
  rw [← hB4] at h2l ⊢
  have hBw : Below w.heap.size w w2 := hb1.trans (hb12.mono hb1.size)
  have HM : Hid (∀ W, Below w2.heap.size w2 W → (W.cell? ⟨w1.heap.size, 0, none⟩ = some (.int .u8 1) ∧ W.cell? ⟨w1.heap.size, 1, none⟩ = some (.int .u8 1) ∧ W.cell? ⟨w1.heap.size, 2, none⟩ = some (.string ⟨#[49, 48, 48, 48, 48]⟩) ∧ W.cell? ⟨w1.heap.size, 3, none⟩ = some (.slice ap 4 cp)) ∧ w1.heap.size < W.heap.size ∧ RdLevs W (.slice al 2 cl) exS ∧ RdPces W (.slice ap 4 cp) exMl.ps ∧ RdInts W (.slice (some ⟨w1.heap.size + 1, 0, none⟩) 4 4) exPl) := by
    intro W hW
    have hl := (Array.getElem?_eq_some_iff.1 h2m).1
    obtain ⟨a0, a1, a2, a3, _⟩ := cells4e ((hW.block _ hl).trans h2m)
    have hx := hb12.trans (hW.mono hb12.size)
    exact ⟨⟨a0, a1, a2, a3⟩, by have := hW.size; omega, hl1.below hx, hp1.below hx, h2p.below hW⟩
  have HL : Hid (∀ W, Below w2.heap.size w2 W → (∃ c0 c1 c2, W.heap[B4]? = some (.cells #[.slice c0 3 3, .slice c1 3 3, .slice c2 2 2] 39 (0, 0)) ∧ RdLod W (.slice c0 3 3) (.slice c1 3 3) (.slice c2 2 2) exLod) ∧ B4 < W.heap.size) := by
    intro W hW
    have hl := (Array.getElem?_eq_some_iff.1 h2l).1
    exact ⟨⟨_, _, _, (hW.block _ hl).trans h2l, h2w.below hW⟩, by have := hW.size; omega⟩
  clear hw2 hbk hb12 h2m h2p h2w h2l hB4 hl1 hp1 hb1
  have hx2 := HM.out w2 (Below.refl _ _)
  refine (HP1.out w2 _ _ _ hx2.2.2.1 hx2.2.2.2.1 hx2.2.2.2.2).mono ?_
  clear hx2
  rintro e w3 ⟨ab, cb, at', ct, ac, cc, rfl, hb3, hr3⟩
  obtain ⟨⟨m0, m1, m2, m3⟩, hlt3, _⟩ := HM.out w3 hb3
  go_wp2_with fail
  obtain ⟨w4, hw4⟩ : ∃ w4, w4 = w3.alloc (.cells #[.slice ab 3 cb, .slice at' 3 ct, .slice ac 2 cc] 39) := ⟨_, rfl⟩
  rw [← hw4]
  have hb34 : Below w3.heap.size w3 w4 := by rw [hw4]; exact (Below.refl _ _).alloc (Nat.le_refl _) _
  have hz4 : w4.heap.size = w3.heap.size + 1 := by rw [hw4, World.size_alloc]
  have h4a : w4.heap[w3.heap.size]? = some (.cells #[.slice ab 3 cb, .slice at' 3 ct, .slice ac 2 cc] 39 (0, 0)) := by rw [hw4]; exact alloc_new w3 _
  have hb4 : Below w2.heap.size w2 w4 := hb3.trans (hb34.mono hb3.size)
  have hr4 := hr3.below hb34
  obtain ⟨A, hA⟩ : ∃ A, A = w3.heap.size := ⟨_, rfl⟩
  rw [← hA] at h4a hz4 ⊢
  have HA : Hid (∀ W, Below w4.heap.size w4 W → (W.cell? ⟨A, 0, none⟩ = some (.slice ab 3 cb) ∧ W.cell? ⟨A, 1, none⟩ = some (.slice at' 3 ct) ∧ W.cell? ⟨A, 2, none⟩ = some (.slice ac 2 cc)) ∧ A < W.heap.size ∧ RdLod W (.slice ab 3 cb) (.slice at' 3 ct) (.slice ac 2 cc) exLod) := by
    intro W hW
    exact ⟨cells3 ((hW.block _ (by omega)).trans h4a), by have := hW.size; omega, hr4.below hW⟩
  clear hw4 hA h4a hr4 hr3 hb3 hb34 hz4 m0 m1 m2 m3 hlt3 HP1
  have hx4 := HM.out w4 hb4
  refine (HP2.out w4 _ _ _ hx4.2.2.1 hx4.2.2.2.1 hx4.2.2.2.2).mono ?_
  clear hx4
  rintro e w5 ⟨ab2, cb2, at2, nt, ct2, ac2, nc, cc2, rfl, hb5⟩
  obtain ⟨⟨m0, m1, m2, m3⟩, hlt5, _⟩ := HM.out w5 (hb4.trans (hb5.mono hb4.size))
  have hb5' : Below w2.heap.size w2 w5 := hb4.trans (hb5.mono hb4.size)
  go_wp2_with fail
  obtain ⟨w6, hw6⟩ : ∃ w6, w6 = w5.alloc (.cells #[.slice ab2 4 cb2, .slice at2 nt ct2, .slice ac2 nc cc2] 39) := ⟨_, rfl⟩
  rw [← hw6]
  have hb56 : Below w5.heap.size w5 w6 := by rw [hw6]; exact (Below.refl _ _).alloc (Nat.le_refl _) _
  have h6a : w6.heap[w5.heap.size]? = some (.cells #[.slice ab2 4 cb2, .slice at2 nt ct2, .slice ac2 nc cc2] 39 (0, 0)) := by rw [hw6]; exact alloc_new w5 _
  have hz6 : w6.heap.size = w5.heap.size + 1 := by rw [hw6, World.size_alloc]
  have hb46 : Below w4.heap.size w4 w6 := hb5.trans (hb56.mono hb5.size)
  have hb26 : Below w2.heap.size w2 w6 := hb5'.trans (hb56.mono hb5'.size)
  obtain ⟨B, hB⟩ : ∃ B, B = w5.heap.size := ⟨_, rfl⟩
  rw [← hB] at h6a hz6 ⊢
  have HB : Hid (∀ W, Below w6.heap.size w6 W → W.cell? ⟨B, 0, none⟩ = some (.slice ab2 4 cb2) ∧ B < W.heap.size) := by
    intro W hW
    exact ⟨(cells3 ((hW.block _ (by omega)).trans h6a)).1, by have := hW.size; omega⟩
  clear hw6 hB h6a hb5 hb5' hb56 hz6 m0 m1 m2 m3 hlt5 HP2
  have hx6 := HM.out w6 hb26
  refine (HP3.out w6 _ _ _ hx6.2.2.1 hx6.2.2.2.1 hx6.2.2.2.2).mono ?_
  clear hx6 HP3
  rintro e w7 ⟨rfl, hb7⟩
  have hb27 : Below w2.heap.size w2 w7 := hb26.trans (hb7.mono hb26.size)
  have hb47 : Below w4.heap.size w4 w7 := hb46.trans (hb7.mono hb46.size)
  obtain ⟨⟨m0, m1, m2, m3⟩, hlt7, _⟩ := HM.out w7 hb27
  obtain ⟨⟨a0, a1, a2⟩, hltA, _⟩ := HA.out w7 hb47
  go_wp2_with fail
  obtain ⟨w8, hw8⟩ : ∃ w8, w8 = w7.alloc (.cells #[.slice none 0 0, .slice none 0 0, .slice none 0 0] 39) := ⟨_, rfl⟩
  rw [← hw8]
  have hb78 : Below w7.heap.size w7 w8 := by rw [hw8]; exact (Below.refl _ _).alloc (Nat.le_refl _) _
  have hb28 : Below w2.heap.size w2 w8 := hb27.trans (hb78.mono hb27.size)
  have hb48 : Below w4.heap.size w4 w8 := hb47.trans (hb78.mono hb47.size)
  have hb68 : Below w6.heap.size w6 w8 := hb7.trans (hb78.mono hb7.size)
  clear hw8 hb78 hb7 hb27 hb47 m0 m1 m2 m3 a0 a1 a2 hlt7 hltA
  have hx8 := HM.out w8 hb28
  refine (HCH.out w8 _ _ _ _ _ _ hx8.2.2.1 hx8.2.2.2.1 hx8.2.2.2.2 (HA.out w8 hb48).2.2).mono ?_
  clear hx8 HCH
  rintro e w9 ⟨rfl, hb9⟩
  have hb29 : Below w2.heap.size w2 w9 := hb28.trans (hb9.mono hb28.size)
  have hb49 : Below w4.heap.size w4 w9 := hb48.trans (hb9.mono hb48.size)
  have hb69 : Below w6.heap.size w6 w9 := hb68.trans (hb9.mono hb68.size)
  obtain ⟨⟨a0, a1, a2⟩, hltA, hra⟩ := HA.out w9 hb49
  have HRA := Lib.hid hra
  clear hra hb9 hb28 hb48 hb68
  go_wp2_with fail
  refine (HWH.out w9 _ _ _ HRA.out).mono ?_
  clear HWH HRA hltA a0 a1 a2
  rintro e w10 ⟨rfl, hb10⟩
  have hb210 : Below w2.heap.size w2 w10 := hb29.trans (hb10.mono hb29.size)
  have hb410 : Below w4.heap.size w4 w10 := hb49.trans (hb10.mono hb49.size)
  have hb610 : Below w6.heap.size w6 w10 := hb69.trans (hb10.mono hb69.size)
  obtain ⟨⟨a0, a1, a2⟩, hltA, hra⟩ := HA.out w10 hb410
  obtain ⟨⟨c0, c1, c2, hc, hrc⟩, hltB⟩ := HL.out w10 hb210
  obtain ⟨e0, e1, e2⟩ := cells3 hc
  have HRA := Lib.hid hra
  have HRC := Lib.hid hrc
  clear hra hrc hc hb10 hb29 hb49 hb69
  go_wp2_with fail
  refine (HSL.out w10 _ _ _ _ _ _ HRA.out HRC.out).mono ?_
  clear HSL HRA HRC a0 a1 a2 e0 e1 e2 hltA hltB
  rintro e w11 ⟨rfl, hb11⟩
  obtain ⟨f0, hltF⟩ := HB.out w11 (hb610.trans (hb11.mono hb610.size))
  go_wp2_with fail
  go_ret
  exact ⟨rfl, hBw.trans ((hb210.trans (hb11.mono hb210.size)).mono hBw.size)⟩
end Go.Proofs.YtelklmdlodgdpaaGreat

/-! T14 -/
namespace Go.Proofs.YtelklmdlodgdpaaGreat
open Go.RowKit
set_option linter.unusedVariables false
set_option maxRecDepth 100000
/-- An index that is found: the first one, and what is asked holds there. -/
theorem ixOf_ok {α : Type} {f : α → Bool} {l : List α} (h : ∃ x ∈ l, f x = true) : ∃ q, ∃ hq : q < l.length, ixOf f l = (q : Int) ∧ f l[q] = true := by
  have ha : l.any f = true := List.any_eq_true.2 h
  have hl : l.findIdx f < l.length := List.findIdx_lt_length_of_exists h
  refine ⟨l.findIdx f, hl, ?_, List.findIdx_getElem⟩
  unfold ixOf
  rw [if_pos ha]
theorem nodup_le {α : Type} : ∀ (A B : List α), A.Nodup → (∀ x ∈ A, x ∈ B) → A.length ≤ B.length
  | [], _, _, _ => Nat.zero_le _
  | a :: r, B, hn, h => by
    obtain ⟨B1, B2, rfl⟩ := List.append_of_mem (h a List.mem_cons_self)
    rw [List.nodup_cons] at hn
    have := nodup_le r (B1 ++ B2) hn.2 (fun x hx => by
      have h1 := h x (List.mem_cons_of_mem _ hx)
      rcases List.mem_append.1 h1 with h2 | h2
      · exact List.mem_append_left _ h2
      · rcases List.mem_cons.1 h2 with rfl | h2
        · exact absurd hx hn.1
        · exact List.mem_append_right _ h2)
    rw [List.length_append, List.length_cons]
    rw [List.length_append] at this
    rw [List.length_cons]
    omega
theorem nodup_all {α : Type} {A B : List α} (hn : A.Nodup) (h : ∀ x ∈ A, x ∈ B) (hl : B.length ≤ A.length) : ∀ x ∈ B, x ∈ A := fun x hx => by
  refine Classical.byContradiction (fun hne => ?_)
  have := nodup_le (x :: A) B (List.nodup_cons.2 ⟨hne, hn⟩) (fun y hy => by
    rcases List.mem_cons.1 hy with rfl | hy
    · exact hx
    · exact h y hy)
  rw [List.length_cons] at this
  omega
theorem once_some {ls : List (List Int)} {n : Nat} {len : Int} (h : OnceOk ls n len) {q : Nat} (hq : q < n) : ∃ l ∈ ls, (q : Int) ∈ l := by
  have hsub : ∀ i ∈ ls.flatten, i ∈ numsR 0 n := fun i hi => by
    obtain ⟨h0, h1⟩ := h.ins i hi
    refine List.mem_map.2 ⟨i.toNat, List.mem_range.2 (by omega), by omega⟩
  have : (q : Int) ∈ ls.flatten := nodup_all h.once hsub (by rw [h.all, numsR_len]; omega) _ (List.mem_map.2 ⟨q, List.mem_range.2 (by omega), by omega⟩)
  obtain ⟨l, hl, hm⟩ := List.mem_flatten.1 this
  exact ⟨l, hl, hm⟩
/-- Each piece's number stands in a bundle. -/
theorem piece_in {k : Pck} {ps : List Pce} {zs : List Int} {ns : List ByteArray} {bs : List Bun} (hu : IdsUp ps) (h : BunsOk k ps zs ns bs) {i : Nat} (hi : i < ps.length) : ∃ b ∈ bs, ps[i].id ∈ b.ids := by
  have hnd : (ps.map (fun p => p.id)).Nodup := by
    rw [List.Nodup, List.pairwise_map]
    refine List.pairwise_iff_getElem.2 (fun a b ha hb hab => ?_)
    have := hu a b hab hb
    rw [pcAt_nat ha, pcAt_nat hb] at this
    omega
  have hsub : ∀ x ∈ bs.flatMap (fun b => b.ids), x ∈ ps.map (fun p => p.id) := fun x hx => by
    obtain ⟨b, hb, hx⟩ := List.mem_flatMap.1 hx
    obtain ⟨I, hI, hid, _⟩ := h.good b hb
    rw [hid] at hx
    obtain ⟨j, hj, rfl⟩ := List.mem_map.1 hx
    exact List.mem_map.2 ⟨_, pcAt_memN (hI j hj).2.1, rfl⟩
  have : ps[i].id ∈ bs.flatMap (fun b => b.ids) := nodup_all h.once hsub (by rw [h.all, List.length_map]; omega) _ (List.mem_map.2 ⟨_, List.getElem_mem hi, rfl⟩)
  obtain ⟨b, hb, hm⟩ := List.mem_flatMap.1 this
  exact ⟨b, hb, hm⟩
theorem id_at {ps : List Pce} (hu : IdsUp ps) {i : Nat} (hi : i < ps.length) {j : Int} (hj : 0 ≤ j ∧ j.toNat < ps.length) (h : (pcAt ps j).id = ps[i].id) : j = (i : Int) :=
  ids_inj hu hj (by omega) (by rw [pcAt_nat hi]; exact h)
theorem where_ok {k : Pck} {ps : List Pce} {zs : List Int} {ns : List ByteArray} {l : Lod} (hu : IdsUp ps) (h : LodOk k ps zs ns l) {i : Nat} (hi : i < ps.length) :
    ∃ b t c, ∃ hb : b < l.buns.length, ∃ ht : t < l.tras.length, ∃ hc : c < l.cons.length, whereR l ps[i].id = ((b : Int), (t : Int), (c : Int), true) ∧ l.buns[b].lvl = zs.getD i (-1) ∧ l.buns[b].grp = ns.getD i noB ∧ l.tras[t].grp = l.buns[b].grp ∧ l.cons[c].lvl = zs.getD i (-1) ∧ ps[i].id ∈ l.buns[b].ids := by
  obtain ⟨x, hx, hxi⟩ := piece_in hu h.buns hi
  obtain ⟨b, hb, eb, fb⟩ := ixOf_ok (f := fun b : Bun => b.ids.contains ps[i].id) ⟨x, hx, List.contains_iff_mem.2 hxi⟩
  have fb' : ps[i].id ∈ l.buns[b].ids := List.contains_iff_mem.1 fb
  obtain ⟨I, hI, hid, _⟩ := h.buns.good _ (List.getElem_mem hb)
  have hzl : l.buns[b].lvl = zs.getD i (-1) ∧ l.buns[b].grp = ns.getD i noB := by
    rw [hid] at fb'
    obtain ⟨j, hj, hje⟩ := List.mem_map.1 fb'
    obtain ⟨h0, h1, h2, h3⟩ := hI j hj
    have := id_at hu hi ⟨h0, h1⟩ hje
    subst this
    rw [Int.toNat_natCast] at h2 h3
    exact ⟨h2.symm, h3.symm⟩
  obtain ⟨tl, htl, hbt⟩ := once_some h.tras.once hb
  obtain ⟨t0, ht0, rfl⟩ := List.mem_map.1 htl
  obtain ⟨t, ht, et, ft⟩ := ixOf_ok (f := fun t : Tra => t.bs.contains (b : Int)) ⟨t0, ht0, List.contains_iff_mem.2 hbt⟩
  obtain ⟨b', hb', g1, g2⟩ := h.tras.grp _ (List.getElem_mem ht) _ (List.contains_iff_mem.1 ft)
  rw [Int.toNat_natCast, List.getElem?_eq_getElem hb] at hb'
  obtain rfl := Option.some.inj hb'
  obtain ⟨cl, hcl, htc⟩ := once_some h.cons.once ht
  obtain ⟨c0, hc0, rfl⟩ := List.mem_map.1 hcl
  obtain ⟨c, hc, ec, fc⟩ := ixOf_ok (f := fun c : Con => c.ts.contains (t : Int)) ⟨c0, hc0, List.contains_iff_mem.2 htc⟩
  obtain ⟨t', ht', g3⟩ := h.cons.grp _ (List.getElem_mem hc) _ (List.contains_iff_mem.1 fc)
  rw [Int.toNat_natCast, List.getElem?_eq_getElem ht] at ht'
  obtain rfl := Option.some.inj ht'
  refine ⟨b, t, c, hb, ht, hc, ?_, hzl.1, hzl.2, g2.symm, by rw [← g3, ← g1]; exact hzl.1, fb'⟩
  have e1 : bunIx l ps[i].id = (b : Int) := eb
  have e2 : traIx l (b : Int) = (t : Int) := et
  have e3 : conIx l (t : Int) = (c : Int) := ec
  unfold whereR
  rw [e1, if_neg (by omega), e2, if_neg (by omega), e3, if_neg (by omega)]
/-- Find answers the name of the piece's own group. -/
theorem find_ok {ls : List Lev} {m : Mai} (h : HasPlan ls m) {zs : List Int} (hzl : zs.length = m.ps.length) (hn : numsB ls.length zs = true) {i : Nat} (hi : i < m.ps.length) :
    findR ls (zs.getD i (-1)) m.ps[i].code = ((nmTo zs (gAll ls (codesM m.ps) ls.length) m.ps.length (gAll ls (codesM m.ps) ls.length).length).getD i noB, 0) := by
  have hcl : (codesM m.ps).length = m.ps.length := codesM_len _
  have hG : GrpsIn m.ps (gAll ls (codesM m.ps) ls.length) := gAll_in hcl
  have hO : OwnIn m.ps zs (gAll ls (codesM m.ps) ls.length) := gAll_own hcl hzl hn
  obtain ⟨x, hx, hxl, hxi⟩ := hO.some i hi
  rw [nmT_at hG hO hx hxi hxl.symm]
  obtain ⟨lv', n, hlv, hnn, rfl⟩ := mem_gAll.1 hx
  obtain ⟨j, hj, hgr, hji⟩ := mem_itm.1 hxi
  obtain rfl : i = j := by omega
  have hci : (codesM m.ps)[i]? = some m.ps[i].code := by unfold codesM; rw [List.getElem?_map, List.getElem?_eq_getElem hi]; rfl
  rw [List.getElem?_eq_getElem hj] at hci
  rw [Option.some.inj hci] at hgr
  have hzi : zs.getD i (-1) = (lv' : Int) := hxl.symm
  have hcm : m.ps[i].code ∈ codesM m.ps := by unfold codesM; exact List.mem_map.2 ⟨_, List.getElem_mem hi, rfl⟩
  rw [hzi]
  unfold findR
  rw [if_pos ⟨h.right, by omega, by omega, h.code _ hcm⟩]
  simp only [Int.toNat_natCast]
  rw [List.getElem?_eq_getElem hlv]
  dsimp only
  rw [if_neg (by have := h.pre _ (List.getElem_mem hlv) _ hcm; omega), ← lv_get hlv, hgr]
  rfl
end Go.Proofs.YtelklmdlodgdpaaGreat

/-! T15 -/
namespace Go.Proofs.YtelklmdlodgdpaaGreat
open Go.RowKit
set_option linter.unusedVariables false
set_option maxRecDepth 100000
def kWide : Pck := ⟨2000, 1000000, 200, 200⟩
theorem grams_le {ps : List Pce} {c : Int} (hc : 0 ≤ c) (hg : ∀ p ∈ ps, p.grams ≤ c) : ∀ I : List Int, (∀ i ∈ I, i.toNat < ps.length) → gramsOf ps I ≤ c * I.length
  | [], _ => by unfold gramsOf; simp
  | i :: r, h => by
    have ih := grams_le hc hg r (fun j hj => h j (List.mem_cons_of_mem _ hj))
    have h1 := hg _ (pcAt_memN (h i List.mem_cons_self))
    unfold gramsOf at ih ⊢
    rw [List.map_cons, List.sum_cons, List.length_cons]
    have : c * ((r.length + 1 : Nat) : Int) = c * (r.length : Int) + c := by rw [Int.natCast_add, Int.mul_add]; simp
    omega
/-- No two bundles are of one group. -/
theorem wide_apart {ps : List Pce} {zs : List Int} {ns : List ByteArray} {l : Lod} (h : Pkd kWide ps zs ns l) (hn : ps.length ≤ 300) (hg : ∀ p ∈ ps, p.grams ≤ 20) : ∀ i j (hij : i < j) (hj : j < l.buns.length), ¬ ((l.buns[i]'(by omega)).lvl = l.buns[j].lvl ∧ (l.buns[i]'(by omega)).grp = l.buns[j].grp) := by
  intro i j hij hj ⟨e1, e2⟩
  have hle : ∀ a b (hab : a < b) (hb : b < l.buns.length), BunLe (l.buns[a]'(by omega)) l.buns[b] := fun a b hab hb => List.pairwise_iff_getElem.1 h.ord a b (by omega) hb hab
  obtain ⟨q, rfl⟩ : ∃ q, j = q + 1 := ⟨j - 1, by omega⟩
  have hq : q < l.buns.length := by omega
  have hs : l.buns[q].lvl = l.buns[q + 1].lvl ∧ l.buns[q].grp = l.buns[q + 1].grp := by
    by_cases hiq : i = q
    · subst hiq; exact ⟨e1, e2⟩
    · have h1 := bunLe_says (hle i q (by omega) hq)
      have h2 := bunLe_says (hle q (q + 1) (by omega) hj)
      have hl : l.buns[q].lvl = l.buns[q + 1].lvl := by omega
      have hl' : (l.buns[i]'(by omega)).lvl = l.buns[q].lvl := by omega
      refine ⟨hl, ?_⟩
      rcases hle i q (by omega) hq with h3 | ⟨_, h3 | ⟨h3, _⟩⟩
      · omega
      · refine absurd ⟨hl, ?_⟩ h2.2.1
        rw [← e2]; exact h3
      · rw [← h3]; exact e2
  obtain ⟨p, hp0, hp1, hp2, hp3⟩ := h.bf _ _ (nextIn_at hj) hs.1 hs.2
  obtain ⟨I, hI, hid, hgr, _, _, _⟩ := h.ok.buns.good _ (List.getElem_mem hq)
  have hil : l.buns[q].ids.length ≤ 300 := Nat.le_trans (part_le (f := fun b : Bun => b.ids) (n := ps.length) (by rw [h.idn]; exact Nat.le_refl _) _ (List.getElem_mem hq)) hn
  have hIl : I.length = l.buns[q].ids.length := by rw [hid, List.length_map]
  have hgl := grams_le (c := 20) (by decide) hg I (fun i hi => (hI i hi).2.1)
  have hpg := hg _ (pcAt_memN hp1)
  refine hp3 ⟨?_, ?_⟩
  · show ((l.buns[q].ids.length : Nat) : Int) < 2000
    omega
  · show l.buns[q].grams + (pcAt ps p).grams ≤ 1000000
    rw [← hgr]
    omega
theorem wide_tray {ps : List Pce} {zs : List Int} {ns : List ByteArray} {l : Lod} (h : Pkd kWide ps zs ns l) (hn : ps.length ≤ 300) (hg : ∀ p ∈ ps, p.grams ≤ 20) : ∀ t ∈ l.tras, t.bs.length = 1 := by
  intro t ht
  have h1 : 1 ≤ t.bs.length ∧ _ := h.ok.tras.once.lens _ (List.mem_map.2 ⟨t, ht, rfl⟩)
  by_cases h2 : t.bs.length = 1
  · exact h2
  · exfalso
    have hnd : t.bs.Pairwise (· ≠ ·) := (List.pairwise_flatten.1 h.ok.tras.once.once).1 _ (List.mem_map.2 ⟨t, ht, rfl⟩)
    have h0 : 0 < t.bs.length := by omega
    have h1' : 1 < t.bs.length := by omega
    obtain ⟨a, ha, ha1, ha2⟩ := h.ok.tras.grp t ht _ (List.getElem_mem h0)
    obtain ⟨b, hb, hb1, hb2⟩ := h.ok.tras.grp t ht _ (List.getElem_mem h1')
    obtain ⟨ha3, rfl⟩ := List.getElem?_eq_some_iff.1 ha
    obtain ⟨hb3, rfl⟩ := List.getElem?_eq_some_iff.1 hb
    have i0 := (h.ok.tras.once.ins _ (List.mem_flatten.2 ⟨_, List.mem_map.2 ⟨t, ht, rfl⟩, List.getElem_mem h0⟩)).1
    have i1 := (h.ok.tras.once.ins _ (List.mem_flatten.2 ⟨_, List.mem_map.2 ⟨t, ht, rfl⟩, List.getElem_mem h1'⟩)).1
    have hne : t.bs[0] ≠ t.bs[1] := fun e => by
      have := (List.pairwise_iff_getElem.1 hnd) 0 1 h0 h1' (by omega)
      exact this e
    rcases Nat.lt_trichotomy (t.bs[0]).toNat (t.bs[1]).toNat with h3 | h3 | h3
    · exact wide_apart h hn hg _ _ h3 hb3 ⟨by rw [ha1, hb1], by rw [ha2, hb2]⟩
    · exact hne (by omega)
    · exact wide_apart h hn hg _ _ h3 ha3 ⟨by rw [ha1, hb1], by rw [ha2, hb2]⟩
theorem flat_one {α : Type} {f : α → List Int} : ∀ L : List α, (∀ x ∈ L, (f x).length = 1) → (L.flatMap f).length = L.length
  | [], _ => rfl
  | x :: r, h => by
    rw [List.flatMap_cons, List.length_append, h x List.mem_cons_self, flat_one r (fun y hy => h y (List.mem_cons_of_mem _ hy)), List.length_cons]
    omega
theorem wide_trays {ps : List Pce} {zs : List Int} {ns : List ByteArray} {l : Lod} (h : Pkd kWide ps zs ns l) (hn : ps.length ≤ 300) (hg : ∀ p ∈ ps, p.grams ≤ 20) : l.tras.length = l.buns.length := by
  rw [← flat_one (f := fun t : Tra => t.bs) l.tras (wide_tray h hn hg), h.nb, numsR_len]
  omega
/-- What is numbered through keeps an order. -/
theorem thr_mono {α : Type} {f : α → List Int} {L : List α} {n : Nat} (h : L.flatMap f = numsR 0 n) (hne : ∀ x ∈ L, 1 ≤ (f x).length) {lv : Nat → Int} (hlv : ∀ a b, a ≤ b → b < n → lv a ≤ lv b) {g : α → Int} (hg : ∀ x ∈ L, ∀ i ∈ f x, g x = lv i.toNat) :
    ∀ i j (hij : i ≤ j) (hj : j < L.length), g (L[i]'(by omega)) ≤ g L[j] := by
  intro i j hij hj
  have hi : i < L.length := by omega
  have hfi := hne _ (List.getElem_mem hi)
  have hfj := hne _ (List.getElem_mem hj)
  have ei := flat_atN h hi (j := 0) (by omega)
  have ej := flat_atN h hj (j := 0) (by omega)
  have gi := hg _ (List.getElem_mem hi) _ (List.getElem_mem (by omega : 0 < (f L[i]).length))
  have gj := hg _ (List.getElem_mem hj) _ (List.getElem_mem (by omega : 0 < (f L[j]).length))
  rw [ei, Int.toNat_natCast] at gi
  rw [ej, Int.toNat_natCast] at gj
  rw [gi, gj]
  have hmono : ((L.take i).flatMap f).length ≤ ((L.take j).flatMap f).length := by
    have := take_flat f (L.take j) i
    rw [List.take_take, Nat.min_eq_left hij] at this
    exact this
  have hlt : ((L.take j).flatMap f).length + (f L[j]).length ≤ n := by
    rw [← flat_succ f L hj]
    have := take_flat f L (j + 1)
    rw [h, numsR_len] at this
    omega
  exact hlv _ _ (by omega) (by omega)
theorem cons_up {k : Pck} {ps : List Pce} {zs : List Int} {ns : List ByteArray} {l : Lod} (h : Pkd k ps zs ns l) : ∀ i j (hij : i ≤ j) (hj : j < l.cons.length), (l.cons[i]'(by omega)).lvl ≤ l.cons[j].lvl := by
  have hb : ∀ a b (hab : a ≤ b) (hb : b < l.buns.length), (l.buns[a]'(by omega)).lvl ≤ l.buns[b].lvl := fun a b hab hb => by
    rcases Nat.lt_or_ge a b with hlt | hge
    · have := (bunLe_says (List.pairwise_iff_getElem.1 h.ord a b (by omega) hb hlt)).1
      omega
    · obtain rfl : a = b := by omega
      exact Int.le_refl _
  have ht := thr_mono (g := fun t : Tra => t.lvl) (lv := fun a => ((l.buns[a]?).map (fun b => b.lvl)).getD 0) h.nb (fun t ht => (h.ok.tras.once.lens _ (List.mem_map.2 ⟨t, ht, rfl⟩)).1) (fun a b hab hbn => by
    rw [List.getElem?_eq_getElem hbn, List.getElem?_eq_getElem (by omega : a < l.buns.length)]
    exact hb a b hab hbn) (fun t ht i hi => by
    obtain ⟨b, hb, h1, _⟩ := h.ok.tras.grp t ht i hi
    rw [hb]
    exact h1.symm)
  exact thr_mono (g := fun c : Con => c.lvl) (lv := fun a => ((l.tras[a]?).map (fun b => b.lvl)).getD 0) h.nt (fun t ht => (h.ok.cons.once.lens _ (List.mem_map.2 ⟨t, ht, rfl⟩)).1) (fun a b hab hbn => by
    rw [List.getElem?_eq_getElem hbn, List.getElem?_eq_getElem (by omega : a < l.tras.length)]
    exact ht a b hab hbn) (fun t ht i hi => by
    obtain ⟨b, hb, h1⟩ := h.ok.cons.grp t ht i hi
    rw [hb]
    exact h1.symm)
theorem cons_apart {k : Pck} {ps : List Pce} {zs : List Int} {ns : List ByteArray} {l : Lod} (h : Pkd k ps zs ns l) (ht : (l.tras.length : Int) ≤ k.trays) : (l.cons.map (fun c => c.lvl)).Nodup := by
  rw [List.Nodup, List.pairwise_map]
  refine List.pairwise_iff_getElem.2 (fun i j hi hj hij e => ?_)
  obtain ⟨q, rfl⟩ : ∃ q, j = q + 1 := ⟨j - 1, by omega⟩
  have hq : q < l.cons.length := by omega
  have h1 := cons_up h i q (by omega) hq
  have h2 := cons_up h q (q + 1) (by omega) hj
  have h3 := h.cf _ _ (nextIn_at hj) (by omega)
  have h4 : 1 ≤ l.cons[q + 1].ts.length := (h.ok.cons.once.lens _ (List.mem_map.2 ⟨_, List.getElem_mem hj, rfl⟩)).1
  have h5 := flat_succ (fun c : Con => c.ts) l.cons hq
  have h6 := flat_succ (fun c : Con => c.ts) l.cons hj
  have h7 := take_flat (fun c : Con => c.ts) l.cons (q + 1 + 1)
  rw [h.nt, numsR_len] at h7
  omega
/-- The levels of the containers are those of the pieces. -/
theorem cons_levels {k : Pck} {ps : List Pce} {zs : List Int} {ns : List ByteArray} {l : Lod} (hu : IdsUp ps) (h : Pkd k ps zs ns l) (x : Int) : x ∈ l.cons.map (fun c => c.lvl) ↔ ∃ i, i < ps.length ∧ zs.getD i (-1) = x := by
  constructor
  · intro hx
    obtain ⟨c, hc, rfl⟩ := List.mem_map.1 hx
    have h1 := (h.ok.cons.once.lens _ (List.mem_map.2 ⟨c, hc, rfl⟩)).1
    obtain ⟨t, ht, ht1⟩ := h.ok.cons.grp c hc _ (List.getElem_mem (by exact h1 : 0 < c.ts.length))
    have htm := List.mem_of_getElem? ht
    have h2 := (h.ok.tras.once.lens _ (List.mem_map.2 ⟨t, htm, rfl⟩)).1
    obtain ⟨b, hb, hb1, _⟩ := h.ok.tras.grp t htm _ (List.getElem_mem (by exact h2 : 0 < t.bs.length))
    have hbm := List.mem_of_getElem? hb
    obtain ⟨I, hI, _, _, hI1, _⟩ := h.ok.buns.good b hbm
    obtain ⟨g0, g1, g2, _⟩ := hI _ (List.getElem_mem (by omega : 0 < I.length))
    exact ⟨_, g1, by rw [g2, hb1, ht1]⟩
  · rintro ⟨i, hi, rfl⟩
    obtain ⟨b, t, c, hb, ht, hc, _, _, _, _, h5, _⟩ := where_ok hu h.ok hi
    exact List.mem_map.2 ⟨_, List.getElem_mem hc, h5⟩
/-- The keys of the map of groups. -/
def keyW (z : Int) (g : ByteArray) : ByteArray := ⟨#[UInt8.ofNat (48 + z.toNat)]⟩ ++ g
theorem keyW_inj {z z' : Int} {g g' : ByteArray} (hz : 0 ≤ z ∧ z < 6) (hz' : 0 ≤ z' ∧ z' < 6) (h : keyW z g = keyW z' g') : z = z' ∧ g = g' := by
  unfold keyW at h
  have h1 := congrArg (fun b : ByteArray => b.data.toList) h
  simp only [ByteArray.data_append, Array.toList_append] at h1
  have h2 : UInt8.ofNat (48 + z.toNat) :: g.data.toList = UInt8.ofNat (48 + z'.toNat) :: g'.data.toList := h1
  injection h2 with h3 h4
  have h5 := congrArg UInt8.toNat h3
  rw [UInt8.toNat_ofNat', UInt8.toNat_ofNat'] at h5
  refine ⟨by omega, ByteArray.ext (Array.ext' h4)⟩
theorem wide_keys {ps : List Pce} {zs : List Int} {ns : List ByteArray} {l : Lod} (hu : IdsUp ps) (h : Pkd kWide ps zs ns l) (hn : ps.length ≤ 300) (hg : ∀ p ∈ ps, p.grams ≤ 20) (hz : ∀ i, i < ps.length → 0 ≤ zs.getD i (-1) ∧ zs.getD i (-1) < 6) :
    (l.buns.map (fun b => keyW b.lvl b.grp)).Nodup ∧ ∀ x, x ∈ l.buns.map (fun b => keyW b.lvl b.grp) ↔ ∃ i, i < ps.length ∧ keyW (zs.getD i (-1)) (ns.getD i noB) = x := by
  have hbl : ∀ b ∈ l.buns, ∃ i, i < ps.length ∧ zs.getD i (-1) = b.lvl ∧ ns.getD i noB = b.grp := fun b hb => by
    obtain ⟨I, hI, _, _, hI1, _⟩ := h.ok.buns.good b hb
    obtain ⟨g0, g1, g2, g3⟩ := hI _ (List.getElem_mem (by omega : 0 < I.length))
    exact ⟨_, g1, g2, g3⟩
  refine ⟨?_, fun x => ⟨fun hx => ?_, ?_⟩⟩
  · rw [List.Nodup, List.pairwise_map]
    refine List.pairwise_iff_getElem.2 (fun i j hi hj hij e => ?_)
    obtain ⟨a, ha, ha1, _⟩ := hbl _ (List.getElem_mem hi)
    obtain ⟨b, hb, hb1, _⟩ := hbl _ (List.getElem_mem hj)
    have := keyW_inj (by rw [← ha1]; exact hz a ha) (by rw [← hb1]; exact hz b hb) e
    exact wide_apart h hn hg i j hij hj this
  · obtain ⟨b, hb, rfl⟩ := List.mem_map.1 hx
    obtain ⟨i, hi, h1, h2⟩ := hbl b hb
    exact ⟨i, hi, by rw [h1, h2]⟩
  · rintro ⟨i, hi, rfl⟩
    obtain ⟨b, t, c, hb, ht, hc, _, h2, h3, _⟩ := where_ok hu h.ok hi
    exact List.mem_map.2 ⟨_, List.getElem_mem hb, by rw [h2, h3]⟩
theorem nodup_same {α : Type} {A B : List α} (ha : A.Nodup) (hb : B.Nodup) (h : ∀ x, x ∈ A ↔ x ∈ B) : A.length = B.length :=
  Nat.le_antisymm (nodup_le _ _ ha (fun x hx => (h x).1 hx)) (nodup_le _ _ hb (fun x hx => (h x).2 hx))
end Go.Proofs.YtelklmdlodgdpaaGreat

/-! T13 -/
namespace Go.Proofs.YtelklmdlodgdpaaGreat
open Go.RowKit Go.Sort
set_option linter.unusedVariables false
set_option maxRecDepth 100000
/-- What a call of Made brings. -/
def MadeB (args : Array Value) (ls : List Lev) (l : List UInt16) (zs : List Int) (k : Pck) (w : World) : Prop :=
  ∀ W, Below w.heap.size w W → Calls Tryz.prog 10 args W fun e w' => ∃ al cl ap cp gz, e = .returned (.tuple #[.slice al ls.length cl, .agg #[.int .u8 1, .int .u8 1, .string ⟨#[49, 48, 48, 50, 51]⟩, .slice ap l.length cp], .slice (some ⟨gz, 0, none⟩) l.length l.length, .agg #[.int .i64 k.pieces, .int .i64 k.grams, .int .i64 k.bundles, .int .i64 k.trays]]) ∧ Below W.heap.size W w' ∧
    OwnsLv w' W.heap.size (.slice al ls.length cl) ls ∧ OwnsP w' W.heap.size (.slice ap l.length cp) (mail24 l).ps ∧ IntsAt w' gz zs ∧ W.heap.size ≤ gz
/-- What a call of Pack brings. -/
def PackB (ls : List Lev) (l : List UInt16) (zs : List Int) (k : Pck) (L : Lod) : Prop :=
  ∀ W v vp vz, RdLevs W v ls → RdPces W vp (mail24 l).ps → RdInts W vz zs → Calls Tryz.prog 11 #[v, .agg #[.int .u8 1, .int .u8 1, .string ⟨#[49, 48, 48, 50, 51]⟩, vp], vz, .agg #[.int .i64 k.pieces, .int .i64 k.grams, .int .i64 k.bundles, .int .i64 k.trays]] W fun e w' => ∃ ab cb at' ct ac cc, e = .returned (.tuple #[.agg #[.slice ab L.buns.length cb, .slice at' L.tras.length ct, .slice ac L.cons.length cc], .int .i64 0]) ∧ Below W.heap.size W w' ∧
    RdLod w' (.slice ab L.buns.length cb) (.slice at' L.tras.length ct) (.slice ac L.cons.length cc) L
theorem plan_allR {ls : List Lev} {m : Mai} (h : HasPlan ls m) {k : Pck} (hk : pckB k = true) : allR ls m (planM ls m) k = 0 := by
  unfold allR
  rw [h.valid, if_pos rfl, if_pos ⟨rfl, hk⟩]
noncomputable def lodM (ls : List Lev) (l : List UInt16) (k : Pck) : Lod := lodP k (mail24 l).ps (planM ls (mail24 l)) (gAll ls (codesM (mail24 l).ps) ls.length)
noncomputable def nmM (ls : List Lev) (l : List UInt16) : List ByteArray := nmTo (planM ls (mail24 l)) (gAll ls (codesM (mail24 l).ps) ls.length) (mail24 l).ps.length (gAll ls (codesM (mail24 l).ps) ls.length).length
theorem pack_b {ls : List Lev} {l : List UInt16} (h : HasPlan ls (mail24 l)) {k : Pck} (hk : pckB k = true) (hkg : ∀ p ∈ (mail24 l).ps, p.grams ≤ k.grams) : PackB ls l (planM ls (mail24 l)) k (lodM ls l k) :=
  fun W v vp vz h1 h2 h3 => pack_rd h h1 h2 h3 (planM_len _ _) h.nums (plan_allR h hk) hk hkg rfl
theorem pkd_b {ls : List Lev} {l : List UInt16} (h : HasPlan ls (mail24 l)) {k : Pck} (hk : pckB k = true) (hkg : ∀ p ∈ (mail24 l).ps, p.grams ≤ k.grams) : Pkd k (mail24 l).ps (planM ls (mail24 l)) (nmM ls l) (lodM ls l k) :=
  pkd_of h (planM_len _ _) h.nums hk hkg
theorem check_b {ls : List Lev} {l : List UInt16} (h : HasPlan ls (mail24 l)) {k : Pck} (hk : pckB k = true) {W : World} {v vp vz vb vt vc : Value} {L : Lod} (h1 : RdLevs W v ls) (h2 : RdPces W vp (mail24 l).ps) (h3 : RdInts W vz (planM ls (mail24 l))) (h4 : RdLod W vb vt vc L) (hs : SmallL L)
    (hid : ∀ b ∈ L.buns, ∀ i ∈ b.ids, 0 ≤ i ∧ i ≤ 999999) :
    Calls Tryz.prog 13 #[v, .agg #[.int .u8 1, .int .u8 1, .string ⟨#[49, 48, 48, 50, 51]⟩, vp], vz, .agg #[.int .i64 k.pieces, .int .i64 k.grams, .int .i64 k.bundles, .int .i64 k.trays], .agg #[vb, vt, vc]] W fun e w' => ∃ u, e = .returned (.tuple #[u, .int .i64 0]) ∧ Below W.heap.size W w' ∧ IsB u (LodOk k (mail24 l).ps (planM ls (mail24 l)) (nmM ls l) L) :=
  check_ok h v vp vz vb vt vc _ k L W h1 h2 h3 (planM_len _ _) h.nums (plan_allR h hk) h4 hs hid
/-- A bundle, a tray, a container as they lie. -/
theorem RdX.at {α : Type} {n : Nat} {cf : α × Value → List Value} {ids : α → List Int} {w : World} {a : Option Addr} {m cap : Nat} {xs : List α} (h : RdX n cf ids w (.slice a m cap) xs) (h0 : 0 < xs.length) :
    ∃ g off, a = some ⟨g, off, none⟩ ∧ g < w.heap.size ∧ ∀ i (hi : i < xs.length), ∃ s c, RdInts w (.slice s (ids xs[i]).length c) (ids xs[i]) ∧ ∀ j u, (cf (xs[i], .slice s (ids xs[i]).length c))[j]? = some u → w.cell? ⟨g, off + i * n + j, none⟩ = some u := by
  obtain ⟨a', c', hv, hc⟩ := h
  injection hv with h1 h2 h3
  subst h1
  obtain ⟨g, off, ha, hg, hcc⟩ := hc h0
  refine ⟨g, off, ha, hg, fun i hi => ?_⟩
  obtain ⟨s, hs, hcell⟩ := hcc i hi
  obtain ⟨sa, sc, rfl, _⟩ := id hs
  exact ⟨sa, sc, hs, hcell⟩
theorem RdInts.at {w : World} {a : Option Addr} {m cap : Nat} {xs : List Int} (h : RdInts w (.slice a m cap) xs) (h0 : 0 < xs.length) :
    ∃ g off, a = some ⟨g, off, none⟩ ∧ g < w.heap.size ∧ ∀ i (hi : i < xs.length), w.cell? ⟨g, off + i, none⟩ = some (.int .i64 xs[i]) := by
  obtain ⟨a', c', hv, hc⟩ := h
  injection hv with h1 h2 h3
  subst h1
  exact hc h0
end Go.Proofs.YtelklmdlodgdpaaGreat
