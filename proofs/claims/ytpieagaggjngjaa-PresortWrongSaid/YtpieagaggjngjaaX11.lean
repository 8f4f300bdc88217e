/-
  PresortWrong: the walk.
-/
import Derived.Test.YtpieagaggjngjaaX8
import Derived.Test.YtpieagaggjngjaaX7
import Derived.Test.YtpieagaggjngjaaP27
import Derived.Deep.CutBlock
namespace Go.Proofs.Ytpieagaggjngjaa
open Go.RowKit Go.Sort
set_option linter.unusedVariables false
set_option maxRecDepth 100000
theorem own_one (w : World) (c : UInt8) : (w.alloc (.cells #[.int .u8 (c.toNat : Int)] 5)).ownsRow w.heap.size 5 1 (.slice (some ⟨w.heap.size, 0, none⟩) 1 1) 1 ([c].map encU) :=
  ⟨rfl, .inr ⟨w.heap.size, 1, #[.int .u8 (c.toNat : Int)], rfl, Nat.le_refl _, alloc_new w _, Nat.le_refl _, by decide, rfl, rfl⟩⟩
theorem own_one5 (w : World) : (w.alloc (.cells #[.int .u8 5] 5)).ownsRow w.heap.size 5 1 (.slice (some ⟨w.heap.size, 0, none⟩) 1 1) 1 ([(5 : UInt8)].map encU) := own_one w 5
/-- A level slice, cut. -/
theorem RdLevs.take {w : World} {a : Option Addr} {n cap : Nat} {ls : List Lev} (h : RdLevs w (.slice a n cap) ls) {k cap' : Nat} (hk : k ≤ ls.length) : RdLevs w (.slice a k cap') (ls.take k) := by
  obtain ⟨a', c', hv, hc⟩ := h
  injection hv with h1 h2 h3
  subst h1
  have hl : (ls.take k).length = k := by rw [List.length_take]; omega
  refine ⟨a, cap', by rw [hl], fun h0 => ?_⟩
  obtain ⟨g, off, ha, hg, hcc⟩ := hc (by omega)
  refine ⟨g, off, ha, hg, fun i hi => ?_⟩
  obtain ⟨sv, h1, h2⟩ := hcc i (by omega)
  rw [List.getElem_take]
  exact ⟨sv, h1, h2⟩
/-- What made returns, and what lies there. -/
def PA (w : World) (ls : List Lev) (cs : List ByteArray) (m x : Value) (wx : World) : Prop :=
  ∃ g cl a cp X B, x = .slice (some ⟨g, 0, none⟩) ls.length cl ∧ m = .pointer (some ⟨X, 0, none⟩) ∧ wx.heap[X]? = some (.cells #[.int .u8 1, .int .u8 1, .string ⟨#[49, 48, 48, 48, 48]⟩, .slice (some ⟨a, 0, none⟩) cs.length cp] 28 (0, 0)) ∧
    OwnsLv wx B (.slice (some ⟨g, 0, none⟩) ls.length cl) ls ∧ OwnsP wx B (.slice (some ⟨a, 0, none⟩) cs.length cp) (mail25 cs).ps ∧ w.heap.size ≤ B ∧ a < X ∧ X < wx.heap.size ∧ B ≤ X ∧ Below w.heap.size w wx
theorem pa_new {w W wM : World} {ls : List Lev} {cs : List ByteArray} {al ap : Option Addr} {cl cp : Nat} (hB : Below w.heap.size w wM) (hW : w.heap.size ≤ W.heap.size) (hWM : W.heap.size ≤ wM.heap.size) (hl : OwnsLv wM W.heap.size (.slice al ls.length cl) ls) (hp : OwnsP wM W.heap.size (.slice ap cs.length cp) (mail25 cs).ps) (h1 : 0 < ls.length) (h2 : 0 < cs.length) :
    PA w ls cs (.pointer (some ⟨wM.heap.size, 0, none⟩)) (.slice al ls.length cl) (wM.alloc (.cells #[.int .u8 1, .int .u8 1, .string ⟨#[49, 48, 48, 48, 48]⟩, .slice ap cs.length cp] 28)) := by
  obtain ⟨g, c', hv, _, _⟩ := ownsLv_at hl h1
  injection hv with hv1 _ hv3
  subst hv1
  subst hv3
  have hlm : (mail25 cs).ps.length = cs.length := mailTo_len _ _
  have hpp : wM.ownsRow W.heap.size 57 5 (.slice ap cs.length cp) (mail25 cs).ps.length ((mail25 cs).ps.flatMap pceC) := hp
  rcases Joins.ownsRow_forms hpp with ⟨_, hp0⟩ | ⟨a, c2, hv⟩
  · omega
  · injection hv with hv1 _ hv3
    subst hv1
    subst hv3
    have ha := hpp.lt a rfl
    have hbn : Below wM.heap.size wM (wM.alloc (.cells #[.int .u8 1, .int .u8 1, .string ⟨#[49, 48, 48, 48, 48]⟩, .slice (some ⟨a, 0, none⟩) cs.length cp] 28)) := (Below.refl _ wM).alloc (Nat.le_refl _) _
    exact ⟨g, cl, a, cp, wM.heap.size, W.heap.size, rfl, rfl, alloc_new _ _, hl.below hbn, row_below6 hpp hbn, hW, ha.2, by rw [World.size_alloc]; omega, hWM, hB.alloc hB.size _⟩
theorem ownsLv_cap {w : World} {base g n c : Nat} {ls : List Lev} (h : OwnsLv w base (.slice (some ⟨g, 0, none⟩) n c) ls) : n ≤ c := by
  obtain ⟨L, rfl, _, _, ⟨e, _⟩ | ⟨g', cap', cur, e, _, _, hle, _⟩⟩ := h
  · cases e
  · injection e with e1 e2 e3
    omega
theorem free_of_own {w : World} {base g n c : Nat} {ps : List Pce} (h : OwnsP w base (.slice (some ⟨g, 0, none⟩) n c) ps) (j : Nat) : w.frozen? ⟨g, j, none⟩ = false := by
  obtain ⟨_, _, e⟩ := h.form
  injection e with _ e _
  subst e
  have h' : w.ownsRow base 57 5 (.slice (some ⟨g, 0, none⟩) ps.length c) ps.length (ps.flatMap pceC) := h
  exact h'.frozenAt j
theorem lv_kept {w : World} {B B' a n c : Nat} {v : Value} {ls : List Lev} {ps : List Pce} (hl : OwnsLv w B v ls) (hp : OwnsP w B' (.slice (some ⟨a, 0, none⟩) n c) ps) (j : Nat) (u : Value) : RdLevs (w.setCell ⟨a, j, none⟩ u) v ls :=
  (OwnsLv.grown (row := some a) hl (set_grown w ⟨a, j, none⟩ u) (fun g e => own_not hp (T := 89) (by decide) g e) (fun g e => own_not hp (T := 41) (by decide) g e)).reads
theorem lv_keptX {w : World} {B X : Nat} {v : Value} {ls : List Lev} {cs : Array Value} (hl : OwnsLv w B v ls) (hX : w.heap[X]? = some (.cells cs 28 (0, 0))) (j : Nat) (u : Value) : RdLevs (w.setCell ⟨X, j, none⟩ u) v ls := by
  have no : ∀ T, 28 ≠ T → ∀ g, some X = some g → ∀ cur fr, w.heap[g]? ≠ some (.cells cur T fr) := fun T hT g e cur fr e2 => by
    injection e with e
    rw [← e, hX] at e2
    injection e2 with e2
    injection e2 with _ e4 _
    exact hT e4
  exact (hl.grown (set_grown _ _ _) (no _ (by decide)) (no _ (by decide))).reads
theorem pces_keptX {w : World} {B X a n c : Nat} {ps : List Pce} (hp : OwnsP w B (.slice (some ⟨a, 0, none⟩) n c) ps) (hne : X ≠ a) (j : Nat) (u : Value) : RdPces (w.setCell ⟨X, j, none⟩ u) (.slice (some ⟨a, 0, none⟩) n c) ps :=
  RdPces.of_owns (show OwnsP _ B _ _ from World.ownsRow.kept hp (set_grown _ _ _) (.inr (fun e => hne (by injection e with e; exact e.symm))))
theorem box_set1 {w : World} {g : Nat} {a b c d u : Value} {t : TypeId} {fr : Nat × Nat} (h : w.heap[g]? = some (.cells #[a, b, c, d] t fr)) : (w.setCell ⟨g, 1, none⟩ u).heap[g]? = some (.cells #[a, u, c, d] t fr) := by
  simp [World.setCell, Array.getElem?_modify, h]
theorem own_lev1 (w : World) (l : Lev) (sv : Value) : (w.alloc (.cells #[.string l.name, .int .i64 l.pre, sv, .int .i64 l.min, .int .i64 l.cents] 41)).ownsRow w.heap.size 41 5 (.slice (some ⟨w.heap.size, 0, none⟩) 1 1) 1 (lCell (l, sv)) :=
  ⟨rfl, .inr ⟨w.heap.size, 1, _, rfl, Nat.le_refl _, alloc_new w _, Nat.le_refl _, by decide, rfl, rfl⟩⟩
theorem flat_len7 (L : List (Lev × Value)) : (L.flatMap lCell).length = L.length * 5 := flat_lenN (f := lCell) (n := 5) (fun _ => rfl) L
theorem one_l {x : Lev × Value} (h : x.2.oneCell' = true) : ∀ u ∈ lCell x, u.oneCell' = true := fun u hu => by
  simp [lCell] at hu
  rcases hu with rfl | rfl | rfl | rfl | rfl
  · rfl
  · rfl
  · exact h
  · rfl
  · rfl
theorem lv_keptI {w : World} {B P : Nat} {v : Value} {ls : List Lev} {zs : List Int} (hl : OwnsLv w B v ls) (hX : IntsAt w P zs) (j : Nat) (u : Value) : OwnsLv (w.setCell ⟨P, j, none⟩ u) B v ls := by
  have no : ∀ T, 3 ≠ T → ∀ g, some P = some g → ∀ cur fr, w.heap[g]? ≠ some (.cells cur T fr) := fun T hT g e cur fr e2 => by
    unfold IntsAt at hX
    injection e with e
    rw [← e, hX] at e2
    injection e2 with e2
    injection e2 with _ e4 _
    exact hT e4
  exact hl.grown (set_grown _ _ _) (no _ (by decide)) (no _ (by decide))
theorem wrL_mem {d : Nat} {ls : List Lev} : ∀ l ∈ wrL d ls, l ∈ ls := fun l hl => by
  unfold wrL at hl
  split at hl
  · exact List.mem_of_mem_take hl
  · rcases List.mem_append.1 hl with h | h
    · exact List.mem_of_mem_take h
    · exact h
  · exact hl
theorem wrL_len (d : Nat) (ls : List Lev) : (wrL d ls).length ≤ 1 + ls.length := by
  unfold wrL
  split
  · rw [List.length_take]; omega
  · rw [List.length_append, List.length_take]; omega
  · omega
theorem wrP_len (d : Nat) (ps : List Pce) : (wrP d ps).length = ps.length := by
  unfold wrP
  cases ps with
  | nil => rfl
  | cons p r => dsimp only; split <;> rfl
theorem wrP_code {d : Nat} {ps : List Pce} (h : ∀ p ∈ ps, p.code.size ≤ maxLen) : ∀ p ∈ wrP d ps, p.code.size ≤ maxLen := by
  unfold wrP
  cases ps with
  | nil => exact h
  | cons p r =>
    have hr := fun q hq => h q (List.mem_cons_of_mem p hq)
    have hp := h p List.mem_cons_self
    dsimp only
    split
    all_goals
      intro q hq
      rcases List.mem_cons.1 hq with rfl | hq
      · first | exact hp | exact (show (⟨#[120]⟩ : ByteArray).size ≤ maxLen from by decide) | exact (show (⟨#[49, 48, 48, 48]⟩ : ByteArray).size ≤ maxLen from by decide)
      · exact hr q hq
theorem has_code {ls : List Lev} {cs : List ByteArray} (h : HasPlan ls (mail25 cs)) : ∀ p ∈ (mail25 cs).ps, p.code.size ≤ maxLen := fun p hp => by
  have := codeB_size (h.code _ (List.mem_map_of_mem hp))
  unfold maxLen; omega
theorem wrong_calls {ls : List Lev} {cs : List ByteArray} {d : Nat} {E ct : Int} (hE : E = if d = 4 then 6 else 2) (hct : ct = if d = 3 then 0 else 1) (h : HasPlan ls (mail25 cs))
    (h1 : rightB (wrL d ls) = true → mailB (wrM d (mail25 cs)) = true → (codesM (wrM d (mail25 cs)).ps).any (shortB (wrL d ls)) = true) (h2 : planErr (wrL d ls) (wrM d (mail25 cs)) = if d = 4 then 6 else 2)
    (h3 : ∀ zs : List Int, (d = 4 → zs.length = (mail25 cs).ps.length ∧ numsB ls.length zs = true) → validR (wrL d ls) (wrM d (mail25 cs)) zs = (false, if d = 4 then 6 else 2)) {zs : List Int} (hz : zs.length = cs.length) (hzn : numsB ls.length zs = true) (W : World) (v vp : Value) (hr : RdLevs W v (wrL d ls)) (hp : RdPces W vp (wrP d (mail25 cs).ps)) :
    (Calls Try.prog 16 #[v, .agg #[.int .u8 1, .int .u8 ct, .string ⟨#[49, 48, 48, 48, 48]⟩, vp]] W fun e w' => e = .returned (.tuple #[.slice none 0 0, .int .i64 E]) ∧ Below W.heap.size W w') ∧
    ∀ vz, RdInts W vz zs → (Calls Try.prog 15 #[v, .agg #[.int .u8 1, .int .u8 ct, .string ⟨#[49, 48, 48, 48, 48]⟩, vp], vz] W fun e w' => e = .returned (.tuple #[.bool false, .int .i64 E]) ∧ Below W.heap.size W w') := by
  have hlen := right_len h.right
  have hf : ∀ l ∈ wrL d ls, LevFits l := fun l hl => right_fits h.right l (wrL_mem l hl)
  have hll := wrL_len d ls
  have hlm : (mail25 cs).ps.length = cs.length := mailTo_len _ _
  have hfew := h.few
  have h8 : 0 ≤ (wrM d (mail25 cs)).cls ∧ (wrM d (mail25 cs)).cls ≤ 255 ∧ 0 ≤ (wrM d (mail25 cs)).ctr ∧ (wrM d (mail25 cs)).ctr ≤ 255 := by
    show (0 : Int) ≤ 1 ∧ (1 : Int) ≤ 255 ∧ 0 ≤ (if d = 3 then (0 : Int) else 1) ∧ (if d = 3 then (0 : Int) else 1) ≤ 255
    split <;> omega
  have hom : (wrM d (mail25 cs)).origin.size ≤ maxLen := by show (⟨#[49, 48, 48, 48, 48]⟩ : ByteArray).size ≤ maxLen; decide
  have hml : (wrM d (mail25 cs)).ps.length ≤ 100000 := by show (wrP d (mail25 cs).ps).length ≤ _; rw [wrP_len]; omega
  have hcz : ∀ p ∈ (wrM d (mail25 cs)).ps, p.code.size ≤ maxLen := wrP_code (has_code h)
  have em : ∀ vp, maiV (wrM d (mail25 cs)) vp = .agg #[.int .u8 1, .int .u8 ct, .string ⟨#[49, 48, 48, 48, 48]⟩, vp] := fun vp => by rw [hct]; rfl
  refine ⟨?_, fun vz hrz => ?_⟩
  · have := plan_bad (wrL d ls) v vp (wrM d (mail25 cs)) W hr hf (by omega) hp h8 hom hml hcz h1
    rw [em, h2, ← hE] at this
    exact this
  · have := valid_any (wrL d ls) v vp vz (wrM d (mail25 cs)) zs W hr hf (by omega) hp h8 hom hml hcz hrz (by omega)
    rw [em, h3 zs (fun _ => ⟨by omega, hzn⟩), ← hE] at this
    exact this
theorem bad_plan {ls : List Lev} {cs : List ByteArray} (h : HasPlan ls (mail25 cs)) {zs : List Int} (hbad : ¬ (zs.length = cs.length ∧ numsB ls.length zs = true)) (hl : zs.length ≤ 2000) (W : World) (v vp vz : Value) (hr : RdLevs W v ls) (hp : RdPces W vp (mail25 cs).ps) (hrz : RdInts W vz zs) :
    Calls Try.prog 15 #[v, .agg #[.int .u8 1, .int .u8 1, .string ⟨#[49, 48, 48, 48, 48]⟩, vp], vz] W fun e w' => e = .returned (.tuple #[.bool false, .int .i64 2]) ∧ Below W.heap.size W w' := by
  have hlen := right_len h.right
  have hlm : (mail25 cs).ps.length = cs.length := mailTo_len _ _
  have hfew := h.few
  have := valid_any ls v vp vz (mail25 cs) zs W hr (right_fits h.right) (by omega) hp (mail25_rng _) (mail25_org _) (by omega) (has_code h) hrz (by omega)
  have e : validR ls (mail25 cs) zs = (false, 2) := by
    unfold validR
    rw [if_neg (fun ⟨_, _, a, b⟩ => hbad ⟨by omega, b⟩)]
  rw [e] at this
  exact this
theorem bad_saving {ls : List Lev} (h : rightB ls = true) {zs : List Int} (hbad : numsB ls.length zs = false) (hl : zs.length ≤ 2000) (W : World) (v vz : Value) (hr : RdLevs W v ls) (hrz : RdInts W vz zs) :
    Calls Try.prog 17 #[v, vz] W fun e w' => e = .returned (.tuple #[.int .i64 0, .int .i64 2]) ∧ Below W.heap.size W w' := by
  have hlen := right_len h
  have := saving_any ls v vz zs W hr (right_fits h) (by omega) hrz (by omega)
  have e : savingR ls zs = (0, 2) := by
    unfold savingR
    rw [if_neg (by omega), if_neg (fun ⟨_, b⟩ => by rw [hbad] at b; cases b)]
  rw [e] at this
  exact this
set_option maxHeartbeats 16000000 in
theorem wrong_main (n : Int) (vs : Value) (l : List UInt8) (c : UInt8) (w : World) (hn0 : 0 ≤ n) (hn1 : n < 4294967296) (hrs : RdBytesC w vs l) (hsl : l.length ≤ 140737488351232) :
    Calls Try.prog 9 #[.int .u32 n, vs, .int .u8 (c.toNat : Int)] w fun e w' => e = .returned (.bool true) ∧ Below w.heap.size w w' := by
  have HAW := Lib.hid (fun W => awake_any W)
  obtain ⟨o0, o1, o2⟩ := or_one hn0 hn1
  obtain ⟨n', hn'⟩ : ∃ n', bits .or .u32 n 1 = n' := ⟨_, rfl⟩
  rw [hn'] at o0 o1 o2
  have hP := made_has (bitsOf n') [] [] ((5 :: l).take 50)
  obtain ⟨l0, r, hmf, hpre5, hr1⟩ := made_first25 o2
  have hmd : ∀ W v, Below w.heap.size w W → RdBytesC W v (5 :: l) → Calls Try.prog 11 #[.int .u32 n', .slice none 0 0, .slice none 0 0, v, .int .i64 50] W fun e w' => ∃ al cl ap cp, e = .returned (.tuple #[.slice al (madeR (bitsOf n') [] []).length cl, .agg #[.int .u8 1, .int .u8 1, .string ⟨#[49, 48, 48, 48, 48]⟩, .slice ap (codesOf ((5 :: l).take 50)).length cp]]) ∧ Below W.heap.size W w' ∧
      OwnsLv w' W.heap.size (.slice al (madeR (bitsOf n') [] []).length cl) (madeR (bitsOf n') [] []) ∧ OwnsP w' W.heap.size (.slice ap (codesOf ((5 :: l).take 50)).length cp) (mail25 (codesOf ((5 :: l).take 50))).ps := fun W v hW hv => by
    have hnn : RdBytes W (.slice none 0 0) [] := ⟨none, 0, rfl, fun h => absurd h (by simp)⟩
    exact made25_any n' (.slice none 0 0) (.slice none 0 0) v [] [] (5 :: l) 50 W o0 o1 hnn hnn hv (Nat.zero_le _) (Nat.zero_le _) (by rw [List.length_cons]; unfold maxLen; omega) (by decide)
  obtain ⟨ls, hls⟩ : ∃ ls, ls = madeR (bitsOf n') [] [] := ⟨_, rfl⟩
  obtain ⟨cs, hcs⟩ : ∃ cs, cs = codesOf ((5 :: l).take 50) := ⟨_, rfl⟩
  have hc50 : cs.length ≤ 50 := by rw [hcs]; exact codesOf_len _ 50
  have hc1 : 1 ≤ cs.length := by rw [hcs]; unfold codesOf; simp
  rw [← hls, ← hcs] at hmd hP
  rw [← hls] at hmf
  have HMD := Lib.hid hmd
  have hlen := right_len hP.right
  have hl2 : 2 ≤ ls.length := by rw [hmf]; simp; omega
  have h5 : ∀ l ∈ ls.take 1, l.pre = 5 := fun x hx => by
    rw [hmf] at hx
    simp at hx
    rw [hx]; exact hpre5
  have hlm : (mail25 cs).ps.length = cs.length := mailTo_len _ _
  have hd6 : c.toNat % 6 < 6 := Nat.mod_lt _ (by decide)
  have hmod : (c.toNat : Int).tmod 6 = ((c.toNat % 6 : Nat) : Int) := by rw [Int.tmod_eq_emod_of_nonneg (Int.natCast_nonneg _)]; rfl
  obtain ⟨d, hd⟩ : ∃ d, d = c.toNat % 6 := ⟨_, rfl⟩
  rw [← hd] at hmod hd6
  obtain ⟨ws1, ws2, ws3⟩ := wrong_state hd6 hP hl2 h5 (by rw [hlm]; exact hc1)
  obtain ⟨as_, cs_, rfl, _⟩ := hrs.1
  have hfm2 : (as_ = none ∧ cs_ = 0 ∧ l.length = 0) ∨ (∃ sb so sp, as_ = some ⟨sb, so, sp⟩ ∧ l.length ≤ cs_) := by
    rcases hrs.2 with h | ⟨b, off, spot, cap, h, hc⟩
    · injection h with h1 h2 h3
      exact .inl ⟨h1, h3, h2⟩
    · injection h with h1 h2 h3
      exact .inr ⟨b, off, spot, h1, by omega⟩
  have HFM := Lib.hid hfm2
  have HRS := Lib.hid hrs
  obtain ⟨i0, hi⟩ := info_parts Try.infoU8
  have HI := Lib.hid hi
  have HP := Lib.hid hP
  have HWS1 := Lib.hid ws1
  have HWS2 := Lib.hid ws2
  have HWS3 := Lib.hid ws3
  have HH5 := Lib.hid h5
  have hbw := Below.refl w.heap.size w
  clear hi hrs hfm2 hls hcs hmf hpre5 hr1 h5 ws1 ws2 ws3 hd hmd o0 o1 o2
  go_enter Try.func9, Try.ntmps9
  go_upto_region 3 with (go_at_call 10; refine (HAW.out _).mono ?_; rintro e w1 ⟨rfl, hb1⟩)
  have HB1 : Hid (Below w.heap.size w w1) := hb1
  clear hb1 HAW
  go_cut [8, 7] from 24 to 32 (fun m x wx => PA w ls cs m x wx)
  case first =>
    rcases HFM.out with ⟨rfl, rfl, hl0⟩ | ⟨sb, so, sp, rfl, hcap⟩
    ·
      obtain rfl : l = [] := List.length_eq_zero_iff.1 hl0
      go_wp2_with (go_at_call 11; (have hrb : RdBytesC (w1.alloc (.cells #[.int .u8 5] 5)) (.slice (some ⟨w1.heap.size, 0, none⟩) 1 1) [5] := bytesC_of_own (own_one5 w1) rfl); (have BX : Below w.heap.size w (w1.alloc (.cells #[.int .u8 5] 5)) := HB1.out.alloc HB1.out.size _); refine (HMD.out _ _ BX hrb).mono ?_; rintro e wM ⟨al, cl, ap, cp, rfl, hbM, hlM, hpM⟩; (have hBM : Below w.heap.size w wM := BX.trans (hbM.mono BX.size)); (have hBz := BX.size))
      go_meet
      exact pa_new hBM hBz hbM.size hlM hpM (by omega) (by omega)
    ·
      have HNW : Hid (∀ W, Below w.heap.size w W → ∀ j u, (l.map encU)[j]? = some u → W.cell? ((⟨sb, so, sp⟩ : Addr).add j) = some u) := fun W hW => bytes_news (n := l.length) (cap := cs_) (RdBytes.below2 HRS.out.1 hW)
      have HLEN : Hid ((l.map encU).length = l.length * 1) := by
        show (l.map encU).length = l.length * 1
        rw [List.length_map, Nat.mul_one]
      have HONE : Hid (∀ u ∈ l.map encU, u.oneCell' = true) := fun u hu => by
        obtain ⟨z, _, rfl⟩ := List.mem_map.1 hu
        rfl
      go_wp2_with (first | (at_builtin; refine wpList_append_own _ rfl _ _ 23 rfl w1.heap.size 5 i0 (.int .u8 0) 1 1 Try.underlying23 HI.out.1 HI.out.2.1 HI.out.2.2.1 HI.out.2.2.2 rfl (by decide) _ _ _ rfl (own_one5 w1) ⟨sb, so, sp⟩ l.length cs_ (l.map encU) rfl HLEN.out (HNW.out _ (HB1.out.alloc HB1.out.size _)) HONE.out (by unfold maxLen; omega) (by omega) (by simp) ?_; intro v5 w5 hown5 hgrow5 _; (have BX : Below w.heap.size w w5 := (HB1.out.alloc HB1.out.size _).grown hgrow5 (by have := HB1.out.size; simp; omega) (fun r e => by have := HB1.out.size; have := ((own_one5 w1).lt r e).1; omega)); (have hrb : RdBytesC w5 v5 (5 :: l) := bytesC_of_own (by rw [List.map_cons]; exact hown5) (by simp; omega))) | (go_at_call 11; refine (HMD.out _ _ BX hrb).mono ?_; rintro e wM ⟨al, cl, ap, cp, rfl, hbM, hlM, hpM⟩; (have hBM : Below w.heap.size w wM := BX.trans (hbM.mono BX.size)); (have hBz := BX.size)))
      go_meet
      exact pa_new hBM hBz hbM.size hlM hpM (by omega) (by omega)
  case rest =>
    obtain ⟨wx, hwx⟩ : ∃ x, x = wc := ⟨_, rfl⟩
    subst hwx
    obtain ⟨g, cl, a, cp, X, B, rfl, rfl, hX, hOl, hOp, hwB, haX, hXw, hBX, hB⟩ := hcut
    have m3 : wx.cell? ⟨X, 3, none⟩ = some (.slice (some ⟨a, 0, none⟩) cs.length cp) := by
      have := cell_of_row _ _ 3 _ _ _ hX
      simpa using this
    have hmk := fun W => run_make_row' (P := Try.prog) 38 3 (.int .i64 0) 8 Try.underlying38 Try.infoI rfl .i64 .i64 cs.length (by omega) (by omega) W
    obtain ⟨wy, hwy⟩ : ∃ wy, wy = wx.alloc (.cells (madeCells #[.int .i64 0] cs.length) 3) := ⟨_, rfl⟩
    have hby : Below wx.heap.size wx wy := by rw [hwy]; exact (Below.refl _ _).alloc (Nat.le_refl _) _
    have hXy := (hby.block _ hXw).trans hX
    have hOly := hOl.below hby
    have hOpy : OwnsP wy B (.slice (some ⟨a, 0, none⟩) cs.length cp) (mail25 cs).ps := row_below6 hOp hby
    have hIy : IntsAt wy wx.heap.size (List.replicate cs.length 0) := by rw [hwy]; exact made_ints wx cs.length
    have hBy : Below w.heap.size w wy := below_c hB hB.size hby
    have HWY := Lib.hid hwy
    have hXw2 : X < wx.heap.size := hXw
    clear hby hX hOl hOp hB hwy
    go_upto_block 0 with fail
    rw [← HWY.out]
    clear hmk m3
    have HXY := Lib.hid hXy
    have HOL := Lib.hid hOly
    have HOP := Lib.hid hOpy
    have HIY := Lib.hid hIy
    have HBY := Lib.hid hBy
    have hay : w.heap.size ≤ a := by
      have := ((hOpy : wy.ownsRow B 57 5 _ _ _).lt a rfl).1
      omega
    have hXwb : w.heap.size ≤ X := by omega
    clear hXy hOly hOpy hIy hBy
    go_cut [7, 10] from 37 to 72 (fun x want wz => ∃ al cl', x = .slice al (wrL d ls).length cl' ∧ want = .int .i64 (if d = 4 then 6 else 2) ∧ RdLevs wz (.slice al (wrL d ls).length cl') (wrL d ls) ∧ wz.heap[X]? = some (.cells #[.int .u8 1, .int .u8 (if d = 3 then 0 else 1), .string ⟨#[49, 48, 48, 48, 48]⟩, .slice (some ⟨a, 0, none⟩) cs.length cp] 28 (0, 0)) ∧ RdPces wz (.slice (some ⟨a, 0, none⟩) cs.length cp) (wrP d (mail25 cs).ps) ∧ IntsAt wz wx.heap.size (List.replicate cs.length 0) ∧ Below w.heap.size w wz)
    case first =>
      have hdc : d = 0 ∨ d = 1 ∨ d = 2 ∨ d = 3 ∨ d = 4 ∨ d = 5 := by omega
      have hcl : ls.length ≤ cl := ownsLv_cap HOL.out
      obtain ⟨p0, pr, hps⟩ : ∃ p r, (mail25 cs).ps = p :: r := by
        cases hm : (mail25 cs).ps with
        | nil => rw [hm] at hlm; simp at hlm; omega
        | cons p r => exact ⟨p, r, rfl⟩
      obtain ⟨a1, c1, hv1, hpc⟩ := RdPces.of_owns HOP.out
      injection hv1 with q1 q2 q3
      subst q1
      obtain ⟨g1, o1, hg1, hgl1, hcc1⟩ := hpc (by omega)
      injection hg1 with hg1
      injection hg1 with hg1 ho1 _
      subst hg1
      subst ho1
      have hpa := hcc1 0 (by omega)
      obtain ⟨c0', c1', c2', c3', c4'⟩ := hpa
      simp only [Nat.zero_mul, Nat.zero_add, hps, List.getElem_cons_zero] at c0' c1' c2' c3' c4'
      have hfz := fun j => (free_of_own HOP.out j)
      have f0 := hfz 0
      have f2 := hfz 2
      have x3 : wy.cell? ⟨X, 3, none⟩ = some (.slice (some ⟨a, 0, none⟩) cs.length cp) := by
        have := cell_of_row _ _ 3 _ _ _ HXY.out
        simpa using this
      have x1 : wy.cell? ⟨X, 1, none⟩ = some (.int .u8 1) := by
        have := cell_of_row _ _ 1 _ _ _ HXY.out
        simpa using this
      have x1f : wy.frozen? ⟨X, 1, none⟩ = false := free_row HXY.out 1
      have hne : X ≠ a := by omega
      have hneP : wx.heap.size ≠ a := by omega
      have hnePX : wx.heap.size ≠ X := by omega
      clear hcc1 hpc q2 q3 hfz
      rcases hdc with rfl | rfl | rfl | rfl | rfl | rfl
      · have hm0 : (c.toNat : Int).tmod 6 = 0 := hmod
        clear hmod
        go_wp2_with fail
        go_meet
        have hL0 : (wrL 0 ls).length = ls.length - 1 := by
          show (ls.take (ls.length - 1)).length = _
          rw [List.length_take]; omega
        have hw0 : wrP 0 (mail25 cs).ps = (mail25 cs).ps := by
          rw [hps]; rfl
        rw [hw0]
        refine ⟨some ⟨g, 0, none⟩, cl, by rw [hL0], rfl, ?_, HXY.out, RdPces.of_owns HOP.out, HIY.out, HBY.out⟩
        rw [hL0]
        exact RdLevs.take HOL.out.reads (by omega)
      · have hm0 : (c.toNat : Int).tmod 6 = 1 := hmod
        clear hmod
        go_wp2_with fail
        go_meet
        have hpp := OwnsP.put HOP.out 0 0 (by omega) (by omega) { (mail25 cs).ps[0]'(by omega) with id := 0 } (.int .i64 0) rfl
        have hset : (mail25 cs).ps.set 0 { (mail25 cs).ps[0]'(by omega) with id := 0 } = wrP 1 (mail25 cs).ps := by
          simp only [hps]
          rfl
        rw [hset] at hpp
        exact ⟨some ⟨g, 0, none⟩, cl, rfl, rfl, lv_kept HOL.out HOP.out _ _, (Below.heap_setCell _ _ _ _ hne).trans HXY.out, RdPces.of_owns hpp, HIY.out.setOther hneP _, HBY.out.setCell hay _⟩
      · have hm0 : (c.toNat : Int).tmod 6 = 2 := hmod
        clear hmod
        go_wp2_with fail
        go_meet
        have hpp := OwnsP.put HOP.out 0 2 (by omega) (by omega) { (mail25 cs).ps[0]'(by omega) with code := ⟨#[120]⟩ } (.string ⟨#[120]⟩) rfl
        have hset : (mail25 cs).ps.set 0 { (mail25 cs).ps[0]'(by omega) with code := ⟨#[120]⟩ } = wrP 2 (mail25 cs).ps := by
          simp only [hps]
          rfl
        rw [hset] at hpp
        exact ⟨some ⟨g, 0, none⟩, cl, rfl, rfl, lv_kept HOL.out HOP.out _ _, (Below.heap_setCell _ _ _ _ hne).trans HXY.out, RdPces.of_owns hpp, HIY.out.setOther hneP _, HBY.out.setCell hay _⟩
      · have hm0 : (c.toNat : Int).tmod 6 = 3 := hmod
        clear hmod
        go_wp2_with fail
        go_meet
        have hw3 : wrP 3 (mail25 cs).ps = (mail25 cs).ps := by
          rw [hps]; rfl
        rw [hw3]
        exact ⟨some ⟨g, 0, none⟩, cl, rfl, rfl, lv_keptX HOL.out HXY.out _ _, box_set1 HXY.out, pces_keptX HOP.out hne _ _, HIY.out.setOther hnePX _, HBY.out.setCell hXwb _⟩
      · have hm0 : (c.toNat : Int).tmod 6 = 4 := hmod
        clear hmod
        go_wp2_with fail
        go_meet
        have hpp := OwnsP.put HOP.out 0 2 (by omega) (by omega) { (mail25 cs).ps[0]'(by omega) with code := ⟨#[49, 48, 48, 48]⟩ } (.string ⟨#[49, 48, 48, 48]⟩) rfl
        have hset : (mail25 cs).ps.set 0 { (mail25 cs).ps[0]'(by omega) with code := ⟨#[49, 48, 48, 48]⟩ } = wrP 4 (mail25 cs).ps := by
          simp only [hps]
          rfl
        rw [hset] at hpp
        exact ⟨some ⟨g, 0, none⟩, cl, rfl, rfl, lv_kept HOL.out HOP.out _ _, (Below.heap_setCell _ _ _ _ hne).trans HXY.out, RdPces.of_owns hpp, HIY.out.setOther hneP _, HBY.out.setCell hay _⟩
      · have hm0 : (c.toNat : Int).tmod 6 = 5 := hmod
        clear hmod
        obtain ⟨L, hL, hLr, hLo⟩ := HOL.out
        have hll : L.length = ls.length := by rw [← hL]; simp
        rw [hll] at hLo
        have hL5 := flat_len7 L
        rw [hll] at hL5
        obtain ⟨l0, sv0, Lr, rfl⟩ : ∃ l0 sv0 Lr, L = (l0, sv0) :: Lr := by
          cases L with
          | nil => simp at hll; omega
          | cons x r => exact ⟨x.1, x.2, r, rfl⟩
        have hsv := hLr _ List.mem_cons_self
        obtain ⟨as0, cs0, hsv0⟩ := hsv.form
        dsimp only at hsv0
        subst hsv0
        have hcell : ∀ j, j < 5 → wy.cell? ⟨g, j, none⟩ = (lCell (l0, .slice as0 l0.labs.length cs0))[j]? := fun j hj => by
          rw [hLo.cellAt j (by omega), List.flatMap_cons, List.getElem?_append_left (by exact hj)]
        have h0 := hcell 0 (by omega)
        have h1 := hcell 1 (by omega)
        have h2 := hcell 2 (by omega)
        have h3 := hcell 3 (by omega)
        have h4 := hcell 4 (by omega)
        simp only [lCell, List.getElem?_cons_zero, List.getElem?_cons_succ] at h0 h1 h2 h3 h4
        obtain ⟨iL, hiL⟩ := info_parts Try.infoL
        have HIL := Lib.hid hiL
        have HL5 := Lib.hid hL5
        have HNWL : Hid (∀ W, Below wy.heap.size wy W → ∀ j u, (((l0, Value.slice as0 l0.labs.length cs0) :: Lr).flatMap lCell)[j]? = some u → W.cell? ((⟨g, 0, none⟩ : Addr).add j) = some u) := fun W hW j u hj => by
          rw [addr_add, Nat.zero_add]
          have hjl := (List.getElem?_eq_some_iff.1 hj).1
          rw [hL5] at hjl
          rw [hW.cell (p := ⟨g, j, none⟩) (hLo.lt g rfl).2, hLo.cellAt j hjl]
          exact hj
        have HON : Hid (∀ u ∈ (((l0, Value.slice as0 l0.labs.length cs0) :: Lr).flatMap lCell), u.oneCell' = true) := fun u hu => by
          obtain ⟨x, hx, hxu⟩ := List.mem_flatMap.1 hu
          obtain ⟨_, _, hf⟩ := (hLr x hx).form
          exact one_l (by rw [hf]; rfl) u hxu
        have HLR := Lib.hid hLr
        have HLO := Lib.hid hLo
        have HLL := Lib.hid hll
        have HLE := Lib.hid hL
        clear hiL hL5 hcell hLr hLo hll hsv hL
        go_wp2_with (at_builtin; refine wpList_append_own _ rfl _ _ 25 rfl wy.heap.size 41 iL (.agg #[.string ⟨#[]⟩, .int .i64 0, .slice none 0 0, .int .i64 0, .int .i64 0]) 5 64 Try.underlying25 HIL.out.1 HIL.out.2.1 HIL.out.2.2.1 HIL.out.2.2.2 rfl (by decide) _ _ _ rfl (own_lev1 wy l0 _) ⟨g, 0, none⟩ ls.length cl _ rfl HL5.out (HNWL.out _ ((Below.refl _ wy).alloc (Nat.le_refl _) _)) HON.out (by unfold maxLen; omega) (by omega) (by simp) ?_; intro v9 w9 hown9 hgrow9 _)
        go_meet
        obtain ⟨g9, c9, hv9⟩ := Joins.ownsRow_form hown9 (by omega)
        subst hv9
        have hb9 : Below wy.heap.size wy w9 := ((Below.refl _ wy).alloc (Nat.le_refl _) _).grown hgrow9 (by simp) (fun r e => ((own_lev1 wy l0 (.slice as0 l0.labs.length cs0)).lt r e).1)
        have hByy : B ≤ wy.heap.size := by have := (HLO.out.lt g rfl); omega
        have hw5 : wrL 5 ls = l0 :: ls := by
          show ls.take 1 ++ ls = _
          rw [← HLE.out]; rfl
        have hl5 : (l0 :: ls).length = 1 + ls.length := by rw [List.length_cons]; omega
        have hw5p : wrP 5 (mail25 cs).ps = (mail25 cs).ps := by
          rw [hps]; rfl
        have ho9 : OwnsLv w9 B (.slice (some ⟨g9, 0, none⟩) (1 + ls.length) c9) (l0 :: ls) := by
          refine ⟨(l0, .slice as0 l0.labs.length cs0) :: (l0, .slice as0 l0.labs.length cs0) :: Lr, by rw [List.map_cons, HLE.out], fun p hp => ?_, ?_⟩
          · have hp' : p ∈ (l0, Value.slice as0 l0.labs.length cs0) :: Lr := by
              rcases List.mem_cons.1 hp with rfl | hp
              · exact List.mem_cons_self
              · exact hp
            exact row_below6 (HLR.out p hp') hb9
          · have h9 := World.ownsRow.mono hown9 hByy
            have hn9 : ((l0, Value.slice as0 l0.labs.length cs0) :: (l0, Value.slice as0 l0.labs.length cs0) :: Lr).length = 1 + ls.length := by rw [List.length_cons, HLL.out]; omega
            rw [hn9]
            exact h9
        have hrd := ho9.reads
        rw [hw5p, hw5]
        refine ⟨some ⟨g9, 0, none⟩, c9, by rw [hl5], rfl, by rw [hl5]; exact hrd, (hb9.block _ (by have := (Array.getElem?_eq_some_iff.1 HXY.out).1; exact this)).trans HXY.out, RdPces.of_owns (row_below6 HOP.out hb9), HIY.out.below hb9 HIY.out.lt, below_c HBY.out HBY.out.size hb9⟩
    case rest =>
      obtain ⟨wz, hwz⟩ : ∃ x, x = wc := ⟨_, rfl⟩
      subst hwz
      obtain ⟨al, cl', rfl, rfl, hRz, hXz, hPz, hIz, hBz0⟩ := hcut
      obtain ⟨E, hE⟩ : ∃ E : Int, E = if d = 4 then 6 else 2 := ⟨_, rfl⟩
      obtain ⟨ct, hct⟩ : ∃ ct : Int, ct = if d = 3 then 0 else 1 := ⟨_, rfl⟩
      rw [← hE]
      rw [← hct] at hXz
      have hzn : numsB ls.length (List.replicate cs.length 0) = true := nums_true (fun k hk => by rw [List.getElem_replicate]; omega)
      have HCW := Lib.hid (wrong_calls (zs := List.replicate cs.length 0) hE hct HP.out HWS1.out HWS2.out HWS3.out (by simp) hzn)
      have hXwz : X < wz.heap.size := (Array.getElem?_eq_some_iff.1 hXz).1
      obtain ⟨x0, x1, x2, x3⟩ := cells4 hXz
      have HXZ := Lib.hid hXz
      have HRZ := Lib.hid hRz
      have HPZ := Lib.hid hPz
      have HIZ := Lib.hid hIz
      have HBZ := Lib.hid hBz0
      have hEE : (E != E) = false := by simp
      clear hmod hRz hXz hPz hIz hBz0 hE hct hzn HXY HOL HOP HIY HBY HWY HWS1 HWS2 HWS3 HH5 hl2 hbw
      go_upto_region 23 with (first
        | (go_at_call 15; refine ((HCW.out _ _ _ (RdLevs.below HRZ.out hb5) (RdPces.below HPZ.out hb5)).2 _ (RdInts.below (rd_plan HIZ.out (by simp)) hb5)).mono ?_; rintro e w6 ⟨rfl, hb6⟩)
        | (go_at_call 16; refine (HCW.out _ _ _ HRZ.out HPZ.out).1.mono ?_; rintro e w5 ⟨rfl, hb5⟩; clear x0 x1 x2 x3; obtain ⟨x0, x1, x2, x3⟩ := cells4 ((hb5.block _ hXwz).trans HXZ.out)))
      have hz6 : Below wz.heap.size wz w6 := hb5.trans (hb6.mono hb5.size)
      have HB6 : Hid (Below w.heap.size w w6) := HBZ.out.trans (hz6.mono HBZ.out.size)
      have HI6 : Hid (IntsAt w6 wx.heap.size (List.replicate cs.length 0)) := HIZ.out.below hz6 HIZ.out.lt
      have HI6L : Hid (wx.heap.size < w6.heap.size) := HI6.out.lt
      clear hb5 hb6 hz6 x0 x1 x2 x3 HCW HXZ HRZ HPZ HIZ HBZ hXwz
      go_cut [16, 15] from 102 to 110 (fun m x wx => PA w6 ls cs m x wx)
      case first =>
        rcases HFM.out with ⟨rfl, rfl, hl0⟩ | ⟨sb, so, sp, rfl, hcap⟩
        ·
          obtain rfl : l = [] := List.length_eq_zero_iff.1 hl0
          go_wp2_with (go_at_call 11; (have hrb : RdBytesC (w6.alloc (.cells #[.int .u8 5] 5)) (.slice (some ⟨w6.heap.size, 0, none⟩) 1 1) [5] := bytesC_of_own (own_one5 w6) rfl); (have BX : Below w.heap.size w (w6.alloc (.cells #[.int .u8 5] 5)) := HB6.out.alloc HB6.out.size _); (have BX6 : Below w6.heap.size w6 (w6.alloc (.cells #[.int .u8 5] 5)) := (Below.refl _ w6).alloc (Nat.le_refl _) _); refine (HMD.out _ _ BX hrb).mono ?_; rintro e wM ⟨al, cl, ap, cp, rfl, hbM, hlM, hpM⟩; (have hBM : Below w.heap.size w wM := BX.trans (hbM.mono BX.size)); (have hBz6 : w6.heap.size ≤ _ := BX6.size); (have hb6M : Below w6.heap.size w6 wM := BX6.trans (hbM.mono BX6.size)))
          go_meet
          exact pa_new (w := w6) (hb6M) hBz6 hbM.size hlM hpM (by omega) (by omega)
        ·
          have HNW : Hid (∀ W, Below w.heap.size w W → ∀ j u, (l.map encU)[j]? = some u → W.cell? ((⟨sb, so, sp⟩ : Addr).add j) = some u) := fun W hW => bytes_news (n := l.length) (cap := cs_) (RdBytes.below2 HRS.out.1 hW)
          have HLEN : Hid ((l.map encU).length = l.length * 1) := by
            show (l.map encU).length = l.length * 1
            rw [List.length_map, Nat.mul_one]
          have HONE : Hid (∀ u ∈ l.map encU, u.oneCell' = true) := fun u hu => by
            obtain ⟨z, _, rfl⟩ := List.mem_map.1 hu
            rfl
          go_wp2_with (first | (at_builtin; refine wpList_append_own _ rfl _ _ 23 rfl w6.heap.size 5 i0 (.int .u8 0) 1 1 Try.underlying23 HI.out.1 HI.out.2.1 HI.out.2.2.1 HI.out.2.2.2 rfl (by decide) _ _ _ rfl (own_one5 w6) ⟨sb, so, sp⟩ l.length cs_ (l.map encU) rfl HLEN.out (HNW.out _ (HB6.out.alloc HB6.out.size _)) HONE.out (by unfold maxLen; omega) (by omega) (by simp) ?_; intro v5 w5 hown5 hgrow5 _; (have BX : Below w.heap.size w w5 := (HB6.out.alloc HB6.out.size _).grown hgrow5 (by have := HB6.out.size; simp; omega) (fun r e => by have := HB6.out.size; have := ((own_one5 w6).lt r e).1; omega)); (have BX6 : Below w6.heap.size w6 w5 := ((Below.refl _ w6).alloc (Nat.le_refl _) _).grown hgrow5 (by simp) (fun r e => ((own_one5 w6).lt r e).1)); (have hrb : RdBytesC w5 v5 (5 :: l) := bytesC_of_own (by rw [List.map_cons]; exact hown5) (by simp; omega))) | (go_at_call 11; refine (HMD.out _ _ BX hrb).mono ?_; rintro e wM ⟨al, cl, ap, cp, rfl, hbM, hlM, hpM⟩; (have hBM : Below w.heap.size w wM := BX.trans (hbM.mono BX.size)); (have hBz6 : w6.heap.size ≤ _ := BX6.size); (have hb6M : Below w6.heap.size w6 wM := BX6.trans (hbM.mono BX6.size))))
          go_meet
          exact pa_new (w := w6) (hb6M) hBz6 hbM.size hlM hpM (by omega) (by omega)
      case rest =>
        obtain ⟨wv, hwv⟩ : ∃ x, x = wc := ⟨_, rfl⟩
        subst hwv
        obtain ⟨g2, cl2, a2, cp2, X2, B2, rfl, rfl, hX2, hOl2, hOp2, hwB2, haX2, hXw2', hBX2', hBv⟩ := hcut
        have hIv := HI6.out.below hBv HI6.out.lt
        have hRv := hOl2.reads
        have hPv := RdPces.of_owns hOp2
        have HBV : Hid (Below w.heap.size w wv) := HB6.out.trans (hBv.mono HB6.out.size)
        have HIV := Lib.hid hIv
        have HRV := Lib.hid hRv
        have HPV := Lib.hid hPv
        have HXV := Lib.hid hX2
        have HO2V := Lib.hid hOl2
        have HP2V : Hid (OwnsP wv B2 (.slice (some ⟨a2, 0, none⟩) cs.length cp2) (mail25 cs).ps) := hOp2
        have hBX2 : w6.heap.size ≤ X2 := by omega
        have hX2v := hXw2'
        have hPlt := hIv.lt
        have C1 : Hid (∀ W, Below wv.heap.size wv W → ∀ A1 n1 n2, n1 = cs.length - 1 → (¬ cs.length = 1 → A1 = (⟨wx.heap.size, 1, none⟩ : Addr)) → ∀ n3, n3 = cs.length → Calls Try.prog 15 #[.slice (some ⟨g2, 0, none⟩) ls.length cl2, .agg #[.int .u8 1, .int .u8 1, .string ⟨#[49, 48, 48, 48, 48]⟩, .slice (some ⟨a2, 0, none⟩) n3 cp2], .slice (some A1) n1 n2] W fun e w' => e = .returned (.tuple #[.bool false, .int .i64 2]) ∧ Below W.heap.size W w') := fun W hW A1 n1 n2 hn1 hA1 n3 hn3 => by
          subst hn1
          subst hn3
          have hln : (List.replicate cs.length (0 : Int)).length = cs.length := by simp
          have hrz : RdInts wv (.slice (some A1) (cs.length - 1) n2) ((List.replicate cs.length (0 : Int)).drop 1) := by
            by_cases h1 : cs.length = 1
            · have e1 : (List.replicate cs.length (0 : Int)).drop 1 = [] := List.drop_eq_nil_of_le (by simp; omega)
              rw [e1, h1]
              exact ⟨some A1, n2, rfl, fun h => absurd h (by simp)⟩
            · have hd := (RowJ.drop (k := 1) (cap' := n2) (RowJ.of_ints (base := 0) HIV.out (Nat.zero_le _) cs.length) (by simp; omega)).rd
              rw [hln, Nat.zero_add] at hd
              rw [hA1 h1]
              exact hd
          refine bad_plan HP.out (zs := (List.replicate cs.length (0 : Int)).drop 1) (fun ⟨h, _⟩ => ?_) (by simp; omega) W _ _ _ (RdLevs.below HRV.out hW) (RdPces.below HPV.out hW) (hrz.below hW)
          rw [List.length_drop, hln] at h
          omega
        have HBV2 := Lib.hid hBv
        clear hIv hRv hPv hOl2 hOp2 hBv HB6 HI6
        go_upto_region 24 with fail
        go_cut [13, 12] from 111 to 118 (fun ok e wx => ok = .bool false ∧ e = .int .i64 2 ∧ Below wv.heap.size wv wx)
        case first =>
          obtain ⟨d0, d1, d2, d3⟩ := cells4 hX2
          replace d0 := cells_in d0
          replace d1 := cells_in d1
          replace d2 := cells_in d2
          replace d3 := cells_in d3
          clear hX2
          by_cases h1 : cs.length = 1
          · have C2 : Hid (∀ W, Below wv.heap.size wv W → Calls Try.prog 15 #[.slice (some ⟨g2, 0, none⟩) ls.length cl2, .agg #[.int .u8 1, .int .u8 1, .string ⟨#[49, 48, 48, 48, 48]⟩, .slice (some ⟨a2, 0, none⟩) 1 cp2], .slice (some ⟨wx.heap.size, 0, none⟩) 0 0] W fun e w' => e = .returned (.tuple #[.bool false, .int .i64 2]) ∧ Below W.heap.size W w') := fun W hW => C1.out W hW _ 0 0 (by omega) (fun h => absurd h1 h) 1 h1.symm
            refine wp_region_quiet_below (by kernel_rfl) (by kernel_rfl) ?_
            repeat (go_big_quiet_step ((first | (with_reducible exact regrown_in C2.out _))))
            refine wpQuiet_nil ?_
            intro _ hw'
            obtain ⟨pp, hw''⟩ := hw'
            subst hw''
            go_wp2_with fail
            go_meet
            exact ⟨rfl, rfl, below_in wv pp⟩
          · have C2 : Hid (∀ W, Below wv.heap.size wv W → Calls Try.prog 15 #[.slice (some ⟨g2, 0, none⟩) ls.length cl2, .agg #[.int .u8 1, .int .u8 1, .string ⟨#[49, 48, 48, 48, 48]⟩, .slice (some ⟨a2, 0, none⟩) cs.length cp2], .slice (some ⟨wx.heap.size, 1, none⟩) (cs.length - 1) (cs.length - 1)] W fun e w' => e = .returned (.tuple #[.bool false, .int .i64 2]) ∧ Below W.heap.size W w') := fun W hW => C1.out W hW _ _ _ rfl (fun h => rfl) _ rfl
            refine wp_region_quiet_below (by kernel_rfl) (by kernel_rfl) ?_
            repeat (go_big_quiet_step ((first | (with_reducible exact regrown_in C2.out _))))
            refine wpQuiet_nil ?_
            intro _ hw'
            obtain ⟨pp, hw''⟩ := hw'
            subst hw''
            go_wp2_with fail
            go_meet
            exact ⟨rfl, rfl, below_in wv pp⟩
        case rest =>
          obtain ⟨wp, hwp⟩ : ∃ x, x = wc := ⟨_, rfl⟩
          subst hwp
          obtain ⟨rfl, rfl, hbp⟩ := hcut
          have HIP : Hid (IntsAt wp wx.heap.size (List.replicate cs.length 0)) := HIV.out.below hbp hPlt
          have HBP : Hid (Below w.heap.size w wp) := HBV.out.trans (hbp.mono HBV.out.size)
          have hn1 : numsB ls.length ((List.replicate cs.length (0 : Int)).set 0 (ls.length : Int)) = false := nums_false (k := 0) (by simp; omega) (.inr (by rw [List.getElem_set_self]; exact Int.le_refl _))
          have hn2 : numsB ls.length (((List.replicate cs.length (0 : Int)).set 0 (ls.length : Int)).set 0 (-1)) = false := nums_false (k := 0) (by simp; omega) (.inl (by rw [List.getElem_set_self]; decide))
          have hrln : (List.replicate cs.length (0 : Int)).length = cs.length := by simp
          have HV2 : Hid (∀ W v vp vz, RdLevs W v ls → RdPces W vp (mail25 cs).ps → RdInts W vz ((List.replicate cs.length (0 : Int)).set 0 (ls.length : Int)) → Calls Try.prog 15 #[v, .agg #[.int .u8 1, .int .u8 1, .string ⟨#[49, 48, 48, 48, 48]⟩, vp], vz] W fun e w' => e = .returned (.tuple #[.bool false, .int .i64 2]) ∧ Below W.heap.size W w') := fun W v vp vz a b c => bad_plan HP.out (fun ⟨_, h⟩ => by rw [hn1] at h; cases h) (by rw [List.length_set, hrln]; omega) W v vp vz a b c
          have HS1 : Hid (∀ W v vz, RdLevs W v ls → RdInts W vz ((List.replicate cs.length (0 : Int)).set 0 (ls.length : Int)) → Calls Try.prog 17 #[v, vz] W fun e w' => e = .returned (.tuple #[.int .i64 0, .int .i64 2]) ∧ Below W.heap.size W w') := fun W v vz a c => bad_saving HP.out.right hn1 (by rw [List.length_set, hrln]; omega) W v vz a c
          have HS2 : Hid (∀ W v vz, RdLevs W v ls → RdInts W vz (((List.replicate cs.length (0 : Int)).set 0 (ls.length : Int)).set 0 (-1)) → Calls Try.prog 17 #[v, vz] W fun e w' => e = .returned (.tuple #[.int .i64 0, .int .i64 2]) ∧ Below W.heap.size W w') := fun W v vz a c => bad_saving HP.out.right hn2 (by rw [List.length_set, List.length_set, hrln]; omega) W v vz a c
          obtain ⟨z0, hz0⟩ : ∃ z, z = List.replicate cs.length (0 : Int) := ⟨_, rfl⟩
          obtain ⟨z1, hz1⟩ : ∃ z, z = (List.replicate cs.length (0 : Int)).set 0 (ls.length : Int) := ⟨_, rfl⟩
          have hl0 : z0.length = cs.length := by rw [hz0]; exact hrln
          have hl1 : z1.length = cs.length := by rw [hz1, List.length_set]; exact hrln
          have hz01 : z0.set 0 (ls.length : Int) = z1 := by rw [hz0, hz1]
          rw [← hz0] at HIP
          rw [← hz1] at HV2 HS1 HS2
          have e0 := HIP.out.cell (i := 0) (by omega)
          have f0 := HIP.out.free 0
          have hI1 : IntsAt (wp.setCell ⟨wx.heap.size, 0, none⟩ (.int .i64 (ls.length : Int))) wx.heap.size z1 := by
            rw [← hz01]; exact HIP.out.set 0 _
          have hwxw : w.heap.size ≤ wx.heap.size := by omega
          have HB1' : Hid (Below w.heap.size w (wp.setCell ⟨wx.heap.size, 0, none⟩ (.int .i64 (ls.length : Int)))) := HBP.out.setCell hwxw _
          have hP6 : wx.heap.size < w6.heap.size := HI6L.out
          have hO2p := HO2V.out.below hbp
          have hP2p : OwnsP wp B2 (.slice (some ⟨a2, 0, none⟩) cs.length cp2) (mail25 cs).ps := row_below6 HP2V.out hbp
          have hX2p := (hbp.block _ hX2v).trans HXV.out
          have HO1 := Lib.hid (lv_keptI hO2p HIP.out 0 (.int .i64 (ls.length : Int)))
          have HP1 : Hid (OwnsP (wp.setCell ⟨wx.heap.size, 0, none⟩ (.int .i64 (ls.length : Int))) B2 (.slice (some ⟨a2, 0, none⟩) cs.length cp2) (mail25 cs).ps) := own_past hP2p (by show wx.heap.size < B2; omega) _
          have hX1 : (wp.setCell ⟨wx.heap.size, 0, none⟩ (.int .i64 (ls.length : Int))).heap[X2]? = _ := (Below.heap_setCell _ _ _ _ (by show X2 ≠ wx.heap.size; omega)).trans hX2p
          obtain ⟨x0, x1, x2, x3⟩ := cells4 hX1
          have HI1 := Lib.hid hI1
          have HL1 := Lib.hid hl1
          clear hz0 hz1 hz01 hrln hn1 hn2 hO2p hP2p hX2p hX1 hI1 hl1 hl0 hX2
          go_wp2_with (first
            | (go_at_call 17; refine (HS2.out _ _ _ (lv_keptI hob hib 0 _).reads (rd_plan (hib.set 0 (-1)) (by rw [List.length_set]; exact HL1.out))).mono ?_; rintro e wd ⟨rfl, hbd⟩; (have HBE : Hid (Below w.heap.size w wd) := below_c (HBB.out.setCell hwxw _) (HBB.out.setCell hwxw _).size hbd))
            | (go_at_call 17; refine (HS1.out _ _ _ (HO1.out.below hba).reads (rd_plan (HI1.out.below hba HI1.out.lt) HL1.out)).mono ?_; rintro e wb ⟨rfl, hbb⟩; (have hob := (HO1.out.below hba).below hbb); (have hib := (HI1.out.below hba HI1.out.lt).below hbb (HI1.out.below hba HI1.out.lt).lt); (have eb := hib.cell (i := 0) (by have := HL1.out; omega)); (have fb := hib.free 0); (have HBB : Hid (Below w.heap.size w wb) := below_c (below_c HB1'.out HB1'.out.size hba) (below_c HB1'.out HB1'.out.size hba).size hbb))
            | (go_at_call 15; refine (HV2.out _ _ _ _ HO1.out.reads (RdPces.of_owns HP1.out) (rd_plan HI1.out HL1.out)).mono ?_; rintro e wa ⟨rfl, hba⟩))
          go_ret
          exact ⟨by simp, HBE.out⟩
end Go.Proofs.Ytpieagaggjngjaa
