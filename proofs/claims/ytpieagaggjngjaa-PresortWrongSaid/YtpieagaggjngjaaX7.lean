/-
  PresortGrows: the walk.
-/
import Derived.Test.YtpieagaggjngjaaX6
import Derived.Test.YtpieagaggjngjaaP25
import Derived.Lib.QuietBelow
import Derived.BigQuiet
import Derived.Deep.DeepCutAuto
namespace Go.Proofs.Ytpieagaggjngjaa
open Go.RowKit Go.Sort
set_option linter.unusedVariables false
set_option maxRecDepth 100000
theorem regrown_in {P : Program} {f : FuncId} {args : Array Value} {w : World} {v : Value} (h : ∀ W, Below w.heap.size w W → Calls P f args W fun e w' => e = .returned v ∧ Below W.heap.size W w') (p : Regrown) :
    Calls P f args (grow (redrawn w p.d) p.os) fun e w'' => e = .returned v ∧ ∃ p : Regrown, w'' = grow (redrawn w p.d) p.os :=
  Calls.regrown_of (h _ (below_regrown w p.d p.os))
theorem cells_in {w : World} {a : Addr} {v : Value} (h : w.cell? a = some v) : ∀ p : Regrown, (grow (redrawn w p.d) p.os).cell? a = some v := fun p => cell_regrown h p.d p.os
theorem below_in (w : World) (p : Regrown) : Below w.heap.size w (grow (redrawn w p.d) p.os) := below_regrown w p.d p.os
theorem wpList_append_nothing2 {P : Program} (w : World) {ops : Array Oper} {rest : List Oper} {o : Oper} {a : Act} {Q : Exit → Act → World → Prop} (hgd : o.guard = none) (s x : Operand) (t tx : TypeId)
    (ho : o.op = .call { callee := .builtin .append, args := #[s, x], argTypes := #[t, tx] }) (e e' : TypeId) (i : TypeInfo) (ht : P.underlying t = some (.slice e)) (hi : P.info? e = some i) (hk : P.underlying tx = some (.slice e'))
    (b0 : Option Addr) (n0 c0 : Nat) (hle : n0 ≤ c0) (hv : a.eval s = .slice b0 n0 c0) (b : Option Addr) (c : Nat) (hx : a.eval x = .slice b 0 c)
    (hK : wpList P ops Q rest (a.put o.dst (.slice b0 n0 c0)) w) : wpList P ops Q (o :: rest) a w := by
  refine wpList_plain hgd fun K hK' => ?_
  have hs : Src P i.size tx (.slice b 0 c) 0 [] w := by
    cases b with
    | none => exact Src.ofNil w hk c
    | some ad => exact Src.ofSlice w hk ad 0 c [] (by simp) (by intro j u h; simp at h) (by simp)
  have hrun := run_append_nothing (P := P) w t tx o.type e i ht hi b0 n0 c0 hle (.slice b 0 c) hs
  unfold Oper.wp
  simp [execOp, ho, resolve, invoke, builtin, hv, hx, hrun, Result.andThen]
  exact hK' _ _ hK
theorem Below.same {B : Nat} {w w' w'' : World} (h : Below B w w'') (h' : Below B w w') {b : Nat} (hb : b < B) : w''.heap[b]? = w'.heap[b]? := (h.block b hb).trans (h'.block b hb).symm
/-- The first levels have half of their least numbers. -/
def halfTo (ls : List Lev) (k : Nat) : List Lev := (ls.take k).map half ++ ls.drop k
theorem halfTo_len (ls : List Lev) (k : Nat) : (halfTo ls k).length = ls.length := by unfold halfTo; simp; omega
theorem halfTo_zero (ls : List Lev) : halfTo ls 0 = ls := by unfold halfTo; simp
theorem halfTo_all (ls : List Lev) : halfTo ls ls.length = ls.map half := by unfold halfTo; simp
theorem halfTo_at (ls : List Lev) (k : Nat) (h : k < ls.length) : (halfTo ls k)[k]'(by rw [halfTo_len]; exact h) = ls[k] := by
  unfold halfTo
  rw [List.getElem_append_right (by simp; omega)]
  simp
  congr 1
  omega
theorem halfTo_succ (ls : List Lev) (k : Nat) (h : k < ls.length) : halfTo ls (k + 1) = (halfTo ls k).set k (half ls[k]) := by
  unfold halfTo
  rw [List.take_succ_eq_append_getElem h, List.set_append_right _ _ (by simp; omega), List.map_append]
  have : k - (List.map half (List.take k ls)).length = 0 := by simp; omega
  rw [this, List.drop_eq_getElem_cons h, List.set_cons_zero, List.append_assoc]
  rfl
theorem ownsLv_at {w : World} {base : Nat} {v : Value} {ls : List Lev} (h : OwnsLv w base v ls) (h0 : 0 < ls.length) : ∃ g cap, v = .slice (some ⟨g, 0, none⟩) ls.length cap ∧ base ≤ g ∧ g < w.heap.size := by
  obtain ⟨L, rfl, hLr, ho⟩ := h
  rw [List.length_map] at h0 ⊢
  rcases Joins.ownsRow_forms ho with ⟨_, hp⟩ | ⟨g, cap, hv⟩
  · omega
  · subst hv
    exact ⟨g, cap, rfl, ho.lt g rfl⟩
theorem bytes_news {w : World} {ad : Addr} {n cap : Nat} {bs : List UInt8} (h : RdBytes w (.slice (some ad) n cap) bs) : ∀ j u, (bs.map encU)[j]? = some u → w.cell? (ad.add j) = some u := by
  intro j u hj
  obtain ⟨a, c, hv, hc⟩ := h
  injection hv with h1 h2 h3
  obtain ⟨hjl, hju⟩ := List.getElem?_eq_some_iff.1 hj
  rw [List.length_map] at hjl
  obtain ⟨g, off, ha, hg, hcc⟩ := hc (by omega)
  rw [← h1] at ha
  injection ha with ha
  subst ha
  rw [addr_add, hcc j hjl, ← hju, List.getElem_map]
  rfl
theorem own_empty (w : World) (e : TypeId) : (w.alloc (.cells #[] e)).ownsRow w.heap.size e 1 (.slice (some ⟨w.heap.size, 0, none⟩) 0 0) 0 [] :=
  ⟨rfl, .inr ⟨w.heap.size, 0, #[], rfl, Nat.le_refl _, alloc_new w _, Nat.le_refl _, by decide, rfl, rfl⟩⟩
theorem bytesC_of_own {w : World} {base : Nat} {v : Value} {bs : List UInt8} {n : Nat} (h : w.ownsRow base 5 1 v n (bs.map encU)) (hn : bs.length = n) : RdBytesC w v bs := by
  subst hn
  rcases Joins.ownsRow_forms h with ⟨rfl, h2⟩ | ⟨g, cap, rfl⟩
  · obtain rfl : bs = [] := List.length_eq_zero_iff.1 h2
    exact ⟨⟨none, 0, rfl, fun h => absurd h (by simp)⟩, .inl rfl⟩
  · have hcap : bs.length ≤ cap := by
      obtain ⟨_, ⟨e, _⟩ | ⟨g', cap', cur, e, _, _, hle, _⟩⟩ := h
      · cases e
      · injection e with e1 e2 e3
        omega
    refine ⟨⟨_, cap, rfl, fun _ => ⟨g, 0, rfl, (h.lt g rfl).2, fun i hi => ?_⟩⟩, .inr ⟨g, 0, none, cap, rfl, hcap⟩⟩
    rw [Nat.zero_add, h.cellAt i (by omega), List.getElem?_map, List.getElem?_eq_getElem hi]
    rfl
/-- A field of a level is stored. -/
theorem lCells_set7 (L : List (Lev × Value)) (k j : Nat) (h : k < L.length) (hj : j < 5) (u : Value) (p' : Lev × Value) (hp : lCell p' = (lCell L[k]).set j u) : (L.flatMap lCell).set (k * 5 + j) u = (L.set k p').flatMap lCell := by
  induction L generalizing k with
  | nil => simp at h
  | cons p r ih =>
    have hl : (lCell p).length = 5 := rfl
    cases k with
    | zero =>
      rw [List.flatMap_cons, Nat.zero_mul, Nat.zero_add, List.set_append_left _ _ (by omega), List.set_cons_zero, List.flatMap_cons, hp]
      rfl
    | succ k =>
      rw [List.flatMap_cons, List.set_append_right _ _ (by rw [hl]; omega), hl, show (k + 1) * 5 + j - 5 = k * 5 + j by omega, ih k (by simpa using h) hp]
      rfl
theorem OwnsLv.put7 {w : World} {base g cap n : Nat} {ls : List Lev} (h : OwnsLv w base (.slice (some ⟨g, 0, none⟩) n cap) ls) (i j : Nat) (hi : i < ls.length) (hj : j < 5) (l' : Lev) (u : Value)
    (hu : (j ≠ 2 ∧ l'.labs = ls[i].labs ∧ ∀ sv, lCell (l', sv) = (lCell (ls[i], sv)).set j u) ∨ (j = 2 ∧ OwnsLab w base u l'.labs ∧ ∀ sv, lCell (l', u) = (lCell (ls[i], sv)).set 2 u)) :
    OwnsLv (w.setCell ⟨g, i * 5 + j, none⟩ u) base (.slice (some ⟨g, 0, none⟩) n cap) (ls.set i l') ∧ w.cell? ⟨g, i * 5 + j, none⟩ ≠ none ∧ w.frozen? ⟨g, i * 5 + j, none⟩ = false ∧ base ≤ g ∧ g < w.heap.size := by
  obtain ⟨L, hL, hLr, hLo⟩ := h
  obtain rfl : n = L.length := by
    rcases Joins.ownsRow_forms hLo with ⟨e, _⟩ | ⟨_, _, e⟩
    · cases e
    · injection e
  have hi' : i < L.length := by rw [← hL] at hi; simpa using hi
  have hLi : L[i].1 = ls[i] := by simp only [← hL]; simp
  have hgl := hLo.lt g rfl
  have hL5 : (L.flatMap lCell).length = L.length * 5 := hLo.1
  have hcell : w.cell? ⟨g, i * 5 + j, none⟩ = (L.flatMap lCell)[i * 5 + j]? := hLo.cellAt _ (by omega)
  obtain ⟨p', hp1, hp2, hp3⟩ : ∃ p' : Lev × Value, p'.1 = l' ∧ OwnsLab w base p'.2 p'.1.labs ∧ lCell p' = (lCell L[i]).set j u := by
    have e : L[i] = (ls[i], L[i].2) := by rw [← hLi]
    rcases hu with ⟨h1, h2, h3⟩ | ⟨h1, h2, h3⟩
    · refine ⟨(l', L[i].2), rfl, ?_, ?_⟩
      · show OwnsLab w base L[i].2 l'.labs
        rw [h2, ← hLi]
        exact hLr _ (List.getElem_mem hi')
      · rw [e]; exact h3 _
    · subst h1
      refine ⟨(l', u), rfl, h2, ?_⟩
      rw [e]; exact h3 _
  have hgr := set_grown w ⟨g, i * 5 + j, none⟩ u
  have nA := own_not hLo (T := 89) (by decide)
  have hst := (hLo.stored (i * 5 + j) u).1
  refine ⟨⟨L.set i p', ?_, ?_, ?_⟩, by rw [hcell, List.getElem?_eq_getElem (by rw [hL5]; omega)]; simp, hLo.frozenAt _, hgl.1, hgl.2⟩
  · rw [List.map_set, hL, hp1]
  · intro p hp
    have hk : OwnsLab w base p.2 p.1.labs := by
      rcases List.mem_or_eq_of_mem_set hp with hp | rfl
      · exact hLr p hp
      · exact hp2
    exact kept_typed hk hgr (fun g' e => nA g' e)
  · rw [List.length_set, ← lCells_set7 L i j hi' hj u p' hp3]
    exact hst
set_option maxHeartbeats 16000000 in
theorem grows_main {n : Int} {vl vc vs : Value} {l : List UInt8} {c : UInt8} {ls lo : List Lev} {cs cs2 cs0 : List ByteArray} {w : World} (h1 : HasPlan ls (mail25 cs)) (h2 : HasPlan ls (mail25 cs2)) (h3 : HasPlan (ls.map half) (mail25 cs)) (h4 : HasPlan lo (mail25 cs))
    (g1 : savesM ls (mail25 cs) ≤ savesM ls (mail25 cs2)) (g2 : savesM ls (mail25 cs) ≤ savesM (ls.map half) (mail25 cs)) (g3 : savesM (ls.map half) (mail25 cs) ≤ savesM lo (mail25 cs)) (g4 : savesM lo (mail25 cs) = mostTo lo lo.length * cs.length)
    (hM1 : MadeC #[.int .u32 n, vl, vc, vs, .int .i64 120] ls cs w)
    (hM2 : ∀ W v, Below w.heap.size w W → RdBytesC W v (l.take 120 ++ [c]) → Calls Try.prog 11 #[.int .u32 n, vl, vc, v, .int .i64 121] W fun e w' => ∃ al cl ap cp, e = .returned (.tuple #[.slice al ls.length cl, .agg #[.int .u8 1, .int .u8 1, .string ⟨#[49, 48, 48, 48, 48]⟩, .slice ap cs2.length cp]]) ∧
      Below W.heap.size W w' ∧ RdLevs w' (.slice al ls.length cl) ls ∧ RdPces w' (.slice ap cs2.length cp) (mail25 cs2).ps)
    (hM3 : MadeC #[.int .u32 n, .slice none 0 0, vc, .slice none 0 0, .int .i64 0] lo cs0 w) (hrs : RdBytesC w vs l) (hsl : l.length ≤ maxLen) (hcl : cs.length ≤ 120) :
    Calls Try.prog 6 #[.int .u32 n, vl, vc, vs, .int .u8 (c.toNat : Int)] w fun e w' => e = .returned (.bool true) ∧ Below w.heap.size w w' := by
  have HAW := Lib.hid (fun W => awake_any W)
  have HM1 := Lib.hid hM1
  have HM3 := Lib.hid hM3
  obtain ⟨as_, cs_, rfl, _⟩ := hrs.1
  have hfm2 : (as_ = none ∧ cs_ = 0 ∧ l.length = 0) ∨ (∃ sb so sp, as_ = some ⟨sb, so, sp⟩ ∧ l.length ≤ cs_) := by
    rcases hrs.2 with h | ⟨b, off, spot, cap, h, hc⟩
    · injection h with h1 h2 h3
      exact .inl ⟨h1, h3, h2⟩
    · injection h with h1 h2 h3
      exact .inr ⟨b, off, spot, h1, by omega⟩
  have HFM := Lib.hid hfm2
  have HRS := Lib.hid hrs
  obtain ⟨mm, hmm⟩ : ∃ mm : Nat, min (l.length : Int) 120 = (mm : Int) := ⟨min l.length 120, by omega⟩
  have hmml : mm ≤ l.length := by omega
  have hmm2 : mm ≤ 120 := by omega
  have hmt : l.take 120 = l.take mm := by
    by_cases h : l.length ≤ 120
    · rw [List.take_of_length_le h, List.take_of_length_le (by omega)]
    · rw [show mm = 120 by omega]
  rw [hmt] at hM2
  have HM2 := Lib.hid hM2
  obtain ⟨i0, hi⟩ := info_parts Try.infoU8
  have HI := Lib.hid hi
  have hlm : (mail25 cs).ps.length = cs.length := mailTo_len _ _
  have hlm2 : (mail25 cs2).ps.length = cs2.length := mailTo_len _ _
  have hlen := right_len h1.right
  have hlen0 := right_len h4.right
  have hml := mostTo_le h4.right lo.length (Nat.le_refl _)
  have hmg := (mostTo_ge lo lo.length (Nat.le_refl _)).1
  have hcts := right_cents h4.right
  have hmin : ∀ k (hk : k < ls.length), 0 ≤ ls[k].min ∧ ls[k].min ≤ 2000 := fun k hk => by
    by_cases e : k + 1 = ls.length
    · have h5 := last_min h1.right (by omega)
      have e2 : ls[k] = ls[ls.length - 1] := by congr 1; omega
      rw [e2, h5]; decide
    · have := mid_min h1.right (i := k) (by omega)
      omega
  have hwm : IntKind.i64.wrap (mostTo lo lo.length * (cs.length : Int)) = savesM lo (mail25 cs) := by
    rw [g4]
    have b1 : 0 ≤ mostTo lo lo.length * (cs.length : Int) := Int.mul_nonneg hmg (Int.natCast_nonneg _)
    have b2 : mostTo lo lo.length * (cs.length : Int) ≤ 1000000 * 120 := Int.mul_le_mul hml (by omega) (Int.natCast_nonneg _) (by decide)
    exact IntWalk.i64_in _ (by omega)
  have HMIN := Lib.hid hmin
  have HCTS := Lib.hid hcts
  have HFL : Hid (∀ l ∈ ls, l.labs.length ≤ 100000) := fun l hl => by
    have h5 := (rightB_iff.1 h1.right).2.2.1.1
    obtain ⟨i, hi, rfl⟩ := List.mem_iff_getElem.1 hl
    have h6 := sumTo_succ ls i hi
    have h7 := sumTo_mono ls (k := i + 1) (m := ls.length) hi
    omega
  have HSV0 := Lib.hid (fun W al cl ap cp (hr : RdLevs W (.slice al ls.length cl) ls) (hrp : RdPces W (.slice ap cs.length cp) (mail25 cs).ps) => saves_any h1 hr hrp)
  have HSV1 := Lib.hid (fun W al cl ap cp (hr : RdLevs W (.slice al ls.length cl) ls) (hrp : RdPces W (.slice ap cs2.length cp) (mail25 cs2).ps) => saves_any h2 hr hrp)
  have HSV2 := Lib.hid (fun W al cl ap cp (hr : RdLevs W (.slice al ls.length cl) (ls.map half)) (hrp : RdPces W (.slice ap cs.length cp) (mail25 cs).ps) => saves_any h3 hr hrp)
  have HSV3 := Lib.hid (fun W al cl ap cp (hr : RdLevs W (.slice al lo.length cl) lo) (hrp : RdPces W (.slice ap cs.length cp) (mail25 cs).ps) => saves_any h4 hr hrp)
  have hsv0 : 0 ≤ savesM ls (mail25 cs) := by
    have h5 := saves_bound h1.right h1.nums (mail25 cs).ps.length (by rw [planM_len]; exact Nat.le_refl _)
    exact h5.1
  obtain ⟨s0, e0⟩ : ∃ z, z = savesM ls (mail25 cs) := ⟨_, rfl⟩
  obtain ⟨s1, e1⟩ : ∃ z, z = savesM ls (mail25 cs2) := ⟨_, rfl⟩
  obtain ⟨s2, e2⟩ : ∃ z, z = savesM (ls.map half) (mail25 cs) := ⟨_, rfl⟩
  obtain ⟨s3, e3⟩ : ∃ z, z = savesM lo (mail25 cs) := ⟨_, rfl⟩
  simp only [← e0, ← e1, ← e2, ← e3] at g1 g2 g3 hwm hsv0 HSV0 HSV1 HSV2 HSV3
  unfold maiV mail25 at HSV0 HSV1 HSV2 HSV3
  dsimp only at HSV0 HSV1 HSV2 HSV3
  have n0 : ¬ s0 < 0 := by omega
  have n1 : ¬ s1 < s0 := by omega
  have n2 : ¬ s2 < s0 := by omega
  have n3 : ¬ s3 < s2 := by omega
  have HWM := Lib.hid hwm
  clear e0 e1 e2 e3 hi hM1 hM2 hM3 hrs hfm2 h1 h2 h3 h4 hmt hlm hlm2 g1 g2 g3 g4 hsv0 hml hmg hcts hmin hwm
  rcases HFM.out with ⟨rfl, rfl, hl0⟩ | ⟨sb, so, sp, rfl, hcap⟩
  ·
    obtain rfl : l = [] := List.length_eq_zero_iff.1 hl0
    have hmm0 : min (0 : Int) 120 = 0 := by omega
    have hmm1 : min (([] : List UInt8).length : Int) 120 = 0 := hmm0
    simp only [List.take_nil] at HM2
    go_enter Try.func6, Try.ntmps6
    go_wp2_with (first
      | (go_at_call 10; refine (HAW.out _).mono ?_; rintro e w1 ⟨rfl, hb1⟩)
      | (go_at_call 11; refine (HM3.out _ (hB2.trans (hA6.mono hB2.size))).mono ?_; rintro e w7 ⟨al0, cl0, ap0, cp0, rfl, hb7, hr7, _⟩; (have hC7 : Below w3.heap.size w3 w7 := hC6.trans (hb7.mono hC6.size)); (have hA7 : Below w2.heap.size w2 w7 := hA3.trans (hC7.mono hA3.size)); (have hn7 := (hb7.block w6.heap.size (by simp)).trans (alloc_new w6 (.cells #[.int .u8 1, .int .u8 1, .string ⟨#[49, 48, 48, 48, 48]⟩, .slice ap2 cs2.length cp2] 28))); (have hz7 : w6.heap.size < w7.heap.size := by have := hb7.size; simp at this; omega))
      | (go_at_call 11; refine (HM2.out _ _ (hB2.trans (hA5.mono hB2.size)) hrb).mono ?_; rintro e w6 ⟨al2, cl2, ap2, cp2, rfl, hb6, _, hp6⟩; (have hC6 : Below w3.heap.size w3 (w6.alloc (.cells #[.int .u8 1, .int .u8 1, .string ⟨#[49, 48, 48, 48, 48]⟩, .slice ap2 cs2.length cp2] 28)) := (hC5.trans (hb6.mono hC5.size)).alloc (hC5.trans (hb6.mono hC5.size)).size _); (have hA6 : Below w2.heap.size w2 (w6.alloc (.cells #[.int .u8 1, .int .u8 1, .string ⟨#[49, 48, 48, 48, 48]⟩, .slice ap2 cs2.length cp2] 28)) := hA3.trans (hC6.mono hA3.size)))
      | (go_at_call 11; refine (HM1.out _ hb1).mono ?_; rintro e w2 ⟨al, cl, ap, cp, rfl, hb2, hr2, hp2⟩; have hB2 : Below w.heap.size w w2 := hb1.trans (hb2.mono hb1.size); (have hA2 : Below w2.heap.size w2 (w2.alloc (.cells #[.int .u8 1, .int .u8 1, .string ⟨#[49, 48, 48, 48, 48]⟩, .slice ap cs.length cp] 28)) := (Below.refl _ w2).alloc (Nat.le_refl _) _))
      | (go_at_call 14; refine (HSV0.out _ al cl ap cp (RdLevs.below hr2 hA2) (RdPces.below hp2 hA2)).mono ?_; rintro e w3 ⟨rfl, hb3⟩; (have hA3 : Below w2.heap.size w2 w3 := hA2.trans (hb3.mono hA2.size)); (have hz3 : w2.heap.size < w3.heap.size := by have := hb3.size; simp at this; omega); (have hn3 := (hb3.block w2.heap.size (by simp)).trans (alloc_new w2 (.cells #[.int .u8 1, .int .u8 1, .string ⟨#[49, 48, 48, 48, 48]⟩, .slice ap cs.length cp] 28))))
      | (at_builtin; (have hown4 : (w3.alloc (.cells #[] 5)).ownsRow w3.heap.size 5 1 (.slice (some ⟨w3.heap.size, 0, none⟩) 0 0) 0 (([] : List UInt8).map encU) := own_empty w3 _); (have hC4 : Below w3.heap.size w3 (w3.alloc (.cells #[] 5)) := (Below.refl _ w3).alloc (Nat.le_refl _) _);  refine wpList_append_own _ rfl _ _ 23 rfl w3.heap.size 5 i0 (.int .u8 0) 1 1 Try.underlying23 HI.out.1 HI.out.2.1 HI.out.2.2.1 HI.out.2.2.2 rfl (by decide) _ _ _ rfl (hown4.alloc _) ⟨w3.heap.size + 1, 0, none⟩ 1 1 [encU c] rfl rfl (cells_new6 (w3.alloc (.cells #[] 5)) _ (by simp) [encU c] 5) (by simp [encU, Value.oneCell']) (by unfold maxLen; omega) (by omega) (by have := hown4.lt; first | (have := hgrow4.size; simp at this ⊢; omega) | (simp; omega)) ?_; intro v5 w5 hown5 hgrow5 _; (have hC5 : Below w3.heap.size w3 w5 := (hC4.alloc hC4.size _).grown hgrow5 (by have := hC4.size; simp; omega) (fun r e => (hown4.lt r e).1)); (have hA5 : Below w2.heap.size w2 w5 := hA3.trans (hC5.mono hA3.size)); (have hrb : RdBytesC w5 v5 ([] ++ [c]) := bytesC_of_own (by rw [List.map_append]; exact hown5) (by first | (rw [List.length_append, List.length_take]; simp; omega) | simp)))
      | fail
      | (go_at_call 18; refine (copyLevels_any (RdLevs.below hr2 (hA7.alloc hA7.size (.cells #[.int .u8 1, .int .u8 1, .string ⟨#[49, 48, 48, 48, 48]⟩, .slice ap0 cs0.length cp0] 28))) (by omega) HFL.out).mono ?_; rintro e w8 ⟨ve, rfl, hb8, hoe⟩; obtain ⟨ge, ce, hve, hge⟩ := ownsLv_at hoe (by omega); subst hve))
    have hC8 : Below w7.heap.size w7 w8 := ((Below.refl _ w7).alloc (Nat.le_refl _) _).trans (hb8.mono (by rw [World.size_alloc]; omega))
    have hD7 : Below w6.heap.size w6 w7 := ((Below.refl _ w6).alloc (Nat.le_refl _) _).trans (hb7.mono (by rw [World.size_alloc]; omega))
    have HL7 := Lib.hid (RdLevs.below hr2 hA7)
    have HP7 := Lib.hid (RdPces.below hp2 hA7)
    have HQ7 := Lib.hid (RdPces.below hp6 hD7)
    have HR7 := Lib.hid hr7
    have hz27 : w2.heap.size < w7.heap.size := Nat.lt_of_lt_of_le hz3 hC7.size
    have HX12 := Lib.hid ((hC7.block _ hz3).trans hn3)
    have HX15 := Lib.hid hn7
    have HB7 : Hid (Below w.heap.size w w7) := hB2.trans (hA7.mono hB2.size)
    have HC8 := Lib.hid hC8
    rw [World.size_alloc] at hge hoe
    have hge1 := hge.1
    have hge2 := hge.2
    clear hb1 hB2 hb2 hr2 hp2 hA2 hA3 hb3 hz3 hn3 hown4 hC4 hown5 hgrow5 hC5 hA5 hrb hb6 hp6 hC6 hA6 hb7 hr7 hC7 hA7 hn7 hb8 hC8 hD7 hge HAW HM1 HM2 HM3 HSV0
    go_loopw [66] (fun i wx => ∃ k : Nat, k ≤ ls.length ∧ i = .int .i64 k ∧ Below (w7.heap.size + 1) w8 wx ∧ OwnsLv wx (w7.heap.size + 1) (.slice (some ⟨ge, 0, none⟩) ls.length ce) (halfTo ls k)) (fun i _ => ls.length - (intOf i).toNat)
    case atStart => exact ⟨0, Nat.zero_le _, rfl, Below.refl _ _, by rw [halfTo_zero]; exact hoe⟩
    case round =>
      clear hoe
      obtain ⟨wo, hwo⟩ : ∃ x, x = wr := ⟨_, rfl⟩
      subst hwo
      obtain ⟨k, hk, rfl, hB, hO⟩ := hrel
      have HO := Lib.hid hO
      have HB := Lib.hid hB
      by_cases hlt : k < ls.length
      · have hkl : k < (halfTo ls k).length := by rw [halfTo_len]; exact hlt
        have hat := halfTo_at ls k hlt
        have hsu := halfTo_succ ls k hlt
        have hmn := HMIN.out k hlt
        obtain ⟨a1, c1, hv1, hc1⟩ := hO.reads
        injection hv1 with q1 q2 q3
        subst q1
        obtain ⟨g1, o1, hg1, hgl1, hcc1⟩ := hc1 (by omega)
        injection hg1 with hg1
        injection hg1 with hg1 ho1 _
        subst hg1
        subst ho1
        obtain ⟨sv1, _, _, _, _, l3, _⟩ := hcc1 k hkl
        rw [hat, Nat.zero_add] at l3
        obtain ⟨hp1, hp2, hp3, _⟩ := OwnsLv.put7 hO k 3 hkl (by omega) (half ls[k]) (.int .i64 ((ls[k].min + 1) / 2)) (.inl ⟨by decide, by rw [hat]; rfl, fun sv => by rw [hat]; rfl⟩)
        rw [← hsu] at hp1
        obtain ⟨mn, hmne⟩ : ∃ z, z = ls[k].min := ⟨_, rfl⟩
        rw [← hmne] at l3 hp1 hmn
        have htd : (mn + 1).tdiv 2 = (mn + 1) / 2 := Int.tdiv_eq_ediv_of_nonneg (by omega)
        obtain ⟨hf, hhf⟩ : ∃ z, z = (mn + 1) / 2 := ⟨_, rfl⟩
        rw [← hhf] at htd hp1
        have hfb : 0 ≤ hf ∧ hf ≤ 2000 := by omega
        have HP1 := Lib.hid hp1
        clear hp1 hp2 hO hB hat hsu hmne hhf hcc1 hc1 q2 q3
        go_wp2_with fail
        go_roundw
        case rel => exact ⟨k + 1, by omega, by go_num, HB.out.setCell hge1 _, HP1.out⟩
        case measure => simp [intOf]; omega
      · obtain rfl : k = ls.length := by omega
        have hC9 : Below w7.heap.size w7 wo := HC8.out.trans (hB.mono (Nat.le_succ _))
        have he9 : RdLevs wo (.slice (some ⟨ge, 0, none⟩) ls.length ce) (ls.map half) := by
          have := hO.reads
          rwa [halfTo_all] at this
        have hl9 := RdLevs.below HL7.out hC9
        have hp9 := RdPces.below HP7.out hC9
        have hq9 := RdPces.below HQ7.out hC9
        have hr9 := RdLevs.below HR7.out hC9
        have C1 : Hid (∀ W, Below wo.heap.size wo W → Calls Try.prog 14 #[.slice al ls.length cl, .agg #[.int .u8 1, .int .u8 1, .string ⟨#[49, 48, 48, 48, 48]⟩, .slice ap2 cs2.length cp2]] W fun e w' => e = .returned (.int .i64 s1) ∧ Below W.heap.size W w') := fun W hW => HSV1.out W al cl ap2 cp2 (RdLevs.below hl9 hW) (RdPces.below hq9 hW)
        have C2 : Hid (∀ W, Below wo.heap.size wo W → Calls Try.prog 14 #[.slice (some ⟨ge, 0, none⟩) ls.length ce, .agg #[.int .u8 1, .int .u8 1, .string ⟨#[49, 48, 48, 48, 48]⟩, .slice ap cs.length cp]] W fun e w' => e = .returned (.int .i64 s2) ∧ Below W.heap.size W w') := fun W hW => HSV2.out W _ ce ap cp (RdLevs.below he9 hW) (RdPces.below hp9 hW)
        have C3 : Hid (∀ W, Below wo.heap.size wo W → Calls Try.prog 14 #[.slice al0 lo.length cl0, .agg #[.int .u8 1, .int .u8 1, .string ⟨#[49, 48, 48, 48, 48]⟩, .slice ap cs.length cp]] W fun e w' => e = .returned (.int .i64 s3) ∧ Below W.heap.size W w') := fun W hW => HSV3.out W al0 cl0 ap cp (RdLevs.below hr9 hW) (RdPces.below hp9 hW)
        have hx12 := (hC9.block _ hz27).trans HX12.out
        have hx15 := (hC9.block _ hz7).trans HX15.out
        obtain ⟨d0, d1, d2, d3⟩ := cells4 hx12
        obtain ⟨e0, e1, e2, e3⟩ := cells4 hx15
        replace d0 := cells_in d0
        replace d1 := cells_in d1
        replace d2 := cells_in d2
        replace d3 := cells_in d3
        replace e0 := cells_in e0
        replace e1 := cells_in e1
        replace e2 := cells_in e2
        replace e3 := cells_in e3
        have HX := Lib.hid hx12
        have HR9 := Lib.hid hr9
        have HBO : Hid (Below w.heap.size w wo) := HB7.out.trans (hC9.mono HB7.out.size)
        have hzx : w2.heap.size < wo.heap.size := Nat.lt_of_lt_of_le hz27 hC9.size
        clear hC9 he9 hl9 hp9 hq9 hr9 hx12 hx15 hO hB
        go_wp2_with fail
        refine wp_region_quiet_below (by kernel_rfl) (by kernel_rfl) ?_
        repeat (go_big_quiet_step ((first | (with_reducible exact regrown_in C1.out _) | (with_reducible exact regrown_in C2.out _) | (with_reducible exact regrown_in C3.out _))))
        refine wpQuiet_nil ?_
        intro _ hw'
        obtain ⟨pp, hw''⟩ := hw'
        subst hw''
        clear d0 d1 d2 d3 e0 e1 e2 e3
        have hbp := below_in wo pp
        obtain ⟨wp, hwp⟩ : ∃ z, z = grow (redrawn wo pp.d) pp.os := ⟨_, rfl⟩
        rw [← hwp] at hbp ⊢
        have HRP := Lib.hid (RdLevs.below HR9.out hbp)
        have HXP := Lib.hid ((hbp.block _ hzx).trans HX.out)
        have HBP : Hid (Below w.heap.size w wp) := HBO.out.trans (hbp.mono HBO.out.size)
        have hzp : w2.heap.size < wp.heap.size := Nat.lt_of_lt_of_le hzx hbp.size
        clear hwp hbp C1 C2 C3
        go_wp2_with fail
        go_loopw [23, 109] (fun v i wx => ∃ k : Nat, k ≤ lo.length ∧ i = .int .i64 k ∧ v = .int .i64 (mostTo lo k) ∧ Below wp.heap.size wp wx) (fun _ i _ => lo.length - (intOf i).toNat)
        case atStart => exact ⟨0, Nat.zero_le _, rfl, by simp [mostTo], Below.refl _ _⟩
        case round =>
          obtain ⟨k, hk, rfl, rfl, hB⟩ := hrel
          by_cases hltk : k < lo.length
          · have hms := mostTo_succ lo hltk
            have hcb := HCTS.out k hltk
            obtain ⟨a1, c1, hv1, hc1⟩ := HRP.out
            injection hv1 with q1 q2 q3
            subst q1
            clear q2 q3
            obtain ⟨g1, o1, rfl, hg1, hcc1⟩ := hc1 (by omega)
            obtain ⟨sv1, hsv1, l0, l1, l2, l3, l4⟩ := hcc1 k hltk
            obtain ⟨as1, cs1, rfl, _⟩ := hsv1
            replace l0 := (hB.cell (p := ⟨g1, o1 + k * 5, none⟩) hg1).trans l0
            replace l1 := (hB.cell (p := ⟨g1, o1 + k * 5 + 1, none⟩) hg1).trans l1
            replace l2 := (hB.cell (p := ⟨g1, o1 + k * 5 + 2, none⟩) hg1).trans l2
            replace l3 := (hB.cell (p := ⟨g1, o1 + k * 5 + 3, none⟩) hg1).trans l3
            replace l4 := (hB.cell (p := ⟨g1, o1 + k * 5 + 4, none⟩) hg1).trans l4
            obtain ⟨x, hx⟩ : ∃ x, x = lo[k] := ⟨_, rfl⟩
            rw [← hx] at l0 l1 l2 l3 l4 hms hcb
            obtain ⟨M, hM⟩ : ∃ M, M = mostTo lo k := ⟨_, rfl⟩
            rw [← hM] at hms ⊢
            have HMS := Lib.hid hms
            have HB9 := Lib.hid hB
            obtain ⟨_, _, _, _, q4⟩ := cells5 (alloc_new wr (.cells #[.string x.name, .int .i64 x.pre, .slice as1 x.labs.length cs1, .int .i64 x.min, .int .i64 x.cents] 41))
            clear hms hM hx hcc1 hc1 hB
            go_wp2_with fail
            go_roundw
            case rel => exact ⟨k + 1, by omega, by go_num, by rw [HMS.out], HB9.out.alloc HB9.out.size _⟩
            case measure => simp [intOf]; omega
          · obtain rfl : k = lo.length := by omega
            obtain ⟨_, _, _, d3⟩ := cells4 ((hB.block _ hzp).trans HXP.out)
            have hwm := HWM.out
            have HB9 := Lib.hid hB
            clear hB
            go_wp2_with fail
            go_ret
            exact ⟨by simp, HBP.out.trans (HB9.out.mono HBP.out.size)⟩
  ·
    have HNW : Hid (∀ W, Below w.heap.size w W → ∀ j u, ((l.take mm).map encU)[j]? = some u → W.cell? ((⟨sb, so, sp⟩ : Addr).add j) = some u) := fun W hW => bytes_news (RdBytes.take (n := l.length) (cap := cs_) (cap' := cs_) (RdBytes.below2 HRS.out.1 hW) hmml)
    have HLEN : Hid (((l.take mm).map encU).length = mm * 1) := by
      show ((l.take mm).map encU).length = mm * 1
      rw [List.length_map, List.length_take, Nat.mul_one]; omega
    have HONE : Hid (∀ u ∈ (l.take mm).map encU, u.oneCell' = true) := fun u hu => by
      obtain ⟨z, _, rfl⟩ := List.mem_map.1 hu
      rfl
    go_enter Try.func6, Try.ntmps6
    go_wp2_with (first
      | (go_at_call 10; refine (HAW.out _).mono ?_; rintro e w1 ⟨rfl, hb1⟩)
      | (go_at_call 11; refine (HM3.out _ (hB2.trans (hA6.mono hB2.size))).mono ?_; rintro e w7 ⟨al0, cl0, ap0, cp0, rfl, hb7, hr7, _⟩; (have hC7 : Below w3.heap.size w3 w7 := hC6.trans (hb7.mono hC6.size)); (have hA7 : Below w2.heap.size w2 w7 := hA3.trans (hC7.mono hA3.size)); (have hn7 := (hb7.block w6.heap.size (by simp)).trans (alloc_new w6 (.cells #[.int .u8 1, .int .u8 1, .string ⟨#[49, 48, 48, 48, 48]⟩, .slice ap2 cs2.length cp2] 28))); (have hz7 : w6.heap.size < w7.heap.size := by have := hb7.size; simp at this; omega))
      | (go_at_call 11; refine (HM2.out _ _ (hB2.trans (hA5.mono hB2.size)) hrb).mono ?_; rintro e w6 ⟨al2, cl2, ap2, cp2, rfl, hb6, _, hp6⟩; (have hC6 : Below w3.heap.size w3 (w6.alloc (.cells #[.int .u8 1, .int .u8 1, .string ⟨#[49, 48, 48, 48, 48]⟩, .slice ap2 cs2.length cp2] 28)) := (hC5.trans (hb6.mono hC5.size)).alloc (hC5.trans (hb6.mono hC5.size)).size _); (have hA6 : Below w2.heap.size w2 (w6.alloc (.cells #[.int .u8 1, .int .u8 1, .string ⟨#[49, 48, 48, 48, 48]⟩, .slice ap2 cs2.length cp2] 28)) := hA3.trans (hC6.mono hA3.size)))
      | (go_at_call 11; refine (HM1.out _ hb1).mono ?_; rintro e w2 ⟨al, cl, ap, cp, rfl, hb2, hr2, hp2⟩; have hB2 : Below w.heap.size w w2 := hb1.trans (hb2.mono hb1.size); (have hA2 : Below w2.heap.size w2 (w2.alloc (.cells #[.int .u8 1, .int .u8 1, .string ⟨#[49, 48, 48, 48, 48]⟩, .slice ap cs.length cp] 28)) := (Below.refl _ w2).alloc (Nat.le_refl _) _))
      | (go_at_call 14; refine (HSV0.out _ al cl ap cp (RdLevs.below hr2 hA2) (RdPces.below hp2 hA2)).mono ?_; rintro e w3 ⟨rfl, hb3⟩; (have hA3 : Below w2.heap.size w2 w3 := hA2.trans (hb3.mono hA2.size)); (have hz3 : w2.heap.size < w3.heap.size := by have := hb3.size; simp at this; omega); (have hn3 := (hb3.block w2.heap.size (by simp)).trans (alloc_new w2 (.cells #[.int .u8 1, .int .u8 1, .string ⟨#[49, 48, 48, 48, 48]⟩, .slice ap cs.length cp] 28))))
      | (at_builtin;  refine wpList_append_own _ rfl _ _ 23 rfl w3.heap.size 5 i0 (.int .u8 0) 1 1 Try.underlying23 HI.out.1 HI.out.2.1 HI.out.2.2.1 HI.out.2.2.2 rfl (by decide) _ _ _ rfl (hown4.alloc _) ⟨w4.heap.size, 0, none⟩ 1 1 [encU c] rfl rfl (cells_new6 w4 _ (by simp) [encU c] 5) (by simp [encU, Value.oneCell']) (by unfold maxLen; omega) (by omega) (by have := hown4.lt; first | (have := hgrow4.size; simp at this ⊢; omega) | (simp; omega)) ?_; intro v5 w5 hown5 hgrow5 _; (have hC5 : Below w3.heap.size w3 w5 := (hC4.alloc hC4.size _).grown hgrow5 (by have := hC4.size; simp; omega) (fun r e => (hown4.lt r e).1)); (have hA5 : Below w2.heap.size w2 w5 := hA3.trans (hC5.mono hA3.size)); (have hrb : RdBytesC w5 v5 (l.take mm ++ [c]) := bytesC_of_own (by rw [List.map_append]; exact hown5) (by first | (rw [List.length_append, List.length_take]; simp; omega) | simp)))
      | (at_builtin; refine wpList_append_own _ rfl _ _ 23 rfl w3.heap.size 5 i0 (.int .u8 0) 1 1 Try.underlying23 HI.out.1 HI.out.2.1 HI.out.2.2.1 HI.out.2.2.2 rfl (by decide) _ _ _ rfl (own_empty w3 _) ⟨sb, so, sp⟩ mm cs_ ((l.take mm).map encU) rfl HLEN.out (HNW.out _ ((hB2.trans (hA3.mono hB2.size)).alloc (hB2.trans (hA3.mono hB2.size)).size _)) HONE.out (by unfold maxLen; omega) (by omega) (by simp) ?_; intro v4 w4 hown4 hgrow4 _; rw [List.nil_append] at hown4; (have hC4 : Below w3.heap.size w3 w4 := ((Below.refl _ w3).alloc (Nat.le_refl _) _).grown hgrow4 (by simp) (fun r e => Nat.le_of_eq (Option.some.inj e))))
      | (go_at_call 18; refine (copyLevels_any (RdLevs.below hr2 (hA7.alloc hA7.size (.cells #[.int .u8 1, .int .u8 1, .string ⟨#[49, 48, 48, 48, 48]⟩, .slice ap0 cs0.length cp0] 28))) (by omega) HFL.out).mono ?_; rintro e w8 ⟨ve, rfl, hb8, hoe⟩; obtain ⟨ge, ce, hve, hge⟩ := ownsLv_at hoe (by omega); subst hve))
    have hC8 : Below w7.heap.size w7 w8 := ((Below.refl _ w7).alloc (Nat.le_refl _) _).trans (hb8.mono (by rw [World.size_alloc]; omega))
    have hD7 : Below w6.heap.size w6 w7 := ((Below.refl _ w6).alloc (Nat.le_refl _) _).trans (hb7.mono (by rw [World.size_alloc]; omega))
    have HL7 := Lib.hid (RdLevs.below hr2 hA7)
    have HP7 := Lib.hid (RdPces.below hp2 hA7)
    have HQ7 := Lib.hid (RdPces.below hp6 hD7)
    have HR7 := Lib.hid hr7
    have hz27 : w2.heap.size < w7.heap.size := Nat.lt_of_lt_of_le hz3 hC7.size
    have HX12 := Lib.hid ((hC7.block _ hz3).trans hn3)
    have HX15 := Lib.hid hn7
    have HB7 : Hid (Below w.heap.size w w7) := hB2.trans (hA7.mono hB2.size)
    have HC8 := Lib.hid hC8
    rw [World.size_alloc] at hge hoe
    have hge1 := hge.1
    have hge2 := hge.2
    clear hb1 hB2 hb2 hr2 hp2 hA2 hA3 hb3 hz3 hn3 hown4 hC4 hown5 hgrow5 hC5 hA5 hrb hb6 hp6 hC6 hA6 hb7 hr7 hC7 hA7 hn7 hb8 hC8 hD7 hge HAW HM1 HM2 HM3 HSV0
    go_loopw [66] (fun i wx => ∃ k : Nat, k ≤ ls.length ∧ i = .int .i64 k ∧ Below (w7.heap.size + 1) w8 wx ∧ OwnsLv wx (w7.heap.size + 1) (.slice (some ⟨ge, 0, none⟩) ls.length ce) (halfTo ls k)) (fun i _ => ls.length - (intOf i).toNat)
    case atStart => exact ⟨0, Nat.zero_le _, rfl, Below.refl _ _, by rw [halfTo_zero]; exact hoe⟩
    case round =>
      clear hoe
      obtain ⟨wo, hwo⟩ : ∃ x, x = wr := ⟨_, rfl⟩
      subst hwo
      obtain ⟨k, hk, rfl, hB, hO⟩ := hrel
      have HO := Lib.hid hO
      have HB := Lib.hid hB
      by_cases hlt : k < ls.length
      · have hkl : k < (halfTo ls k).length := by rw [halfTo_len]; exact hlt
        have hat := halfTo_at ls k hlt
        have hsu := halfTo_succ ls k hlt
        have hmn := HMIN.out k hlt
        obtain ⟨a1, c1, hv1, hc1⟩ := hO.reads
        injection hv1 with q1 q2 q3
        subst q1
        obtain ⟨g1, o1, hg1, hgl1, hcc1⟩ := hc1 (by omega)
        injection hg1 with hg1
        injection hg1 with hg1 ho1 _
        subst hg1
        subst ho1
        obtain ⟨sv1, _, _, _, _, l3, _⟩ := hcc1 k hkl
        rw [hat, Nat.zero_add] at l3
        obtain ⟨hp1, hp2, hp3, _⟩ := OwnsLv.put7 hO k 3 hkl (by omega) (half ls[k]) (.int .i64 ((ls[k].min + 1) / 2)) (.inl ⟨by decide, by rw [hat]; rfl, fun sv => by rw [hat]; rfl⟩)
        rw [← hsu] at hp1
        obtain ⟨mn, hmne⟩ : ∃ z, z = ls[k].min := ⟨_, rfl⟩
        rw [← hmne] at l3 hp1 hmn
        have htd : (mn + 1).tdiv 2 = (mn + 1) / 2 := Int.tdiv_eq_ediv_of_nonneg (by omega)
        obtain ⟨hf, hhf⟩ : ∃ z, z = (mn + 1) / 2 := ⟨_, rfl⟩
        rw [← hhf] at htd hp1
        have hfb : 0 ≤ hf ∧ hf ≤ 2000 := by omega
        have HP1 := Lib.hid hp1
        clear hp1 hp2 hO hB hat hsu hmne hhf hcc1 hc1 q2 q3
        go_wp2_with fail
        go_roundw
        case rel => exact ⟨k + 1, by omega, by go_num, HB.out.setCell hge1 _, HP1.out⟩
        case measure => simp [intOf]; omega
      · obtain rfl : k = ls.length := by omega
        have hC9 : Below w7.heap.size w7 wo := HC8.out.trans (hB.mono (Nat.le_succ _))
        have he9 : RdLevs wo (.slice (some ⟨ge, 0, none⟩) ls.length ce) (ls.map half) := by
          have := hO.reads
          rwa [halfTo_all] at this
        have hl9 := RdLevs.below HL7.out hC9
        have hp9 := RdPces.below HP7.out hC9
        have hq9 := RdPces.below HQ7.out hC9
        have hr9 := RdLevs.below HR7.out hC9
        have C1 : Hid (∀ W, Below wo.heap.size wo W → Calls Try.prog 14 #[.slice al ls.length cl, .agg #[.int .u8 1, .int .u8 1, .string ⟨#[49, 48, 48, 48, 48]⟩, .slice ap2 cs2.length cp2]] W fun e w' => e = .returned (.int .i64 s1) ∧ Below W.heap.size W w') := fun W hW => HSV1.out W al cl ap2 cp2 (RdLevs.below hl9 hW) (RdPces.below hq9 hW)
        have C2 : Hid (∀ W, Below wo.heap.size wo W → Calls Try.prog 14 #[.slice (some ⟨ge, 0, none⟩) ls.length ce, .agg #[.int .u8 1, .int .u8 1, .string ⟨#[49, 48, 48, 48, 48]⟩, .slice ap cs.length cp]] W fun e w' => e = .returned (.int .i64 s2) ∧ Below W.heap.size W w') := fun W hW => HSV2.out W _ ce ap cp (RdLevs.below he9 hW) (RdPces.below hp9 hW)
        have C3 : Hid (∀ W, Below wo.heap.size wo W → Calls Try.prog 14 #[.slice al0 lo.length cl0, .agg #[.int .u8 1, .int .u8 1, .string ⟨#[49, 48, 48, 48, 48]⟩, .slice ap cs.length cp]] W fun e w' => e = .returned (.int .i64 s3) ∧ Below W.heap.size W w') := fun W hW => HSV3.out W al0 cl0 ap cp (RdLevs.below hr9 hW) (RdPces.below hp9 hW)
        have hx12 := (hC9.block _ hz27).trans HX12.out
        have hx15 := (hC9.block _ hz7).trans HX15.out
        obtain ⟨d0, d1, d2, d3⟩ := cells4 hx12
        obtain ⟨e0, e1, e2, e3⟩ := cells4 hx15
        replace d0 := cells_in d0
        replace d1 := cells_in d1
        replace d2 := cells_in d2
        replace d3 := cells_in d3
        replace e0 := cells_in e0
        replace e1 := cells_in e1
        replace e2 := cells_in e2
        replace e3 := cells_in e3
        have HX := Lib.hid hx12
        have HR9 := Lib.hid hr9
        have HBO : Hid (Below w.heap.size w wo) := HB7.out.trans (hC9.mono HB7.out.size)
        have hzx : w2.heap.size < wo.heap.size := Nat.lt_of_lt_of_le hz27 hC9.size
        clear hC9 he9 hl9 hp9 hq9 hr9 hx12 hx15 hO hB
        go_wp2_with fail
        refine wp_region_quiet_below (by kernel_rfl) (by kernel_rfl) ?_
        repeat (go_big_quiet_step ((first | (with_reducible exact regrown_in C1.out _) | (with_reducible exact regrown_in C2.out _) | (with_reducible exact regrown_in C3.out _))))
        refine wpQuiet_nil ?_
        intro _ hw'
        obtain ⟨pp, hw''⟩ := hw'
        subst hw''
        clear d0 d1 d2 d3 e0 e1 e2 e3
        have hbp := below_in wo pp
        obtain ⟨wp, hwp⟩ : ∃ z, z = grow (redrawn wo pp.d) pp.os := ⟨_, rfl⟩
        rw [← hwp] at hbp ⊢
        have HRP := Lib.hid (RdLevs.below HR9.out hbp)
        have HXP := Lib.hid ((hbp.block _ hzx).trans HX.out)
        have HBP : Hid (Below w.heap.size w wp) := HBO.out.trans (hbp.mono HBO.out.size)
        have hzp : w2.heap.size < wp.heap.size := Nat.lt_of_lt_of_le hzx hbp.size
        clear hwp hbp C1 C2 C3
        go_wp2_with fail
        go_loopw [23, 109] (fun v i wx => ∃ k : Nat, k ≤ lo.length ∧ i = .int .i64 k ∧ v = .int .i64 (mostTo lo k) ∧ Below wp.heap.size wp wx) (fun _ i _ => lo.length - (intOf i).toNat)
        case atStart => exact ⟨0, Nat.zero_le _, rfl, by simp [mostTo], Below.refl _ _⟩
        case round =>
          obtain ⟨k, hk, rfl, rfl, hB⟩ := hrel
          by_cases hltk : k < lo.length
          · have hms := mostTo_succ lo hltk
            have hcb := HCTS.out k hltk
            obtain ⟨a1, c1, hv1, hc1⟩ := HRP.out
            injection hv1 with q1 q2 q3
            subst q1
            clear q2 q3
            obtain ⟨g1, o1, rfl, hg1, hcc1⟩ := hc1 (by omega)
            obtain ⟨sv1, hsv1, l0, l1, l2, l3, l4⟩ := hcc1 k hltk
            obtain ⟨as1, cs1, rfl, _⟩ := hsv1
            replace l0 := (hB.cell (p := ⟨g1, o1 + k * 5, none⟩) hg1).trans l0
            replace l1 := (hB.cell (p := ⟨g1, o1 + k * 5 + 1, none⟩) hg1).trans l1
            replace l2 := (hB.cell (p := ⟨g1, o1 + k * 5 + 2, none⟩) hg1).trans l2
            replace l3 := (hB.cell (p := ⟨g1, o1 + k * 5 + 3, none⟩) hg1).trans l3
            replace l4 := (hB.cell (p := ⟨g1, o1 + k * 5 + 4, none⟩) hg1).trans l4
            obtain ⟨x, hx⟩ : ∃ x, x = lo[k] := ⟨_, rfl⟩
            rw [← hx] at l0 l1 l2 l3 l4 hms hcb
            obtain ⟨M, hM⟩ : ∃ M, M = mostTo lo k := ⟨_, rfl⟩
            rw [← hM] at hms ⊢
            have HMS := Lib.hid hms
            have HB9 := Lib.hid hB
            obtain ⟨_, _, _, _, q4⟩ := cells5 (alloc_new wr (.cells #[.string x.name, .int .i64 x.pre, .slice as1 x.labs.length cs1, .int .i64 x.min, .int .i64 x.cents] 41))
            clear hms hM hx hcc1 hc1 hB
            go_wp2_with fail
            go_roundw
            case rel => exact ⟨k + 1, by omega, by go_num, by rw [HMS.out], HB9.out.alloc HB9.out.size _⟩
            case measure => simp [intOf]; omega
          · obtain rfl : k = lo.length := by omega
            obtain ⟨_, _, _, d3⟩ := cells4 ((hB.block _ hzp).trans HXP.out)
            have hwm := HWM.out
            have HB9 := Lib.hid hB
            clear hB
            go_wp2_with fail
            go_ret
            exact ⟨by simp, HBP.out.trans (HB9.out.mono HBP.out.size)⟩
theorem presortGrows_walk (n : Int) (least cents l : List UInt8) (c : UInt8) (vl vc vs : Value) (w : World) (hn0 : 0 ≤ n) (hn1 : n < 4294967296) (hrl : RdBytes w vl least) (hrc : RdBytes w vc cents) (hrs : RdBytesC w vs l)
    (hll : least.length ≤ maxLen) (hcl : cents.length ≤ maxLen) (hsl : l.length ≤ maxLen) :
    Calls Try.prog 6 #[.int .u32 n, vl, vc, vs, .int .u8 (c.toNat : Int)] w fun e w' => e = .returned (.bool true) ∧ Below w.heap.size w w' := by
  have h1 := made_has (bitsOf n) (lowL least 3) cents (l.take 120)
  have h2 := made_has (bitsOf n) (lowL least 3) cents (l.take 120 ++ [c])
  have h4 := made_has (bitsOf n) [] cents (l.take 120)
  have ht : (l.take 120).length ≤ 120 := by rw [List.length_take]; omega
  have htt : (l.take 120 ++ [c]).take 121 = l.take 120 ++ [c] := List.take_of_length_le (by rw [List.length_append]; simp; omega)
  refine grows_main h1 h2 (half_has h1) h4 (grows_more _ _ c ht h1 h2) (grows_half h1) (grows_low _ _ cents _) (grows_all _ cents _) (made_c hn0 hn1 hrl hrc hrs hll hcl hsl (by decide)) (fun W v hW hv => ?_) (cs0 := codesOf (([] : List UInt8).take 0)) ?_ hrs hsl (codesOf_len l 120)
  · have hlv : (l.take 120 ++ [c]).length ≤ maxLen := by rw [List.length_append]; simp; unfold maxLen; omega
    have := made_c (most := 121) hn0 hn1 (hrl.below2 hW) (hrc.below2 hW) hv hll hcl hlv (by decide) W (Below.refl _ _)
    rw [htt] at this
    exact this
  · have hn : RdBytes w (.slice none 0 0) [] := ⟨none, 0, rfl, fun h => absurd h (by simp)⟩
    exact made_c (most := 0) (least := []) (l := []) hn0 hn1 hn hrc ⟨hn, .inl rfl⟩ (Nat.zero_le _) hcl (Nat.zero_le _) (by decide)
end Go.Proofs.Ytpieagaggjngjaa
