import Derived.Test.YtlgajongmkhcnaaGreatDoorQUL
import Derived.Test.YtlgajongmkhcnaaGreatDoorQUF
import Derived.Test.YtlgajongmkhcnaaGreatDoorQUb
import Derived.Deep.RegionHeld3
import Derived.Deep.DeepCutAuto
import Derived.Deep.DrawnRows
import Derived.BigRegion
set_option maxRecDepth 100000
set_option linter.unusedVariables false
set_option linter.unusedSimpArgs false
set_option maxHeartbeats 32000000
namespace Go.Proofs.YtlgajongmkhcnaaGreatDoor
open Go.RowKit Go.Sort
theorem OwnsP.form {w : World} {base : Nat} {v : Value} {ps : List Pce} (h : OwnsP w base v ps) : ∃ a cap, v = .slice a ps.length cap := by
 rcases Joins.ownsRow_forms h with ⟨rfl, hp⟩ | ⟨g, cap, rfl⟩
 ·exact ⟨none, 0, by rw [hp]⟩
 ·exact ⟨_, cap, rfl⟩
theorem ZdG (L : List Pce) (k j : Nat) (h : k < L.length) (hj : j < 5) (u : Value) (p' : Pce) (hp : pceC p' = (pceC L[k]).set j u) : (L.flatMap pceC).set (k * 5 + j) u = (L.set k p').flatMap pceC := by
 induction L generalizing k with
 | nil => simp at h
 | cons p r ih =>
  have hl : (pceC p).length = 5 := rfl
  cases k with
  | zero =>
   rw [Kao, Kc1, Ka0, List.set_append_left _ _ (by omega), Kcy, Kao, hp]
   rfl
  | succ k =>
   rw [Kao, Kc2 _ _ (by rw [hl]; omega), hl, show (k + 1) * 5 + j - 5 = k * 5 + j by omega, ih k (by simpa using h) hp]
   rfl
theorem OwnsP.put {w : World} {base g cap n : Nat} {ps : List Pce} (h : OwnsP w base (.slice (some ⟨g, 0, none⟩) n cap) ps) (i j : Nat) (hi : i < ps.length) (hj : j < 5) (p' : Pce) (u : Value) (hu : pceC p' = (pceC ps[i]).set j u) :
 OwnsP (w.setCell ⟨g, i * 5 + j, none⟩ u) base (.slice (some ⟨g, 0, none⟩) n cap) (ps.set i p') := by
 obtain ⟨_, _, e⟩ := h.form
 injection e with _ e _
 subst e
 have h' : w.ownsRow base 65 5 (.slice (some ⟨g, 0, none⟩) ps.length cap) ps.length (ps.flatMap pceC) := h
 have qE := (h'.stored (i * 5 + j) u).1
 unfold OwnsP
 rw [Kb8, <- ZdG ps i j hi hj u p' hu]
 exact qE
theorem OwnsP.at {w : World} {base g cap n : Nat} {ps : List Pce} (h : OwnsP w base (.slice (some ⟨g, 0, none⟩) n cap) ps) (i j : Nat) (hi : i < ps.length) (hj : j < 5) : w.cell? ⟨g, i * 5 + j, none⟩ = (pceC ps[i])[j]? /\ w.frozen? ⟨g, i * 5 + j, none⟩ = false /\ base <= g /\ g < w.1.size := by
 obtain ⟨_, _, e⟩ := h.form
 injection e with _ e _
 subst e
 have h' : w.ownsRow base 65 5 (.slice (some ⟨g, 0, none⟩) ps.length cap) ps.length (ps.flatMap pceC) := h
 exact ⟨by rw [h'.cellAt (i * 5 + j) (by omega), ZcW ps i j hi hj], h'.frozenAt _, h'.lt g rfl⟩
def exCs : List ByteArray := [Zic, Zic, c200]
def ZgP (k : Nat) : List Pce := (List.range 3).map (fun i => if i < k then ⟨1 + (i : Int), 0, exCs.getD i ⟨#[]⟩, 10, decide (i = 0)⟩ else Zak i (exCs.getD i ⟨#[]⟩))
theorem Zg7 {k : Nat} (h : k < 3) : (ZgP k)[k]'(by simpa [ZgP] using h) = Zak k (exCs.getD k ⟨#[]⟩) := by simp [ZgP]
theorem Zg6 {k : Nat} (h : k < 3) : ZgP (k + 1) = (ZgP k).set k ⟨1 + (k : Int), 0, exCs.getD k ⟨#[]⟩, 10, decide (k = 0)⟩ := by
 have : k = 0 \/ k = 1 \/ k = 2 := by omega
 rcases this with rfl | rfl | rfl <;> rfl
theorem Zi0 : ZgP 3 = exMl.ps := rfl
theorem Z6s (k : Nat) : (ZgP k).length = 3 := by simp [ZgP]
abbrev Z9R (w : World) (g : Nat) (a b c d : Value) : World := (((w.setCell ⟨g, 0, none⟩ a).setCell ⟨g, 1, none⟩ b).setCell ⟨g, 2, none⟩ c).setCell ⟨g, 3, none⟩ d
def exO : Obj := .cells #[.string ⟨#[51]⟩, .int .i64 3, .slice none 0 0, .int .i64 2, .int .i64 5, .string ⟨#[97, 108, 108]⟩, .int .i64 0, .slice none 0 0, .int .i64 0, .int .i64 0] 63
theorem Zg5 {W : World} {g : Nat} (hg : W.1[g]? = some exO) : RdLevs W (.slice (some ⟨g, 0, none⟩) 2 2) exS := by
 have qF := (Z5.1 hg).1
 have cg : ∀ j, W.cell? ⟨g, j, none⟩ = _ := fun j => Kaa W g j _ _ _ hg
 refine ⟨_, 2, rfl, fun _ => ⟨g, 0, rfl, qF, fun i hi => ?_⟩⟩
 have h3 : i = 0 \/ i = 1 := by have : i < 2 := hi; omega
 rcases h3 with rfl | rfl
 ·exact ⟨.slice none 0 0, Zf2 W, cg 0, cg 1, cg 2, cg 3, cg 4⟩
 ·exact ⟨.slice none 0 0, Zf2 W, cg 5, cg 6, cg 7, cg 8, cg 9⟩
theorem ZhB {w : World} {base n : Nat} {v : Value} {ps : List Pce} (h : OwnsP w base v ps) (hn : ps.length = n) (h0 : 0 < n) : ∃ g cap, v = .slice (some ⟨g, 0, none⟩) n cap /\ base <= g /\ g < w.1.size := by
 have h' : w.ownsRow base 65 5 v ps.length (ps.flatMap pceC) := h
 rcases Joins.ownsRow_forms h' with ⟨_, hp⟩ | ⟨g, cap, rfl⟩
 ·omega
 ·exact ⟨g, cap, by rw [hn], h'.lt g rfl⟩
theorem Z0o {w : World} {g : Nat} {a b c d : Value} {t : TypeId} (h : w.1[g]? = some (.cells #[a, b, c, d] t (0, 0))) :
 w.cell? ⟨g, 0, none⟩ = some a /\ w.cell? ⟨g, 1, none⟩ = some b /\ w.cell? ⟨g, 2, none⟩ = some c /\ w.cell? ⟨g, 3, none⟩ = some d /\ w.frozen? ⟨g, 0, none⟩ = false /\ w.frozen? ⟨g, 1, none⟩ = false /\ w.frozen? ⟨g, 2, none⟩ = false /\ w.frozen? ⟨g, 3, none⟩ = false :=
 ⟨Kaa _ _ 0 _ _ _ h, Kaa _ _ 1 _ _ _ h, Kaa _ _ 2 _ _ _ h, Kaa _ _ 3 _ _ _ h, by simp [World.frozen?, h], by simp [World.frozen?, h], by simp [World.frozen?, h], by simp [World.frozen?, h]⟩
theorem Zbf {fn : Func} {p q u : Tmp} {ty tz : TypeId} (h : fn.results = #[.tmp u, .cell p ty, .cell q tz]) (tmps : Array Value) (w : World) (g g' : Nat) (x y : Value)
 (hp : tmps.getD p undef = .pointer (some ⟨g, 0, none⟩)) (hq : tmps.getD q undef = .pointer (some ⟨g', 0, none⟩)) (hL : (loadVar ty ⟨g, 0, none⟩).run Tryz.prog w = .ok x w) (hM : (loadVar tz ⟨g', 0, none⟩).run Tryz.prog w = .ok y w) :
 (results fn tmps).run Tryz.prog w = .ok (.tuple #[tmps.getD u undef, x, y]) w := by
 have hp' : tmps[p]?.getD undef = .pointer (some ⟨g, 0, none⟩) := by simpa using hp
 have hq' : tmps[q]?.getD undef = .pointer (some ⟨g', 0, none⟩) := by simpa using hq
 simp [results, h, hp', hq', asAddr, hL, hM, Result.andThen]
theorem Z2w {w : World} {g b : Nat} {a a1 a2 a3 : Value} (h : b ≠ g) : (Z9R w g a a1 a2 a3).1[b]? = w.1[b]? :=
 ((ZA _ _ _ _ h).trans (ZA _ _ _ _ h)).trans ((ZA _ _ _ _ h).trans (ZA _ _ _ _ h))
theorem Z5Q {B : Nat} {w w' : World} {g : Nat} {a a1 a2 a3 : Value} (h : Below B w w') (hg : B <= g) : Below B w (Z9R w' g a a1 a2 a3) :=
 (((h.setCell (p := ⟨g, 0, none⟩) hg _).setCell (p := ⟨g, 1, none⟩) hg _).setCell (p := ⟨g, 2, none⟩) hg _).setCell (p := ⟨g, 3, none⟩) hg _
theorem Z9p (w : World) : Calls Tryz.prog 21 #[] w fun e w' => ∃ vl vp, e = .returned (.tuple #[vl, Z2r exMl vp, Z4J exK]) /\ Below w.1.size w w' /\ RdLevs w' vl exS /\ RdPces w' vp exMl.ps := by
 have pJ : Hid (∀ W u, ReadsT W u exCs -> Calls Tryz.prog 59 #[u] W fun e w' => ∃ g cp, e = .returned (.agg #[.int .u8 1, .int .u8 1, .string ⟨#[49, 48, 48, 48, 48]⟩, .slice (some ⟨g, 0, none⟩) 3 cp]) /\ Below W.1.size W w' /\ OwnsP w' W.1.size (.slice (some ⟨g, 0, none⟩) 3 cp) (ZgP 0) /\ W.1.size <= g /\ g < w'.1.size) := by
  intro W u hu
  refine (ZhJ exCs u W hu (by decide)).mono ?_
  rintro e w1 ⟨vp, rfl, pD, pE⟩
  obtain ⟨g, cp, rfl, pN, pO⟩ := ZhB pE (n := 3) rfl (by decide)
  exact ⟨g, cp, rfl, pD, pE, pN, pO⟩
 obtain ⟨W0, pF⟩ : ∃ W0, W0 = ((w.alloc (.cells #[.int .u8 0, .int .u8 0, .string ⟨#[]⟩, .slice none 0 0] 34)).alloc (.cells #[.int .i64 0, .int .i64 0, .int .i64 0, .int .i64 0] 37)).alloc (.cells #[.string ⟨#[49, 48, 48]⟩, .string ⟨#[49, 48, 48]⟩, .string ⟨#[50, 48, 48]⟩] 9) := ⟨_, rfl⟩
 obtain ⟨k1, k2, k3⟩ := ZaU pF
 have qS : W0.1.size = w.1.size + 3 := by rw [pF, Z6, Z6, Z6]
 have pP : Below w.1.size w W0 := by
  rw [pF]
  exact (((Z9 _ w).alloc (Z1 _) _).alloc (by simp) _).alloc (by simp; omega) _
 have pQ : ReadsT W0 (.slice (some ⟨w.1.size + 1 + 1, 0, none⟩) 3 3) exCs := Zhl (T := 9) exCs k3
 have qG := Z0 pQ
 have qH := Z0 pF
 have K1 := Z0 k1
 have K2 := Z0 k2
 have pR := Z0 pP
 clear pQ pF k1 k2 k3 pP
 go_enter Tryz.func21, Tryz.ntmps21
 go_wp2_with fail
 rw [<- qH.out]
 refine (pJ.out _ _ qG.out).mono ?_
 rintro e w1 ⟨g, cp, rfl, pD, pE, pN, pO⟩
 have qT := pD.size
 have q1 := (pD.block w.1.size (by omega)).trans K1.out
 have q2 := (pD.block (w.1.size + 1) (by omega)).trans K2.out
 have pS := Z0 (Z01 pR.out pR.out.size pD)
 have Q1 := Z0 q1
 have Q2 := Z0 q2
 have qI := Z0 pE
 clear pD pE q1 q2
 go_wp2_with fail
 have pT := (Z9 w1.1.size w1).alloc (Z1 _) (.cells #[.int .u8 1, .int .u8 1, .string ⟨#[49, 48, 48, 50, 51]⟩, .slice (some ⟨g, 0, none⟩) 3 cp] 34)
 have pG := Z0 pT
 have pU : Hid (w1.1.size + 1 <= (w1.alloc (.cells #[.int .u8 1, .int .u8 1, .string ⟨#[49, 48, 48, 50, 51]⟩, .slice (some ⟨g, 0, none⟩) 3 cp] 34)).1.size) := by show _ <= _; simp
 have pV := Z0 (Z02 w1 (.cells #[.int .u8 1, .int .u8 1, .string ⟨#[49, 48, 48, 50, 51]⟩, .slice (some ⟨g, 0, none⟩) 3 cp] 34))
 clear pT
 go_loopw [11] (fun i wr => ∃ k : Nat, k <= 3 /\ i = .int .i64 k /\ Below w.1.size w wr /\ w1.1.size + 1 <= wr.1.size /\ wr.1[w.1.size]? = some (.cells #[.int .u8 0, .int .u8 0, .string ⟨#[]⟩, .slice none 0 0] 34 (0, 0)) /\ wr.1[w.1.size + 1]? = some (.cells #[.int .i64 0, .int .i64 0, .int .i64 0, .int .i64 0] 37 (0, 0)) /\
  wr.1[w1.1.size]? = some (.cells #[.int .u8 1, .int .u8 1, .string ⟨#[49, 48, 48, 50, 51]⟩, .slice (some ⟨g, 0, none⟩) 3 cp] 34 (0, 0)) /\ OwnsP wr (w.1.size + 3) (.slice (some ⟨g, 0, none⟩) 3 cp) (ZgP k)) (fun i _ => 3 - (intOf i).toNat)
 case atStart =>
  exact ⟨0, by omega, rfl, Z01 pS.out pS.out.size pG.out, pU.out, (pG.out.block _ (by omega)).trans Q1.out, (pG.out.block _ (by omega)).trans Q2.out, pV.out, OwnsP.mono (Z09 qI.out pG.out) (by omega)⟩
 case round =>
  clear pG pU pV
  obtain ⟨k, hk, rfl, hB, hz, h0, pI, h1, hO⟩ := hrel
  have HB := Z0 hB
  have H0 := Z0 h0
  have pW := Z0 pI
  have H1 := Z0 h1
  have HO := Z0 hO
  by_cases pC : k < 3
  ·obtain ⟨q1, q2, q3, q4⟩ := OwnsP.at hO k 3 (by rw [Z6s]; exact pC) (by decide)
   obtain ⟨r1, r2, _, _⟩ := OwnsP.at hO k 4 (by rw [Z6s]; exact pC) (by decide)
   have pX := OwnsP.put hO k 3 (by rw [Z6s]; exact pC) (by decide) ⟨1 + (k : Int), 0, exCs.getD k ⟨#[]⟩, 10, false⟩ (.int .i64 10) (by rw [Zg7 pC]; rfl)
   have pK := OwnsP.put pX k 4 (by rw [Kb8, Z6s]; exact pC) (by decide) ⟨1 + (k : Int), 0, exCs.getD k ⟨#[]⟩, 10, decide (k = 0)⟩ (.bool (decide (k = 0))) (by rw [List.getElem_set_self]; rfl)
   rw [List.set_set, <- Zg6 pC] at pK
   rw [Zg7 pC] at q1 r1
   have b3 := Kaa _ _ 3 _ _ _ h1
   have q1' : wr.cell? ⟨g, k * 5 + 3, none⟩ = some (.int .i64 (1 + (k : Int) % 20)) := q1
   have r1' : wr.cell? ⟨g, k * 5 + 4, none⟩ = some (.bool false) := r1
   have qU : ((k : Int) == 0) = decide (k = 0) := by
    rw [Kcz]; simp
   have qJ := Z0 pK
   have qK : g ≠ w1.1.size := by omega
   have pY : w1.1.size < wr.1.size := by omega
   clear h0 pI h1 hO q1 r1 pX pK pJ
   go_wp2_with fail
   go_region_held3 (fun w' => w'.cell? ⟨w1.1.size, 3, none⟩ = some (.slice (some ⟨g, 0, none⟩) 3 cp))
    (first | exact b3 | (simp only [Z9o qK, Zgb]; exact b3))
    (fail)
   go_wp2_with fail
   go_roundw
   case rel =>
    have e1 : ∀ b, b ≠ g -> ((wr.setCell ⟨g, k * 5 + 3, none⟩ (.int .i64 10)).setCell ⟨g, k * 5 + 4, none⟩ (.bool (decide (k = 0)))).1[b]? = wr.1[b]? := fun b hb => (ZA _ _ _ _ hb).trans (ZA _ _ _ _ hb)
    exact ⟨k + 1, by omega, by go_num, ((HB.out.setCell (p := ⟨g, k * 5 + 3, none⟩) (by show w.1.size <= g; omega) _).setCell (p := ⟨g, k * 5 + 4, none⟩) (by show w.1.size <= g; omega) _).drew, by simp [World.setCell]; omega, (e1 _ (by omega)).trans H0.out, (e1 _ (by omega)).trans pW.out, (e1 _ (by omega)).trans H1.out, qJ.out⟩
   case measure => simp [intOf]; omega
  ·obtain rfl : k = 3 := by omega
   have pZ : w.1.size + 1 < wr.1.size := by omega
   have pY : w1.1.size < wr.1.size := by omega
   have qV : w.1.size + 3 <= w1.1.size := by omega
   have pL : ∀ W : World, W.1[w1.1.size]? = wr.1[w1.1.size]? -> W.cell? ⟨w1.1.size, 0, none⟩ = some (.int .u8 1) /\ W.cell? ⟨w1.1.size, 1, none⟩ = some (.int .u8 1) /\ W.cell? ⟨w1.1.size, 2, none⟩ = some (.string ⟨#[49, 48, 48, 50, 51]⟩) /\ W.cell? ⟨w1.1.size, 3, none⟩ = some (.slice (some ⟨g, 0, none⟩) 3 cp) := fun W h => by
    have h2 := h.trans h1
    exact ⟨Kaa _ _ 0 _ _ _ h2, Kaa _ _ 1 _ _ _ h2, Kaa _ _ 2 _ _ _ h2, Kaa _ _ 3 _ _ _ h2⟩
   have qA := Z0 (pL wr rfl)
   have pM := pL (wr.alloc exO) (ZB _ _ _ pY)
   unfold exO at pM
   have qB := Z0 pM
   have qL : w.1.size ≠ w1.1.size := by omega
   have qM : w.1.size + 1 ≠ w1.1.size := by omega
   clear pM
   obtain ⟨W2, pH⟩ : ∃ W2, W2 = wr.alloc exO := ⟨_, rfl⟩
   have pA : Below wr.1.size wr W2 := by rw [pH]; exact (Z9 _ wr).alloc (Z1 _) _
   have qN := Z0 pA
   obtain ⟨m0, m1, m2, m3, n0, n1, n2, n3⟩ := Z0o ((pA.block _ (by omega)).trans h0)
   obtain ⟨x0, x1, x2, x3, y0, y1, y2, y3⟩ := Z0o ((pA.block _ pZ).trans pI)
   have qC := Z0 pH
   unfold exO at pH
   rw [pH] at m0 m1 m2 m3 n0 n1 n2 n3 x0 x1 x2 x3 y0 y1 y2 y3
   clear h0 pI h1 hO pL pA pH pC pJ
   go_wp2_with fail
   go_region_held3 (fun W => W.cell? ⟨w1.1.size, 0, none⟩ = some (.int .u8 1) /\ W.cell? ⟨w1.1.size, 1, none⟩ = some (.int .u8 1) /\ W.cell? ⟨w1.1.size, 2, none⟩ = some (.string ⟨#[49, 48, 48, 50, 51]⟩) /\ W.cell? ⟨w1.1.size, 3, none⟩ = some (.slice (some ⟨g, 0, none⟩) 3 cp))
    (first | with_reducible exact qA.out | with_reducible exact qB.out | (simp only [Z9o qL, Z9o qM, Zgb]; (first | with_reducible exact qA.out | with_reducible exact qB.out)))
    (fail)
   go_wp2_with fail
   obtain ⟨wf, pB⟩ : ∃ wf, wf = Z9R (Z9R W2 w.1.size (.int .u8 1) (.int .u8 1) (.string ⟨#[49, 48, 48, 50, 51]⟩) (.slice (some ⟨g, 0, none⟩) 3 cp)) (w.1.size + 1) (.int .i64 10) (.int .i64 1000) (.int .i64 10) (.int .i64 10) := ⟨_, rfl⟩
   have pA := qN.out
   have g0 := (pA.block _ (by omega)).trans H0.out
   have g1 := (pA.block _ pZ).trans pW.out
   have qD : wf.1[w.1.size]? = some (.cells #[.int .u8 1, .int .u8 1, .string ⟨#[49, 48, 48, 50, 51]⟩, .slice (some ⟨g, 0, none⟩) 3 cp] 34 (0, 0)) := by rw [pB, Z2w (by omega)]; exact Ziu g0
   have qO : wf.1[w.1.size + 1]? = some (.cells #[.int .i64 10, .int .i64 1000, .int .i64 10, .int .i64 10] 37 (0, 0)) := by rw [pB]; exact Ziu ((Z2w (by omega)).trans g1)
   have qP : Below w.1.size w wf := by rw [pB]; exact Z5Q (Z5Q (Z01 HB.out HB.out.size pA) (Z1 _)) (Kbd _)
   have qQ : OwnsP wf (w.1.size + 3) (.slice (some ⟨g, 0, none⟩) 3 cp) exMl.ps := by
    rw [pB, <- Zi0]
    exact Z3O (Z3O (Z09 HO.out pA) (by omega) _ _ _ _) (by omega) _ _ _ _
   have qR : wf.1[wr.1.size]? = some exO := by
    rw [pB, Z2w (by omega), Z2w (by omega), qC.out]
    exact Z02 wr exO
   have qW := Z0 qD
   rw [qC.out] at pB
   unfold exO at pB
   simp only [Z9R] at pB
   rw [<- pB]
   refine bodyPost_ret (Zbf rfl _ _ w.1.size (w.1.size + 1) _ _ rfl rfl (run_loadVar_row _ _ _ _ _ _ _ qD Tryz.underlying34 rfl (by kernel_rfl)) (run_loadVar_row _ _ _ _ _ _ _ qO Tryz.underlying37 rfl (by kernel_rfl))) rfl ?_
   exact ⟨_, .slice (some ⟨g, 0, none⟩) 3 cp, rfl, qP.drew, Zg5 qR, RdPces.of_owns qQ⟩
end Go.Proofs.YtlgajongmkhcnaaGreatDoor
