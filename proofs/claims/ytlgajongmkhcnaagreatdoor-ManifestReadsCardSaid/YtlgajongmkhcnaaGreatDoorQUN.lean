import Derived.Test.YtlgajongmkhcnaaGreatDoorQUL
import Derived.Test.YtlgajongmkhcnaaGreatDoorQUF
import Derived.Test.YtlgajongmkhcnaaGreatDoorQUb
import Derived.Deep.RegionHeld3
import Derived.Deep.DeepCutAuto
import Derived.Deep.DrawnRows
import Derived.BigRegion
import Derived.Test.YtlgajongmkhcnaaGreatDoorQUH
import Derived.Test.YtlgajongmkhcnaaGreatDoorQUK
set_option maxRecDepth 100000
set_option linter.unusedVariables false
set_option linter.unusedSimpArgs false
set_option maxHeartbeats 32000000
namespace Go.Proofs.YtlgajongmkhcnaaGreatDoor
open Go.RowKit Go.Sort
theorem OwnsP.form {w : World} {base : Nat} {v : Value} {ps : List Pce} (h : OwnsP w base v ps) : ∃ a cap, v = .slice a ps.length cap := by
 rcases Joins.ownsRow_forms h with ⟨rfl, hp⟩ | ⟨g, cap, rfl⟩
 ·exact ⟨none, 0, by rw [hp]⟩
 ·exact ⟨_, cap, rfl⟩
theorem ZdG (L : List Pce) (k j : Nat) (h : k < L.length) (hj : j < 5) (u : Value) (p' : Pce) (hp : pceC p' = (pceC L[k]).set j u) : (L.flatMap pceC).set (k * 5 + j) u = (L.set k p').flatMap pceC := by
 induction L generalizing k with
 | nil => simp at h
 | cons p r ih =>
  have hl : (pceC p).length = 5 := rfl
  cases k with
  | zero =>
   rw [Kao, Kc1, Ka0, List.set_append_left _ _ (by omega), Kcy, Kao, hp]
   rfl
  | succ k =>
   rw [Kao, Kc2 _ _ (by rw [hl]; omega), hl, show (k + 1) * 5 + j - 5 = k * 5 + j by omega, ih k (by simpa using h) hp]
   rfl
theorem OwnsP.put {w : World} {base g cap n : Nat} {ps : List Pce} (h : OwnsP w base (.slice (some ⟨g, 0, none⟩) n cap) ps) (i j : Nat) (hi : i < ps.length) (hj : j < 5) (p' : Pce) (u : Value) (hu : pceC p' = (pceC ps[i]).set j u) :
 OwnsP (w.setCell ⟨g, i * 5 + j, none⟩ u) base (.slice (some ⟨g, 0, none⟩) n cap) (ps.set i p') := by
 obtain ⟨_, _, e⟩ := h.form
 injection e with _ e _
 subst e
 have h' : w.ownsRow base 65 5 (.slice (some ⟨g, 0, none⟩) ps.length cap) ps.length (ps.flatMap pceC) := h
 have rR := (h'.stored (i * 5 + j) u).1
 unfold OwnsP
 rw [Kb8, <- ZdG ps i j hi hj u p' hu]
 exact rR
theorem OwnsP.at {w : World} {base g cap n : Nat} {ps : List Pce} (h : OwnsP w base (.slice (some ⟨g, 0, none⟩) n cap) ps) (i j : Nat) (hi : i < ps.length) (hj : j < 5) : w.cell? ⟨g, i * 5 + j, none⟩ = (pceC ps[i])[j]? /\ w.frozen? ⟨g, i * 5 + j, none⟩ = false /\ base <= g /\ g < w.1.size := by
 obtain ⟨_, _, e⟩ := h.form
 injection e with _ e _
 subst e
 have h' : w.ownsRow base 65 5 (.slice (some ⟨g, 0, none⟩) ps.length cap) ps.length (ps.flatMap pceC) := h
 exact ⟨by rw [h'.cellAt (i * 5 + j) (by omega), ZcW ps i j hi hj], h'.frozenAt _, h'.lt g rfl⟩
def exCs : List ByteArray := [Zic, Zic, c200]
def ZgP (k : Nat) : List Pce := (List.range 3).map (fun i => if i < k then ⟨1 + (i : Int), 0, exCs.getD i ⟨#[]⟩, 10, decide (i = 0)⟩ else Zak i (exCs.getD i ⟨#[]⟩))
theorem Zg7 {k : Nat} (h : k < 3) : (ZgP k)[k]'(by simpa [ZgP] using h) = Zak k (exCs.getD k ⟨#[]⟩) := by simp [ZgP]
theorem Zg6 {k : Nat} (h : k < 3) : ZgP (k + 1) = (ZgP k).set k ⟨1 + (k : Int), 0, exCs.getD k ⟨#[]⟩, 10, decide (k = 0)⟩ := by
 have : k = 0 \/ k = 1 \/ k = 2 := by omega
 rcases this with rfl | rfl | rfl <;> rfl
theorem Zi0 : ZgP 3 = exMl.ps := rfl
theorem Z6s (k : Nat) : (ZgP k).length = 3 := by simp [ZgP]
abbrev Z9R (w : World) (g : Nat) (a b c d : Value) : World := (((w.setCell ⟨g, 0, none⟩ a).setCell ⟨g, 1, none⟩ b).setCell ⟨g, 2, none⟩ c).setCell ⟨g, 3, none⟩ d
def exO : Obj := .cells #[.string ⟨#[51]⟩, .int .i64 3, .slice none 0 0, .int .i64 2, .int .i64 5, .string ⟨#[97, 108, 108]⟩, .int .i64 0, .slice none 0 0, .int .i64 0, .int .i64 0] 63
theorem Zg5 {W : World} {g : Nat} (hg : W.1[g]? = some exO) : RdLevs W (.slice (some ⟨g, 0, none⟩) 2 2) exS := by
 have rS := (Z5.1 hg).1
 have cg : ∀ j, W.cell? ⟨g, j, none⟩ = _ := fun j => Kaa W g j _ _ _ hg
 refine ⟨_, 2, rfl, fun _ => ⟨g, 0, rfl, rS, fun i hi => ?_⟩⟩
 have h3 : i = 0 \/ i = 1 := by have : i < 2 := hi; omega
 rcases h3 with rfl | rfl
 ·exact ⟨.slice none 0 0, Zf2 W, cg 0, cg 1, cg 2, cg 3, cg 4⟩
 ·exact ⟨.slice none 0 0, Zf2 W, cg 5, cg 6, cg 7, cg 8, cg 9⟩
theorem ZhB {w : World} {base n : Nat} {v : Value} {ps : List Pce} (h : OwnsP w base v ps) (hn : ps.length = n) (h0 : 0 < n) : ∃ g cap, v = .slice (some ⟨g, 0, none⟩) n cap /\ base <= g /\ g < w.1.size := by
 have h' : w.ownsRow base 65 5 v ps.length (ps.flatMap pceC) := h
 rcases Joins.ownsRow_forms h' with ⟨_, hp⟩ | ⟨g, cap, rfl⟩
 ·omega
 ·exact ⟨g, cap, by rw [hn], h'.lt g rfl⟩
theorem Z0o {w : World} {g : Nat} {a b c d : Value} {t : TypeId} (h : w.1[g]? = some (.cells #[a, b, c, d] t (0, 0))) :
 w.cell? ⟨g, 0, none⟩ = some a /\ w.cell? ⟨g, 1, none⟩ = some b /\ w.cell? ⟨g, 2, none⟩ = some c /\ w.cell? ⟨g, 3, none⟩ = some d /\ w.frozen? ⟨g, 0, none⟩ = false /\ w.frozen? ⟨g, 1, none⟩ = false /\ w.frozen? ⟨g, 2, none⟩ = false /\ w.frozen? ⟨g, 3, none⟩ = false :=
 ⟨Kaa _ _ 0 _ _ _ h, Kaa _ _ 1 _ _ _ h, Kaa _ _ 2 _ _ _ h, Kaa _ _ 3 _ _ _ h, by simp [World.frozen?, h], by simp [World.frozen?, h], by simp [World.frozen?, h], by simp [World.frozen?, h]⟩
theorem Zbf {fn : Func} {p q u : Tmp} {ty tz : TypeId} (h : fn.results = #[.tmp u, .cell p ty, .cell q tz]) (tmps : Array Value) (w : World) (g g' : Nat) (x y : Value)
 (hp : tmps.getD p undef = .pointer (some ⟨g, 0, none⟩)) (hq : tmps.getD q undef = .pointer (some ⟨g', 0, none⟩)) (hL : (loadVar ty ⟨g, 0, none⟩).run Tryz.prog w = .ok x w) (hM : (loadVar tz ⟨g', 0, none⟩).run Tryz.prog w = .ok y w) :
 (results fn tmps).run Tryz.prog w = .ok (.tuple #[tmps.getD u undef, x, y]) w := by
 have hp' : tmps[p]?.getD undef = .pointer (some ⟨g, 0, none⟩) := by simpa using hp
 have hq' : tmps[q]?.getD undef = .pointer (some ⟨g', 0, none⟩) := by simpa using hq
 simp [results, h, hp', hq', asAddr, hL, hM, Result.andThen]
theorem Z2w {w : World} {g b : Nat} {a a1 a2 a3 : Value} (h : b ≠ g) : (Z9R w g a a1 a2 a3).1[b]? = w.1[b]? :=
 ((ZA _ _ _ _ h).trans (ZA _ _ _ _ h)).trans ((ZA _ _ _ _ h).trans (ZA _ _ _ _ h))
theorem Z5Q {B : Nat} {w w' : World} {g : Nat} {a a1 a2 a3 : Value} (h : Below B w w') (hg : B <= g) : Below B w (Z9R w' g a a1 a2 a3) :=
 (((h.setCell (p := ⟨g, 0, none⟩) hg _).setCell (p := ⟨g, 1, none⟩) hg _).setCell (p := ⟨g, 2, none⟩) hg _).setCell (p := ⟨g, 3, none⟩) hg _
theorem Z9p (w : World) : Calls Tryz.prog 21 #[] w fun e w' => ∃ vl vp, e = .returned (.tuple #[vl, Z2r exMl vp, Z4J exK]) /\ Below w.1.size w w' /\ RdLevs w' vl exS /\ RdPces w' vp exMl.ps := by
 have pP : Hid (∀ W u, ReadsT W u exCs -> Calls Tryz.prog 59 #[u] W fun e w' => ∃ g cp, e = .returned (.agg #[.int .u8 1, .int .u8 1, .string ⟨#[49, 48, 48, 48, 48]⟩, .slice (some ⟨g, 0, none⟩) 3 cp]) /\ Below W.1.size W w' /\ OwnsP w' W.1.size (.slice (some ⟨g, 0, none⟩) 3 cp) (ZgP 0) /\ W.1.size <= g /\ g < w'.1.size) := by
  intro W u hu
  refine (ZhJ exCs u W hu (by decide)).mono ?_
  rintro e w1 ⟨vp, rfl, pA, pH⟩
  obtain ⟨g, cp, rfl, qB, qC⟩ := ZhB pH (n := 3) rfl (by decide)
  exact ⟨g, cp, rfl, pA, pH, qB, qC⟩
 obtain ⟨W0, pI⟩ : ∃ W0, W0 = ((w.alloc (.cells #[.int .u8 0, .int .u8 0, .string ⟨#[]⟩, .slice none 0 0] 34)).alloc (.cells #[.int .i64 0, .int .i64 0, .int .i64 0, .int .i64 0] 37)).alloc (.cells #[.string ⟨#[49, 48, 48]⟩, .string ⟨#[49, 48, 48]⟩, .string ⟨#[50, 48, 48]⟩] 9) := ⟨_, rfl⟩
 obtain ⟨k1, k2, k3⟩ := ZaU pI
 have sK : W0.1.size = w.1.size + 3 := by rw [pI, Z6, Z6, Z6]
 have qD : Below w.1.size w W0 := by
  rw [pI]
  exact (((Z9 _ w).alloc (Z1 _) _).alloc (by simp) _).alloc (by simp; omega) _
 have qE : ReadsT W0 (.slice (some ⟨w.1.size + 1 + 1, 0, none⟩) 3 3) exCs := Zhl (T := 9) exCs k3
 have rT := Z0 qE
 have rU := Z0 pI
 have K1 := Z0 k1
 have K2 := Z0 k2
 have qF := Z0 qD
 clear qE pI k1 k2 k3 qD
 go_enter Tryz.func21, Tryz.ntmps21
 go_wp2_with fail
 rw [<- rU.out]
 refine (pP.out _ _ rT.out).mono ?_
 rintro e w1 ⟨g, cp, rfl, pA, pH, qB, qC⟩
 have sL := pA.size
 have q1 := (pA.block w.1.size (by omega)).trans K1.out
 have q2 := (pA.block (w.1.size + 1) (by omega)).trans K2.out
 have pG := Z0 (Z01 qF.out qF.out.size pA)
 have Q1 := Z0 q1
 have Q2 := Z0 q2
 have rV := Z0 pH
 clear pA pH q1 q2
 go_wp2_with fail
 have qG := (Z9 w1.1.size w1).alloc (Z1 _) (.cells #[.int .u8 1, .int .u8 1, .string ⟨#[49, 48, 48, 50, 51]⟩, .slice (some ⟨g, 0, none⟩) 3 cp] 34)
 have pJ := Z0 qG
 have qH : Hid (w1.1.size + 1 <= (w1.alloc (.cells #[.int .u8 1, .int .u8 1, .string ⟨#[49, 48, 48, 50, 51]⟩, .slice (some ⟨g, 0, none⟩) 3 cp] 34)).1.size) := by show _ <= _; simp
 have qI := Z0 (Z02 w1 (.cells #[.int .u8 1, .int .u8 1, .string ⟨#[49, 48, 48, 50, 51]⟩, .slice (some ⟨g, 0, none⟩) 3 cp] 34))
 clear qG
 go_loopw [11] (fun i wr => ∃ k : Nat, k <= 3 /\ i = .int .i64 k /\ Below w.1.size w wr /\ w1.1.size + 1 <= wr.1.size /\ wr.1[w.1.size]? = some (.cells #[.int .u8 0, .int .u8 0, .string ⟨#[]⟩, .slice none 0 0] 34 (0, 0)) /\ wr.1[w.1.size + 1]? = some (.cells #[.int .i64 0, .int .i64 0, .int .i64 0, .int .i64 0] 37 (0, 0)) /\
  wr.1[w1.1.size]? = some (.cells #[.int .u8 1, .int .u8 1, .string ⟨#[49, 48, 48, 50, 51]⟩, .slice (some ⟨g, 0, none⟩) 3 cp] 34 (0, 0)) /\ OwnsP wr (w.1.size + 3) (.slice (some ⟨g, 0, none⟩) 3 cp) (ZgP k)) (fun i _ => 3 - (intOf i).toNat)
 case atStart =>
  exact ⟨0, by omega, rfl, Z01 pG.out pG.out.size pJ.out, qH.out, (pJ.out.block _ (by omega)).trans Q1.out, (pJ.out.block _ (by omega)).trans Q2.out, qI.out, OwnsP.mono (Z09 rV.out pJ.out) (by omega)⟩
 case round =>
  clear pJ qH qI
  obtain ⟨k, hk, rfl, hB, hz, h0, pN, h1, hO⟩ := hrel
  have HB := Z0 hB
  have H0 := Z0 h0
  have qJ := Z0 pN
  have H1 := Z0 h1
  have HO := Z0 hO
  by_cases pB : k < 3
  ·obtain ⟨q1, q2, q3, q4⟩ := OwnsP.at hO k 3 (by rw [Z6s]; exact pB) (by decide)
   obtain ⟨r1, r2, _, _⟩ := OwnsP.at hO k 4 (by rw [Z6s]; exact pB) (by decide)
   have qK := OwnsP.put hO k 3 (by rw [Z6s]; exact pB) (by decide) ⟨1 + (k : Int), 0, exCs.getD k ⟨#[]⟩, 10, false⟩ (.int .i64 10) (by rw [Zg7 pB]; rfl)
   have pQ := OwnsP.put qK k 4 (by rw [Kb8, Z6s]; exact pB) (by decide) ⟨1 + (k : Int), 0, exCs.getD k ⟨#[]⟩, 10, decide (k = 0)⟩ (.bool (decide (k = 0))) (by rw [List.getElem_set_self]; rfl)
   rw [List.set_set, <- Zg6 pB] at pQ
   rw [Zg7 pB] at q1 r1
   have b3 := Kaa _ _ 3 _ _ _ h1
   have q1' : wr.cell? ⟨g, k * 5 + 3, none⟩ = some (.int .i64 (1 + (k : Int) % 20)) := q1
   have r1' : wr.cell? ⟨g, k * 5 + 4, none⟩ = some (.bool false) := r1
   have sM : ((k : Int) == 0) = decide (k = 0) := by
    rw [Kcz]; simp
   have rW := Z0 pQ
   have rX : g ≠ w1.1.size := by omega
   have qL : w1.1.size < wr.1.size := by omega
   clear h0 pN h1 hO q1 r1 qK pQ pP
   go_wp2_with fail
   go_region_held3 (fun w' => w'.cell? ⟨w1.1.size, 3, none⟩ = some (.slice (some ⟨g, 0, none⟩) 3 cp))
    (first | exact b3 | (simp only [Z9o rX, Zgb]; exact b3))
    (fail)
   go_wp2_with fail
   go_roundw
   case rel =>
    have e1 : ∀ b, b ≠ g -> ((wr.setCell ⟨g, k * 5 + 3, none⟩ (.int .i64 10)).setCell ⟨g, k * 5 + 4, none⟩ (.bool (decide (k = 0)))).1[b]? = wr.1[b]? := fun b hb => (ZA _ _ _ _ hb).trans (ZA _ _ _ _ hb)
    exact ⟨k + 1, by omega, by go_num, ((HB.out.setCell (p := ⟨g, k * 5 + 3, none⟩) (by show w.1.size <= g; omega) _).setCell (p := ⟨g, k * 5 + 4, none⟩) (by show w.1.size <= g; omega) _).drew, by simp [World.setCell]; omega, (e1 _ (by omega)).trans H0.out, (e1 _ (by omega)).trans qJ.out, (e1 _ (by omega)).trans H1.out, rW.out⟩
   case measure => simp [intOf]; omega
  ·obtain rfl : k = 3 := by omega
   have qM : w.1.size + 1 < wr.1.size := by omega
   have qL : w1.1.size < wr.1.size := by omega
   have sN : w.1.size + 3 <= w1.1.size := by omega
   have pR : ∀ W : World, W.1[w1.1.size]? = wr.1[w1.1.size]? -> W.cell? ⟨w1.1.size, 0, none⟩ = some (.int .u8 1) /\ W.cell? ⟨w1.1.size, 1, none⟩ = some (.int .u8 1) /\ W.cell? ⟨w1.1.size, 2, none⟩ = some (.string ⟨#[49, 48, 48, 50, 51]⟩) /\ W.cell? ⟨w1.1.size, 3, none⟩ = some (.slice (some ⟨g, 0, none⟩) 3 cp) := fun W h => by
    have h2 := h.trans h1
    exact ⟨Kaa _ _ 0 _ _ _ h2, Kaa _ _ 1 _ _ _ h2, Kaa _ _ 2 _ _ _ h2, Kaa _ _ 3 _ _ _ h2⟩
   have qN := Z0 (pR wr rfl)
   have pS := pR (wr.alloc exO) (ZB _ _ _ qL)
   unfold exO at pS
   have qO := Z0 pS
   have rY : w.1.size ≠ w1.1.size := by omega
   have rZ : w.1.size + 1 ≠ w1.1.size := by omega
   clear pS
   obtain ⟨W2, pC⟩ : ∃ W2, W2 = wr.alloc exO := ⟨_, rfl⟩
   have pD : Below wr.1.size wr W2 := by rw [pC]; exact (Z9 _ wr).alloc (Z1 _) _
   have sA := Z0 pD
   obtain ⟨m0, m1, m2, m3, n0, n1, n2, n3⟩ := Z0o ((pD.block _ (by omega)).trans h0)
   obtain ⟨x0, x1, x2, x3, y0, y1, y2, y3⟩ := Z0o ((pD.block _ qM).trans pN)
   have qP := Z0 pC
   unfold exO at pC
   rw [pC] at m0 m1 m2 m3 n0 n1 n2 n3 x0 x1 x2 x3 y0 y1 y2 y3
   clear h0 pN h1 hO pR pD pC pB pP
   go_wp2_with fail
   go_region_held3 (fun W => W.cell? ⟨w1.1.size, 0, none⟩ = some (.int .u8 1) /\ W.cell? ⟨w1.1.size, 1, none⟩ = some (.int .u8 1) /\ W.cell? ⟨w1.1.size, 2, none⟩ = some (.string ⟨#[49, 48, 48, 50, 51]⟩) /\ W.cell? ⟨w1.1.size, 3, none⟩ = some (.slice (some ⟨g, 0, none⟩) 3 cp))
    (first | with_reducible exact qN.out | with_reducible exact qO.out | (simp only [Z9o rY, Z9o rZ, Zgb]; (first | with_reducible exact qN.out | with_reducible exact qO.out)))
    (fail)
   go_wp2_with fail
   obtain ⟨wf, pE⟩ : ∃ wf, wf = Z9R (Z9R W2 w.1.size (.int .u8 1) (.int .u8 1) (.string ⟨#[49, 48, 48, 50, 51]⟩) (.slice (some ⟨g, 0, none⟩) 3 cp)) (w.1.size + 1) (.int .i64 10) (.int .i64 1000) (.int .i64 10) (.int .i64 10) := ⟨_, rfl⟩
   have pD := sA.out
   have g0 := (pD.block _ (by omega)).trans H0.out
   have g1 := (pD.block _ qM).trans qJ.out
   have qQ : wf.1[w.1.size]? = some (.cells #[.int .u8 1, .int .u8 1, .string ⟨#[49, 48, 48, 50, 51]⟩, .slice (some ⟨g, 0, none⟩) 3 cp] 34 (0, 0)) := by rw [pE, Z2w (by omega)]; exact Ziu g0
   have sB : wf.1[w.1.size + 1]? = some (.cells #[.int .i64 10, .int .i64 1000, .int .i64 10, .int .i64 10] 37 (0, 0)) := by rw [pE]; exact Ziu ((Z2w (by omega)).trans g1)
   have sC : Below w.1.size w wf := by rw [pE]; exact Z5Q (Z5Q (Z01 HB.out HB.out.size pD) (Z1 _)) (Kbd _)
   have sD : OwnsP wf (w.1.size + 3) (.slice (some ⟨g, 0, none⟩) 3 cp) exMl.ps := by
    rw [pE, <- Zi0]
    exact Z3O (Z3O (Z09 HO.out pD) (by omega) _ _ _ _) (by omega) _ _ _ _
   have sE : wf.1[wr.1.size]? = some exO := by
    rw [pE, Z2w (by omega), Z2w (by omega), qP.out]
    exact Z02 wr exO
   have sO := Z0 qQ
   rw [qP.out] at pE
   unfold exO at pE
   simp only [Z9R] at pE
   rw [<- pE]
   refine bodyPost_ret (Zbf rfl _ _ w.1.size (w.1.size + 1) _ _ rfl rfl (run_loadVar_row _ _ _ _ _ _ _ qQ Tryz.underlying34 rfl (by kernel_rfl)) (run_loadVar_row _ _ _ _ _ _ _ sB Tryz.underlying37 rfl (by kernel_rfl))) rfl ?_
   exact ⟨_, .slice (some ⟨g, 0, none⟩) 3 cp, rfl, sC.drew, Zg5 sE, RdPces.of_owns sD⟩
theorem Ziw {W : World} {B : Nat} {vb vt vc : Value} {l : Lod} (h1 : OwnsX 67 4 Z0T (fun b => b.ids) W B vb l.buns) (h2 : OwnsX 112 3 Z34 (fun t => t.bs) W B vt l.tras) (h3 : OwnsX 114 2 Z3h (fun c => c.ts) W B vc l.cons) :
 RdLod W vb vt vc l := ⟨h1.rd (fun _ => rfl), h2.rd (fun _ => rfl), h3.rd (fun _ => rfl)⟩
theorem Zbq {ls : List Lev} {m : Mai} (h : HasPlan ls m) {v vp vz : Value} {zs : List Int} {k : Pck} {w : World} (hr : RdLevs w v ls) (pF : RdPces w vp m.ps) (hz : RdInts w vz zs) (pT : zs.length = m.ps.length) (hn : Z1j ls.length zs = true) (hA : Zb3 ls m zs k = 0)
 (hk : Z7K k = true) (sF : ∀ p ∈ m.ps, p.grams <= k.grams) {Gs : List Grp} (hG : Z16 ls (Z07 m.ps) ls.length = Gs) :
 Calls Tryz.prog 12 #[v, Z2r m vp, vz, Z4J k] w fun e w' => ∃ ab cb at' ct ac cc, e = .returned (.tuple #[Zeh (.slice ab (ZfL k m.ps zs Gs).buns.length cb) (.slice at' (ZfL k m.ps zs Gs).tras.length ct) (.slice ac (ZfL k m.ps zs Gs).cons.length cc), .int .i64 0]) /\ Below w.1.size w w' /\
  RdLod w' (.slice ab (ZfL k m.ps zs Gs).buns.length cb) (.slice at' (ZfL k m.ps zs Gs).tras.length ct) (.slice ac (ZfL k m.ps zs Gs).cons.length cc) (ZfL k m.ps zs Gs) := by
 refine (Zfm h v vp vz zs k w hr pF hz pT hn hA hk sF).mono ?_
 rintro e w' ⟨vb, vt, vc, rfl, hb, h1, h2, h3⟩
 rw [hG] at h1 h2 h3
 obtain ⟨ab, cb, rfl⟩ := h1.form
 obtain ⟨at', ct, rfl⟩ := h2.form
 obtain ⟨ac, cc, rfl⟩ := h3.form
 exact ⟨ab, cb, at', ct, ac, cc, rfl, hb, Ziw h1 h2 h3⟩
theorem Zea {ls : List Lev} {m : Mai} (h : HasPlan ls m) {v vp vz vb vt vc : Value} {zs : List Int} {k : Pck} {l : Lod} {w : World} (hr : RdLevs w v ls) (pF : RdPces w vp m.ps) (hz : RdInts w vz zs) (pT : zs.length = m.ps.length) (hn : Z1j ls.length zs = true) (hA : Zb3 ls m zs k = 0)
 (sG : RdLod w vb vt vc l) (pU : Pkd k m.ps zs (Z6n zs (Z16 ls (Z07 m.ps) ls.length) m.ps.length (Z16 ls (Z07 m.ps) ls.length).length) l) :
 Calls Tryz.prog 37 #[v, Z2r m vp, vz, Z4J k, Zeh vb vt vc] w fun e w' => e = .returned (.tuple #[.bool true, .int .i64 0]) /\ Below w.1.size w w' := by
 have sP := h.few
 refine Calls.mono (Zi8 h v vp vz vb vt vc zs k l w hr pF hz pT hn hA sG (pU.smallL (by omega)) (fun b hb i hi => by have := (pU.own b hb).2.2 i hi; omega)) ?_
 rintro e w' ⟨u, rfl, hb, hu⟩
 rw [hu.true pU.ok]
 exact ⟨rfl, hb⟩
def ZjV (args : Array Value) (ls : List Lev) (l : List UInt16) (zs : List Int) (k : Pck) (w : World) : Prop :=
 ∀ W, Below w.1.size w W -> Calls Tryz.prog 10 args W fun e w' => ∃ al cl ap cp gz, e = .returned (.tuple #[.slice al ls.length cl, .agg #[.int .u8 1, .int .u8 1, .string ⟨#[49, 48, 48, 50, 51]⟩, .slice ap l.length cp], .slice (some ⟨gz, 0, none⟩) l.length l.length, .agg #[.int .i64 k.pieces, .int .i64 k.grams, .int .i64 k.bundles, .int .i64 k.trays]]) /\ Below W.1.size W w' /\
  OwnsLv w' W.1.size (.slice al ls.length cl) ls /\ OwnsP w' W.1.size (.slice ap l.length cp) (Z04 l).ps /\ IntsAt w' gz zs /\ W.1.size <= gz
theorem Za5 {ls : List Lev} {m : Mai} (h : HasPlan ls m) {k : Pck} (hk : Z7K k = true) : Zb3 ls m (Z3W ls m) k = 0 := by
 unfold Zb3
 rw [h.valid, if_pos rfl, if_pos ⟨rfl, hk⟩]
theorem ZkS : Z7K exK = true := by kernel_rfl
theorem Z9r : ∀ p ∈ exMl.ps, p.grams <= exK.grams := by
 intro p hp
 have h : p = exMl.ps[0] \/ p = exMl.ps[1] \/ p = exMl.ps[2] := by simpa [exMl] using hp
 rcases h with rfl | rfl | rfl <;> decide
theorem Zkp : Pkd exK exMl.ps Z4m (Z6n Z4m (Z16 exS (Z07 exMl.ps) exS.length) exMl.ps.length (Z16 exS (Z07 exMl.ps) exS.length).length) exLod := by
 have := Zcu ex_has (zs := Z4m) rfl Z7w ZkS Z9r
 rw [ZaF, Zg2] at this
 rw [ZaF]
 exact this
abbrev exB (i : Nat) : Int := (Z0B exT exRt exMl i).1
theorem ZkR : ∀ i, i < exMl.ps.length -> LnIn 1000000 (Z3p exMl 10 exB (Z5o exT exRt exS exMl Z4m) exS Z4m i) := by
 intro i hi
 have h3 : i < 3 := hi
 match i, h3 with
 | 0, _ =>
  have e : Z3p exMl 10 exB (Z5o exT exRt exS exMl Z4m) exS Z4m 0 = ⟨0, 1, 1, 10, 100, 10, 5, 85⟩ := by kernel_rfl
  rw [e]; exact ⟨by decide, by decide, by decide, by decide, by decide, by decide, by decide⟩
 | 1, _ =>
  have e : Z3p exMl 10 exB (Z5o exT exRt exS exMl Z4m) exS Z4m 1 = ⟨0, 1, 0, 10, 100, 0, 5, 95⟩ := by kernel_rfl
  rw [e]; exact ⟨by decide, by decide, by decide, by decide, by decide, by decide, by decide⟩
 | 2, _ =>
  have e : Z3p exMl 10 exB (Z5o exT exRt exS exMl Z4m) exS Z4m 2 = ⟨0, 1, 0, 10, 150, 0, 0, 150⟩ := by kernel_rfl
  rw [e]; exact ⟨by decide, by decide, by decide, by decide, by decide, by decide, by decide⟩
theorem ZiG : ∀ i, i < exMl.ps.length -> (Z0B exT exRt exMl i).2 = 0 := fun i hi => by rw [Zjt i hi]
theorem Zkr : ∀ p ∈ exMl.ps, p.code.size <= maxLen := fun p hp => by have := Z0w ((Z1Q Z6t).2 p hp); unfold maxLen; omega
theorem Zko : ∀ x ∈ Z4m, 0 <= x /\ x < (exS.length : Int) := by decide
theorem Zd0 {vr vz vl vp vn vb vt vc : Value} (W : World) (h : RdTar W vr vz exT) (hr : RdLevs W vl exS) (pF : RdPces W vp exMl.ps) (hn : RdInts W vn Z4m) (hb : ∃ a c, vb = .slice a 2 c) (ht : ∃ a c, vt = .slice a 2 c) (hc : ∃ a c, vc = .slice a 2 c) :
 Calls Tryz.prog 28 #[.agg #[vr, vz], vl, Z2r exMl vp, vn, .agg #[vb, vt, vc]] W fun e w' => ∃ v, e = .returned (.tuple #[Z6p exMan v, .int .i64 0]) /\ Below W.1.size W w' /\ OwnsLn w' W.1.size v exMan.lines := by
 obtain ⟨ar, cr, rfl, _⟩ := id h.r
 obtain ⟨az, cz, rfl, _⟩ := id h.z
 have hq : 0 < exT.rates.length := by decide
 have := Zcg (m := exMl) (ls := exS) (zs := Z4m) (bar := 10) (B := exB) (R := Z5o exT exRt exS exMl Z4m) (vb := vb) (vt := vt) (vc := vc) (nb := 2) (nt := 2) (nc := 2) W pF hr hn ⟨_, _, _, rfl⟩ ⟨_, _, _, rfl⟩ hb ht hc (by decide) (by decide) rfl Zko (by decide) ZkR
  (fun W' hW => Z8e ZiH Zju W' (h.below hW) (hr.below hW) (Z1A Z54) Z54 (pF.below hW) Z6t (by decide) Zkr (hn.below hW) rfl Zko hq rfl ZiG)
  (fun W' hW => Z9y ZiH W' (h.below hW) (pF.below hW) Z6t (by decide) Zkr hq rfl ZiG)
  (fun W' hW => ZaV 1 W' (h.below hW) (by decide) hq rfl (fun i hi pB => absurd pB (Ka2 _)))
 have e : Z5x Z4m (Z3p exMl 10 exB (Z5o exT exRt exS exMl Z4m) exS Z4m) exMl.ps.length exS.length 2 2 2 = exMan := Zkq
 rw [e] at this
 exact this
theorem Zdg {W : World} {g : Nat} (h : W.1[g]? = some (.cells #[.int .i64 0, .int .i64 2, .int .i64 1, .int .i64 20, .int .i64 200, .int .i64 10, .int .i64 10, .int .i64 180, .int .i64 1, .int .i64 1, .int .i64 0, .int .i64 10, .int .i64 150, .int .i64 0, .int .i64 0, .int .i64 150] 42)) : RdLns W (.slice (some ⟨g, 0, none⟩) 2 2) exMan.lines :=
 ⟨_, _, rfl, fun _ => ⟨g, 0, rfl, (Z5.1 h).1, fun i hi j u hj => by
  rw [Kaa _ _ _ _ _ _ h]
  have sH : i < 2 := hi
  have qR : j < 8 := (Kam.1 hj).1
  rw [<- hj]
  match i, sH with
  | 0, _ =>
   match j, qR with
   | 0, _ => rfl
   | 1, _ => rfl
   | 2, _ => rfl
   | 3, _ => rfl
   | 4, _ => rfl
   | 5, _ => rfl
   | 6, _ => rfl
   | 7, _ => rfl
  | 1, _ =>
   match j, qR with
   | 0, _ => rfl
   | 1, _ => rfl
   | 2, _ => rfl
   | 3, _ => rfl
   | 4, _ => rfl
   | 5, _ => rfl
   | 6, _ => rfl
   | 7, _ => rfl⟩⟩
theorem Z1w {W : World} {g : Nat} {a0 a1 a2 a3 a4 a5 a6 a7 a8 a9 a10 a11 : Value} {t : TypeId} {fr : Nat × Nat} (h : W.1[g]? = some (.cells #[a0, a1, a2, a3, a4, a5, a6, a7, a8, a9, a10, a11] t fr)) :
 W.cell? ⟨g, 0, none⟩ = some a0 /\ W.cell? ⟨g, 1, none⟩ = some a1 /\ W.cell? ⟨g, 2, none⟩ = some a2 /\ W.cell? ⟨g, 3, none⟩ = some a3 /\ W.cell? ⟨g, 4, none⟩ = some a4 /\ W.cell? ⟨g, 5, none⟩ = some a5 /\ W.cell? ⟨g, 6, none⟩ = some a6 /\ W.cell? ⟨g, 7, none⟩ = some a7 /\ W.cell? ⟨g, 8, none⟩ = some a8 /\ W.cell? ⟨g, 9, none⟩ = some a9 /\ W.cell? ⟨g, 10, none⟩ = some a10 /\ W.cell? ⟨g, 11, none⟩ = some a11 :=
 ⟨Kaa _ _ 0 _ _ _ h, Kaa _ _ 1 _ _ _ h, Kaa _ _ 2 _ _ _ h, Kaa _ _ 3 _ _ _ h, Kaa _ _ 4 _ _ _ h, Kaa _ _ 5 _ _ _ h, Kaa _ _ 6 _ _ _ h, Kaa _ _ 7 _ _ _ h, Kaa _ _ 8 _ _ _ h, Kaa _ _ 9 _ _ _ h, Kaa _ _ 10 _ _ _ h, Kaa _ _ 11 _ _ _ h⟩
theorem Z7C (w : World) (ht : TabW w) : Calls Tryz.prog 8 #[] w fun e w' => e = .returned (.bool true) /\ Below w.1.size w w' := by
 have qS : Hid (∀ W, Calls Tryz.prog 21 #[] W fun e w' => ∃ al cl ap cp, e = .returned (.tuple #[.slice al 2 cl, .agg #[.int .u8 1, .int .u8 1, .string ⟨#[49, 48, 48, 50, 51]⟩, .slice ap 3 cp], .agg #[.int .i64 10, .int .i64 1000, .int .i64 10, .int .i64 10]]) /\ Below W.1.size W w' /\ RdLevs w' (.slice al 2 cl) exS /\ RdPces w' (.slice ap 3 cp) exMl.ps) := by
  intro W
  refine (Z9p W).mono ?_
  rintro e w' ⟨vl, vp, rfl, hb, hl, hp⟩
  obtain ⟨al, cl, rfl, _⟩ := id hl
  obtain ⟨ap, cp, rfl, _⟩ := id hp
  exact ⟨al, cl, ap, cp, rfl, hb, hl, hp⟩
 have qT : Hid (∀ W, Calls Tryz.prog 22 #[] W fun e w' => ∃ ar cr az cz, e = .returned (.agg #[.slice ar 1 cr, .slice az 2 cz]) /\ Below W.1.size W w' /\ RdTar w' (.slice ar 1 cr) (.slice az 2 cz) exT) := by
  intro W
  refine (Z9q W).mono ?_
  rintro e w' ⟨vr, vz, rfl, hb, hT⟩
  obtain ⟨ar, cr, rfl, _⟩ := id hT.r
  obtain ⟨az, cz, rfl, _⟩ := id hT.z
  exact ⟨ar, cr, az, cz, rfl, hb, hT⟩
 have qU : Hid (∀ W ar cr az cz al cl ap cp vn, RdTar W (.slice ar 1 cr) (.slice az 2 cz) exT -> RdLevs W (.slice al 2 cl) exS -> RdPces W (.slice ap 3 cp) exMl.ps -> RdInts W vn Z4m -> Calls Tryz.prog 11 #[.agg #[.slice ar 1 cr, .slice az 2 cz], .slice al 2 cl, .agg #[.int .u8 1, .int .u8 1, .string ⟨#[49, 48, 48, 50, 51]⟩, .slice ap 3 cp], vn, .agg #[.int .i64 10, .int .i64 1000, .int .i64 10, .int .i64 10]] W fun e w' => ∃ ax cx, e = .returned (.tuple #[.agg #[.slice ax 2 cx, .int .i64 2, .int .i64 3, .int .i64 1, .int .i64 30, .int .i64 350, .int .i64 10, .int .i64 10, .int .i64 330, .int .i64 2, .int .i64 2, .int .i64 2], .int .i64 0]) /\ Below W.1.size W w' /\ RdLns w' (.slice ax 2 cx) exMan.lines) := by
  intro W ar cr az cz al cl ap cp vn h1 h2 h3 h4
  obtain ⟨an, cn, rfl, _⟩ := id h4
  refine Calls.mono (ZfF (M := exMan) (m := exMl) (k := exK) (nb := 2) (nt := 2) (nc := 2) W ⟨_, _, _, rfl⟩ ⟨_, _, _, rfl⟩ ⟨_, _, _, rfl⟩ ⟨_, _, _, rfl⟩ ⟨_, _, _, rfl⟩ (fun W' hW => ?_) (fun W' ab cb at' ct ac cc hW => Zd0 W' (h1.below hW) (h2.below hW) (h3.below hW) (h4.below hW) ⟨_, _, rfl⟩ ⟨_, _, rfl⟩ ⟨_, _, rfl⟩)) ?_
  ·have := Zbq ex_has (h2.below hW) (h3.below hW) (h4.below hW) rfl Z7w Zg3 ZkS Z9r ZaF
   rw [Zg2] at this
   refine this.mono ?_
   rintro e w' ⟨ab, cb, at', ct, ac, cc, rfl, hb, _⟩
   exact ⟨ab, cb, at', ct, ac, cc, rfl, hb⟩
  ·rintro e w' ⟨v, rfl, hb, ho⟩
   have hr := OwnsLn.rd ho
   obtain ⟨ax, cx, rfl, _⟩ := id hr
   exact ⟨ax, cx, rfl, hb, hr⟩
 have qV : Hid (∀ W al cl ap cp vn, RdLevs W (.slice al 2 cl) exS -> RdPces W (.slice ap 3 cp) exMl.ps -> RdInts W vn Z4m -> Calls Tryz.prog 12 #[.slice al 2 cl, .agg #[.int .u8 1, .int .u8 1, .string ⟨#[49, 48, 48, 50, 51]⟩, .slice ap 3 cp], vn, .agg #[.int .i64 10, .int .i64 1000, .int .i64 10, .int .i64 10]] W fun e w' => ∃ ab cb at' ct ac cc, e = .returned (.tuple #[.agg #[.slice ab 2 cb, .slice at' 2 ct, .slice ac 2 cc], .int .i64 0]) /\ Below W.1.size W w' /\ RdLod w' (.slice ab 2 cb) (.slice at' 2 ct) (.slice ac 2 cc) exLod) := by
  intro W al cl ap cp vn h2 h3 h4
  have := Zbq ex_has h2 h3 h4 rfl Z7w Zg3 ZkS Z9r ZaF
  rw [Zg2] at this
  exact this
 have qW : Hid (∀ W ar cr az cz al cl ap cp an cn ab cb at' ct ac cc ax cx, RdTar W (.slice ar 1 cr) (.slice az 2 cz) exT -> RdLevs W (.slice al 2 cl) exS -> RdPces W (.slice ap 3 cp) exMl.ps -> RdInts W (.slice an 3 cn) Z4m -> RdLod W (.slice ab 2 cb) (.slice at' 2 ct) (.slice ac 2 cc) exLod -> RdLns W (.slice ax 2 cx) exMan.lines ->
  Calls Tryz.prog 14 #[.agg #[.slice ar 1 cr, .slice az 2 cz], .slice al 2 cl, .agg #[.int .u8 1, .int .u8 1, .string ⟨#[49, 48, 48, 50, 51]⟩, .slice ap 3 cp], .slice an 3 cn, .agg #[.int .i64 10, .int .i64 1000, .int .i64 10, .int .i64 10], .agg #[.slice ab 2 cb, .slice at' 2 ct, .slice ac 2 cc], .agg #[.slice ax 2 cx, .int .i64 2, .int .i64 3, .int .i64 1, .int .i64 30, .int .i64 350, .int .i64 10, .int .i64 10, .int .i64 330, .int .i64 2, .int .i64 2, .int .i64 2]] W fun e w' => e = .returned (.tuple #[.bool true, .int .i64 0]) /\ Below W.1.size W w') := by
  intro W ar cr az cz al cl ap cp an cn ab cb at' ct ac cc ax cx h1 h2 h3 h4 h5 h6
  have := Za1 (X := exMan) (M := exMan) (m := exMl) (k := exK) (b := true) (nb := 2) (nt := 2) (nc := 2) W ⟨_, _, _, rfl⟩ ⟨_, _, _, rfl⟩ ⟨_, _, _, rfl⟩ ⟨_, _, _, rfl⟩ ⟨_, _, _, rfl⟩ ⟨ab, cb, rfl⟩ ⟨at', ct, rfl⟩ ⟨ac, cc, rfl⟩ h6 (by decide) (by decide)
   (fun W' hW => Zea ex_has (h2.below hW) (h3.below hW) (h4.below hW) rfl Z7w Zg3 (h5.below hW) Zkp)
   (fun W' hW => Zd0 W' (h1.below hW) (h2.below hW) (h3.below hW) (h4.below hW) ⟨_, _, rfl⟩ ⟨_, _, rfl⟩ ⟨_, _, rfl⟩)
  refine Calls.mono this ?_
  rintro e w' ⟨rfl, hb⟩
  exact ⟨by simp, hb⟩
 have qX : Hid (∀ W al cl ax cx, TabW W -> RdLevs W (.slice al 2 cl) exS -> RdLns W (.slice ax 2 cx) exMan.lines -> Calls Tryz.prog 17 #[.slice al 2 cl, .agg #[.slice ax 2 cx, .int .i64 2, .int .i64 3, .int .i64 1, .int .i64 30, .int .i64 350, .int .i64 10, .int .i64 10, .int .i64 330, .int .i64 2, .int .i64 2, .int .i64 2]] W fun e w' => e = .returned (.tuple #[.string ⟨([51, 32, 50, 32, 49, 32, 50, 48, 32, 50, 46, 48, 48, 32, 48, 46, 49, 48, 32, 48, 46, 49, 48, 32, 49, 46, 56, 48, 10, 97, 108, 108, 32, 49, 32, 48, 32, 49, 48, 32, 49, 46, 53, 48, 32, 48, 46, 48, 48, 32, 48, 46, 48, 48, 32, 49, 46, 53, 48, 10, 116, 111, 116, 97, 108, 32, 51, 32, 49, 32, 51, 48, 32, 51, 46, 53, 48, 32, 48, 46, 49, 48, 32, 48, 46, 49, 48, 32, 51, 46, 51, 48, 10, 112, 97, 99, 107, 101, 100, 32, 50, 32, 50, 32, 50, 10] : List UInt8).toArray⟩, .int .i64 0]) /\ Below W.1.size W w') := by
  intro W al cl ax cx h1 h2 h3
  have := Zcb (ls := exS) (X := exMan) W h2 Z54 h3 rfl ⟨by decide, ⟨by decide, by decide⟩, ⟨by decide, by decide⟩, ⟨by decide, by decide⟩⟩ (fun l hl => by
   have h : l = exMan.lines[0] \/ l = exMan.lines[1] := by simpa [exMan] using hl
   rcases h with rfl | rfl <;> exact ⟨by decide, ⟨by decide, by decide⟩, ⟨by decide, by decide⟩, ⟨by decide, by decide⟩⟩) ⟨by decide, by decide⟩ ⟨by decide, by decide⟩ ⟨by decide, by decide⟩ h1
  rw [Zjs] at this
  exact this
 have qY : Hid (∀ W ax cx ay cy, RdLns W (.slice ax 2 cx) exMan.lines -> RdLns W (.slice ay 2 cy) exMan.lines -> Calls Tryz.prog 23 #[.agg #[.slice ax 2 cx, .int .i64 2, .int .i64 3, .int .i64 1, .int .i64 30, .int .i64 350, .int .i64 10, .int .i64 10, .int .i64 330, .int .i64 2, .int .i64 2, .int .i64 2], .agg #[.slice ay 2 cy, .int .i64 2, .int .i64 3, .int .i64 1, .int .i64 30, .int .i64 350, .int .i64 10, .int .i64 10, .int .i64 330, .int .i64 2, .int .i64 2, .int .i64 2]] W fun e w' => e = .returned (.bool true) /\ Below W.1.size W w') := by
  intro W ax cx ay cy h1 h2
  exact Z9U exMan (.slice ax 2 cx) (.slice ay 2 cy) W h1 h2 (by decide)
 have qZ := Z0 ht
 clear ht
 go_enter Tryz.func8, Tryz.ntmps8
 go_wp2_with fail
 refine (qS.out _).mono ?_
 rintro e w1 ⟨al, cl, ap, cp, rfl, pA, rA, rB⟩
 go_wp2_with fail
 obtain ⟨W2, pC⟩ : ∃ W2, W2 = (w1.alloc (.cells #[.int .u8 1, .int .u8 1, .string ⟨#[49, 48, 48, 50, 51]⟩, .slice ap 3 cp] 34)).alloc (.cells #[.int .i64 10, .int .i64 1000, .int .i64 10, .int .i64 10] 37) := ⟨_, rfl⟩
 obtain ⟨t1, t2, t3, t4⟩ := Z25 pC
 rw [<- pC]
 clear pC
 refine (qT.out _).mono ?_
 rintro e w3 ⟨ar, cr, az, cz, rfl, pK, rC⟩
 have b3 := Z01 t4 t4.size pK
 have s3 := pK.size
 have q1 := (pK.block _ (by omega)).trans t1
 have q2 := (pK.block _ (by omega)).trans t2
 obtain ⟨m0, m1, m2, m3⟩ := Z0H q1
 obtain ⟨k0, k1, k2, k3⟩ := Z0H q2
 have l1 : w1.1.size < w3.1.size := by omega
 have l2 : w1.1.size + 1 < w3.1.size := by omega
 have pG := Z0 pA
 have rD := Z0 rA
 have rE := Z0 rB
 have rF := Z0 q1
 have rG := Z0 q2
 have pV := Z0 b3
 have rH := Z0 rC
 clear pA rA rB q1 q2 b3 rC pK t1 t2 t4
 go_wp2_with fail
 obtain ⟨W4, pW⟩ : ∃ W4, W4 = (w3.alloc (.cells #[.slice ar 1 cr, .slice az 2 cz] 29)).alloc (.cells #[.int .i64 0, .int .i64 0, .int .i64 1] 3) := ⟨_, rfl⟩
 obtain ⟨t1, t2, t5, t4⟩ := Z25 pW
 rw [<- pW]
 have b14 := Z01 pV.out pV.out.size t4
 have HK : Hid (∀ W, Below W4.1.size W4 W -> ((W.cell? ⟨w1.1.size, 0, none⟩ = some (.int .u8 1) /\ W.cell? ⟨w1.1.size, 1, none⟩ = some (.int .u8 1) /\ W.cell? ⟨w1.1.size, 2, none⟩ = some (.string ⟨#[49, 48, 48, 50, 51]⟩) /\ W.cell? ⟨w1.1.size, 3, none⟩ = some (.slice ap 3 cp)) /\
  (W.cell? ⟨w1.1.size + 1, 0, none⟩ = some (.int .i64 10) /\ W.cell? ⟨w1.1.size + 1, 1, none⟩ = some (.int .i64 1000) /\ W.cell? ⟨w1.1.size + 1, 2, none⟩ = some (.int .i64 10) /\ W.cell? ⟨w1.1.size + 1, 3, none⟩ = some (.int .i64 10)) /\
  (W.cell? ⟨w3.1.size, 0, none⟩ = some (.slice ar 1 cr) /\ W.cell? ⟨w3.1.size, 1, none⟩ = some (.slice az 2 cz)) /\ w1.1.size < W.1.size /\ w1.1.size + 1 < W.1.size /\ w3.1.size < W.1.size) /\
  (RdTar W (.slice ar 1 cr) (.slice az 2 cz) exT /\ RdLevs W (.slice al 2 cl) exS /\ RdPces W (.slice ap 3 cp) exMl.ps /\ RdInts W (.slice (some ⟨w3.1.size + 1, 0, none⟩) 3 3) Z4m /\ TabW W /\ Below w.1.size w W)) := by
  intro W hW
  have hz := hW.size
  have c1 := (hW.block _ (by omega)).trans ((t4.block _ (by omega)).trans rF.out)
  have c2 := (hW.block _ (by omega)).trans ((t4.block _ (by omega)).trans rG.out)
  have c3 := (hW.block _ (by omega)).trans t1
  have c4 := (hW.block _ (by omega)).trans t2
  have bW : Below w1.1.size w1 W := Z01 b14 b14.size hW
  have b3W : Below w3.1.size w3 W := Z01 t4 t4.size hW
  have bw : Below w.1.size w W := Z01 pG.out pG.out.size bW
  exact ⟨⟨Z0H c1, Z0H c2, ⟨Kaa _ _ 0 _ _ _ c3, Kaa _ _ 1 _ _ _ c3⟩, by omega, by omega, by omega⟩, rH.out.below b3W, rD.out.below bW, rE.out.below bW, Z38 (zs := [0, 0, 1]) c4, qZ.out.below bw, bw⟩
 clear pW t1 t2 t4 t5 b14 m0 m1 m2 m3 k0 k1 k2 k3 qS qT
 obtain ⟨_, r1, r2, r3, r4, _, _⟩ := HK.out W4 (Z9 _ _)
 refine (qU.out W4 _ _ _ _ _ _ _ _ _ r1 r2 r3 r4).mono ?_
 clear r1 r2 r3 r4 qU l1 l2
 rintro e w5 ⟨ax, cx, rfl, pO, rI⟩
 obtain ⟨⟨⟨m0, m1, m2, m3⟩, ⟨k0, k1, k2, k3⟩, ⟨y0, y1⟩, l1, l2, l3⟩, _⟩ := HK.out w5 pO
 go_wp2_with fail
 obtain ⟨W6, pL⟩ : ∃ W6, W6 = w5.alloc (.cells #[.slice ax 2 cx, .int .i64 2, .int .i64 3, .int .i64 1, .int .i64 30, .int .i64 350, .int .i64 10, .int .i64 10, .int .i64 330, .int .i64 2, .int .i64 2, .int .i64 2] 44) := ⟨_, rfl⟩
 have h6 : W6.1[w5.1.size]? = some (.cells #[.slice ax 2 cx, .int .i64 2, .int .i64 3, .int .i64 1, .int .i64 30, .int .i64 350, .int .i64 10, .int .i64 10, .int .i64 330, .int .i64 2, .int .i64 2, .int .i64 2] 44 (0, 0)) := by rw [pL]; exact Z02 w5 _
 have b56 : Below w5.1.size w5 W6 := by rw [pL]; exact (Z9 _ w5).alloc (Z1 _) _
 have s6 : W6.1.size = w5.1.size + 1 := by rw [pL]; simp
 rw [<- pL]
 have b46 := Z01 pO pO.size b56
 have rJ := rI.below b56
 obtain ⟨G, hG⟩ : ∃ G, G = w5.1.size := ⟨_, rfl⟩
 rw [<- hG] at h6 s6 ⊢
 clear pL hG m0 m1 m2 m3 k0 k1 k2 k3 y0 y1 l1 l2 l3 pO rI b56
 have HM : Hid (∀ W, Below W6.1.size W6 W -> W.1[G]? = some (.cells #[.slice ax 2 cx, .int .i64 2, .int .i64 3, .int .i64 1, .int .i64 30, .int .i64 350, .int .i64 10, .int .i64 10, .int .i64 330, .int .i64 2, .int .i64 2, .int .i64 2] 44 (0, 0)) /\ G < W.1.size /\ RdLns W (.slice ax 2 cx) exMan.lines) := fun W hW => ⟨(hW.block _ (by omega)).trans h6, by have := hW.size; omega, rJ.below hW⟩
 clear h6 rJ s6
 obtain ⟨_, r1, r2, r3, r4, _, _⟩ := HK.out W6 b46
 refine (qV.out W6 _ _ _ _ _ r2 r3 r4).mono ?_
 clear r1 r2 r3 r4 qV
 rintro e w7 ⟨ab, cb, at', ct, ac, cc, rfl, pM, rK⟩
 have b47 := Z01 b46 b46.size pM
 obtain ⟨⟨⟨m0, m1, m2, m3⟩, ⟨k0, k1, k2, k3⟩, ⟨y0, y1⟩, l1, l2, l3⟩, _⟩ := HK.out w7 b47
 obtain ⟨h7, l4, _⟩ := HM.out w7 pM
 obtain ⟨n0, n1, n2, n3, n4, n5, n6, n7, n8, n9, n10, n11⟩ := Z1w h7
 clear h7
 go_wp2_with fail
 obtain ⟨W8, pX⟩ : ∃ W8, W8 = w7.alloc (.cells #[.slice ab 2 cb, .slice at' 2 ct, .slice ac 2 cc] 52) := ⟨_, rfl⟩
 have b78 : Below w7.1.size w7 W8 := by rw [pX]; exact (Z9 _ w7).alloc (Z1 _) _
 rw [<- pX]
 have b48 := Z01 b47 b47.size b78
 have b68 := Z01 pM pM.size b78
 have rL := rK.below b78
 clear pX b78 rK b47 pM m0 m1 m2 m3 k0 k1 k2 k3 y0 y1 l1 l2 l3 l4 n0 n1 n2 n3 n4 n5 n6 n7 n8 n9 n10 n11
 obtain ⟨_, r1, r2, r3, r4, _, _⟩ := HK.out W8 b48
 obtain ⟨_, _, r5⟩ := HM.out W8 b68
 refine (qW.out W8 _ _ _ _ _ _ _ _ _ _ _ _ _ _ _ _ _ _ r1 r2 r3 r4 rL r5).mono ?_
 clear r1 r2 r3 r4 r5 qW rL
 rintro e w9 ⟨rfl, pY⟩
 have b49 := Z01 b48 b48.size pY
 have b69 := Z01 b68 b68.size pY
 obtain ⟨h9, l4, _⟩ := HM.out w9 b69
 obtain ⟨n0, n1, n2, n3, n4, n5, n6, n7, n8, n9, n10, n11⟩ := Z1w h9
 clear h9 b48 b68 pY
 go_wp2_with fail
 obtain ⟨_, r1, r2, r3, r4, r6, _⟩ := HK.out w9 b49
 obtain ⟨_, _, r5⟩ := HM.out w9 b69
 refine (qX.out w9 _ _ _ _ r6 r2 r5).mono ?_
 clear r1 r2 r3 r4 r5 r6 qX n0 n1 n2 n3 n4 n5 n6 n7 n8 n9 n10 n11
 rintro e w10 ⟨rfl, pZ⟩
 have b410 := Z01 b49 b49.size pZ
 have b610 := Z01 b69 b69.size pZ
 have sQ := b46.size
 obtain ⟨rM, l4, _⟩ := HM.out w10 b610
 obtain ⟨n0, n1, n2, n3, n4, n5, n6, n7, n8, n9, n10, n11⟩ := Z1w rM
 clear rM b49 b69 pZ b46
 go_upto_region 9 with fail
 obtain ⟨W11, qA⟩ : ∃ W, W = (w10.alloc (.cells #[.int .i64 0, .int .i64 2, .int .i64 1, .int .i64 20, .int .i64 200, .int .i64 10, .int .i64 10, .int .i64 180, .int .i64 1, .int .i64 1, .int .i64 0, .int .i64 10, .int .i64 150, .int .i64 0, .int .i64 0, .int .i64 150] 42)).alloc (.cells #[.slice (some ⟨w10.1.size, 0, none⟩) 2 2, .int .i64 2, .int .i64 3, .int .i64 1, .int .i64 30, .int .i64 350, .int .i64 10, .int .i64 10, .int .i64 330, .int .i64 2, .int .i64 2, .int .i64 2] 44) := ⟨_, rfl⟩
 rw [<- qA]
 obtain ⟨t1, t2, t3, t4⟩ := Z25 qA
 obtain ⟨_, _, r5⟩ := HM.out W11 (Z01 b610 b610.size t4)
 have r6 := Zdg t1
 have rN := (HM.out W11 (Z01 b610 b610.size t4)).1
 obtain ⟨v0, v1, v2, v3, v4, v5, v6, v7, v8, v9, v10, v11⟩ := Z1w t2
 obtain ⟨x0, x1, x2, x3, x4, x5, x6, x7, x8, x9, x10, x11⟩ := Z1w rN
 have sI := Z0 (qY.out W11 _ _ _ _ r5 r6)
 obtain ⟨_, _, _, _, _, _, rO⟩ := HK.out W11 (Z01 b410 b410.size t4)
 have rP := Z0 rO
 have sR := Z0 t4
 clear qA t1 t2 t3 t4 r5 r6 rN rO n0 n1 n2 n3 n4 n5 n6 n7 n8 n9 n10 n11 l4 b410 b610 HK HM qY qZ pG rD rE rF rG pV rH s3
 go_wp2_with (go_at_call 23; refine sI.out.mono ?_; rintro e w12 ⟨rfl, rQ⟩; have sJ := Z0 rQ; clear rQ)
 go_ret
 exact ⟨rfl, Z01 rP.out rP.out.size sJ.out⟩
end Go.Proofs.YtlgajongmkhcnaaGreatDoor
