import Derived.Test.YtlgajongmkhcnaaGreatDoorQZ
import Derived.Test.YtlgajongmkhcnaaGreatDoorQP
import Derived.Test.YtlgajongmkhcnaaGreatDoorQK
import Derived.BigQuiet
import Derived.BigRegion
set_option linter.unusedVariables false
set_option linter.unusedSimpArgs false
set_option maxHeartbeats 32000000
namespace Go.Proofs.YtlgajongmkhcnaaGreatDoor
open Go.RowKit
set_option maxRecDepth 100000
structure Adds (f : Ln -> Int) : Prop where
 add : ∀ s x, f (Z7z s x) = f s + f x
 zero : ∀ lv, f (Z4h lv) = 0
theorem Zaq {f : Ln -> Int} (h : Adds f) : ∀ (l : List Ln) (s : Ln), f (l.foldl Z7z s) = f s + (l.map f).sum
 | [], s => by simp
 | x :: r, s => by rw [List.foldl_cons, Zaq h r, h.add, List.map_cons, List.sum_cons]; omega
theorem Zcw {f : Ln -> Int} (h : Adds f) (lv : Int) (l : List Ln) : f (Z2H lv l) = (l.map f).sum := by
 unfold Z2H
 rw [Zaq h, h.zero]; omega
theorem Zar : Adds Ln.pieces := ⟨fun _ _ => rfl, fun _ => rfl⟩
theorem Zby : Adds Ln.base := ⟨fun _ _ => rfl, fun _ => rfl⟩
theorem ZfR : Adds Ln.bar := ⟨fun _ _ => rfl, fun _ => rfl⟩
theorem Zhe : Adds Ln.cents := ⟨fun _ _ => rfl, fun _ => rfl⟩
theorem ZdV {α : Type} (f g : α -> Int) : ∀ l : List α, (l.map (fun x => f x + g x)).sum = (l.map f).sum + (l.map g).sum
 | [] => rfl
 | x :: r => by rw [List.map_cons, List.map_cons, List.map_cons, List.sum_cons, List.sum_cons, List.sum_cons, ZdV f g r]; omega
theorem ZdU (c : Int) (z : Nat) : ∀ K, ((List.range K).map (fun j => if z = j then c else 0)).sum = if z < K then c else 0
 | 0 => rfl
 | K + 1 => by
  rw [List.range_succ, ZD, List.sum_append, ZdU c z K, List.map_cons, List.map_nil, List.sum_cons, List.sum_nil]
  by_cases h : z < K
  ·rw [if_pos h, if_neg (by omega), if_pos (by omega)]; omega
  ·by_cases h2 : z = K
   ·rw [if_neg h, if_pos h2, if_pos (by omega)]; omega
   ·rw [if_neg h, if_neg h2, if_neg (by omega)]; omega
theorem Zc4 (zs : List Int) (pl : Nat -> Ln) (f : Ln -> Int) (K : Nat) : ∀ n, (∀ i, i < n -> ∃ z : Nat, z < K /\ zs.getD i (-1) = (z : Int)) ->
 ((List.range K).map (fun j => ((Z0E zs pl n j).map f).sum)).sum = ((List.range n).map (fun i => f (pl i))).sum
 | 0, _ => by
  have e : (fun j => ((Z0E zs pl 0 j).map f).sum) = fun _ => 0 := by
   funext j
   rfl
  rw [e]
  have : ∀ l : List Nat, (l.map (fun _ => (0 : Int))).sum = 0 := fun l => by
   induction l with
   | nil => rfl
   | cons x r ih => rw [List.map_cons, List.sum_cons, ih]; rfl
  rw [this]; rfl
 | n + 1, h => by
  obtain ⟨z, hz, e⟩ := h n (by omega)
  have hf : (fun j => ((Z0E zs pl (n + 1) j).map f).sum) = fun j => ((Z0E zs pl n j).map f).sum + (if z = j then f (pl n) else 0) := by
   funext j
   by_cases hj : z = j
   ·subst hj
    rw [Z9H zs pl e, ZD, List.sum_append, if_pos rfl, List.map_cons, List.map_nil, List.sum_cons, List.sum_nil]; omega
   ·rw [Z9F zs pl (by rw [e]; omega), if_neg hj]; omega
  rw [hf, ZdV, Zc4 zs pl f K n (fun i hi => h i (by omega)), ZdU, if_pos hz, List.range_succ, ZD, List.sum_append, List.map_cons, List.map_nil, List.sum_cons, List.sum_nil]; omega
theorem Z1B {f : Ln -> Int} (h : Adds f) {zs : List Int} (pl : Nat -> Ln) {n K : Nat} (b t c : Nat) (hz : ∀ i, i < n -> ∃ z : Nat, z < K /\ zs.getD i (-1) = (z : Int)) : f (Z6I zs pl n K b t c).total = ((List.range n).map (fun i => f (pl i))).sum := by
 unfold Z6I
 dsimp only
 rw [Zcw h, List.map_map, <- Zc4 zs pl f K n hz]
 congr 1
 refine List.map_congr_left (fun j _ => ?_)
 show f (Z2H _ _) = _
 rw [Zcw h]
theorem Zay (f g : Nat -> Int) : ∀ l : List Nat, (l.map (fun x => f x - g x)).sum = (l.map f).sum - (l.map g).sum
 | [] => rfl
 | x :: r => by rw [List.map_cons, List.map_cons, List.map_cons, List.sum_cons, List.sum_cons, List.sum_cons, Zay f g r]; omega
theorem ZeB {K n : Nat} {zs : List Int} (hn : Z0R K zs = true) (hl : zs.length = n) : ∀ i, i < n -> ∃ z : Nat, z < K /\ zs.getD i (-1) = (z : Int) := fun i hi => by
 obtain ⟨a, b⟩ := Z3r hn i (by omega)
 refine ⟨zs[i].toNat, by omega, ?_⟩
 rw [Z2, Z3 (by omega)]
 show zs[i] = _
 omega
section
variable {n : Nat} {ps : List UInt8} {ls : List Lev} {l : List UInt16}
theorem Ze8 {zs : List Int} (hzl : zs.length = (Z05 l).ps.length) : ((List.range (Z05 l).ps.length).map (fun i => Z5S ls (zs.getD i (-1)))).sum = Z1o ls zs (Z05 l).ps.length := by
 unfold Z1o
 congr 1
 refine List.ext_getElem (by simp [hzl]) (fun i h1 h2 => ?_)
 have hi : i < zs.length := by simp at h2; omega
 simp only [List.getElem_map, List.getElem_range, List.getElem_take]
 rw [Z2, Z3 hi]
 rfl
theorem Z9h {zs : List Int} (hzl : zs.length = (Z05 l).ps.length) (hn : Z0R ls.length zs = true) (L : Lod) :
 (Z9b n ps ls l zs L).total.cents = (Z9b n ps ls l zs L).total.base - (Z9b n ps ls l zs L).total.bar - Z1o ls zs (Z05 l).ps.length := by
 have hz := ZeB hn hzl
 unfold Z9b
 rw [Z1B Zhe _ _ _ _ hz, Z1B Zby _ _ _ _ hz, Z1B ZfR _ _ _ _ hz, <- Ze8 (ls := ls) hzl, <- Zay, <- Zay]
 rfl
theorem ZbD {zs zs' : List Int} (hzl : zs.length = (Z05 l).ps.length) (hn : Z0R ls.length zs = true) (hzl' : zs'.length = (Z05 l).ps.length) (hn' : Z0R ls.length zs' = true) (L L' : Lod) :
 (Z9b n ps ls l zs L).total.base = (Z9b n ps ls l zs' L').total.base /\ (Z9b n ps ls l zs L).total.bar = (Z9b n ps ls l zs' L').total.bar /\ (Z9b n ps ls l zs L).total.pieces = (Z9b n ps ls l zs' L').total.pieces := by
 have hz := ZeB hn hzl
 have hz' := ZeB hn' hzl'
 unfold Z9b
 rw [Z1B Zby _ _ _ _ hz, Z1B ZfR _ _ _ _ hz, Z1B Zar _ _ _ _ hz, Z1B Zby _ _ _ _ hz', Z1B ZfR _ _ _ _ hz', Z1B Zar _ _ _ _ hz']
 exact ⟨rfl, rfl, rfl⟩
theorem Z6M (h : HasPlan ls (Z05 l)) {zs : List Int} (hzl : zs.length = (Z05 l).ps.length) (hn : Z0R ls.length zs = true) (hv : Z1b ls zs (Z0P ls (Z06 (Z05 l).ps) ls.length) = true) (L L' : Lod) :
 (Z9b n ps ls l (Z3P ls (Z05 l)) L).total.cents <= (Z9b n ps ls l zs L').total.cents := by
 have hpl := Z6z ls (Z05 l)
 obtain ⟨e1, e2, _⟩ := ZbD (n := n) (ps := ps) hpl h.nums hzl hn L L'
 rw [Z9h hpl h.nums, Z9h hzl hn, e1, e2]
 have hb := ZcZ h.right h.code h.pre (zs := zs) (by rw [Z0T]; exact hzl) hn hv
 rw [Z0T] at hb
 have hb' : Z1o ls zs (Z05 l).ps.length <= Z1o ls (Z3P ls (Z05 l)) (Z05 l).ps.length := hb
 omega
end
theorem Z50 {ls : List Lev} {m : Mai} (h : HasPlan ls m) {zs : List Int} (hzl : zs.length = m.ps.length) (hn : Z0R ls.length zs = true) {k : Pck} (hk : Z8F k = true) :
 Z7m ls m zs k = if Z1b ls zs (Z0P ls (Z06 m.ps) ls.length) = true then 0 else 2 := by
 unfold Z7m
 rw [Z4k h.right h.mail h.pre hzl hn]
 simp [hk]
theorem Z9B {L : List (Int × Int)} {gs : List PGrp} {n : Nat} {p p' : Int -> Int} (hF : Forest2 L gs n) (h : ∀ i : Int, 0 <= i -> i < (n : Int) -> p i = p' i) (ho : PlanOk L gs p) : PlanOk L gs p' := by
 have hr : ∀ g, g < gs.length -> ∀ i ∈ (Z0c gs g).items, p i = p' i := fun g hg i hi => h i (hF.range g hg i hi).1 (hF.range g hg i hi).2
 refine ⟨fun g hg i hi => by rw [<- hr g hg i hi]; exact ho.num g hg i hi, fun g hg => ?_⟩
 have e : takeN p' (Z0c gs g) = takeN p (Z0c gs g) := by
  unfold takeN
  exact List.countP_congr (fun i hi => by rw [hr g hg i hi])
 rw [e]
 exact ho.enough g hg
def Z8P (n K : Nat) : List Int := List.replicate n ((K : Int) - 1)
theorem Z9W {ls : List Lev} {m : Mai} (h : HasPlan ls m) : Z0R ls.length (Z8P m.ps.length ls.length) = true /\ Z1b ls (Z8P m.ps.length ls.length) (Z0P ls (Z06 m.ps) ls.length) = true := by
 have hF := Z5r h.right h.code h.pre
 have hlen := Z0u h.right
 have hall : ∀ i (hi : i < (Z8P m.ps.length ls.length).length), (Z8P m.ps.length ls.length)[i] = (ls.length : Int) - 1 := fun i hi => List.getElem_replicate ..
 have hn : Z0R ls.length (Z8P m.ps.length ls.length) = true := Z4F (fun i hi => by rw [hall i hi]; omega)
 have hz : (Z8P m.ps.length ls.length).length = (Z06 m.ps).length := by rw [Z0T]; unfold Z8P; rw [List.length_replicate]
 refine ⟨hn, (Z6e h.right h.code h.pre hz hn).2 ?_⟩
 refine Z9B hF.toForest2 (fun i h0 h1 => ?_) (ZeW hF)
 obtain ⟨j, rfl⟩ : ∃ j : Nat, i = (j : Int) := ⟨i.toNat, by omega⟩
 rw [Z9D (by omega), hall j (by omega), Z2L]
def Z1D (zs : List Int) (K lv : Nat) : List Int := zs.map (fun z => if z = (lv : Int) /\ lv + 1 < K then (lv : Int) + 1 else z)
theorem Z3s (zs : List Int) (K lv : Nat) : (Z1D zs K lv).length = zs.length := by unfold Z1D; rw [Z7]
theorem Zc9 {zs : List Int} (K lv : Nat) {i : Nat} (hi : i < zs.length) : (Z1D zs K lv)[i]'(by rw [Z3s]; exact hi) = if zs[i] = (lv : Int) /\ lv + 1 < K then (lv : Int) + 1 else zs[i] := List.getElem_map ..
theorem Zd8 {zs : List Int} {K : Nat} (lv : Nat) (h : Z0R K zs = true) : Z0R K (Z1D zs K lv) = true := Z4F (fun i hi => by
 have hi' : i < zs.length := by rw [Z3s] at hi; exact hi
 obtain ⟨a, b⟩ := Z3r h i hi'
 rw [Zc9 K lv hi']
 split <;> omega)
end Go.Proofs.YtlgajongmkhcnaaGreatDoor
namespace Go.Proofs.YtlgajongmkhcnaaGreatDoor
open Go.RowKit Go.Sort
set_option maxRecDepth 100000
theorem Z2w {zs : List Int} {i : Nat} (h : i < zs.length) (d : Int) : zs.getD i d = zs[i] := by
 rw [Z2, Z3 h]; rfl
def MkR (n : Nat) (ps : List UInt8) (ls : List Lev) (pcs : List Pce) (zs : List Int) (k : Pck) (pa ba bra ca : Int) : Prop :=
 ∀ W vr vz v vp vn, RdTar W vr vz (Z1I n ps) -> RdLevs W v ls -> RdPces W vp pcs -> RdInts W vn zs -> Calls Tryz.prog 11 #[.agg #[vr, vz], v, Z8N vp, vn, Zjh k] W fun e w' => ∃ x0 x1 x2 x3 x4 x5 x6 x7 x8 x9, e = .returned (.tuple #[.agg #[.slice x0 x1 x2, .int .i64 x3, .int .i64 pa, .int .i64 x4, .int .i64 x5, .int .i64 ba, .int .i64 bra, .int .i64 x6, .int .i64 ca, .int .i64 x7, .int .i64 x8, .int .i64 x9], .int .i64 0]) /\ Below W.1.size W w'
theorem Zht {n : Nat} {ps : List UInt8} {ls : List Lev} {l : List UInt16} {zs : List Int} {k : Pck} {M : Man} (h : Zjd n ps ls l zs k M) : MkR n ps ls (Z05 l).ps zs k M.total.pieces M.total.base M.total.bar M.total.cents := by
 intro W vr vz v vp vn h1 h2 h3 h4
 refine (h W vr vz v vp vn h1 h2 h3 h4).mono ?_
 rintro e w' ⟨av, cv, rfl, hb, _⟩
 exact ⟨_, _, _, _, _, _, _, _, _, _, rfl, hb⟩
theorem Zdg (n : Nat) (ps : List UInt8) (s : Int) (b : Nat) (vp vl vc vs : Value) (ls : List Lev) (l : List UInt16) (k : Pck) (w : World) (ht : TabW w) (h : Mk27 n ps ls l) (hT : ZjI n ps #[.int .u32 (n : Nat), vp] w)
 (hM : Zje #[.int .u32 s, vl, vc, vs, .int .i64 200, .int .u32 b] ls l (Z3P ls (Z05 l)) k w) (hk : Z8F k = true) (hkg : ∀ p ∈ (Z05 l).ps, p.grams <= k.grams) :
 Calls Tryz.prog 5 #[.int .u32 (n : Nat), .int .u32 s, vp, vl, vc, vs, .int .u32 b] w fun e w' => e = .returned (.bool true) /\ Below w.1.size w w' := by
 have HAW := Z0 (fun W hW => Zbu W hW)
 have HT := Z0 hT
 have HM := Z0 hM
 have HTB := Z0 ht
 have hlen : (Z05 l).ps.length = l.length := Z2Z _ _
 have hfew := h.hp.few
 rw [hlen] at hfew
 have hl6 := Z0u h.hp.right
 have hpl := Z6z ls (Z05 l)
 have hpn := h.hp.nums
 obtain ⟨zs, hzs⟩ : ∃ zs, zs = Z3P ls (Z05 l) := ⟨_, rfl⟩
 have hA0 : Z7m ls (Z05 l) zs k = 0 := by rw [hzs]; exact Zeo h.hp hk
 rw [<- hzs] at HM hpl hpn
 obtain ⟨M1, hM1⟩ : ∃ M, M = Z9b n ps ls l zs (ZdB ls l zs k) := ⟨_, rfl⟩
 have HMK : Hid (MkR n ps ls (Z05 l).ps zs k M1.total.pieces M1.total.base M1.total.bar M1.total.cents) := by rw [hM1]; exact Zht (ZeO h hpl hpn hA0 hk hkg)
 obtain ⟨lz, hlz⟩ : ∃ lz, lz = Z8P (Z05 l).ps.length ls.length := ⟨_, rfl⟩
 have hlzl : lz.length = (Z05 l).ps.length := by rw [hlz]; unfold Z8P; rw [List.length_replicate]
 obtain ⟨hlzn, hlzv⟩ := Z9W h.hp
 rw [<- hlz] at hlzn hlzv
 obtain ⟨M2, hM2⟩ : ∃ M, M = Z9b n ps ls l lz (ZdB ls l lz k) := ⟨_, rfl⟩
 have HMK2 : Hid (MkR n ps ls (Z05 l).ps lz k M2.total.pieces M2.total.base M2.total.bar M2.total.cents) := by rw [hM2]; exact Zht (ZeO h hlzl hlzn (by rw [Z50 h.hp hlzl hlzn hk, hlzv]; rfl) hk hkg)
 have hc12 : M1.total.cents <= M2.total.cents := by rw [hM1, hM2, hzs]; exact Z6M h.hp hlzl hlzn hlzv _ _
 obtain ⟨e1, e2, e3⟩ : M1.total.base = M2.total.base /\ M1.total.bar = M2.total.bar /\ M1.total.pieces = M2.total.pieces := by rw [hM1, hM2]; exact ZbD hpl hpn hlzl hlzn _ _
 have HMV : Hid (∀ lv W vr vz v vp vn, RdTar W vr vz (Z1I n ps) -> RdLevs W v ls -> RdPces W vp (Z05 l).ps -> RdInts W vn (Z1D zs ls.length lv) -> ∃ (ok : Bool) (C : Int) (E : Int), ((ok = true -> E = 0 /\ M1.total.cents <= C)) /\
  Calls Tryz.prog 16 #[v, Z8N vp, vn] W (fun e w' => e = .returned (.tuple #[.bool ok, .int .i64 0]) /\ Below W.1.size W w') /\
  ∀ W', Below W.1.size W W' -> Calls Tryz.prog 11 #[.agg #[vr, vz], v, Z8N vp, vn, Zjh k] W' fun e w' => ∃ x0 x1 x2 x3 x4 x5 x6 x7 x8 x9 x10 x11 x12, e = .returned (.tuple #[.agg #[.slice x0 x1 x2, .int .i64 x3, .int .i64 x4, .int .i64 x5, .int .i64 x6, .int .i64 x7, .int .i64 x8, .int .i64 x9, .int .i64 C, .int .i64 x10, .int .i64 x11, .int .i64 x12], .int .i64 E]) /\ Below W'.1.size W' w') := by
  intro lv W vr vz v vp' vn h1 h2 h3 h4
  have hml : (Z1D zs ls.length lv).length = (Z05 l).ps.length := by rw [Z3s]; exact hpl
  have hmn := Zd8 lv hpn
  have hva := ZhG h.hp hml hmn h2 h3 h4
  cases hv : Z1b ls (Z1D zs ls.length lv) (Z0P ls (Z06 (Z05 l).ps) ls.length)
  ·rw [hv] at hva
   have hA2 : Z7m ls (Z05 l) (Z1D zs ls.length lv) k = 2 := by rw [Z50 h.hp hml hmn hk, hv]; rfl
   refine ⟨false, 0, 2, (fun e => by cases e), hva, fun W' hW => ?_⟩
   refine (Zi5 h hml hA2 (by decide) (h1.below hW) (h2.below hW) (h3.below hW) (h4.below hW)).mono ?_
   rintro e w' ⟨rfl, hb⟩
   exact ⟨_, _, _, _, _, _, _, _, _, _, _, _, _, rfl, hb⟩
  ·rw [hv] at hva
   have hA2 : Z7m ls (Z05 l) (Z1D zs ls.length lv) k = 0 := by rw [Z50 h.hp hml hmn hk, hv]; rfl
   refine ⟨true, (Z9b n ps ls l (Z1D zs ls.length lv) (ZdB ls l (Z1D zs ls.length lv) k)).total.cents, 0, (fun _ => ⟨rfl, ?_⟩), hva, fun W' hW => ?_⟩
   ·rw [hM1, hzs]
    rw [hzs] at hml hmn hv
    exact Z6M h.hp hml hmn hv _ _
   ·refine (ZeO h hml hmn hA2 hk hkg W' vr vz v vp' vn (h1.below hW) (h2.below hW) (h3.below hW) (h4.below hW)).mono ?_
    rintro e w' ⟨av, cv, rfl, hb, _⟩
    exact ⟨_, _, _, _, _, _, _, _, _, _, _, _, _, rfl, hb⟩
 have hlv : ∀ j (hj : j < l.length), lz.getD j (-1) = (ls.length : Int) - 1 := fun j hj => by
  have hj' : j < lz.length := by omega
  rw [Z2w hj']
  subst hlz
  exact List.getElem_replicate ..
 have hll : lz.length = l.length := by omega
 have hzl : zs.length = l.length := by omega
 have HPS : Hid ((Z05 l).ps.length = l.length) := hlen
 generalize hpcs : (Z05 l).ps = pcs at HMK HMK2 HMV HPS HM
 have hzr : ∀ j (hj : j < zs.length), 0 <= zs.getD j (-1) /\ zs.getD j (-1) < (ls.length : Int) := fun j hj => by rw [Z2w hj]; exact Z3r hpn j hj
 have HZR := Z0 hzr
 have HLV := Z0 hlv
 have HHK := Z0 hk
 clear hA0 hM1 hM2 hzs hlz hlzv hlzn hlzl hpl hpn hlen hlv hzr hM hT ht hkg hk
 rw [<- e1, <- e2, <- e3] at HMK2
 clear e1 e2 e3
 generalize M1.total.base = ba at HMK HMK2
 generalize M1.total.bar = bra at HMK HMK2
 generalize M1.total.pieces = pa at HMK HMK2
 generalize M1.total.cents = ca at HMK HMV hc12
 generalize M2.total.cents = cb at HMK2 hc12
 clear M1 M2
 have HQ : Hid (∀ W, OwnsP W 0 (.slice none 0 0) [] -> True) := fun _ _ => trivial
 clear HQ
 go_enter Tryz.func5, Tryz.ntmps5
 go_wp2_with fail
 refine (HAW.out _ HTB.out).mono ?_
 rintro e w1 ⟨rfl, hb1⟩
 go_wp2_with fail
 refine (HT.out _ hb1).mono ?_
 rintro e w2 ⟨ar, cr, az, cz, rfl, hb2', hT2⟩
 have hb2 := Z00 hb1 hb1.size hb2'
 clear hb1 hb2'
 go_wp2_with fail
 obtain ⟨W2, hW2⟩ : ∃ W2, W2 = w2.alloc (.cells #[.slice ar (Z1I n ps).rates.length cr, .slice az (Z1I n ps).zones.length cz] 29) := ⟨_, rfl⟩
 rw [<- hW2]
 have b2 : Below w2.1.size w2 W2 := by rw [hW2]; exact (Z9 _ w2).alloc (Z1 _) _
 refine (HM.out W2 (Z00 hb2 hb2.size b2)).mono ?_
 rintro e w3 ⟨al, cl, ap, cp, gz, rfl, hb3, hL3, hP3, hz3, hgz⟩
 rw [hpcs] at hP3
 have t0 : W2.1[w2.1.size]? = some (.cells #[.slice ar (Z1I n ps).rates.length cr, .slice az (Z1I n ps).zones.length cz] 29 (0, 0)) := by rw [hW2]; exact Z02 w2 _
 have s2 : W2.1.size = w2.1.size + 1 := by rw [hW2]; simp
 have q3 := (hb3.block _ (by omega)).trans t0
 have y0 := cell_of_row _ _ 0 _ _ _ q3
 have y1 := cell_of_row _ _ 1 _ _ _ q3
 have l3 : w2.1.size < w3.1.size := by have := hb3.size; omega
 have HB2 := Z0 hb2
 have HT2 := Z0 hT2
 have HW2 := Z0 hW2
 have HB3 := Z0 hb3
 have HL3 := Z0 hL3
 have HP3 := Z0 hP3
 have HZ3 := Z0 hz3
 clear hb2 hT2 hW2 hb3 hL3 hP3 hz3 hgz t0 q3 b2 s2 HAW HT HM
 go_wp2_with fail
 obtain ⟨W4, hW4⟩ : ∃ W, W = (w3.alloc (.cells #[.int .u8 1, .int .u8 1, .string ⟨#[49, 48, 48, 50, 51]⟩, .slice ap l.length cp] 34)).alloc (.cells #[.int .i64 k.pieces, .int .i64 k.grams, .int .i64 k.bundles, .int .i64 k.trays] 37) := ⟨_, rfl⟩
 rw [<- hW4]
 have HKP := Z0 (Keep.of (k := k) HTB.out HB2.out HT2.out HW2.out HB3.out HL3.out HP3.out HZ3.out hW4).1
 obtain ⟨T, hTT⟩ : ∃ T, T = w2.1.size := ⟨_, rfl⟩
 obtain ⟨X, hXX⟩ : ∃ X, X = w3.1.size := ⟨_, rfl⟩
 rw [<- hTT] at y0 y1 l3 HKP ⊢
 rw [<- hXX] at l3 HKP ⊢
 clear hW4 y0 y1 HTB HB2 HT2 HW2 HB3 HL3 HP3 HZ3 hTT hXX
 have hk4 := HKP.out W4 (Z9 _ _)
 refine (HMK.out W4 _ _ _ _ _ hk4.rt hk4.rl hk4.rp (ZaI hk4.rz hzl)).mono ?_
 clear hk4
 rintro e w5 ⟨x0, x1, x2, x3, x4, x5, x6, x7, x8, x9, rfl, hb5⟩
 go_wp2_with fail
 obtain ⟨W6, hW6⟩ : ∃ W, W = w5.alloc (.cells #[.slice x0 x1 x2, .int .i64 x3, .int .i64 pa, .int .i64 x4, .int .i64 x5, .int .i64 ba, .int .i64 bra, .int .i64 x6, .int .i64 ca, .int .i64 x7, .int .i64 x8, .int .i64 x9] 44) := ⟨_, rfl⟩
 rw [<- hW6]
 have h6 : W6.1[w5.1.size]? = some (.cells #[.slice x0 x1 x2, .int .i64 x3, .int .i64 pa, .int .i64 x4, .int .i64 x5, .int .i64 ba, .int .i64 bra, .int .i64 x6, .int .i64 ca, .int .i64 x7, .int .i64 x8, .int .i64 x9] 44 (0, 0)) := by rw [hW6]; exact Z02 w5 _
 have b6 : Below W4.1.size W4 W6 := by rw [hW6]; exact hb5.alloc hb5.size _
 have s6 : W6.1.size = w5.1.size + 1 := by rw [hW6]; simp
 obtain ⟨A, hA⟩ : ∃ A, A = w5.1.size := ⟨_, rfl⟩
 rw [<- hA] at h6 s6 ⊢
 have HK6 : Hid (∀ W, Below W6.1.size W6 W -> Keep w n ps ls l.length pcs zs k T X gz ar az al ap cr cz cl cp W /\ W.1[A]? = some (.cells #[.slice x0 x1 x2, .int .i64 x3, .int .i64 pa, .int .i64 x4, .int .i64 x5, .int .i64 ba, .int .i64 bra, .int .i64 x6, .int .i64 ca, .int .i64 x7, .int .i64 x8, .int .i64 x9] 44 (0, 0)) /\ A < W.1.size) := fun W hW => ⟨HKP.out W (Z00 b6 b6.size hW), (hW.block _ (by omega)).trans h6, by have := hW.size; omega⟩
 have hmk := fun W => run_make_row' (P := Tryz.prog) 35 3 (.int .i64 0) 8 Tryz.underlying35 ZeY rfl .i64 .i64 l.length (by omega) (by omega) W
 have HMKR := Z0 hmk
 clear hW6 hb5 hA h6 b6 s6 HKP hmk HMK
 rw [HMKR.out W6]
 have hm0 := Z3u W6 l.length
 have hmb := (Z9 _ W6).alloc (Z1 _) (.cells (madeCells #[Value.int .i64 0] l.length) 3)
 have HM0 := Z0 hm0
 have HMB := Z0 hmb
 clear hm0 hmb
 go_wp2_with fail
 go_loopw [63] (fun i wr => ∃ (j : Nat) (zz : List Int), j <= l.length /\ i = .int .i64 j /\ Below W6.1.size W6 wr /\ IntsAt wr W6.1.size zz /\ zz.length = l.length /\ ∀ i, i < j -> zz.getD i (-1) = (ls.length : Int) - 1) (fun i _ => l.length - (intOf i).toNat)
 case atStart => exact ⟨0, List.replicate l.length 0, ZE _, rfl, HMB.out, HM0.out, List.length_replicate, fun i hi => absurd hi (Nat.not_lt_zero _)⟩
 case round =>
  clear HM0 HMB
  obtain ⟨wa, hwa⟩ : ∃ x, x = wr := ⟨_, rfl⟩
  subst hwa
  obtain ⟨j, zz, hj, rfl, hB, hI, hzz, hzv⟩ := hrel
  by_cases hlt : j < l.length
  ·have z0f := hI.free j
   have z0 := hI.cell (i := j) (by omega)
   have d1 : decide ((j : Int) < (l.length : Int)) = true := decide_eq_true (by omega)
   have HN : Hid (IntsAt (wa.setCell ⟨W6.1.size, j, none⟩ (.int .i64 ((ls.length : Int) - 1))) W6.1.size (zz.set j ((ls.length : Int) - 1))) := hI.set j _
   have HV : Hid (∀ i, i < j + 1 -> (zz.set j ((ls.length : Int) - 1)).getD i (-1) = (ls.length : Int) - 1) := by
    intro i hi
    rw [Z2]
    by_cases e : i = j
    ·subst e
     rw [List.getElem?_set_self (by omega)]; rfl
    ·rw [List.getElem?_set_ne (by omega), <- Z2]
     exact hzv i (by omega)
   have HZZ : Hid ((zz.set j ((ls.length : Int) - 1)).length = l.length) := by
    show _ = _
    rw [List.length_set]; exact hzz
   have HB := Z0 hB
   clear hI hzz hzv hB
   go_wp2_with fail
   go_roundw
   case rel => exact ⟨j + 1, _, by omega, by go_num, HB.out.setCell (Z1 _) _, HN.out, HZZ.out, HV.out⟩
   case measure => simp [intOf]; omega
  ·obtain rfl : j = l.length := by omega
   have d1 : decide ((l.length : Int) < (l.length : Int)) = false := by simp
   have hzr : zz = lz := by
    refine List.ext_getElem (by omega) (fun i h1 h2 => ?_)
    have e1 := hzv i (by omega)
    have e2 := HLV.out i (by omega)
    rw [Z2w h1] at e1
    rw [Z2w h2] at e2
    rw [e1, e2]
   subst hzr
   obtain ⟨hkw, ha, hal⟩ := HK6.out wa hB
   have h1 := hkw.rt
   have h2 := hkw.rl
   have h3 := hkw.rp
   have hlt0 := hkw.lt
   obtain ⟨t0, t1⟩ := hkw.t
   obtain ⟨m0, m1, m2, m3⟩ := hkw.m
   obtain ⟨k0, k1, k2, k3⟩ := hkw.k
   obtain ⟨l0, l1, l2, l3⟩ := hlt0
   have h4 := ZaI hI hzz
   have HR := Z0 (HMK2.out wa _ _ _ _ _ h1 h2 h3 h4)
   have HBA := Z0 hB
   have HIA := Z0 hI
   clear h1 h2 h3 h4 hkw ha hal hzv d1 HLV HMK2
   go_wp2_with fail
   refine HR.out.mono ?_
   clear HR t0 t1 m0 m1 m2 m3 k0 k1 k2 k3 l0 l1 l2 l3
   rintro e w8 ⟨z0, z1, z2, z3, z4, z5, z6, z7, z8, z9, rfl, hb8⟩
   have b68 := Z00 HBA.out HBA.out.size hb8
   obtain ⟨_, ha, hal⟩ := HK6.out w8 b68
   obtain ⟨a0, a1, a2, a3, a4, a5, a6, a7, a8, a9, a10, a11⟩ := Z4d ha
   have hq1 : decide (cb < ca) = false := decide_eq_false (by omega)
   have hb9 : Below W6.1.size W6 (w8.alloc (.cells #[.slice z0 z1 z2, .int .i64 z3, .int .i64 pa, .int .i64 z4, .int .i64 z5, .int .i64 ba, .int .i64 bra, .int .i64 z6, .int .i64 cb, .int .i64 z7, .int .i64 z8, .int .i64 z9] 44)) := b68.alloc b68.size _
   have HB9 := Z0 hb9
   clear ha hb9 b68 hb8 HBA HIA hB hI hzz
   go_wp2_with fail
   clear a0 a1 a2 a3 a4 a5 a6 a7 a8 a9 a10 a11 hq1
   go_loopw [124] (fun i wr => ∃ lv : Nat, lv <= ls.length /\ i = .int .i64 lv /\ Below W6.1.size W6 wr) (fun i _ => ls.length - (intOf i).toNat)
   case atStart => exact ⟨0, ZE _, rfl, HB9.out⟩
   case round =>
    clear HB9
    obtain ⟨wb, hwb⟩ : ∃ x, x = wr := ⟨_, rfl⟩
    subst hwb
    obtain ⟨lv, hlv, rfl, hB⟩ := hrel
    have HB := Z0 hB
    by_cases hlt : lv < ls.length
    ·have d1 : decide ((lv : Int) < (ls.length : Int)) = true := decide_eq_true (by omega)
     have hm0 := Z3u wb l.length
     have hmb := (Z9 _ wb).alloc (Z1 _) (.cells (madeCells #[Value.int .i64 0] l.length) 3)
     have HM0 := Z0 hm0
     have HMB := Z0 hmb
     clear hm0 hmb hB
     go_wp2_with fail
     rw [HMKR.out wb]
     go_wp2_with fail
     go_loopw [132] (fun i wr => ∃ (j : Nat) (yy : List Int), j <= l.length /\ i = .int .i64 j /\ Below wb.1.size wb wr /\ IntsAt wr wb.1.size yy /\ yy.length = l.length /\ ∀ i, i < j -> yy.getD i (-1) = (Z1D zs ls.length lv).getD i (-1)) (fun i _ => l.length - (intOf i).toNat)
     case atStart => exact ⟨0, List.replicate l.length 0, ZE _, rfl, HMB.out, HM0.out, List.length_replicate, fun i hi => absurd hi (Nat.not_lt_zero _)⟩
     case round =>
      clear HM0 HMB
      obtain ⟨wc, hwc⟩ : ∃ x, x = wr := ⟨_, rfl⟩
      subst hwc
      obtain ⟨j, yy, hj, rfl, hB, hI, hyy, hyv⟩ := hrel
      have hbb := Z00 HB.out HB.out.size hB
      by_cases hltj : j < l.length
      ·have hkb := (HK6.out wb HB.out).1
       have hgb := hkb.lt.2.2.2
       have hq : wc.cell? ⟨gz, j, none⟩ = some (.int .i64 (zs.getD j (-1))) := (hB.cell (p := ⟨gz, j, none⟩) hgb).trans (hkb.rz.cell (by omega))
       have hzj := HZR.out j (by omega)
       have hmv : (Z1D zs ls.length lv).getD j (-1) = if zs.getD j (-1) = (lv : Int) /\ lv + 1 < ls.length then (lv : Int) + 1 else zs.getD j (-1) := by
        rw [Z2w (by rw [Z3s]; omega), Zc9 _ _ (show j < zs.length by omega), Z2w (show j < zs.length by omega)]
       have hyw : ∀ (q : Int), q = (Z1D zs ls.length lv).getD j (-1) -> ∀ i, i < j + 1 -> (yy.set j q).getD i (-1) = (Z1D zs ls.length lv).getD i (-1) := by
        intro q hq i hi
        rw [Z2]
        by_cases e : i = j
        ·subst e
         rw [List.getElem?_set_self (by omega), hq]; rfl
        ·rw [List.getElem?_set_ne (by omega), <- Z2]
         exact hyv i (by omega)
       have HYW := Z0 hyw
       generalize zs.getD j (-1) = u at hq hzj hmv
       have HMV2 := Z0 hmv
       have z0 := hI.cell (i := j) (by omega)
       have z0f := hI.free j
       have hI1 := hI.set j u
       have z1f := hI1.free j
       have hfar : ∀ u : Value, (wc.setCell ⟨wb.1.size, j, none⟩ u).cell? ⟨gz, j, none⟩ = wc.cell? ⟨gz, j, none⟩ := fun u => World.cell?_of_block (ZA _ _ _ _ (by show gz ≠ wb.1.size; omega))
       have q1 := (hfar (.int .i64 u)).trans hq
       have hgc : gz < wc.1.size := by have := hB.size; omega
       have HB2 := Z0 hB
       have HI1 := Z0 hI1
       have HYY : Hid ((yy.set j u).length = l.length) := by
        show _ = _
        rw [List.length_set]; exact hyy
       have HYYB := Z0 hyy
       have d2 : decide ((j : Int) < (l.length : Int)) = true := decide_eq_true (by omega)
       have hne : gz ≠ wb.1.size := by omega
       clear hB hI hyy hyv hmv hyw hI1 hkb hbb hfar
       by_cases c1 : u = (lv : Int)
       ·by_cases c2 : lv + 1 < ls.length
        ·have e1 : (u == (lv : Int)) = true := by simp [c1]
         have e2 : decide ((lv : Int) + 1 < (ls.length : Int)) = true := decide_eq_true (by omega)
         have HE : Hid ((lv : Int) + 1 = (Z1D zs ls.length lv).getD j (-1)) := by
          show _ = _
          rw [HMV2.out, if_pos ⟨c1, c2⟩]
         clear c1 c2
         go_wp2_with fail
         go_roundw
         case rel =>
          refine ⟨j + 1, (yy.set j u).set j ((lv : Int) + 1), by omega, by go_num, (HB2.out.setCell (Z1 _) _).setCell (Z1 _) _, HI1.out.set j _, by rw [List.length_set]; exact HYY.out, ?_⟩
          rw [List.set_set]
          exact HYW.out _ HE.out
         case measure => simp [intOf]; omega
        ·have e1 : (u == (lv : Int)) = true := by simp [c1]
         have e2 : decide ((lv : Int) + 1 < (ls.length : Int)) = false := decide_eq_false (by omega)
         have HE : Hid (u = (Z1D zs ls.length lv).getD j (-1)) := by
          show _ = _
          rw [HMV2.out, if_neg (fun h => c2 h.2)]
         clear c1 c2
         go_wp2_with fail
         go_roundw
         case rel => exact ⟨j + 1, yy.set j u, by omega, by go_num, HB2.out.setCell (Z1 _) _, HI1.out, HYY.out, HYW.out _ HE.out⟩
         case measure => simp [intOf]; omega
       ·have e1 : (u == (lv : Int)) = false := by simp [c1]
        have HE : Hid (u = (Z1D zs ls.length lv).getD j (-1)) := by
         show _ = _
         rw [HMV2.out, if_neg (fun h => c1 h.1)]
        clear c1
        go_wp2_with fail
        go_roundw
        case rel => exact ⟨j + 1, yy.set j u, by omega, by go_num, HB2.out.setCell (Z1 _) _, HI1.out, HYY.out, HYW.out _ HE.out⟩
        case measure => simp [intOf]; omega
      ·obtain rfl : j = l.length := by omega
       have d2 : decide ((l.length : Int) < (l.length : Int)) = false := by simp
       have hzr : yy = Z1D zs ls.length lv := by
        refine List.ext_getElem (by rw [hyy, Z3s]; omega) (fun i h1 h2 => ?_)
        have e1 := hyv i (by omega)
        rw [Z2w h1, Z2w h2] at e1
        exact e1
       subst hzr
       obtain ⟨hkw, ha, hal⟩ := HK6.out wc hbb
       obtain ⟨m0, m1, m2, m3⟩ := hkw.m
       obtain ⟨l0, l1, l2, l3⟩ := hkw.lt
       have h4 := ZaI hI hyy
       obtain ⟨ok, C, E, hok, hva, hmk2⟩ := HMV.out lv wc _ _ _ _ _ hkw.rt hkw.rl hkw.rp h4
       have HVA := Z0 hva
       have HMK3 := Z0 hmk2
       have HOK := Z0 hok
       have HBB := Z0 hbb
       clear hkw ha hal h4 hva hmk2 hok hbb hB hI hyy hyv
       go_wp2_with fail
       refine HVA.out.mono ?_
       clear HVA m0 m1 m2 m3 l0 l1 l2 l3
       rintro e w10 ⟨rfl, hb10⟩
       have hb610 := Z00 HBB.out HBB.out.size hb10
       obtain ⟨hkw, ha, hal⟩ := HK6.out w10 hb610
       obtain ⟨t0, t1⟩ := hkw.t
       obtain ⟨m0, m1, m2, m3⟩ := hkw.m
       obtain ⟨k0, k1, k2, k3⟩ := hkw.k
       obtain ⟨l0, l1, l2, l3⟩ := hkw.lt
       have HR := Z0 (HMK3.out w10 hb10)
       have HB10 := Z0 hb610
       clear hkw ha hal hb10 hb610 HMK3 HBB
       go_wp2_with fail
       refine HR.out.mono ?_
       clear HR t0 t1 m0 m1 m2 m3 k0 k1 k2 k3 l0 l1 l2 l3
       rintro e w11 ⟨y0, y1, y2, y3, y4, y5, y6, y7, y8, y9, y10, y11, y12, rfl, hb11⟩
       have hb611 := Z00 HB10.out HB10.out.size hb11
       obtain ⟨_, ha, hal⟩ := HK6.out w11 hb611
       obtain ⟨a0, a1, a2, a3, a4, a5, a6, a7, a8, a9, a10, a11⟩ := Z4d ha
       have HB11 := Z0 hb611
       clear ha hb11 hb611 HB10
       cases ok
       ·go_wp2_with fail
        go_roundw
        case rel => exact ⟨lv + 1, by omega, by go_num, HB11.out.alloc HB11.out.size _⟩
        case measure => simp [intOf]; omega
       ·obtain ⟨rfl, hcc⟩ := HOK.out rfl
        have hq2 : decide (C < ca) = false := decide_eq_false (by omega)
        clear hcc
        go_wp2_with fail
        go_roundw
        case rel => exact ⟨lv + 1, by omega, by go_num, HB11.out.alloc HB11.out.size _⟩
        case measure => simp [intOf]; omega
    ·obtain rfl : lv = ls.length := by omega
     have d1 : decide ((ls.length : Int) < (ls.length : Int)) = false := by simp
     have hkw := (HK6.out wb hB).1.bw
     clear hB
     go_wp2_with fail
     go_ret
     exact ⟨rfl, hkw⟩
end Go.Proofs.YtlgajongmkhcnaaGreatDoor
