import Derived.Test.YtlgajongmkhcnaaGreatDoorQU5
import Derived.Deep.OwnRows
import Derived.BigQuiet
import Derived.Test.YtlgajongmkhcnaaGreatDoorQU7
set_option maxRecDepth 100000
set_option linter.unusedVariables false
set_option linter.unusedSimpArgs false
set_option maxHeartbeats 32000000
namespace Go.Proofs.YtlgajongmkhcnaaGreatDoor
section
open Go.RowKit Go.Sort
def IntsAt (w : World) (g : Nat) (xs : List Int) : Prop := w.1[g]? = some (.cells (xs.map (Value.int .i64)).toArray 3 (0, 0))
theorem IntsAt.lt {w : World} {g : Nat} {xs : List Int} (h : IntsAt w g xs) : g < w.1.size := (Z5.1 h).1
theorem IntsAt.below {w w' : World} {g B : Nat} {xs : List Int} (h : IntsAt w g xs) (hb : Below B w w') (hg : g < B) : IntsAt w' g xs := by
 exact (hb.block g hg).trans h
theorem IntsAt.cell {w : World} {g : Nat} {xs : List Int} (h : IntsAt w g xs) {i : Nat} (hi : i < xs.length) : w.cell? ⟨g, i, none⟩ = some (.int .i64 (xs.getD i (-1))) := by
 unfold IntsAt at h
 simp [World.cell?, h, hi]
theorem IntsAt.free {w : World} {g : Nat} {xs : List Int} (h : IntsAt w g xs) (i : Nat) : w.frozen? ⟨g, i, none⟩ = false := by
 unfold IntsAt at h
 simp [World.frozen?, h]
theorem IntsAt.set {w : World} {g : Nat} {xs : List Int} (h : IntsAt w g xs) (i : Nat) (x : Int) : IntsAt (w.setCell ⟨g, i, none⟩ (.int .i64 x)) g (xs.set i x) := by
 have hl := h.lt
 unfold IntsAt at *
 simp only [World.setCell, Kap, if_pos, h, Option.map_some, List.map_set]
 simp
theorem IntsAt.row {w : World} {g cap : Nat} {xs : List Int} (h : IntsAt w g xs) : RowI w (.slice (some ⟨g, 0, none⟩) xs.length cap) xs :=
 ⟨g, cap, _, rfl, h, by rw [Kas (by simp)]⟩
theorem IntsAt.setOther {w : World} {g : Nat} {xs : List Int} (h : IntsAt w g xs) {a : Addr} (ha : g ≠ a.block) (v : Value) : IntsAt (w.setCell a v) g xs :=
 (ZA _ _ _ _ ha).trans h
def RowJ (w : World) (base : Nat) (v : Value) (zs : List Int) : Prop :=
 ∃ a cap, v = .slice a zs.length cap /\ (0 < zs.length -> ∃ g off cur, a = some ⟨g, off, none⟩ /\ base <= g /\ w.1[g]? = some (.cells cur 3 (0, 0)) /\ ∀ i (h : i < zs.length), cur[off + i]? = some (.int .i64 zs[i]))
theorem RowJ.rd {w : World} {base : Nat} {v : Value} {zs : List Int} (h : RowJ w base v zs) : RdInts w v zs := by
 obtain ⟨a, cap, hv, hc⟩ := h
 refine ⟨a, cap, hv, fun h0 => ?_⟩
 obtain ⟨g, off, cur, ha, _, hg, pB⟩ := hc h0
 refine ⟨g, off, ha, (Z5.1 hg).1, fun i hi => ?_⟩
 rw [Kaa w g (off + i) _ _ _ hg, pB i hi]
theorem RowJ.kept {w w' : World} {base : Nat} {v : Value} {zs : List Int} {row : Option Nat} (h : RowJ w base v zs) (hg : w.grownBy w' row) (pP : ∀ g, row = some g -> g < base \/ ∀ cur fr, w.1[g]? ≠ some (.cells cur 3 fr)) : RowJ w' base v zs := by
 obtain ⟨a, cap, hv, hc⟩ := h
 refine ⟨a, cap, hv, fun h0 => ?_⟩
 obtain ⟨g, off, cur, ha, hb, hh, pB⟩ := hc h0
 exact ⟨g, off, cur, ha, hb, (hg.block g (Z5.1 hh).1 (fun e => by rcases pP g e.symm with h | h; omega; exact h _ _ hh)).trans hh, pB⟩
theorem RowJ.below {w w' : World} {base : Nat} {v : Value} {zs : List Int} (h : RowJ w base v zs) (hb : Below w.1.size w w') : RowJ w' base v zs := h.kept (Z0a hb) (fun g e => by cases e)
theorem RowJ.mono {w : World} {base base' : Nat} {v : Value} {zs : List Int} (h : RowJ w base v zs) (hb : base' <= base) : RowJ w base' v zs := by
 obtain ⟨a, cap, hv, hc⟩ := h
 refine ⟨a, cap, hv, fun h0 => ?_⟩
 obtain ⟨g, off, cur, ha, hb', hh, pB⟩ := hc h0
 exact ⟨g, off, cur, ha, by omega, hh, pB⟩
theorem RowJ.nil (w : World) (base : Nat) (a : Option Addr) (cap : Nat) : RowJ w base (.slice a 0 cap) [] := ⟨a, cap, rfl, fun h => absurd h (by simp)⟩
theorem RowJ.of_ints {w : World} {base g : Nat} {xs : List Int} (h : IntsAt w g xs) (hb : base <= g) (cap : Nat) : RowJ w base (.slice (some ⟨g, 0, none⟩) xs.length cap) xs :=
 ⟨_, cap, rfl, fun _ => ⟨g, 0, _, rfl, hb, h, fun i hi => by simp [hi]⟩⟩
theorem RowJ.take {w : World} {base n cap : Nat} {a : Option Addr} {zs : List Int} (h : RowJ w base (.slice a n cap) zs) {k cap' : Nat} (hk : k <= zs.length) : RowJ w base (.slice a k cap') (zs.take k) := by
 obtain ⟨a', cp, hv, hc⟩ := h
 injection hv with h1 h2 h3
 subst h1
 refine ⟨a, cap', by rw [Kax, Kcp hk], fun h0 => ?_⟩
 rw [Kax] at h0
 obtain ⟨g, off, cur, ha, hb, hh, pB⟩ := hc (by omega)
 exact ⟨g, off, cur, ha, hb, hh, fun i hi => by rw [Kax] at hi; rw [pB i (by omega), List.getElem_take]⟩
theorem RowJ.drop {w : World} {base n cap g off : Nat} {zs : List Int} (h : RowJ w base (.slice (some ⟨g, off, none⟩) n cap) zs) {k cap' : Nat} (hk : k <= zs.length) : RowJ w base (.slice (some ⟨g, off + k, none⟩) (zs.length - k) cap') (zs.drop k) := by
 obtain ⟨a', cp, hv, hc⟩ := h
 injection hv with h1 h2 h3
 subst h1
 refine ⟨_, cap', by rw [Kdp], fun h0 => ?_⟩
 rw [Kdp] at h0
 obtain ⟨g', off', cur, ha, hb, hh, pB⟩ := hc (by omega)
 injection ha with ha
 injection ha with e1 e2
 subst e1; subst e2
 refine ⟨g, off + k, cur, rfl, hb, hh, fun i hi => ?_⟩
 rw [Kdp] at hi
 rw [show off + k + i = off + (k + i) by omega, pB (k + i) (by omega), List.getElem_drop]
theorem RowJ.of_owns {w : World} {base : Nat} {v : Value} {zs : List Int} (h : w.ownsInts base 3 .i64 v zs) : RowJ w base v zs := by
 obtain ⟨⟨h1, h2 | ⟨g, cap, cur, hv, hb, hg, _, _, _, ht⟩⟩, _⟩ := h
 ·obtain rfl := Kag.1 h2.2
  rw [h2.1]
  exact RowJ.nil _ _ _ _
 ·refine ⟨_, cap, hv, fun _ => ⟨g, 0, cur, rfl, hb, hg, fun i hi => ?_⟩⟩
  rw [Kdj] at ht
  have : (cur.toList.take zs.length)[i]? = (zs.map (Value.int .i64))[i]? := by rw [ht]
  rw [Kcd hi, Kal, Z3 hi, Kb9] at this
  rw [Ka0]; exact this
theorem RowJ.len {w : World} {base : Nat} {v : Value} {zs : List Int} (h : RowJ w base v zs) : ∃ a cap, v = .slice a zs.length cap := by
 obtain ⟨a, cap, hv, _⟩ := h
 exact ⟨a, cap, hv⟩
def RdRows (w : World) (base : Nat) (v : Value) (ts : List (List Int)) : Prop :=
 ∃ a cap, v = .slice a ts.length cap /\ (0 < ts.length -> ∃ g off, a = some ⟨g, off, none⟩ /\ (∃ cur, w.1[g]? = some (.cells cur 35 (0, 0))) /\ ∀ i (h : i < ts.length), ∃ u, w.cell? ⟨g, off + i, none⟩ = some u /\ RowJ w base u ts[i])
theorem RdRows.below {w w' : World} {base : Nat} {v : Value} {ts : List (List Int)} (h : RdRows w base v ts) (hb : Below w.1.size w w') : RdRows w' base v ts := by
 obtain ⟨a, cap, hv, hc⟩ := h
 refine ⟨a, cap, hv, fun h0 => ?_⟩
 obtain ⟨g, off, ha, ⟨cur, hg⟩, pB⟩ := hc h0
 have hl := (Z5.1 hg).1
 refine ⟨g, off, ha, ⟨cur, (hb.block g hl).trans hg⟩, fun i hi => ?_⟩
 obtain ⟨u, h1, h2⟩ := pB i hi
 exact ⟨u, (hb.cell (p := ⟨g, off + i, none⟩) hl).trans h1, h2.below hb⟩
end
section
open Go.RowKit Go.Sort
structure Pce where
 id : Int
 point : Int
 code : ByteArray
 grams : Int
 barred : Bool
structure Mai where
 cls : Int
 ctr : Int
 origin : ByteArray
 ps : List Pce
def PceAt (w : World) (g o : Nat) (p : Pce) : Prop :=
 w.cell? ⟨g, o, none⟩ = some (.int .i64 p.id) /\ w.cell? ⟨g, o + 1, none⟩ = some (.int .i64 p.point) /\ w.cell? ⟨g, o + 2, none⟩ = some (.string p.code) /\ w.cell? ⟨g, o + 3, none⟩ = some (.int .i64 p.grams) /\ w.cell? ⟨g, o + 4, none⟩ = some (.bool p.barred)
def RdPces (w : World) (v : Value) (ps : List Pce) : Prop :=
 ∃ a cap, v = .slice a ps.length cap /\ (0 < ps.length -> ∃ g off, a = some ⟨g, off, none⟩ /\ g < w.1.size /\ ∀ i (h : i < ps.length), PceAt w g (off + i * 5) ps[i])
theorem PceAt.below {w w' : World} {g o B : Nat} {p : Pce} (h : PceAt w g o p) (hb : Below B w w') (hg : g < B) : PceAt w' g o p := by
 obtain ⟨a, b, c, d, e⟩ := h
 exact ⟨(hb.cell (p := ⟨g, o, none⟩) hg).trans a, (hb.cell (p := ⟨g, o + 1, none⟩) hg).trans b, (hb.cell (p := ⟨g, o + 2, none⟩) hg).trans c, (hb.cell (p := ⟨g, o + 3, none⟩) hg).trans d, (hb.cell (p := ⟨g, o + 4, none⟩) hg).trans e⟩
theorem RdPces.below {w w' : World} {v : Value} {ps : List Pce} (h : RdPces w v ps) (hb : Below w.1.size w w') : RdPces w' v ps := by
 obtain ⟨a, cap, hv, hc⟩ := h
 exact ⟨a, cap, hv, fun h0 => by
  obtain ⟨g, off, ha, hg, pB⟩ := hc h0
  exact ⟨g, off, ha, ZH hg hb.size, fun i h => (pB i h).below hb hg⟩⟩
def Z2r (m : Mai) (v : Value) : Value := .agg #[.int .u8 m.cls, .int .u8 m.ctr, .string m.origin, v]
def pcB (b : Int) (p : Pce) : Bool := decide (b < p.id /\ p.id <= 999999 /\ 0 <= p.point /\ p.point <= 999999) && (Z0G p.code && decide (1 <= p.grams /\ p.grams <= 50000))
def Zcw : Int -> List Pce -> Bool
 | _, [] => true
 | b, p :: r => pcB b p && Zcw p.id r
def Z2c (m : Mai) : Bool := decide (1 <= m.cls /\ 1 <= m.ctr /\ m.ctr <= 3) && (Z0G m.origin && (decide (m.ps.length <= 2000) && Zcw 0 m.ps))
def Z4Y (ps : List Pce) (k : Nat) : Int := if k = 0 then 0 else (ps.getD (k - 1) ⟨0, 0, ⟨#[]⟩, 0, false⟩).id
theorem Z7d (ps : List Pce) {k : Nat} (h : k < ps.length) : Z4Y ps (k + 1) = ps[k].id := by
 unfold Z4Y
 rw [if_neg (by omega), Kcx, Z2, Z3 h]; rfl
theorem Zhx (ps : List Pce) {k : Nat} (h : k < ps.length) : Zcw (Z4Y ps k) (ps.drop k) = (pcB (Z4Y ps k) ps[k] && Zcw (Z4Y ps (k + 1)) (ps.drop (k + 1))) := by
 rw [Kc7 h, Z7d ps h]; rfl
theorem Z3c (m : Mai) (v : Value) (w : World) (hr : RdPces w v m.ps) (h8 : 0 <= m.cls /\ m.cls <= 255 /\ 0 <= m.ctr /\ m.ctr <= 255) (ho : m.origin.size <= maxLen) (hl : m.ps.length <= 100000) (hc : ∀ p ∈ m.ps, p.code.size <= maxLen) :
 Calls Tryz.prog 34 #[Z2r m v] w fun e w' => e = .returned (.bool (Z2c m)) /\ Below w.1.size w w' := by
 obtain ⟨a, cap, rfl, pB⟩ := hr
 obtain ⟨R, hR⟩ : ∃ R, R = Z2c m := ⟨_, rfl⟩
 rw [<- hR]
 unfold Z2c at hR
 unfold Z2r
 obtain ⟨cls, ctr, org, ps⟩ := m
 dsimp only at *
 have HC := Z0 hc
 have qY := Z0 pB
 have qC := Z0 (fun W => Z6u org W ho)
 obtain ⟨ob, rM⟩ : ∃ o, o = Z0G org := ⟨_, rfl⟩
 rw [<- rM] at qC hR
 clear hc pB ho rM
 by_cases k1 : 1 <= cls /\ 1 <= ctr /\ ctr <= 3
 ·rw [Kac k1, Bool.true_and] at hR
  obtain ⟨k1, k2, k3⟩ := k1
  have q1 : ¬ cls < 1 := by omega
  have q2 : ¬ ctr < 1 := by omega
  have q3 : ¬ ctr > 3 := by omega
  cases ob
  ·go_enter Tryz.func34, Tryz.ntmps34
   go_wp2_with (go_at_call 74; refine (qC.out _).mono ?_; rintro e w1 ⟨rfl, pC⟩)
   go_ret
   exact ⟨by rw [hR]; rfl, Z0l (Z9 _ _) (Z1 _) pC⟩
  ·rw [Bool.true_and] at hR
   by_cases k4 : ps.length <= 2000
   ·rw [Kac k4, Bool.true_and] at hR
    have q4 : ¬ (ps.length : Int) > 2000 := by omega
    have HR := Z0 hR
    clear hR
    have c0 : (w.alloc (.cells #[.int .u8 cls, .int .u8 ctr, .string org, .slice a ps.length cap] 34)).cell? ⟨w.1.size, 3, none⟩ = some (.slice a ps.length cap) := Kaa _ _ 3 _ _ _ (Z02 w _)
    go_enter Tryz.func34, Tryz.ntmps34
    go_wp2_with (go_at_call 74; refine (qC.out _).mono ?_; rintro e w1 ⟨rfl, pC⟩; have c3 := (pC.cell (p := ⟨w.1.size, 3, none⟩) (by simp)).trans c0)
    have rN : Below w.1.size w w1 := Z0l (Z9 _ w) (Z1 _) pC
    clear c3 pC c0
    go_loopw [3, 32] (fun b i wr => ∃ k : Nat, k <= ps.length /\ i = .int .i64 k /\ b = .int .i64 (Z4Y ps k) /\ Below w.1.size w wr /\ R = Zcw (Z4Y ps k) (ps.drop k)) (fun _ i _ => ps.length - (intOf i).toNat)
    case atStart => exact ⟨0, ZE _, rfl, rfl, rN, HR.out⟩
    case round =>
     clear rN HR
     obtain ⟨k, hk, rfl, rfl, hB, hR⟩ := hrel
     by_cases pA : k < ps.length
     ·obtain ⟨g, off, rfl, hg, qD⟩ := qY.out (by omega)
      have hp := (qD k pA).below hB hg
      have qR := HC.out _ (Z4 pA)
      rw [Zhx ps pA] at hR
      have hid := Z7d ps pA
      obtain ⟨b0, qZ⟩ : ∃ b, b = Z4Y ps k := ⟨_, rfl⟩
      obtain ⟨b2, rA⟩ : ∃ b, b = Zcw (Z4Y ps (k + 1)) (ps.drop (k + 1)) := ⟨_, rfl⟩
      rw [<- qZ, <- rA] at hR
      rw [<- qZ]
      obtain ⟨p, qE⟩ : ∃ p, p = ps[k] := ⟨_, rfl⟩
      rw [<- qE] at hp qR hR hid
      obtain ⟨id, pt, cd, gr, br⟩ := p
      unfold pcB at hR
      dsimp only at qR hR hid
      obtain ⟨p0, p1, p2, p3, p4⟩ := hp
      dsimp only at p0 p1 p2 p3 p4
      have sL := Z0 hid
      have sM := Z0 rA
      have qF := Z0 (fun W => Z6u cd W qR)
      obtain ⟨cb, rO⟩ : ∃ o, o = Z0G cd := ⟨_, rfl⟩
      rw [<- rO] at qF hR
      have pD := Z0 hR
      clear qD qZ rA qE hid rO hR qR HC qC
      by_cases j1 : id <= b0
      ·go_wp2_with fail
       go_ret
       have hf : R = false := by rw [pD.out, Kad (by omega)]; rfl
       exact ⟨by rw [hf]; rfl, hB.alloc hB.size _⟩
      ·by_cases j2 : id > 999999
       ·go_wp2_with fail
        go_ret
        have hf : R = false := by rw [pD.out, Kad (by omega)]; rfl
        exact ⟨by rw [hf]; rfl, hB.alloc hB.size _⟩
       ·by_cases j3 : pt < 0
        ·go_wp2_with fail
         go_ret
         have hf : R = false := by rw [pD.out, Kad (by omega)]; rfl
         exact ⟨by rw [hf]; rfl, hB.alloc hB.size _⟩
        ·by_cases j4 : pt > 999999
         ·go_wp2_with fail
          go_ret
          have hf : R = false := by rw [pD.out, Kad (by omega)]; rfl
          exact ⟨by rw [hf]; rfl, hB.alloc hB.size _⟩
         ·have e1 : R = (cb && decide (1 <= gr /\ gr <= 50000) && b2) := by rw [pD.out, Kac (by omega), Bool.true_and]
          have HE := Z0 e1
          clear e1 pD
          cases cb
          ·go_wp2_with (go_at_call 74; refine (qF.out _).mono ?_; rintro e w1 ⟨rfl, pC⟩)
           go_ret
           have hf : R = false := by rw [HE.out]; rfl
           exact ⟨by rw [hf]; rfl, Z0l hB hB.size pC⟩
          ·have d3 : (wr.alloc (.cells #[.int .i64 id, .int .i64 pt, .string cd, .int .i64 gr, .bool br] 65)).cell? ⟨wr.1.size, 3, none⟩ = some (.int .i64 gr) := Kaa _ _ 3 _ _ _ (Z02 wr _)
           have d0 : (wr.alloc (.cells #[.int .i64 id, .int .i64 pt, .string cd, .int .i64 gr, .bool br] 65)).cell? ⟨wr.1.size, 0, none⟩ = some (.int .i64 id) := Kaa _ _ 0 _ _ _ (Z02 wr _)
           by_cases j5 : gr < 1
           ·go_wp2_with (go_at_call 74; refine (qF.out _).mono ?_; rintro e w1 ⟨rfl, pC⟩; have e3 := (pC.cell (p := ⟨wr.1.size, 3, none⟩) (by simp)).trans d3)
            go_ret
            have hf : R = false := by rw [HE.out, Kad (by omega)]; rfl
            exact ⟨by rw [hf]; rfl, Z0l hB hB.size pC⟩
           ·by_cases j6 : gr > 50000
            ·go_wp2_with (go_at_call 74; refine (qF.out _).mono ?_; rintro e w1 ⟨rfl, pC⟩; have e3 := (pC.cell (p := ⟨wr.1.size, 3, none⟩) (by simp)).trans d3)
             go_ret
             have hf : R = false := by rw [HE.out, Kad (by omega)]; rfl
             exact ⟨by rw [hf]; rfl, Z0l hB hB.size pC⟩
            ·go_wp2_with (go_at_call 74; refine (qF.out _).mono ?_; rintro e w1 ⟨rfl, pC⟩; have e3 := (pC.cell (p := ⟨wr.1.size, 3, none⟩) (by simp)).trans d3; have e0 := (pC.cell (p := ⟨wr.1.size, 0, none⟩) (by simp)).trans d0)
             go_roundw
             case rel => exact ⟨k + 1, by omega, by go_num, by rw [sL.out], Z0l hB hB.size pC, by rw [HE.out, Kac (by omega), <- sM.out]; rfl⟩
             case measure => simp [intOf]; omega
     ·obtain rfl : k = ps.length := by omega
      go_wp2_with fail
      go_ret
      exact ⟨by rw [hR, List.drop_length]; rfl, hB⟩
   ·rw [Kad k4] at hR
    have q4 : (ps.length : Int) > 2000 := by omega
    go_enter Tryz.func34, Tryz.ntmps34
    have HR := Z0 hR
    clear hR
    have c3 : (w.alloc (.cells #[.int .u8 cls, .int .u8 ctr, .string org, .slice a ps.length cap] 34)).cell? ⟨w.1.size, 3, none⟩ = some (.slice a ps.length cap) := Kaa _ _ 3 _ _ _ (Z02 w _)
    go_wp2_with (go_at_call 74; refine (qC.out _).mono ?_; rintro e w1 ⟨rfl, pC⟩; have e3 := (pC.cell (p := ⟨w.1.size, 3, none⟩) (by simp)).trans c3)
    go_ret
    exact ⟨by rw [HR.out]; rfl, Z0l (Z9 _ _) (Z1 _) pC⟩
 ·rw [Kad k1] at hR
  have HR := Z0 hR
  clear hR
  by_cases q1 : cls < 1
  ·go_enter Tryz.func34, Tryz.ntmps34
   go_wp2_with fail
   go_ret
   exact ⟨by rw [HR.out]; rfl, (Z9 _ w).alloc (Z1 _) _⟩
  ·by_cases q2 : ctr < 1
   ·go_enter Tryz.func34, Tryz.ntmps34
    go_wp2_with fail
    go_ret
    exact ⟨by rw [HR.out]; rfl, (Z9 _ w).alloc (Z1 _) _⟩
   ·have q3 : ctr > 3 := by omega
    go_enter Tryz.func34, Tryz.ntmps34
    go_wp2_with fail
    go_ret
    exact ⟨by rw [HR.out]; rfl, (Z9 _ w).alloc (Z1 _) _⟩
end
section
open Go.RowKit Go.Sort
theorem Tryz.infoTx : (Tryz.prog.info? 9).map (fun i => (i.zero, i.size, i.bytes)) = some (some (.string ⟨#[]⟩), 1, 16) := by kernel_rfl
def Z07 (ps : List Pce) : List ByteArray := ps.map (·.code)
theorem Z7x (ps : List Pce) {k : Nat} (h : k < ps.length) : (Z07 (ps.take (k + 1))).map Value.string = (Z07 (ps.take k)).map Value.string ++ [.string ps[k].code] := by
 unfold Z07
 rw [Z8 h, ZD, ZD]; rfl
theorem Z7y (m : Mai) (v : Value) (w : World) (hr : RdPces w v m.ps) (hl : m.ps.length <= 100000) :
 Calls Tryz.prog 42 #[Z2r m v] w fun e w' => ∃ u, e = .returned u /\ Below w.1.size w w' /\ ReadsT w' u (Z07 m.ps) := by
 obtain ⟨a, cap, rfl, pB⟩ := hr
 unfold Z2r
 obtain ⟨cls, ctr, org, ps⟩ := m
 dsimp only at *
 obtain ⟨i0, hi⟩ := info_parts Tryz.infoTx
 have HI := Z0 hi
 have qY := Z0 pB
 clear hi pB
 have c0 : (w.alloc (.cells #[.int .u8 cls, .int .u8 ctr, .string org, .slice a ps.length cap] 34)).cell? ⟨w.1.size, 3, none⟩ = some (.slice a ps.length cap) := Kaa _ _ 3 _ _ _ (Z02 w _)
 go_enter Tryz.func42, Tryz.ntmps42
 go_wp2_with (at_make; refine wpList_make_own _ rfl _ _ 84 rfl (w.1.size + 1) 9 i0 (.string ⟨#[]⟩) 1 Tryz.underlying84 HI.out.1 HI.out.2.1 HI.out.2.2.1 _ _ _ ps.length rfl (by first | rfl | simp) rfl (by rw [HI.out.2.2.2]; omega) (by unfold maxLen; omega) (by simp) ?_; intro w1 rP pF; have pC : Below (w.alloc (.cells #[.int .u8 cls, .int .u8 ctr, .string org, .slice a ps.length cap] 34)).1.size (w.alloc (.cells #[.int .u8 cls, .int .u8 ctr, .string org, .slice a ps.length cap] 34)) w1 := (Z9 _ _).grown pF (Z1 _) (fun _ e => by cases e); clear pF; have c1 := (pC.cell (p := ⟨w.1.size, 3, none⟩) (by simp)).trans c0)
 have hB : Below w.1.size w w1 := Z0l (Z9 _ w) (Z1 _) pC
 have sN := pC.size
 simp only [Z6] at sN
 clear c1 c0 pC
 go_loopw [3, 13] (fun l i wr => ∃ k : Nat, k <= ps.length /\ i = .int .i64 k /\ Below w.1.size w wr /\ w.1.size + 1 <= wr.1.size /\ wr.ownsRow (w.1.size + 1) 9 1 l k ((Z07 (ps.take k)).map Value.string)) (fun _ i _ => ps.length - (intOf i).toNat)
 case atStart => exact ⟨0, ZE _, rfl, hB, by omega, by simpa [Z07] using rP⟩
 case round =>
  clear hB rP
  obtain ⟨k, hk, rfl, hB, hz, hO⟩ := hrel
  by_cases pA : k < ps.length
  ·obtain ⟨g, off, rfl, hg, qD⟩ := qY.out (by omega)
   have hp := (qD k pA).below hB hg
   have pK := Z7x ps pA
   obtain ⟨p, qE⟩ : ∃ p, p = ps[k] := ⟨_, rfl⟩
   rw [<- qE] at hp pK
   have pX := Z0 pK
   obtain ⟨id, pt, cd, gr, br⟩ := p
   obtain ⟨p0, p1, p2, p3, p4⟩ := hp
   dsimp only at p0 p1 p2 p3 p4
   clear qD pK qE
   have rQ := (hO.alloc (.cells #[.int .i64 id, .int .i64 pt, .string cd, .int .i64 gr, .bool br] 65)).alloc (.cells #[.string cd] 9)
   have rR := Z0 rQ
   clear rQ
   rcases Joins.ownsRow_forms hO with ⟨rfl, pY⟩ | ⟨g2, cap2, rfl⟩
   ·have HP := Z0 pY
    clear pY
    go_wp2_with (at_builtin; refine wpList_append_own _ rfl _ _ 84 rfl (w.1.size + 1) 9 i0 (.string ⟨#[]⟩) 1 16 Tryz.underlying84 HI.out.1 HI.out.2.1 HI.out.2.2.1 HI.out.2.2.2 rfl (by decide) _ _ _ rfl rR.out ⟨wr.1.size + 1, 0, none⟩ 1 1 [.string cd] rfl (by simp) (by simpa using cell_one_new (wr.alloc (.cells #[.int .i64 id, .int .i64 pt, .string cd, .int .i64 gr, .bool br] 65)) (.string cd) 9) (by simp [Value.oneCell']) (by unfold maxLen; omega) (by omega) (by simp; omega) ?_; intro v' w5 pI pF _)
    go_roundw
    case rel =>
     refine ⟨k + 1, by omega, by go_num, ?_, ?_, ?_⟩
     ·exact ((hB.alloc hB.size _).alloc (by have := hB.size; simp; omega) _).grown pF (by have := hB.size; simp; omega) (fun r e => by have := (hO.lt r e).1; omega)
     ·have := pF.size; simp at this; omega
     ·rw [pX.out]
      exact pI
    case measure => simp [intOf]; omega
   ·go_wp2_with (at_builtin; refine wpList_append_own _ rfl _ _ 84 rfl (w.1.size + 1) 9 i0 (.string ⟨#[]⟩) 1 16 Tryz.underlying84 HI.out.1 HI.out.2.1 HI.out.2.2.1 HI.out.2.2.2 rfl (by decide) _ _ _ rfl rR.out ⟨wr.1.size + 1, 0, none⟩ 1 1 [.string cd] rfl (by simp) (by simpa using cell_one_new (wr.alloc (.cells #[.int .i64 id, .int .i64 pt, .string cd, .int .i64 gr, .bool br] 65)) (.string cd) 9) (by simp [Value.oneCell']) (by unfold maxLen; omega) (by omega) (by simp; omega) ?_; intro v' w5 pI pF _)
    go_roundw
    case rel =>
     refine ⟨k + 1, by omega, by go_num, ?_, ?_, ?_⟩
     ·exact ((hB.alloc hB.size _).alloc (by have := hB.size; simp; omega) _).grown pF (by have := hB.size; simp; omega) (fun r e => by have := (hO.lt r e).1; omega)
     ·have := pF.size; simp at this; omega
     ·rw [pX.out]
      exact pI
    case measure => simp [intOf]; omega
  ·obtain rfl : k = ps.length := by omega
   rw [Kat] at hO
   have HO := Z0 hO
   have pV : (Z07 ps).length = ps.length := by unfold Z07; simp
   rcases Joins.ownsRow_forms hO with ⟨rfl, hp⟩ | ⟨g2, cap2, rfl⟩
   ·go_wp2_with fail
    go_ret
    refine ⟨_, rfl, hB, ⟨none, 0, by rw [pV, hp]; rfl, fun h0 => by rw [pV] at h0; omega⟩⟩
   ·go_wp2_with fail
    go_ret
    refine ⟨_, rfl, hB, ReadsT.of_row (base := w.1.size + 1) ?_⟩
    unfold OwnsT
    rw [pV]
    exact HO.out
end
section
open Go.RowKit Go.Sort
theorem Zbv (n : Nat) (a : Option Addr) (cap : Nat) (zs : List Int) (vz : Value) (w : World) (hz : RdInts w vz zs) (hl : zs.length <= 1000000) (hn : n <= 100000) :
 Calls Tryz.prog 40 #[.slice a n cap, vz] w fun e w' => e = .returned (.bool (Z1j n zs)) /\ w = w' := by
 obtain ⟨b, cb, rfl, hc⟩ := hz
 have HC := Z0 hc
 have HT := Z0 (fun h => Zad (n := n) (zs := zs) h)
 have HF := Z0 (fun k (hk : k < zs.length) h => ZdH (n := n) (zs := zs) hk h)
 obtain ⟨R, hR⟩ : ∃ R, R = Z1j n zs := ⟨_, rfl⟩
 rw [<- hR] at HT HF ⊢
 clear hR hc
 go_enter Tryz.func40, Tryz.ntmps40
 go_wp2_with fail
 go_loopw [9] (fun i wr => ∃ k : Nat, k <= zs.length /\ i = .int .i64 k /\ w = wr /\ ∀ j (hj : j < zs.length), j < k -> 0 <= zs[j] /\ zs[j] < (n : Int)) (fun i _ => zs.length - (intOf i).toNat)
 case atStart => exact ⟨0, ZE _, rfl, rfl, fun j _ h => absurd h (Ka2 _)⟩
 case round =>
  obtain ⟨k, hk, rfl, hW, rS⟩ := hrel
  subst hW
  have HB := Z0 rS
  clear rS
  by_cases pA : k < zs.length
  ·obtain ⟨g, off, rfl, hg, pB⟩ := HC.out (by omega)
   have c1 := pB k pA
   clear pB
   obtain ⟨z, hz⟩ : ∃ z, z = zs[k] := ⟨_, rfl⟩
   rw [<- hz] at c1
   have HZ := Z0 hz
   clear hz
   by_cases h1 : z < 0
   ·go_wp2_with fail
    go_ret
    exact ⟨by rw [HF.out k pA (.inl (HZ.out ▸ h1))]; rfl, rfl⟩
   ·by_cases h2 : z >= (n : Int)
    ·go_wp2_with fail
     go_ret
     exact ⟨by rw [HF.out k pA (.inr (HZ.out ▸ h2))]; rfl, rfl⟩
    ·go_wp2_with fail
     go_roundw
     case rel =>
      refine ⟨k + 1, by omega, by go_num, (by first | rfl | trivial), fun j hj tL => ?_⟩
      by_cases e : j = k
      ·subst e; rw [<- HZ.out]; omega
      ·exact HB.out j hj (by omega)
     case measure => simp [intOf]; omega
  ·go_wp2_with fail
   go_ret
   exact ⟨by rw [HT.out (fun j hj => HB.out j hj (by omega))]; rfl, rfl⟩
end
section
open Go.RowKit
structure Pck where
 pieces : Int
 grams : Int
 bundles : Int
 trays : Int
structure Bun where
 lvl : Int
 grp : ByteArray
 ids : List Int
 grams : Int
structure Tra where
 lvl : Int
 grp : ByteArray
 bs : List Int
structure Con where
 lvl : Int
 ts : List Int
structure Lod where
 buns : List Bun
 tras : List Tra
 cons : List Con
def ZkK : Pce := ⟨0, 0, ⟨#[]⟩, 0, false⟩
def Z15 (ps : List Pce) (i : Int) : Pce := ps.getD i.toNat ZkK
def Z0k (ps : List Pce) (l : List Int) : Int := (l.map (fun i => (Z15 ps i).grams)).sum
theorem Z3F (ps : List Pce) (l : List Int) (i : Int) : Z0k ps (l ++ [i]) = Z0k ps l + (Z15 ps i).grams := by unfold Z0k; simp
theorem ZbP (ps : List Pce) (i : Int) : Z0k ps [i] = (Z15 ps i).grams := by unfold Z0k; simp
def Z6a (k : Pck) (ps : List Pce) (l : List Int) (i : Int) : Prop := (l.length : Int) < k.pieces /\ Z0k ps l + (Z15 ps i).grams <= k.grams
instance (k : Pck) (ps : List Pce) (l : List Int) (i : Int) : Decidable (Z6a k ps l i) := by unfold Z6a; exact inferInstance
def Z4k (k : Pck) (ps : List Pce) (st : List (List Int) × List Int) (i : Int) : List (List Int) × List Int := if Z6a k ps st.2 i then (st.1, st.2 ++ [i]) else (st.1 ++ [st.2], [i])
def Z3g (k : Pck) (ps : List Pce) (I : List Int) : List (List Int) × List Int := I.foldl (Z4k k ps) ([], [])
theorem Z8G (k : Pck) (ps : List Pce) (I : List Int) (i : Int) : Z3g k ps (I ++ [i]) = Z4k k ps (Z3g k ps I) i := by unfold Z3g; rw [Kbs]; rfl
def ZiJ (k : Pck) (ps : List Pce) (I : List Int) : List (List Int) := if 0 < (Z3g k ps I).2.length then (Z3g k ps I).1 ++ [(Z3g k ps I).2] else (Z3g k ps I).1
structure CutOk (k : Pck) (ps : List Pce) (I : List Int) (st : List (List Int) × List Int) : Prop where
 all : st.1.flatten ++ st.2 = I
 some : I ≠ [] -> st.2 ≠ []
 none : I = [] -> st.1 = []
 part : ∀ l ∈ st.1, l ≠ [] /\ (l.length : Int) <= k.pieces /\ Z0k ps l <= k.grams
 last : (st.2.length : Int) <= k.pieces /\ Z0k ps st.2 <= k.grams
 full : ∀ A a b C, st.1 ++ [st.2] = A ++ a :: b :: C -> ∀ i, b.head? = Option.some i -> ¬ Z6a k ps a i
theorem Z84 {α : Type} {X : List α} {z : α} {A : List α} {a b : α} {C : List α} (h : X ++ [z] = A ++ a :: b :: C) : (C = [] /\ b = z /\ X = A ++ [a]) \/ ∃ C', C = C' ++ [z] /\ X = A ++ a :: b :: C' := by
 rcases List.eq_nil_or_concat C with rfl | ⟨C', y, rfl⟩
 ·refine .inl ⟨rfl, ?_⟩
  have h' : X ++ [z] = (A ++ [a]) ++ [b] := by rw [h]; simp
  obtain ⟨h1, h2⟩ := List.append_inj' h' rfl
  exact ⟨by simpa using h2.symm, h1⟩
 ·refine .inr ⟨C', ?_⟩
  have h' : X ++ [z] = (A ++ a :: b :: C') ++ [y] := by rw [h]; simp
  obtain ⟨h1, h2⟩ := List.append_inj' h' rfl
  have : z = y := by simpa using h2
  subst this
  exact ⟨by simp, h1⟩
theorem ZeR {P : List Int -> Prop} (h0 : P []) (hs : ∀ l i, P l -> P (l ++ [i])) (l : List Int) : P l := by
 have h : ∀ l : List Int, P l.reverse := fun l => by
  induction l with
  | nil => exact h0
  | cons x r ih => rw [List.reverse_cons]; exact hs _ _ ih
 have := h l.reverse
 rwa [List.reverse_reverse] at this
theorem ZiK {k : Pck} {ps : List Pce} (hk : 1 <= k.pieces) (pG : 0 <= k.grams) (I : List Int) (hg : ∀ i ∈ I, (Z15 ps i).grams <= k.grams) : CutOk k ps I (Z3g k ps I) := by
 revert hg
 refine ZeR (P := fun I => (∀ i ∈ I, (Z15 ps i).grams <= k.grams) -> CutOk k ps I (Z3g k ps I)) ?_ ?_ I
 ·intro hg
  show CutOk k ps [] ([], [])
  refine ⟨rfl, fun h => absurd rfl h, fun _ => rfl, fun l hl => (by cases hl), ⟨by show ((0 : Nat) : Int) <= _; omega, by show (0 : Int) <= _; exact pG⟩, fun A a b C h => ?_⟩
  have := Kah List.length h
  simp at this
  omega
 ·intro I i ih hg
  show CutOk k ps (I ++ [i]) (Z3g k ps (I ++ [i]))
  have ih := ih (fun j hj => hg j (Kcn _ hj))
  have pN := hg i (by simp)
  rw [Z8G]
  obtain ⟨h1, h2, h3, h4, h5, h6⟩ := ih
  unfold Z4k
  by_cases hf : Z6a k ps (Z3g k ps I).2 i
  ·rw [if_pos hf]
   refine ⟨?_, fun _ => by simp, fun h => by simp at h, h4, ?_, ?_⟩
   ·rw [<- Kbc, h1]
   ·unfold Z6a at hf
    rw [Z3F, ZC]
    refine ⟨?_, hf.2⟩
    have := hf.1
    simp
    omega
   ·intro A a b C h q hq
    rcases Z84 h with ⟨rfl, rfl, hX⟩ | ⟨C', rfl, hX⟩
    ·have pP : I ≠ [] := fun e => by
      rw [h3 e] at hX
      simp at hX
     have hl := h2 pP
     obtain ⟨x, r, hx⟩ := List.exists_cons_of_ne_nil hl
     refine h6 A a (Z3g k ps I).2 [] (by rw [hX]; simp) q ?_
     rw [hx] at hq ⊢
     exact hq
    ·exact h6 A a b (C' ++ [(Z3g k ps I).2]) (by rw [hX]; simp) q hq
  ·rw [if_neg hf]
   refine ⟨?_, fun _ => by simp, fun h => by simp at h, ?_, ?_, ?_⟩
   ·rw [Kcs, List.flatten_singleton, h1]
   ·intro l hl
    rcases ZG.1 hl with hl | hl
    ·exact h4 l hl
    ·rw [ZI.1 hl]
     refine ⟨fun e => hf ?_, h5⟩
     unfold Z6a
     rw [e]
     refine ⟨by show ((0 : Nat) : Int) < _; omega, ?_⟩
     show (0 : Int) + _ <= _
     omega
   ·refine ⟨by show ((1 : Nat) : Int) <= _; omega, by show Z0k ps [i] <= _; rw [ZbP]; exact pN⟩
   ·intro A a b C h q hq
    rcases Z84 h with ⟨rfl, rfl, hX⟩ | ⟨C', rfl, hX⟩
    ·obtain ⟨_, h8⟩ := List.append_inj' hX rfl
     have ha : (Z3g k ps I).2 = a := by simpa using h8
     have sO : i = q := by simpa using hq
     rw [<- ha, <- sO]
     exact hf
    ·exact h6 A a b C' hX q hq
theorem Z9t {k : Pck} {ps : List Pce} (hk : 1 <= k.pieces) (pG : 0 <= k.grams) (I : List Int) (hg : ∀ i ∈ I, (Z15 ps i).grams <= k.grams) :
 (ZiJ k ps I).flatten = I /\ (∀ l ∈ ZiJ k ps I, l ≠ [] /\ (l.length : Int) <= k.pieces /\ Z0k ps l <= k.grams) /\ ∀ A a b C, ZiJ k ps I = A ++ a :: b :: C -> ∀ i, b.head? = Option.some i -> ¬ Z6a k ps a i := by
 obtain ⟨h1, h2, h3, h4, h5, h6⟩ := ZiK hk pG I hg
 unfold ZiJ
 by_cases hl : 0 < (Z3g k ps I).2.length
 ·rw [if_pos hl]
  refine ⟨by rw [Kcs, List.flatten_singleton]; exact h1, fun l hm => ?_, h6⟩
  rcases ZG.1 hm with hm | hm
  ·exact h4 l hm
  ·rw [ZI.1 hm]
   exact ⟨fun e => by rw [e] at hl; simp at hl, h5⟩
 ·rw [if_neg hl]
  have hn : (Z3g k ps I).2 = [] := Kag.1 (by omega)
  have hI : I = [] := Kb6 (fun e => h2 e hn)
  rw [h3 hI]
  refine ⟨by rw [hI]; rfl, fun l hm => absurd hm (by simp), fun A a b C h => ?_⟩
  have := Kah List.length h
  simp at this
end
section
open Go.RowKit
def Z0W (a b : Nat) : List Int := (List.range (b - a)).map (fun q : Nat => ((a + q : Nat) : Int))
theorem Z1f (a b : Nat) : (Z0W a b).length = b - a := by unfold Z0W; simp
theorem Z6m {a b i : Nat} (h : i < (Z0W a b).length) : (Z0W a b)[i] = ((a + i : Nat) : Int) := by simp only [Z0W, Kba, Kbv]
theorem ZdI {a b : Nat} (h : a <= b) : Z0W a (b + 1) = Z0W a b ++ [(b : Int)] := by
 unfold Z0W
 rw [show b + 1 - a = (b - a) + 1 by omega, Kaq, ZD]
 simp
 omega
theorem Z4O (a : Nat) : Z0W a a = [] := by unfold Z0W; simp
theorem Z73 {a b c : Nat} (h1 : a <= b) (h2 : b <= c) : Z0W a b ++ Z0W b c = Z0W a c := by
 refine Kcf (by rw [ZC, Z1f, Z1f, Z1f]; omega) (fun i hi hi' => ?_)
 by_cases h : i < (Z0W a b).length
 ·rw [Kbl h, Z6m, Z6m]
 ·rw [Kb7 (by omega), Z6m, Z6m, Z1f]
  rw [Z1f] at h
  congr 1
  omega
def Z2v (f t len : Nat) : Nat := (t - f + len - 1) / len
def Z1s (f t len q : Nat) : List Int := Z0W (f + q * len) (min (f + (q + 1) * len) t)
def Z0V (f t len : Nat) : List (List Int) := (List.range (Z2v f t len)).map (Z1s f t len)
theorem Z2S {f t len q : Nat} (hl : 1 <= len) : q < Z2v f t len ↔ f + q * len < t := by
 unfold Z2v
 have h1 := Nat.div_add_mod (t - f + len - 1) len
 have h2 := Kcj (t - f + len - 1) (show 0 < len by omega)
 obtain ⟨D, hD⟩ : ∃ D, D = (t - f + len - 1) / len := ⟨_, rfl⟩
 rw [<- hD] at h1 ⊢
 constructor
 ·intro h
  have h3 : (q + 1) * len <= len * D := by rw [Nat.mul_comm len D]; exact Kcm _ h
  rw [Kcq] at h3
  omega
 ·intro h
  refine Nat.lt_of_not_le (fun h3 => ?_)
  have h4 : len * D <= q * len := by rw [Nat.mul_comm len D]; exact Kcm _ h3
  omega
theorem Zdq (f t len : Nat) : (Z0V f t len).length = Z2v f t len := by unfold Z0V; simp
theorem Zbb {f t len q : Nat} (hl : 1 <= len) (h : q < Z2v f t len) : 1 <= (Z1s f t len q).length /\ (Z1s f t len q).length <= len := by
 have := (Z2S hl).1 h
 unfold Z1s
 rw [Z1f, Kcq]
 omega
theorem Z5P {f t len q : Nat} (hl : 1 <= len) (h : q + 1 < Z2v f t len) : (Z1s f t len q).length = len := by
 have := (Z2S hl).1 h
 unfold Z1s
 rw [Z1f]
 rw [Kcq] at this ⊢
 omega
theorem Z5i {f t len : Nat} (hl : 1 <= len) (qG : f <= t) : (Z0V f t len).flatten = Z0W f t := by
 have h : ∀ n, n <= Z2v f t len -> ((List.range n).map (Z1s f t len)).flatten = Z0W f (min (f + n * len) t) := fun n => by
  induction n with
  | zero =>
   intro _
   simp
   rw [Kcp qG, Z4O]
  | succ n ih =>
   intro hn
   have pA := (Z2S hl).1 (show n < Z2v f t len by omega)
   rw [Kaq, ZD, Kcs, ih (by omega)]
   simp only [Kan, Kbe, List.flatten_cons, List.flatten_nil, Ka1]
   unfold Z1s
   rw [Kcp (Kc0 pA)]
   refine Z73 (by omega) ?_
   rw [Kcq]
   omega
 have h1 := h _ (Z1 _)
 have h2 : ¬ (f + Z2v f t len * len < t) := fun hc => absurd ((Z2S hl).2 hc) (Kdg _)
 rw [Nat.min_eq_right (by omega)] at h1
 exact h1
def Z0r (zs : List Int) (x : Grp) : List Int := x.items.filter (fun i => decide (zs.getD i.toNat (-1) = x.lvl))
def Zgu (ps : List Pce) (x : Grp) (l : List Int) : Bun := ⟨x.lvl, x.name, l.map (fun i => (Z15 ps i).id), Z0k ps l⟩
def Z10 (k : Pck) (ps : List Pce) (zs : List Int) (x : Grp) : List Bun := (ZiJ k ps (Z0r zs x)).map (Zgu ps x)
structure PkS where
 buns : List Bun
 tras : List Tra
 cons : List Con
 beg : Nat
def Z3f (Gs : List Grp) (j : Nat) : Prop := ∀ h : j + 1 < Gs.length, Gs[j + 1].lvl ≠ (Gs[j]'(by omega)).lvl
open Classical in
noncomputable def Z5T (k : Pck) (ps : List Pce) (zs : List Int) (Gs : List Grp) (st : PkS) (j : Nat) : PkS :=
 if hj : j < Gs.length then
  let bs := st.buns ++ Z10 k ps zs Gs[j]
  let ts := st.tras ++ (Z0V st.buns.length bs.length k.bundles.toNat).map (fun l => ⟨Gs[j].lvl, Gs[j].name, l⟩)
  if Z3f Gs j then ⟨bs, ts, st.cons ++ (Z0V st.beg ts.length k.trays.toNat).map (fun l => ⟨Gs[j].lvl, l⟩), ts.length⟩ else ⟨bs, ts, st.cons, st.beg⟩
 else st
noncomputable def Z29 (k : Pck) (ps : List Pce) (zs : List Int) (Gs : List Grp) (n : Nat) : PkS := (List.range n).foldl (Z5T k ps zs Gs) ⟨[], [], [], 0⟩
theorem Z4G (k : Pck) (ps : List Pce) (zs : List Int) (Gs : List Grp) (n : Nat) : Z29 k ps zs Gs (n + 1) = Z5T k ps zs Gs (Z29 k ps zs Gs n) n := by
 unfold Z29
 rw [Kaq, Kbs]; rfl
def Z7K (k : Pck) : Bool := decide (1 <= k.pieces /\ k.pieces <= 2000 /\ 1 <= k.grams /\ k.grams <= 1000000) && decide (1 <= k.bundles /\ k.bundles <= 200 /\ 1 <= k.trays /\ k.trays <= 200)
end
section
open Go.RowKit Go.Sort
theorem Tryz.infoSlT : (Tryz.prog.info? 35).map (fun i => (i.zero, i.size, i.bytes)) = some (some (.slice none 0 0), 1, 24) := by kernel_rfl
def Z4J (k : Pck) : Value := .agg #[.int .i64 k.pieces, .int .i64 k.grams, .int .i64 k.bundles, .int .i64 k.trays]
theorem Zdl (k : Pck) (w : World) : Calls Tryz.prog 68 #[Z4J k] w fun e w' => e = .returned (.bool (Z7K k)) /\ Below w.1.size w w' := by
 obtain ⟨p, g, b, t⟩ := k
 have hE : Z7K ⟨p, g, b, t⟩ = (decide (1 <= p /\ p <= 2000 /\ 1 <= g /\ g <= 1000000) && decide (1 <= b /\ b <= 200 /\ 1 <= t /\ t <= 200)) := rfl
 obtain ⟨R, hR⟩ : ∃ R, R = Z7K ⟨p, g, b, t⟩ := ⟨_, rfl⟩
 rw [<- hR] at hE ⊢
 have HE := Z0 hE
 have hb : Below w.1.size w (w.alloc (.cells #[.int .i64 p, .int .i64 g, .int .i64 b, .int .i64 t] 37)) := (Z9 _ w).alloc (Z1 _) _
 have HB := Z0 hb
 have HF : Hid (¬ (1 <= p /\ p <= 2000 /\ 1 <= g /\ g <= 1000000) -> R = false) := fun h => by rw [HE.out, Kad h]; rfl
 have qS : Hid (¬ (1 <= b /\ b <= 200 /\ 1 <= t /\ t <= 200) -> R = false) := fun h => by rw [HE.out, Kad h, Bool.and_false]
 have HT : Hid ((1 <= p /\ p <= 2000 /\ 1 <= g /\ g <= 1000000) -> (1 <= b /\ b <= 200 /\ 1 <= t /\ t <= 200) -> R = true) := fun h h' => by rw [HE.out, Kac h, Kac h']; rfl
 unfold Z4J
 dsimp only
 clear hE hR hb HE
 by_cases q0 : p < 1
 ·have hr : R = false := HF.out (by omega)
  have pD := Z0 hr
  clear hr
  go_enter Tryz.func68, Tryz.ntmps68
  go_wp2_with fail
  go_ret
  rw [pD.out]
  exact ⟨by simp, HB.out⟩
 ·skip
  by_cases q1 : p > 2000
  ·have hr : R = false := HF.out (by omega)
   have pD := Z0 hr
   clear hr
   go_enter Tryz.func68, Tryz.ntmps68
   go_wp2_with fail
   go_ret
   rw [pD.out]
   exact ⟨by simp, HB.out⟩
  ·skip
   by_cases q2 : g < 1
   ·have hr : R = false := HF.out (by omega)
    have pD := Z0 hr
    clear hr
    go_enter Tryz.func68, Tryz.ntmps68
    go_wp2_with fail
    go_ret
    rw [pD.out]
    exact ⟨by simp, HB.out⟩
   ·skip
    by_cases q3 : g > 1000000
    ·have hr : R = false := HF.out (by omega)
     have pD := Z0 hr
     clear hr
     go_enter Tryz.func68, Tryz.ntmps68
     go_wp2_with fail
     go_ret
     rw [pD.out]
     exact ⟨by simp, HB.out⟩
    ·skip
     by_cases q4 : ¬ b >= 1
     ·have hr : R = false := qS.out (by omega)
      have pD := Z0 hr
      clear hr
      go_enter Tryz.func68, Tryz.ntmps68
      go_wp2_with fail
      go_ret
      rw [pD.out]
      exact ⟨by simp, HB.out⟩
     ·skip
      by_cases q5 : ¬ b <= 200
      ·have hr : R = false := qS.out (by omega)
       have pD := Z0 hr
       clear hr
       go_enter Tryz.func68, Tryz.ntmps68
       go_wp2_with fail
       go_ret
       rw [pD.out]
       exact ⟨by simp, HB.out⟩
      ·skip
       by_cases q6 : ¬ t >= 1
       ·have hr : R = false := qS.out (by omega)
        have pD := Z0 hr
        clear hr
        go_enter Tryz.func68, Tryz.ntmps68
        go_wp2_with fail
        go_ret
        rw [pD.out]
        exact ⟨by simp, HB.out⟩
       ·skip
        by_cases q7 : ¬ t <= 200
        ·have hr : R = false := qS.out (by omega)
         have pD := Z0 hr
         clear hr
         go_enter Tryz.func68, Tryz.ntmps68
         go_wp2_with fail
         go_ret
         rw [pD.out]
         exact ⟨by simp, HB.out⟩
        ·skip
         have hr : R = true := HT.out (by omega) (by omega)
         have pD := Z0 hr
         have y4 : b >= 1 := by omega
         have y5 : b <= 200 := by omega
         have y6 : t >= 1 := by omega
         have y7 : t <= 200 := by omega
         clear hr
         go_enter Tryz.func68, Tryz.ntmps68
         go_wp2_with fail
         go_ret
         rw [pD.out]
         exact ⟨by simp, HB.out⟩
def OwnsLL (w : World) (base : Nat) (v : Value) (ts : List (List Int)) : Prop :=
 ∃ L : List (List Int × Value), L.map Prod.fst = ts /\ (∀ p ∈ L, RowJ w base p.2 p.1) /\ w.ownsRow base 35 1 v L.length (L.map Prod.snd)
theorem OwnsLL.nil (w : World) (base : Nat) : OwnsLL w base (.slice none 0 0) [] := ⟨[], rfl, by simp, Kbb _ _ _ _⟩
theorem Z09 {w w' : World} {base : Nat} {e : TypeId} {k n : Nat} {v : Value} {xs : List Value} (h : w.ownsRow base e k v n xs) (hb : Below w.1.size w w') : w'.ownsRow base e k v n xs := by
 refine h.kept (Z0a hb) ?_
 cases v.ownBlock with
 | none => exact .inl rfl
 | some g => exact .inr (by simp)
theorem OwnsLL.below {w w' : World} {base : Nat} {v : Value} {ts : List (List Int)} (h : OwnsLL w base v ts) (hb : Below w.1.size w w') : OwnsLL w' base v ts := by
 obtain ⟨L, hL, h1, h2⟩ := h
 exact ⟨L, hL, fun p hp => (h1 p hp).below hb, Z09 h2 hb⟩
theorem OwnsLL.form {w : World} {base : Nat} {v : Value} {ts : List (List Int)} (h : OwnsLL w base v ts) : ∃ a cap, v = .slice a ts.length cap := by
 obtain ⟨L, rfl, _, ho⟩ := h
 rw [Z7]
 rcases Joins.ownsRow_forms ho with ⟨rfl, hp⟩ | ⟨g, cap, rfl⟩
 ·exact ⟨none, 0, by rw [hp]⟩
 ·exact ⟨_, cap, rfl⟩
theorem OwnsLL.add {W3 w2 : World} {base : Nat} {v v' u : Value} {l : List Int} {L : List (List Int × Value)} (hr : ∀ p ∈ L, RowJ W3 base p.2 p.1) (hu : RowJ W3 base u l) (hO : W3.ownsRow base 35 1 v L.length (L.map Prod.snd)) (hg : W3.grownBy w2 v.ownBlock)
 (ho : w2.ownsRow base 35 1 v' (L.length + 1) (L.map Prod.snd ++ [u])) : OwnsLL w2 base v' (L.map Prod.fst ++ [l]) := by
 have nA := Z0t hO (T := 3) (by decide)
 refine ⟨L ++ [(l, u)], by rw [ZD]; rfl, fun p hp => ?_, ?_⟩
 ·rcases ZG.1 hp with hp | hp
  ·exact (hr p hp).kept hg (fun g e => .inr (nA g e))
  ·rw [ZI.1 hp]; exact hu.kept hg (fun g e => .inr (nA g e))
 ·rw [ZD, ZC]
  simpa using ho
theorem Z6g {w : World} {base base' : Nat} {e : TypeId} {size : Nat} {v : Value} {n : Nat} {xs : List Value} (h : w.ownsRow base e size v n xs) (hb : base' <= base) : w.ownsRow base' e size v n xs := by
 obtain ⟨h1, h2 | ⟨g, cap, cur, hv, h3, h4⟩⟩ := h
 ·exact ⟨h1, .inl h2⟩
 ·exact ⟨h1, .inr ⟨g, cap, cur, hv, Kaw hb h3, h4⟩⟩
theorem Zcm {w : World} {base : Nat} {v : Value} {zs : List Int} (h : w.ownsRow base 3 1 v zs.length (zs.map (Value.int .i64))) : RowJ w base v zs := by
 rcases h with ⟨_, ⟨rfl, hp⟩ | ⟨g, cap, cur, rfl, hb, hh, _, _, _, pK⟩⟩
 ·obtain rfl : zs = [] := Kag.1 hp
  exact RowJ.nil _ _ _ _
 ·refine ⟨_, cap, rfl, fun h0 => ⟨g, 0, cur, rfl, hb, hh, fun i hi => ?_⟩⟩
  rw [Kdj] at pK
  have h1 : (cur.toList.take zs.length)[i]? = some (.int .i64 zs[i]) := by rw [pK, Kal, Z3 hi]; rfl
  rw [List.getElem?_take, if_pos hi] at h1
  rw [Ka0]
  simpa using h1
theorem Z85 (f t len : Nat) (w : World) (hl : 1 <= len) (qG : f <= t) (ht : t <= 1000000) (pV : len <= 1000000) :
 Calls Tryz.prog 32 #[.int .i64 f, .int .i64 t, .int .i64 len] w fun e w' => ∃ v, e = .returned v /\ Below w.1.size w w' /\ OwnsLL w' w.1.size v (Z0V f t len) := by
 obtain ⟨i0, hi⟩ := info_parts Tryz.infoI
 have HI := Z0 hi
 obtain ⟨j0, hj⟩ := info_parts Tryz.infoSlT
 have HJ := Z0 hj
 have tM : Z2v f t len <= 1000000 := by
  refine Nat.le_of_not_lt (fun h => ?_)
  have h1 := (Z2S hl).1 h
  have h2 : 1000000 * 1 <= 1000000 * len := Nat.mul_le_mul_left _ hl
  omega
 have pZ := Z0 (fun q => Z2S (f := f) (t := t) (q := q) hl)
 clear hi hj
 go_enter Tryz.func32, Tryz.ntmps32
 go_wp2_with fail
 go_loopw [0, 7] (fun fr v wx => ∃ q : Nat, q <= Z2v f t len /\ fr = .int .i64 (min (f + q * len) t : Nat) /\ Below w.1.size w wx /\ OwnsLL wx w.1.size v ((List.range q).map (Z1s f t len))) (fun fr _ _ => t - (intOf fr).toNat)
 case atStart => exact ⟨0, ZE _, by simp; rw [Kcp qG], Z9 _ _, OwnsLL.nil _ _⟩
 case round =>
  obtain ⟨wo, rB⟩ : ∃ x, x = wr := ⟨_, rfl⟩
  subst rB
  obtain ⟨q, hq, rfl, hB, hO⟩ := hrel
  obtain ⟨f0, qT⟩ : ∃ f0, f0 = f + q * len := ⟨_, rfl⟩
  rw [<- qT]
  have rC := Z0 qT
  have qH := pZ.out q
  rw [<- qT] at qH
  have HO := Z0 hO
  have HB := Z0 hB
  clear qT
  by_cases pA : f0 < t
  ·have rT := qH.2 pA
   have qI : min f0 t = f0 := Kcp (Kc0 pA)
   rw [qI]
   clear qI qH
   obtain ⟨al, cl, rU⟩ := hO.form
   rw [Z7, Kay] at rU
   clear hO hB
   subst rU
   go_wp2_with fail
   go_loopw [0, 8] (fun fr v wx => ∃ p : Nat, p <= len /\ f0 + p <= t /\ fr = .int .i64 (f0 + p : Nat) /\ Below wo.1.size wo wx /\ wx.ownsRow wo.1.size 3 1 v p ((Z0W f0 (f0 + p)).map (Value.int .i64))) (fun fr _ _ => t - (intOf fr).toNat)
   case atStart => exact ⟨0, ZE _, by omega, by simp, Z9 _ _, by rw [Kdc, Z4O]; exact Kbb _ _ _ _⟩
   case round =>
    obtain ⟨p, hp, sP, rfl, rV, qA⟩ := hrel
    have pE := Z0 rV
    have qJ := Z0 qA
    clear rV
    by_cases pL : p < len /\ f0 + p < t
    ·obtain ⟨sQ, sR⟩ := pL
     have pQ := ZdI (show f0 <= f0 + p by omega)
     have rD := Z0 pQ
     clear pQ
     obtain ⟨m, hm⟩ : ∃ m, m = f0 + p := ⟨_, rfl⟩
     have pR := Z0 hm
     rw [<- hm] at sR sP rD ⊢
     clear hm
     rcases Joins.ownsRow_forms qA with ⟨rfl, pY⟩ | ⟨g2, cap2, rfl⟩
     ·have tN := Z0 pY
      clear pY qA
      go_wp2_with (at_builtin; refine wpList_append_own _ rfl _ _ 35 rfl wo.1.size 3 i0 (.int .i64 0) 1 8 Tryz.underlying35 HI.out.1 HI.out.2.1 HI.out.2.2.1 HI.out.2.2.2 rfl (by decide) _ _ _ rfl (qJ.out.alloc _) ⟨wr.1.size, 0, none⟩ 1 1 [.int .i64 m] rfl rfl (Z0f _ _ _) (by simp [Value.oneCell']) (by unfold maxLen; omega) (by omega) (by have := pE.out.size; simp; omega) ?_; intro v' w5 pI pF _)
      go_roundw
      case rel =>
       refine ⟨p + 1, by omega, by have := pR.out; omega, by have := pR.out; go_num, (pE.out.alloc pE.out.size _).grown pF (by have := pE.out.size; simp; omega) (fun r e => (qJ.out.lt r e).1), ?_⟩
       have pO := pR.out
       rw [show f0 + (p + 1) = m + 1 by omega, rD.out, ZD, pO]
       rw [pO] at pI
       exact pI
      case measure => simp [intOf]; omega
     ·clear qA
      go_wp2_with (at_builtin; refine wpList_append_own _ rfl _ _ 35 rfl wo.1.size 3 i0 (.int .i64 0) 1 8 Tryz.underlying35 HI.out.1 HI.out.2.1 HI.out.2.2.1 HI.out.2.2.2 rfl (by decide) _ _ _ rfl (qJ.out.alloc _) ⟨wr.1.size, 0, none⟩ 1 1 [.int .i64 m] rfl rfl (Z0f _ _ _) (by simp [Value.oneCell']) (by unfold maxLen; omega) (by omega) (by have := pE.out.size; simp; omega) ?_; intro v' w5 pI pF _)
      go_roundw
      case rel =>
       refine ⟨p + 1, by omega, by have := pR.out; omega, by have := pR.out; go_num, (pE.out.alloc pE.out.size _).grown pF (by have := pE.out.size; simp; omega) (fun r e => (qJ.out.lt r e).1), ?_⟩
       have pO := pR.out
       rw [show f0 + (p + 1) = m + 1 by omega, rD.out, ZD, pO]
       rw [pO] at pI
       exact pI
      case measure => simp [intOf]; omega
    ·have sQ : 1 <= p := by omega
     have rE : min (f0 + len) t = f0 + p := by omega
     have rW : Z1s f t len q = Z0W f0 (f0 + p) := by
      unfold Z1s
      rw [Kcq, Nat.one_mul, <- Nat.add_assoc, <- rC.out, rE]
     have rX := Z0 rW
     have rY := Z0 rE
     obtain ⟨L, hL, hLr, hLo⟩ := HO.out
     have HL := Z0 hL
     have rZ := Z0 hLr
     have qB := Z0 hLo
     have sS : L.length <= 1000000 := by
      have := Kah List.length hL
      simp at this
      omega
     rcases Joins.ownsRow_forms qA with ⟨rfl, pY⟩ | ⟨g2, cap2, rfl⟩
     ·omega
     ·have sA : RowJ wr w.1.size (.slice (some ⟨g2, 0, none⟩) p cap2) (Z0W f0 (f0 + p)) := by
       have sT : (Z0W f0 (f0 + p)).length = p := by rw [Z1f]; omega
       have h1 : wr.ownsRow w.1.size 3 1 (.slice (some ⟨g2, 0, none⟩) p cap2) (Z0W f0 (f0 + p)).length ((Z0W f0 (f0 + p)).map (Value.int .i64)) := by
        rw [sT]
        exact Z6g qJ.out HB.out.size
       exact Zcm h1
      have sB := Z0 sA
      clear sA qA rW rE hL hLr hLo
      by_cases h1 : p < len
      ·have h2 : ¬ f0 + p < t := fun h => pL ⟨h1, h⟩
       clear pL
       go_wp2_with (at_builtin; refine wpList_append_own _ rfl _ _ 109 rfl w.1.size 35 j0 (.slice none 0 0) 1 24 Tryz.underlying109 HJ.out.1 HJ.out.2.1 HJ.out.2.2.1 HJ.out.2.2.2 rfl (by decide) _ L.length _ rfl ((Z09 qB.out pE.out).alloc _) ⟨wr.1.size, 0, none⟩ 1 1 [.slice (some ⟨g2, 0, none⟩) p cap2] rfl rfl (Z0f _ _ _) (by simp [Value.oneCell']) (by unfold maxLen; omega) (by omega) (by have := pE.out.size; have := HB.out.size; simp; omega) ?_; intro v' w5 pI pF _)
       go_roundw
       case rel =>
        refine ⟨q + 1, rT, by have := rY.out; have := rC.out; rw [Kcq, Nat.one_mul]; go_num, ?_, ?_⟩
        ·exact ((Z01 HB.out HB.out.size pE.out).alloc (Z01 HB.out HB.out.size pE.out).size _).grown pF (by have := pE.out.size; have := HB.out.size; simp; omega) (fun r e => (qB.out.lt r e).1)
        ·rw [Kaq, ZD, Kan, Kbe, rX.out, <- HL.out]
         exact OwnsLL.add (fun p hp => ((rZ.out p hp).below pE.out).below ((Z9 _ _).alloc (Z1 _) _)) (sB.out.below ((Z9 _ _).alloc (Z1 _) _)) ((Z09 qB.out pE.out).alloc _) pF pI
       case measure => simp [intOf]; omega
      ·clear pL
       go_wp2_with (at_builtin; refine wpList_append_own _ rfl _ _ 109 rfl w.1.size 35 j0 (.slice none 0 0) 1 24 Tryz.underlying109 HJ.out.1 HJ.out.2.1 HJ.out.2.2.1 HJ.out.2.2.2 rfl (by decide) _ L.length _ rfl ((Z09 qB.out pE.out).alloc _) ⟨wr.1.size, 0, none⟩ 1 1 [.slice (some ⟨g2, 0, none⟩) p cap2] rfl rfl (Z0f _ _ _) (by simp [Value.oneCell']) (by unfold maxLen; omega) (by omega) (by have := pE.out.size; have := HB.out.size; simp; omega) ?_; intro v' w5 pI pF _)
       go_roundw
       case rel =>
        refine ⟨q + 1, rT, by have := rY.out; have := rC.out; rw [Kcq, Nat.one_mul]; go_num, ?_, ?_⟩
        ·exact ((Z01 HB.out HB.out.size pE.out).alloc (Z01 HB.out HB.out.size pE.out).size _).grown pF (by have := pE.out.size; have := HB.out.size; simp; omega) (fun r e => (qB.out.lt r e).1)
        ·rw [Kaq, ZD, Kan, Kbe, rX.out, <- HL.out]
         exact OwnsLL.add (fun p hp => ((rZ.out p hp).below pE.out).below ((Z9 _ _).alloc (Z1 _) _)) (sB.out.below ((Z9 _ _).alloc (Z1 _) _)) ((Z09 qB.out pE.out).alloc _) pF pI
       case measure => simp [intOf]; omega
  ·have qI : min f0 t = t := Nat.min_eq_right (by omega)
   rw [qI]
   have sU : q = Z2v f t len := by
    have := qH
    omega
   clear qI qH hO hB
   go_wp2_with fail
   go_ret
   refine ⟨_, rfl, HB.out, ?_⟩
   have := HO.out
   rw [sU] at this
   exact this
end
section
open Go.RowKit
structure PkOk (k : Pck) (ps : List Pce) (zs : List Int) (Gs : List Grp) (n : Nat) (st : PkS) : Prop where
 buns : st.buns = (Gs.take n).flatMap (Z10 k ps zs)
 nb : st.tras.flatMap (fun t => t.bs) = Z0W 0 st.buns.length
 nt : st.cons.flatMap (fun c => c.ts) = Z0W 0 st.beg
 beg : st.beg <= st.tras.length
 fin : (n = 0 \/ (∀ h : n < Gs.length, Gs[n].lvl ≠ (Gs.getD (n - 1) Gs[n]).lvl)) -> st.beg = st.tras.length
theorem Z7u {α : Type} (l : List (List Int)) (f : List Int -> α) (g : α -> List Int) (h : ∀ x, g (f x) = x) : (l.map f).flatMap g = l.flatten := by
 induction l with
 | nil => rfl
 | cons x r ih => rw [Kan, Kao, h, ih, List.flatten_cons]
theorem Zfc {k : Pck} (hb : 1 <= k.bundles) (ht : 1 <= k.trays) (ps : List Pce) (zs : List Int) (Gs : List Grp) : ∀ n, n <= Gs.length -> PkOk k ps zs Gs n (Z29 k ps zs Gs n)
 | 0, _ => ⟨rfl, by unfold Z29; simp [Z4O], by unfold Z29; simp [Z4O], by unfold Z29; simp, fun _ => by unfold Z29; simp⟩
 | n + 1, hn => by
  obtain ⟨h1, h2, h3, h4, h5⟩ := Zfc hb ht ps zs Gs n (by omega)
  have pA : n < Gs.length := by omega
  rw [Z4G]
  unfold Z5T
  rw [dif_pos pA]
  obtain ⟨st, rF⟩ : ∃ st, st = Z29 k ps zs Gs n := ⟨_, rfl⟩
  rw [<- rF] at h1 h2 h3 h4 h5 ⊢
  dsimp only
  obtain ⟨bs, pS⟩ : ∃ bs, bs = st.buns ++ Z10 k ps zs Gs[n] := ⟨_, rfl⟩
  obtain ⟨ts, pH⟩ : ∃ ts : List Tra, ts = st.tras ++ (Z0V st.buns.length bs.length k.bundles.toNat).map (fun l => ⟨Gs[n].lvl, Gs[n].name, l⟩) := ⟨_, rfl⟩
  rw [<- pS, <- pH]
  have qK : 1 <= k.bundles.toNat := by omega
  have qL : 1 <= k.trays.toNat := by omega
  have qM : st.buns.length <= bs.length := by rw [pS, ZC]; omega
  have sV : st.tras.length <= ts.length := by rw [pH, ZC]; omega
  have e1 : bs = (Gs.take (n + 1)).flatMap (Z10 k ps zs) := by
   rw [pS, h1, Z8 pA, Kai]
   simp
  have e2 : ts.flatMap (fun t => t.bs) = Z0W 0 bs.length := by
   rw [pH, Kai, h2, Z7u _ _ _ (fun _ => rfl), Z5i qK qM]
   exact Z73 (ZE _) qM
  have rG : Z3f Gs n ↔ (∀ h : n + 1 < Gs.length, Gs[n + 1].lvl ≠ (Gs.getD (n + 1 - 1) Gs[n + 1]).lvl) := by
   unfold Z3f
   constructor
   ·intro h h'
    rw [Kcx, Z2, Z3 pA]
    exact h h'
   ·intro h h'
    have := h h'
    rw [Kcx, Z2, Z3 pA] at this
    exact this
  split
  ·refine ⟨e1, e2, ?_, Z1 _, fun _ => rfl⟩
   show (st.cons ++ _).flatMap _ = _
   rw [Kai, h3, Z7u _ _ _ (fun _ => rfl), Z5i qL (by omega)]
   exact Z73 (ZE _) (by omega)
  ·rename_i pP
   refine ⟨e1, e2, h3, by show st.beg <= ts.length; omega, fun h => ?_⟩
   rcases h with h | h
   ·omega
   ·exact absurd (rG.2 h) pP
def BunLe (a b : Bun) : Prop := a.lvl < b.lvl \/ a.lvl = b.lvl /\ (ltB a.grp b.grp = true \/ a.grp = b.grp /\ ∀ i ∈ a.ids, ∀ j ∈ b.ids, i < j)
structure GrpsIn (ps : List Pce) (Gs : List Grp) : Prop where
 order : Gs.Pairwise (fun g h => g.lvl < h.lvl \/ g.lvl = h.lvl /\ ltB g.name h.name = true)
 items : ∀ x ∈ Gs, x.items.Pairwise (· < ·) /\ ∀ i ∈ x.items, 0 <= i /\ i.toNat < ps.length
def Z5b (ps : List Pce) : Prop := ∀ i j, i < j -> j < ps.length -> (Z15 ps (i : Nat)).id < (Z15 ps (j : Nat)).id
theorem Z9G {ps : List Pce} {Gs : List Grp} (hu : Z5b ps) (h : GrpsIn ps Gs) (zs : List Int) {x : Grp} (hx : x ∈ Gs) : (Z0r zs x).Pairwise (fun i j => (Z15 ps i).id < (Z15 ps j).id) := by
 obtain ⟨h1, h2⟩ := h.items x hx
 unfold Z0r
 refine List.Pairwise.filter _ ?_
 refine List.Pairwise.imp_of_mem ?_ h1
 intro a b ha hb pW
 obtain ⟨a0, a1⟩ := h2 a ha
 obtain ⟨b0, b1⟩ := h2 b hb
 have := hu a.toNat b.toNat (by omega) b1
 rwa [Ka3 a0, Ka3 b0] at this
theorem Z2q {k : Pck} {ps : List Pce} {zs : List Int} {Gs : List Grp} (hk : 1 <= k.pieces) (pG : 0 <= k.grams) (hg : ∀ p ∈ ps, p.grams <= k.grams) (hu : Z5b ps) (h : GrpsIn ps Gs) {x : Grp} (hx : x ∈ Gs) :
 (Z10 k ps zs x).Pairwise (fun a b => ∀ i ∈ a.ids, ∀ j ∈ b.ids, i < j) /\ ∀ b ∈ Z10 k ps zs x, b.lvl = x.lvl /\ b.grp = x.name /\ b.ids ≠ [] /\ (b.ids.length : Int) <= k.pieces /\ b.grams <= k.grams /\ b.ids.Pairwise (· < ·) := by
 have pN : ∀ i ∈ Z0r zs x, (Z15 ps i).grams <= k.grams := fun i hi => by
  obtain ⟨h0, h1⟩ := (h.items x hx).2 i (Kbh.1 hi).1
  unfold Z15
  rw [Z2, Z3 h1]
  exact hg _ (Z4 h1)
 obtain ⟨c1, c2, _⟩ := Z9t hk pG (Z0r zs x) pN
 have hs := Z9G hu h zs hx
 rw [<- c1, List.pairwise_flatten] at hs
 obtain ⟨sW, sX⟩ := hs
 unfold Z10
 refine ⟨?_, fun b hb => ?_⟩
 ·rw [Kbt]
  refine List.Pairwise.imp ?_ sX
  intro a b pW i hi j hj
  obtain ⟨i', hi', rfl⟩ := Kae.1 hi
  obtain ⟨j', hj', rfl⟩ := Kae.1 hj
  exact pW i' hi' j' hj'
 ·obtain ⟨l, hl, rfl⟩ := Kae.1 hb
  obtain ⟨h1, h2, h3⟩ := c2 l hl
  refine ⟨rfl, rfl, ?_, ?_, h3, ?_⟩
  ·show l.map _ ≠ []
   intro e
   exact h1 (List.map_eq_nil_iff.1 e)
  ·show ((l.map _).length : Int) <= _
   rw [Z7]; exact h2
  ·show (l.map _).Pairwise _
   rw [Kbt]
   exact sW l hl
theorem Zeb {k : Pck} {ps : List Pce} {zs : List Int} {Gs : List Grp} (hk : 1 <= k.pieces) (pG : 0 <= k.grams) (hg : ∀ p ∈ ps, p.grams <= k.grams) (hu : Z5b ps) (h : GrpsIn ps Gs) : (Gs.flatMap (Z10 k ps zs)).Pairwise BunLe := by
 rw [List.pairwise_flatMap]
 refine ⟨fun x hx => ?_, ?_⟩
 ·obtain ⟨h1, h2⟩ := Z2q (zs := zs) hk pG hg hu h hx
  refine List.Pairwise.imp_of_mem ?_ h1
  intro a b ha hb pW
  obtain ⟨a1, a2, _⟩ := h2 a ha
  obtain ⟨b1, b2, _⟩ := h2 b hb
  exact .inr ⟨by rw [a1, b1], .inr ⟨by rw [a2, b2], pW⟩⟩
 ·refine List.Pairwise.imp_of_mem ?_ h.order
  intro x y hx hy pM a ha b hb
  obtain ⟨a1, a2, _⟩ := (Z2q (zs := zs) hk pG hg hu h hx).2 a ha
  obtain ⟨b1, b2, _⟩ := (Z2q (zs := zs) hk pG hg hu h hy).2 b hb
  rcases pM with pM | ⟨h1, h2⟩
  ·exact .inl (by rw [a1, b1]; exact pM)
  ·exact .inr ⟨by rw [a1, b1]; exact h1, .inl (by rw [a2, b2]; exact h2)⟩
theorem ZbS {ls : List Lev} {cs : List ByteArray} {ps : List Pce} (h : cs.length = ps.length) : GrpsIn ps (Z16 ls cs ls.length) := by
 refine ⟨Ze3 ls cs ls.length, fun x hx => ?_⟩
 obtain ⟨m, n, hm, hn, rfl⟩ := Z2b.1 hx
 refine ⟨Z7f ls cs m n, fun i hi => ?_⟩
 obtain ⟨q, hq, _, rfl⟩ := Z3B.1 hi
 omega
def Z24 {α : Type} (L : List α) (a b : α) : Prop := ∃ A C, L = A ++ a :: b :: C
theorem Z39 {α : Type} {X Y : List α} {a b : α} (h : Z24 (X ++ Y) a b) : Z24 X a b \/ Z24 Y a b \/ (a ∈ X /\ b ∈ Y) := by
 obtain ⟨A, C, h⟩ := h
 rcases List.append_eq_append_iff.1 h with ⟨B, rfl, hY⟩ | ⟨B, hX, hY⟩
 ·exact .inr (.inl ⟨B, C, hY⟩)
 ·match B, hX, hY with
  | [], hX, hY =>
   refine .inr (.inl ⟨[], C, ?_⟩)
   simpa using hY.symm
  | [z], hX, hY =>
   simp at hY
   obtain ⟨rfl, hY⟩ := hY
   refine .inr (.inr ⟨by rw [hX]; simp, by rw [<- hY]; simp⟩)
  | z :: y :: B, hX, hY =>
   simp at hY
   obtain ⟨rfl, rfl, _⟩ := hY
   exact .inl ⟨A, B, hX⟩
theorem Z76 {α β : Type} (f : α -> List β) {R : α -> α -> Prop} : ∀ (Gs : List α), Gs.Pairwise R -> ∀ a b, Z24 (Gs.flatMap f) a b -> (∃ x ∈ Gs, Z24 (f x) a b) \/ ∃ x ∈ Gs, ∃ y ∈ Gs, R x y /\ a ∈ f x /\ b ∈ f y
 | [], _, a, b, ⟨A, C, h⟩ => by simp at h
 | x :: r, hR, a, b, h => by
  rw [Kao] at h
  obtain ⟨h1, h2⟩ := Kbu.1 hR
  rcases Z39 h with h | h | ⟨ha, hb⟩
  ·exact .inl ⟨x, Kaf, h⟩
  ·rcases Z76 f r h2 a b h with ⟨y, hy, h⟩ | ⟨y, hy, z, hz, h⟩
   ·exact .inl ⟨y, Kaj _ hy, h⟩
   ·exact .inr ⟨y, Kaj _ hy, z, Kaj _ hz, h⟩
  ·obtain ⟨y, hy, hb⟩ := Ka5.1 hb
   exact .inr ⟨x, Kaf, y, Kaj _ hy, h1 y hy, ha, hb⟩
theorem ZdJ {α β : Type} {f : α -> β} {L : List α} {a b : β} (h : Z24 (L.map f) a b) : ∃ x y, Z24 L x y /\ f x = a /\ f y = b := by
 obtain ⟨A, C, h⟩ := h
 obtain ⟨A', R, rfl, hA, hR⟩ := List.map_eq_append_iff.1 h
 obtain ⟨x, R', rfl, hx, hR'⟩ := List.map_eq_cons_iff.1 hR
 obtain ⟨y, C', rfl, hy, _⟩ := List.map_eq_cons_iff.1 hR'
 exact ⟨x, y, ⟨A', C', rfl⟩, hx, hy⟩
theorem Zgs {k : Pck} {ps : List Pce} {zs : List Int} {Gs : List Grp} (hk : 1 <= k.pieces) (pG : 0 <= k.grams) (hg : ∀ p ∈ ps, p.grams <= k.grams) (hu : Z5b ps) (h : GrpsIn ps Gs) {a b : Bun} (hn : Z24 (Gs.flatMap (Z10 k ps zs)) a b) (he : a.lvl = b.lvl) (he' : a.grp = b.grp) :
 ∃ i : Int, 0 <= i /\ i.toNat < ps.length /\ b.ids.head? = some (Z15 ps i).id /\ ¬ ((a.ids.length : Int) < k.pieces /\ a.grams + (Z15 ps i).grams <= k.grams) := by
 rcases Z76 (Z10 k ps zs) Gs h.order a b hn with ⟨x, hx, hn⟩ | ⟨x, hx, y, hy, pM, ha, hb⟩
 ·obtain ⟨l, m, sY, rfl, rfl⟩ := ZdJ hn
  obtain ⟨A, C, hc⟩ := sY
  have pN : ∀ i ∈ Z0r zs x, (Z15 ps i).grams <= k.grams := fun i hi => by
   obtain ⟨h0, h1⟩ := (h.items x hx).2 i (Kbh.1 hi).1
   unfold Z15
   rw [Z2, Z3 h1]
   exact hg _ (Z4 h1)
  obtain ⟨c1, c2, c3⟩ := Z9t hk pG (Z0r zs x) pN
  have hm : m ∈ ZiJ k ps (Z0r zs x) := by rw [hc]; simp
  obtain ⟨i, r, rfl⟩ := List.exists_cons_of_ne_nil (c2 m hm).1
  have hi : i ∈ Z0r zs x := by
   rw [<- c1]
   exact List.mem_flatten.2 ⟨_, hm, Kaf⟩
  obtain ⟨h0, h1⟩ := (h.items x hx).2 i (Kbh.1 hi).1
  refine ⟨i, h0, h1, rfl, ?_⟩
  have := c3 A l (i :: r) C hc i rfl
  unfold Z6a at this
  show ¬ (((l.map _).length : Int) < k.pieces /\ Z0k ps l + _ <= k.grams)
  rw [Z7]
  exact this
 ·obtain ⟨a1, a2, _⟩ := (Z2q (zs := zs) hk pG hg hu h hx).2 a ha
  obtain ⟨b1, b2, _⟩ := (Z2q (zs := zs) hk pG hg hu h hy).2 b hb
  rcases pM with pM | ⟨_, pM⟩
  ·omega
  ·exact absurd (by rw [<- a2, <- b2]; exact he') (Z3C pM)
theorem Z5Y {α : Type} {f t len : Nat} {g : List Int -> α} {a b : α} (h : Z24 ((Z0V f t len).map g) a b) : ∃ q, q + 1 < Z2v f t len /\ a = g (Z1s f t len q) /\ b = g (Z1s f t len (q + 1)) := by
 obtain ⟨A, C, h⟩ := h
 have e1 : ((Z0V f t len).map g)[A.length]? = some a := by rw [h]; simp
 have e2 : ((Z0V f t len).map g)[A.length + 1]? = some b := by
  rw [h, Kaz (by omega), show A.length + 1 - A.length = 1 by omega]; rfl
 have sZ : A.length + 1 < Z2v f t len := by
  have := Kah List.length h
  rw [Z7, Zdq] at this
  simp at this; omega
 unfold Z0V at e1 e2
 rw [Kdd, Kal, Kb2 (by omega)] at e1 e2
 exact ⟨A.length, sZ, (Kav e1).symm, (Kav e2).symm⟩
theorem Z4S {f t len : Nat} (hl : 1 <= len) (qG : f <= t) {l : List Int} (h : l ∈ Z0V f t len) : (1 <= l.length /\ l.length <= len) /\ ∀ i ∈ l, ∃ q : Nat, i = (q : Int) /\ f <= q /\ q < t := by
 constructor
 ·unfold Z0V at h
  obtain ⟨q, hq, rfl⟩ := Kae.1 h
  exact Zbb hl (Ka8.1 hq)
 ·intro i hi
  have : i ∈ (Z0V f t len).flatten := List.mem_flatten.2 ⟨l, h, hi⟩
  rw [Z5i hl qG] at this
  unfold Z0W at this
  obtain ⟨q, hq, rfl⟩ := Kae.1 this
  have := Ka8.1 hq
  exact ⟨f + q, rfl, by omega, by omega⟩
structure PkF (k : Pck) (Gs : List Grp) (n : Nat) (st : PkS) : Prop where
 tg : ∀ t ∈ st.tras, ∃ j, ∃ h : j < Gs.length, j < n /\ t.lvl = Gs[j].lvl /\ t.grp = Gs[j].name
 tf : ∀ a b, Z24 st.tras a b -> a.lvl = b.lvl -> a.grp = b.grp -> (a.bs.length : Int) = k.bundles
 tl : ∀ t ∈ st.tras, 1 <= t.bs.length /\ (t.bs.length : Int) <= k.bundles
 tb : ∀ t ∈ st.tras, ∀ i ∈ t.bs, 0 <= i /\ ∃ b, st.buns[i.toNat]? = some b /\ b.lvl = t.lvl /\ b.grp = t.grp
 cg : ∀ c ∈ st.cons, ∃ j, ∃ h : j < Gs.length, j < n /\ Z3f Gs j /\ c.lvl = Gs[j].lvl
 cf : ∀ a b, Z24 st.cons a b -> a.lvl = b.lvl -> (a.ts.length : Int) = k.trays
 cl : ∀ c ∈ st.cons, 1 <= c.ts.length /\ (c.ts.length : Int) <= k.trays
 cb : ∀ c ∈ st.cons, ∀ i ∈ c.ts, 0 <= i /\ ∃ t, st.tras[i.toNat]? = some t /\ t.lvl = c.lvl
 bg : ∀ (q : Nat) t, st.beg <= q -> st.tras[q]? = some t -> ∀ h : n < Gs.length, t.lvl = Gs[n].lvl
theorem ZbQ {α : Type} {X Y : List α} {i : Nat} {b : α} (h : X[i]? = some b) : (X ++ Y)[i]? = some b := by
 rw [Ka6 (Kam.1 h).1]; exact h
theorem Zkj {Gs : List Grp} (ho : Gs.Pairwise (fun g h => g.lvl < h.lvl \/ g.lvl = h.lvl /\ ltB g.name h.name = true)) {i j : Nat} (qN : i < j) (hj : j < Gs.length) : (Gs[i]'(by omega)).lvl < Gs[j].lvl \/ (Gs[i]'(by omega)).lvl = Gs[j].lvl /\ ltB (Gs[i]'(by omega)).name Gs[j].name = true :=
 Kb1.1 ho i j (by omega) hj qN
theorem Zkk {Gs : List Grp} (ho : Gs.Pairwise (fun g h => g.lvl < h.lvl \/ g.lvl = h.lvl /\ ltB g.name h.name = true)) {i j : Nat} (qN : i <= j) (hj : j < Gs.length) : (Gs[i]'(by omega)).lvl <= Gs[j].lvl := by
 rcases Nat.lt_or_ge i j with h | h
 ·rcases Zkj ho h hj with h | h <;> omega
 ·have : i = j := by omega
  subst this; omega
theorem Z95 {k : Pck} (hb : 1 <= k.bundles) (ht : 1 <= k.trays) {ps : List Pce} {zs : List Int} {Gs : List Grp} (ho : Gs.Pairwise (fun g h => g.lvl < h.lvl \/ g.lvl = h.lvl /\ ltB g.name h.name = true)) : ∀ n, n <= Gs.length -> PkF k Gs n (Z29 k ps zs Gs n)
 | 0, _ => by
  have hn : ∀ {α : Type} {a b : α}, ¬ Z24 ([] : List α) a b := fun ⟨A, C, h⟩ => by simp at h
  unfold Z29
  exact ⟨fun t h => (by cases h), fun a b h => absurd h hn, fun t h => (by cases h), fun t h => (by cases h), fun t h => (by cases h), fun a b h => absurd h hn, fun t h => (by cases h), fun t h => (by cases h), fun q t _ h => (by simp at h)⟩
 | n + 1, hn => by
  have ih := Z95 hb ht ho (ps := ps) (zs := zs) n (by omega)
  have pJ := Zfc hb ht ps zs Gs n (by omega)
  have pA : n < Gs.length := by omega
  rw [Z4G]
  unfold Z5T
  rw [dif_pos pA]
  obtain ⟨st, rF⟩ : ∃ st, st = Z29 k ps zs Gs n := ⟨_, rfl⟩
  rw [<- rF] at ih pJ ⊢
  dsimp only
  obtain ⟨bs, pS⟩ : ∃ bs, bs = st.buns ++ Z10 k ps zs Gs[n] := ⟨_, rfl⟩
  obtain ⟨ts, pH⟩ : ∃ ts : List Tra, ts = st.tras ++ (Z0V st.buns.length bs.length k.bundles.toNat).map (fun l => ⟨Gs[n].lvl, Gs[n].name, l⟩) := ⟨_, rfl⟩
  rw [<- pS, <- pH]
  have qK : 1 <= k.bundles.toNat := by omega
  have qL : 1 <= k.trays.toNat := by omega
  have qM : st.buns.length <= bs.length := by rw [pS, ZC]; omega
  have sV : st.tras.length <= ts.length := by rw [pH, ZC]; omega
  have qU := pJ.beg
  have qO : ∀ t ∈ (Z0V st.buns.length bs.length k.bundles.toNat).map (fun l => (⟨Gs[n].lvl, Gs[n].name, l⟩ : Tra)), t.lvl = Gs[n].lvl /\ t.grp = Gs[n].name /\ t.bs ∈ Z0V st.buns.length bs.length k.bundles.toNat := fun t h => by
   obtain ⟨l, hl, rfl⟩ := Kae.1 h
   exact ⟨rfl, rfl, hl⟩
  have tg : ∀ t ∈ ts, ∃ j, ∃ h : j < Gs.length, j < n + 1 /\ t.lvl = Gs[j].lvl /\ t.grp = Gs[j].name := fun t h => by
   rw [pH] at h
   rcases ZG.1 h with h | h
   ·obtain ⟨j, hj, h1, h2⟩ := ih.tg t h
    exact ⟨j, hj, by omega, h2⟩
   ·obtain ⟨h1, h2, _⟩ := qO t h
    exact ⟨n, pA, by omega, h1, h2⟩
  have tf : ∀ a b, Z24 ts a b -> a.lvl = b.lvl -> a.grp = b.grp -> (a.bs.length : Int) = k.bundles := fun a b h e1 e2 => by
   rw [pH] at h
   rcases Z39 h with h | h | ⟨ha, hb'⟩
   ·exact ih.tf a b h e1 e2
   ·obtain ⟨q, hq, rfl, rfl⟩ := Z5Y h
    have := Z5P qK hq
    show ((Z1s _ _ _ q).length : Int) = _
    omega
   ·obtain ⟨j, hj, h1, h2, h3⟩ := ih.tg a ha
    obtain ⟨h4, h5, _⟩ := qO b hb'
    rcases Zkj ho h1 pA with h6 | ⟨_, h6⟩
    ·omega
    ·exact absurd (by rw [<- h3, e2, h5]) (Z3C h6)
  have tl : ∀ t ∈ ts, 1 <= t.bs.length /\ (t.bs.length : Int) <= k.bundles := fun t h => by
   rw [pH] at h
   rcases ZG.1 h with h | h
   ·exact ih.tl t h
   ·obtain ⟨_, _, h3⟩ := qO t h
    have := (Z4S qK qM h3).1
    omega
  have tb : ∀ t ∈ ts, ∀ i ∈ t.bs, 0 <= i /\ ∃ b, bs[i.toNat]? = some b /\ b.lvl = t.lvl /\ b.grp = t.grp := fun t h i hi => by
   rw [pH] at h
   rcases ZG.1 h with h | h
   ·obtain ⟨h0, b, h1, h2⟩ := ih.tb t h i hi
    exact ⟨h0, b, by rw [pS]; exact ZbQ h1, h2⟩
   ·obtain ⟨h1, h2, h3⟩ := qO t h
    obtain ⟨q, rfl, h4, h5⟩ := (Z4S qK qM h3).2 i hi
    refine ⟨by omega, bs[q], by rw [Kar]; exact Z3 h5, ?_⟩
    have : bs[q] ∈ Z10 k ps zs Gs[n] := by
     simp only [pS]
     rw [Kb7 h4]
     exact Z4 _
    unfold Z10 at this
    obtain ⟨l, hl, he⟩ := Kae.1 this
    rw [<- he, h1, h2]
    exact ⟨rfl, rfl⟩
  have bg : ∀ (q : Nat) t, st.beg <= q -> ts[q]? = some t -> t.lvl = Gs[n].lvl := fun q t hq h => by
   by_cases tA : q < st.tras.length
   ·refine ih.bg q t hq ?_ pA
    rw [pH, Ka6 tA] at h
    exact h
   ·rw [pH, Kaz (by omega)] at h
    exact (qO t (Kdq h)).1
  split
  ·rename_i rG
   have qV : ∀ c ∈ (Z0V st.beg ts.length k.trays.toNat).map (fun l => (⟨Gs[n].lvl, l⟩ : Con)), c.lvl = Gs[n].lvl /\ c.ts ∈ Z0V st.beg ts.length k.trays.toNat := fun c h => by
    obtain ⟨l, hl, rfl⟩ := Kae.1 h
    exact ⟨rfl, hl⟩
   refine ⟨tg, tf, tl, tb, fun c h => ?_, fun a b h e => ?_, fun c h => ?_, fun c h i hi => ?_, fun q t hq h => ?_⟩
   ·rcases ZG.1 h with h | h
    ·obtain ⟨j, hj, h1, h2⟩ := ih.cg c h
     exact ⟨j, hj, by omega, h2⟩
    ·exact ⟨n, pA, by omega, rG, (qV c h).1⟩
   ·rcases Z39 h with h | h | ⟨ha, hb'⟩
    ·exact ih.cf a b h e
    ·obtain ⟨q, hq, rfl, rfl⟩ := Z5Y h
     have := Z5P qL hq
     show ((Z1s _ _ _ q).length : Int) = _
     omega
    ·obtain ⟨j, hj, h1, h2, h3⟩ := ih.cg a ha
     have h4 := (qV b hb').1
     have h5 := h2 (by omega)
     have h6 := Zkk ho (show j <= j + 1 by omega) (by omega)
     have h7 := Zkk ho (show j + 1 <= n by omega) pA
     omega
   ·rcases ZG.1 h with h | h
    ·exact ih.cl c h
    ·have := (Z4S qL (by omega) (qV c h).2).1
     omega
   ·rcases ZG.1 h with h | h
    ·obtain ⟨h0, t, h1, h2⟩ := ih.cb c h i hi
     exact ⟨h0, t, by show ts[i.toNat]? = _; rw [pH]; exact ZbQ h1, h2⟩
    ·obtain ⟨h1, h2⟩ := qV c h
     obtain ⟨q, rfl, h4, h5⟩ := (Z4S qL (by omega) h2).2 i hi
     refine ⟨by omega, ts[q], by rw [Kar]; exact Z3 h5, ?_⟩
     rw [h1]
     exact bg q _ h4 (Z3 h5)
   ·have := (Kam.1 h).1
    exact absurd hq (Nat.not_le_of_lt this)
  ·rename_i pP
   refine ⟨tg, tf, tl, tb, fun c h => ?_, ih.cf, ih.cl, fun c h i hi => ?_, fun q t hq h h' => ?_⟩
   ·obtain ⟨j, hj, h1, h2⟩ := ih.cg c h
    exact ⟨j, hj, by omega, h2⟩
   ·obtain ⟨h0, t, h1, h2⟩ := ih.cb c h i hi
    exact ⟨h0, t, by show ts[i.toNat]? = _; rw [pH]; exact ZbQ h1, h2⟩
   ·have h1 := bg q t hq h
    unfold Z3f at pP
    rw [h1]
    exact Kb6 (fun hc => pP (fun hh e => hc e.symm))
def noB : ByteArray := ⟨#[]⟩
def Z5X (zs : List Int) (x : Grp) (ns : List ByteArray) (i : Int) : List ByteArray := if zs.getD i.toNat (-1) = x.lvl then ns.set i.toNat x.name else ns
def nmI (zs : List Int) (x : Grp) (ns : List ByteArray) (I : List Int) : List ByteArray := I.foldl (Z5X zs x) ns
def nmG (zs : List Int) (ns : List ByteArray) (x : Grp) : List ByteArray := nmI zs x ns x.items
def Z6n (zs : List Int) (Gs : List Grp) (n q : Nat) : List ByteArray := (Gs.take q).foldl (nmG zs) (List.replicate n noB)
theorem ZhF (zs : List Int) (x : Grp) (ns : List ByteArray) (I : List Int) (i : Int) : nmI zs x ns (I ++ [i]) = Z5X zs x (nmI zs x ns I) i := by unfold nmI; rw [Kbs]; rfl
theorem Z8n (zs : List Int) (x : Grp) (ns : List ByteArray) (i : Int) : (Z5X zs x ns i).length = ns.length := by unfold Z5X; split <;> simp
theorem Zbw (zs : List Int) (x : Grp) (I : List Int) : ∀ ns : List ByteArray, (nmI zs x ns I).length = ns.length := by
 induction I with
 | nil => intro ns; rfl
 | cons i r ih =>
  intro ns
  show (nmI zs x (Z5X zs x ns i) r).length = _
  rw [ih, Z8n]
theorem Zae (zs : List Int) (Gs : List Grp) (n : Nat) {q : Nat} (h : q < Gs.length) : Z6n zs Gs n (q + 1) = nmG zs (Z6n zs Gs n q) Gs[q] := by
 unfold Z6n
 rw [Z8 h, Kbs]; rfl
theorem Z99 (zs : List Int) (Gs : List Grp) (n : Nat) : ∀ q, q <= Gs.length -> (Z6n zs Gs n q).length = n
 | 0, _ => by unfold Z6n; simp
 | q + 1, h => by rw [Zae _ _ _ (by omega)]; unfold nmG; rw [Zbw, Z99 zs Gs n q (by omega)]
theorem Zjb {zs : List Int} {x : Grp} {j : Nat} (I : List Int) (hI : ∀ i ∈ I, 0 <= i) : ∀ ns : List ByteArray, j < ns.length -> (nmI zs x ns I).getD j noB = if (j : Int) ∈ I /\ zs.getD j (-1) = x.lvl then x.name else ns.getD j noB := by
 induction I with
 | nil => intro ns _; rw [if_neg (by simp)]; rfl
 | cons i r ih =>
  intro ns hj
  show (nmI zs x (Z5X zs x ns i) r).getD j noB = _
  rw [ih (fun a ha => hI a (Kaj _ ha)) _ (by rw [Z8n]; exact hj)]
  have hi := hI i Kaf
  by_cases h1 : (j : Int) ∈ r /\ zs.getD j (-1) = x.lvl
  ·rw [if_pos h1, if_pos ⟨Kaj _ h1.1, h1.2⟩]
  ·rw [if_neg h1]
   unfold Z5X
   by_cases h2 : (j : Int) = i
   ·have h3 : i.toNat = j := by omega
    rw [h3]
    by_cases h4 : zs.getD j (-1) = x.lvl
    ·rw [if_pos h4, if_pos ⟨by rw [h2]; exact Kaf, h4⟩, Z2, Kcw hj]; rfl
    ·rw [if_neg h4, if_neg (fun h => h4 h.2)]
   ·have h3 : i.toNat ≠ j := by omega
    have h4 : ¬ ((j : Int) ∈ i :: r /\ zs.getD j (-1) = x.lvl) := fun h => by
     rcases Kbf.1 h.1 with h5 | h5
     ·exact h2 h5
     ·exact h1 ⟨h5, h.2⟩
    rw [if_neg h4]
    split
    ·rw [Z2, List.getElem?_set_ne h3, <- Z2]
    ·rfl
structure OwnIn (ps : List Pce) (zs : List Int) (Gs : List Grp) : Prop where
 some : ∀ i : Nat, i < ps.length -> ∃ x ∈ Gs, x.lvl = zs.getD i (-1) /\ (i : Int) ∈ x.items
 one : ∀ x ∈ Gs, ∀ y ∈ Gs, x.lvl = y.lvl -> ∀ i ∈ x.items, i ∈ y.items -> x = y
theorem Zfx {zs : List Int} {nm : ByteArray} {j : Nat} : ∀ (Gs : List Grp) (ns : List ByteArray), j < ns.length -> (∀ y ∈ Gs, ∀ i ∈ y.items, 0 <= i) -> (∀ y ∈ Gs, (j : Int) ∈ y.items -> zs.getD j (-1) = y.lvl -> y.name = nm) ->
 (ns.getD j noB = nm \/ ∃ y ∈ Gs, (j : Int) ∈ y.items /\ zs.getD j (-1) = y.lvl) -> (Gs.foldl (nmG zs) ns).getD j noB = nm
 | [], ns, _, _, _, h => by
  rcases h with h | ⟨y, hy, _⟩
  ·exact h
  ·cases hy
 | x :: r, ns, hj, h0, hn, h => by
  show (r.foldl (nmG zs) (nmG zs ns x)).getD j noB = nm
  have hl : (nmG zs ns x).length = ns.length := by unfold nmG; exact Zbw _ _ _ _
  refine Zfx r _ (by rw [hl]; exact hj) (fun y hy => h0 y (Kaj _ hy)) (fun y hy => hn y (Kaj _ hy)) ?_
  unfold nmG
  rw [Zjb x.items (h0 x Kaf) ns hj]
  by_cases h1 : (j : Int) ∈ x.items /\ zs.getD j (-1) = x.lvl
  ·rw [if_pos h1]
   exact .inl (hn x Kaf h1.1 h1.2)
  ·rw [if_neg h1]
   rcases h with h | ⟨y, hy, h2, h3⟩
   ·exact .inl h
   ·rcases Kbf.1 hy with rfl | hy
    ·exact absurd ⟨h2, h3⟩ h1
    ·exact .inr ⟨y, hy, h2, h3⟩
theorem Zkd {ps : List Pce} {zs : List Int} {Gs : List Grp} (hG : GrpsIn ps Gs) (ho : OwnIn ps zs Gs) {x : Grp} (hx : x ∈ Gs) {j : Nat} (hj : (j : Int) ∈ x.items) (hz : zs.getD j (-1) = x.lvl) : (Z6n zs Gs ps.length Gs.length).getD j noB = x.name := by
 have tO := ((hG.items x hx).2 _ hj).2
 unfold Z6n
 rw [Kat]
 refine Zfx Gs _ (by rw [Kcb]; omega) (fun y hy i hi => ((hG.items y hy).2 i hi).1) (fun y hy h1 h2 => ?_) (.inr ⟨x, hx, hj, hz⟩)
 rw [ho.one y hy x hx (by rw [<- h2, hz]) _ h1 hj]
def Z5N (k : Pck) (ps : List Pce) (zs : List Int) (ns : List ByteArray) (b : Bun) : Prop :=
 ∃ I : List Int, (∀ i ∈ I, 0 <= i /\ i.toNat < ps.length /\ zs.getD i.toNat (-1) = b.lvl /\ ns.getD i.toNat noB = b.grp) /\ b.ids = I.map (fun i => (Z15 ps i).id) /\ Z0k ps I = b.grams /\ 1 <= I.length /\ (I.length : Int) <= k.pieces /\ b.grams <= k.grams
structure BunsOk (k : Pck) (ps : List Pce) (zs : List Int) (ns : List ByteArray) (bs : List Bun) : Prop where
 good : ∀ b ∈ bs, Z5N k ps zs ns b
 once : (bs.flatMap (fun b => b.ids)).Nodup
 all : (bs.flatMap (fun b => b.ids)).length = ps.length
structure OnceOk (ls : List (List Int)) (n : Nat) (len : Int) : Prop where
 lens : ∀ l ∈ ls, 1 <= l.length /\ (l.length : Int) <= len
 ins : ∀ i ∈ ls.flatten, 0 <= i /\ i < n
 once : ls.flatten.Nodup
 all : ls.flatten.length = n
structure TrasOk (k : Pck) (l : Lod) : Prop where
 once : OnceOk (l.tras.map (fun t => t.bs)) l.buns.length k.bundles
 grp : ∀ t ∈ l.tras, ∀ i ∈ t.bs, ∃ b, l.buns[i.toNat]? = some b /\ b.lvl = t.lvl /\ b.grp = t.grp
structure ConsOk (k : Pck) (l : Lod) : Prop where
 once : OnceOk (l.cons.map (fun c => c.ts)) l.tras.length k.trays
 grp : ∀ c ∈ l.cons, ∀ i ∈ c.ts, ∃ t, l.tras[i.toNat]? = some t /\ t.lvl = c.lvl
structure LodOk (k : Pck) (ps : List Pce) (zs : List Int) (ns : List ByteArray) (l : Lod) : Prop where
 buns : BunsOk k ps zs ns l.buns
 tras : TrasOk k l
 cons : ConsOk k l
theorem Z0J (n : Nat) : (Z0W 0 n).Nodup /\ (Z0W 0 n).length = n /\ ∀ i ∈ Z0W 0 n, 0 <= i /\ i < (n : Int) := by
 refine ⟨?_, by rw [Z1f]; omega, fun i hi => ?_⟩
 ·unfold Z0W
  rw [List.Nodup, Kbt]
  refine List.Pairwise.imp ?_ (List.nodup_range)
  intro a b pW h
  omega
 ·unfold Z0W at hi
  obtain ⟨q, hq, rfl⟩ := Kae.1 hi
  have := Ka8.1 hq
  omega
theorem Z1v {α : Type} (l : List α) (f : α -> List Int) : (l.map f).flatten = l.flatMap f := by rw [List.flatMap_def]
theorem Z82 {ps : List Pce} {zs : List Int} {Gs : List Grp} (hG : GrpsIn ps Gs) (ho : OwnIn ps zs Gs) : (Gs.flatMap (Z0r zs)).Perm (Z0W 0 ps.length) := by
 have hN : (Gs.flatMap (Z0r zs)).Nodup := by
  unfold List.Nodup
  rw [List.pairwise_flatMap]
  refine ⟨fun x hx => ?_, ?_⟩
  ·unfold Z0r
   refine List.Pairwise.filter _ ?_
   exact List.Pairwise.imp (fun h => by omega) (hG.items x hx).1
  ·refine List.Pairwise.imp_of_mem ?_ hG.order
   intro x y hx hy pM a ha b hb e
   subst e
   unfold Z0r at ha hb
   obtain ⟨a1, a2⟩ := Kbh.1 ha
   obtain ⟨b1, b2⟩ := Kbh.1 hb
   have e1 : x.lvl = y.lvl := by
    have h1 := of_decide_eq_true a2
    have h2 := of_decide_eq_true b2
    omega
   have := ho.one x hx y hy e1 a a1 b1
   subst this
   rcases pM with h | ⟨_, h⟩
   ·omega
   ·rw [Z1F] at h; cases h
 have hM : (Z0W 0 ps.length).Nodup := (Z0J _).1
 refine (Kch hN hM).2 (fun i => ⟨fun h => ?_, fun h => ?_⟩)
 ·obtain ⟨x, hx, hi⟩ := Ka5.1 h
  unfold Z0r at hi
  obtain ⟨h0, h1⟩ := (hG.items x hx).2 i (Kbh.1 hi).1
  unfold Z0W
  exact Kae.2 ⟨i.toNat, Ka8.2 (by omega), by omega⟩
 ·obtain ⟨h0, h1⟩ := (Z0J _).2.2 i h
  obtain ⟨x, hx, h2, h3⟩ := ho.some i.toNat (by omega)
  rw [Ka3 h0] at h3
  refine Ka5.2 ⟨x, hx, ?_⟩
  unfold Z0r
  exact Kbh.2 ⟨h3, Kac h2.symm⟩
theorem Zd6 {k : Pck} {ps : List Pce} {zs : List Int} {Gs : List Grp} (hk : 1 <= k.pieces) (pG : 0 <= k.grams) (hg : ∀ p ∈ ps, p.grams <= k.grams) (hG : GrpsIn ps Gs) : (Gs.flatMap (Z10 k ps zs)).flatMap (fun b => b.ids) = (Gs.flatMap (Z0r zs)).map (fun i => (Z15 ps i).id) := by
 rw [List.flatMap_assoc, List.map_flatMap]
 have h : ∀ L : List Grp, (∀ x ∈ L, x ∈ Gs) -> L.flatMap (fun x => (Z10 k ps zs x).flatMap (fun b => b.ids)) = L.flatMap (fun x => (Z0r zs x).map (fun i => (Z15 ps i).id)) := fun L => by
  induction L with
  | nil => intro _; rfl
  | cons x r ih =>
   intro hL
   rw [Kao, Kao, ih (fun y hy => hL y (Kaj _ hy))]
   congr 1
   have hx := hL x Kaf
   have pN : ∀ i ∈ Z0r zs x, (Z15 ps i).grams <= k.grams := fun i hi => by
    obtain ⟨h0, h1⟩ := (hG.items x hx).2 i (Kbh.1 hi).1
    unfold Z15
    rw [Z2, Z3 h1]
    exact hg _ (Z4 h1)
   have hc := (Z9t hk pG (Z0r zs x) pN).1
   unfold Z10
   rw [List.flatMap_map]
   show (ZiJ k ps (Z0r zs x)).flatMap (fun l => l.map (fun i => (Z15 ps i).id)) = _
   rw [List.flatMap_def, <- List.map_flatten, hc]
 exact h Gs (fun x hx => hx)
theorem ZbM {ps : List Pce} (hu : Z5b ps) {i j : Int} (hi : 0 <= i /\ i.toNat < ps.length) (hj : 0 <= j /\ j.toNat < ps.length) (h : (Z15 ps i).id = (Z15 ps j).id) : i = j := by
 rcases Nat.lt_trichotomy i.toNat j.toNat with h1 | h1 | h1
 ·have := hu _ _ h1 hj.2
  rw [Ka3 hi.1, Ka3 hj.1] at this
  omega
 ·omega
 ·have := hu _ _ h1 hi.2
  rw [Ka3 hi.1, Ka3 hj.1] at this
  omega
theorem Zht {k : Pck} {ps : List Pce} {zs : List Int} {Gs : List Grp} (hk : 1 <= k.pieces) (pG : 0 <= k.grams) (hb : 1 <= k.bundles) (ht : 1 <= k.trays) (hg : ∀ p ∈ ps, p.grams <= k.grams) (hu : Z5b ps) (hG : GrpsIn ps Gs) (ho : OwnIn ps zs Gs) :
 LodOk k ps zs (Z6n zs Gs ps.length Gs.length) ⟨(Z29 k ps zs Gs Gs.length).buns, (Z29 k ps zs Gs Gs.length).tras, (Z29 k ps zs Gs Gs.length).cons⟩ := by
 have pJ := Zfc hb ht ps zs Gs Gs.length (Z1 _)
 have hF := Z95 hb ht hG.order (ps := ps) (zs := zs) Gs.length (Z1 _)
 have qW := pJ.buns
 rw [Kat] at qW
 have qU := pJ.fin (.inr (fun h => absurd h (Kdg _)))
 have rH := Z82 hG ho
 have sC := Zd6 (zs := zs) hk pG hg hG
 have sD : ∀ i ∈ Gs.flatMap (Z0r zs), 0 <= i /\ i.toNat < ps.length := fun i hi => by
  have := (Z0J _).2.2 i (rH.mem_iff.1 hi)
  omega
 refine ⟨⟨?_, ?_, ?_⟩, ⟨⟨?_, ?_, ?_, ?_⟩, ?_⟩, ⟨⟨?_, ?_, ?_, ?_⟩, ?_⟩⟩
 ·intro b hb
  rw [qW] at hb
  obtain ⟨x, hx, hb⟩ := Ka5.1 hb
  unfold Z10 at hb
  obtain ⟨l, hl, rfl⟩ := Kae.1 hb
  have pN : ∀ i ∈ Z0r zs x, (Z15 ps i).grams <= k.grams := fun i hi => by
   obtain ⟨h0, h1⟩ := (hG.items x hx).2 i (Kbh.1 hi).1
   unfold Z15
   rw [Z2, Z3 h1]
   exact hg _ (Z4 h1)
  obtain ⟨c1, c2, _⟩ := Z9t hk pG (Z0r zs x) pN
  obtain ⟨d1, d2, d3⟩ := c2 l hl
  refine ⟨l, fun i hi => ?_, rfl, rfl, Kcr.2 d1, d2, d3⟩
  have hit : i ∈ Z0r zs x := by rw [<- c1]; exact List.mem_flatten.2 ⟨l, hl, hi⟩
  unfold Z0r at hit
  obtain ⟨i1, i2⟩ := Kbh.1 hit
  obtain ⟨h0, h1⟩ := (hG.items x hx).2 i i1
  have h2 : zs.getD i.toNat (-1) = x.lvl := of_decide_eq_true i2
  exact ⟨h0, h1, h2, Zkd hG ho hx (by rw [Ka3 h0]; exact i1) h2⟩
 ·show ((Z29 k ps zs Gs Gs.length).buns.flatMap _).Nodup
  rw [qW, sC, List.Nodup, Kbt]
  refine List.Pairwise.imp_of_mem ?_ (rH.nodup_iff.2 (Z0J _).1)
  intro a b ha hb pW h
  exact pW (ZbM hu (sD a ha) (sD b hb) h)
 ·show ((Z29 k ps zs Gs Gs.length).buns.flatMap _).length = _
  rw [qW, sC, Z7, rH.length_eq, (Z0J _).2.1]
 ·intro l hl
  obtain ⟨t, ht, rfl⟩ := Kae.1 hl
  exact hF.tl t ht
 ·show ∀ i ∈ ((Z29 k ps zs Gs Gs.length).tras.map (fun t => t.bs)).flatten, _
  rw [Z1v, pJ.nb]
  exact (Z0J _).2.2
 ·show (((Z29 k ps zs Gs Gs.length).tras.map (fun t => t.bs)).flatten).Nodup
  rw [Z1v, pJ.nb]
  exact (Z0J _).1
 ·show (((Z29 k ps zs Gs Gs.length).tras.map (fun t => t.bs)).flatten).length = _
  rw [Z1v, pJ.nb]
  exact (Z0J _).2.1
 ·intro t ht i hi
  exact (hF.tb t ht i hi).2
 ·intro l hl
  obtain ⟨t, ht, rfl⟩ := Kae.1 hl
  exact hF.cl t ht
 ·show ∀ i ∈ ((Z29 k ps zs Gs Gs.length).cons.map (fun t => t.ts)).flatten, _
  rw [Z1v, pJ.nt, qU]
  exact (Z0J _).2.2
 ·show (((Z29 k ps zs Gs Gs.length).cons.map (fun t => t.ts)).flatten).Nodup
  rw [Z1v, pJ.nt, qU]
  exact (Z0J _).1
 ·show (((Z29 k ps zs Gs Gs.length).cons.map (fun t => t.ts)).flatten).length = _
  rw [Z1v, pJ.nt, qU]
  exact (Z0J _).2.1
 ·intro t ht i hi
  exact (hF.cb t ht i hi).2
end
section
open Go.RowKit Go.Sort
theorem Tryz.infoBoo : (Tryz.prog.info? 4).map (fun i => (i.zero, i.size, i.bytes)) = some (some (.bool false), 1, 1) := by kernel_rfl
def RdLL (w : World) (v : Value) (ts : List (List Int)) : Prop :=
 ∃ a cap, v = .slice a ts.length cap /\ (0 < ts.length -> ∃ g off, a = some ⟨g, off, none⟩ /\ g < w.1.size /\ ∀ i (h : i < ts.length), ∃ s, w.cell? ⟨g, off + i, none⟩ = some s /\ RdInts w s ts[i])
theorem RdLL.below {w w' : World} {v : Value} {ts : List (List Int)} (h : RdLL w v ts) (hb : Below w.1.size w w') : RdLL w' v ts := by
 obtain ⟨a, cap, hv, hc⟩ := h
 refine ⟨a, cap, hv, fun h0 => ?_⟩
 obtain ⟨g, off, ha, hg, pB⟩ := hc h0
 refine ⟨g, off, ha, ZH hg hb.size, fun i hi => ?_⟩
 obtain ⟨s, h1, h2⟩ := pB i hi
 exact ⟨s, (hb.cell (p := ⟨g, off + i, none⟩) hg).trans h1, h2.below hb⟩
def BoolsAt (w : World) (g : Nat) (xs : List Bool) : Prop := w.1[g]? = some (.cells (xs.map Value.bool).toArray 4 (0, 0))
theorem BoolsAt.lt {w : World} {g : Nat} {xs : List Bool} (h : BoolsAt w g xs) : g < w.1.size := (Z5.1 h).1
theorem BoolsAt.below {w w' : World} {g B : Nat} {xs : List Bool} (h : BoolsAt w g xs) (hb : Below B w w') (hg : g < B) : BoolsAt w' g xs := (hb.block g hg).trans h
theorem BoolsAt.cell {w : World} {g : Nat} {xs : List Bool} (h : BoolsAt w g xs) {i : Nat} (hi : i < xs.length) : w.cell? ⟨g, i, none⟩ = some (.bool (xs.getD i false)) := by
 unfold BoolsAt at h
 simp [World.cell?, h, hi]
theorem BoolsAt.free {w : World} {g : Nat} {xs : List Bool} (h : BoolsAt w g xs) (i : Nat) : w.frozen? ⟨g, i, none⟩ = false := by
 unfold BoolsAt at h
 simp [World.frozen?, h]
theorem BoolsAt.set {w : World} {g : Nat} {xs : List Bool} (h : BoolsAt w g xs) (i : Nat) (x : Bool) : BoolsAt (w.setCell ⟨g, i, none⟩ (.bool x)) g (xs.set i x) := by
 have hl := h.lt
 unfold BoolsAt at *
 simp only [World.setCell, Kap, if_pos, h, Option.map_some, List.map_set]
 simp
theorem ZdR (w : World) (n : Nat) : BoolsAt (w.alloc (.cells (madeCells #[Value.bool false] n) 4)) w.1.size (List.replicate n false) := by
 have e : madeCells #[Value.bool false] n = ((List.replicate n false).map Value.bool).toArray := by
  apply Array.toList_inj.1
  rw [toList_madeCells_one]
  simp
 unfold BoolsAt
 rw [e]
 exact Z02 w _
def ZfB (n : Nat) (S : List Int) : List Bool := (List.range n).map (fun j : Nat => decide ((j : Int) ∈ S))
theorem Z6o (n : Nat) (S : List Int) : (ZfB n S).length = n := by unfold ZfB; simp
theorem ZhI (n : Nat) : ZfB n [] = List.replicate n false := by
 refine Kcf (by rw [Z6o, Kcb]) (fun i hi hi' => ?_)
 simp [ZfB]
theorem Zjg {n : Nat} {S : List Int} {j : Nat} (h : j < n) : (ZfB n S).getD j false = decide ((j : Int) ∈ S) := by
 unfold ZfB
 rw [Z2, Kal, Kb2 h]; rfl
theorem ZhH {n : Nat} {S : List Int} {j : Nat} (h : j < n) : (ZfB n S).set j true = ZfB n (S ++ [(j : Int)]) := by
 refine Kcf (by rw [Kb8, Z6o, Z6o]) (fun i hi hi' => ?_)
 rw [List.getElem_set]
 unfold ZfB
 simp only [Kba, Kbv, ZG, ZI]
 by_cases qN : j = i
 ·subst qN; simp
 ·rw [if_neg qN, decide_eq_decide]
  constructor
  ·exact .inl
  ·rintro (h | h)
   ·exact h
   ·omega
theorem Z8D {ls : List (List Int)} {q p : Nat} (hq : q < ls.length) (hp : p < ls[q].length) : ls.flatten = (ls.take q).flatten ++ (ls[q].take p ++ ls[q][p] :: (ls[q].drop (p + 1) ++ (ls.drop (q + 1)).flatten)) := by
 have h1 : ls.flatten = (ls.take q).flatten ++ (ls[q] ++ (ls.drop (q + 1)).flatten) := by
  rw [<- List.flatten_cons, <- Kc7 hq, <- Kcs, Kcl]
 have h2 : ls[q] = ls[q].take p ++ ls[q][p] :: ls[q].drop (p + 1) := by
  rw [<- Kc7 hp, Kcl]
 rw [h1]
 congr 1
 refine (Kah (fun z => z ++ (ls.drop (q + 1)).flatten) h2).trans ?_
 simp only [Kbc, Kc9]
theorem Zja {ls : List (List Int)} {n : Nat} {len : Int} (h : OnceOk ls n len) {q p : Nat} (hq : q < ls.length) (hp : p < ls[q].length) : 0 <= ls[q][p] /\ ls[q][p] < n /\ ls[q][p] ∉ (ls.take q).flatten ++ ls[q].take p := by
 have hm : ls[q][p] ∈ ls.flatten := List.mem_flatten.2 ⟨_, Z4 hq, Z4 hp⟩
 obtain ⟨h1, h2⟩ := h.ins _ hm
 refine ⟨h1, h2, fun hc => ?_⟩
 have hN := h.once
 rw [Z8D hq hp, <- Kbc, Kc5] at hN
 exact hN.2.2 _ hc _ Kaf rfl
theorem Z8m {S : List Int} {x : Int} (h : S.Nodup) (hx : x ∉ S) : (S ++ [x]).Nodup := by
 rw [Kc5]
 exact ⟨h, by simp, fun a ha b hb e => hx (by rw [ZI.1 hb] at e; rw [<- e]; exact ha)⟩
def IsB (v : Value) (P : Prop) : Prop := ∃ r : Bool, v = .bool r /\ (r = true ↔ P)
theorem IsB.no {P : Prop} (h : ¬ P) : IsB (.bool false) P := ⟨false, rfl, by simp [h]⟩
theorem IsB.yes {P : Prop} (h : P) : IsB (.bool true) P := ⟨true, rfl, by simp [h]⟩
theorem IsB.of {P : Prop} {r : Bool} (h : r = true ↔ P) : IsB (.bool r) P := ⟨r, rfl, h⟩
theorem ZcF (ls : List (List Int)) (n : Nat) (len : Int) (vl : Value) (w : World) (hl : RdLL w vl ls) (hn : n <= 1000000) (hf : ls.flatten.length <= 1000000) (sS : ls.length <= 1000000) :
 Calls Tryz.prog 114 #[vl, .int .i64 n, .int .i64 len] w fun e w' => ∃ v, e = .returned v /\ Below w.1.size w w' /\ IsB v (OnceOk ls n len) := by
 obtain ⟨a, c, rfl, qP⟩ := hl
 have tB := run_make_row' (P := Tryz.prog) 231 4 (.bool false) 1 Tryz.underlying231 Tryz.infoBoo rfl .i64 .i64 n (by omega) (by omega)
 have tC := Z0 qP
 have sE := Z0 (ZdR w n)
 have HF := Z0 hf
 have sF : Below w.1.size w (w.alloc (.cells (madeCells #[Value.bool false] n) 4)) := (Z9 _ w).alloc (Z1 _) _
 clear qP hf
 go_enter Tryz.func114, Tryz.ntmps114
 go_wp2_with fail
 clear tB
 go_loopw [8, 17] (fun s i wx => ∃ q : Nat, q <= ls.length /\ i = .int .i64 q /\ s = .int .i64 ((ls.take q).flatten.length : Nat) /\ Below w.1.size w wx /\ BoolsAt wx w.1.size (ZfB n (ls.take q).flatten) /\ (∀ l ∈ ls.take q, 1 <= l.length /\ (l.length : Int) <= len) /\ (∀ x ∈ (ls.take q).flatten, 0 <= x /\ x < n) /\ (ls.take q).flatten.Nodup) (fun _ i _ => ls.length - (intOf i).toNat)
 case atStart => exact ⟨0, ZE _, rfl, rfl, sF, by rw [Kb5, List.flatten_nil, ZhI]; exact sE.out, by simp, by simp, by simp⟩
 case round =>
  clear sF sE
  obtain ⟨wo, rB⟩ : ∃ x, x = wr := ⟨_, rfl⟩
  subst rB
  obtain ⟨q, hq, rfl, rfl, hB, hM, pV, pL, qQ⟩ := hrel
  have HB := Z0 hB
  have HM := Z0 hM
  have rI := Z0 pV
  have pT := Z0 pL
  have pU := Z0 qQ
  clear pV pL qQ
  by_cases pA : q < ls.length
  ·obtain ⟨g, off, rfl, hg, pB⟩ := tC.out (by omega)
   obtain ⟨s, h1, h2⟩ := pB q pA
   have qX := fun (h : OnceOk ls n len) p hp => Zja (p := p) h pA hp
   have rJ := fun (h : OnceOk ls n len) => h.lens _ (Z4 pA)
   have pQ : (ls.take (q + 1)).flatten = (ls.take q).flatten ++ ls[q] := by rw [Z8 pA, Kcs, List.flatten_singleton]
   have pO : ∀ l ∈ ls.take (q + 1), l ∈ ls.take q \/ l = ls[q] := fun l hl => by
    rw [Z8 pA] at hl
    rcases ZG.1 hl with hl | hl
    ·exact .inl hl
    ·exact .inr (ZI.1 hl)
   have sG : (ls.take q).flatten.length + ls[q].length <= 1000000 := by
    have h3 : (ls.take (q + 1)).flatten.length <= ls.flatten.length := by
     conv => rhs; rw [<- Kcl (q + 1) ls, Kcs, ZC]
     omega
    have := HF.out
    rw [pQ, ZC] at h3
    omega
   obtain ⟨l, sH⟩ : ∃ l, l = ls[q] := ⟨_, rfl⟩
   obtain ⟨S, hS⟩ : ∃ S, S = (ls.take q).flatten := ⟨_, rfl⟩
   rw [<- sH] at h2 qX rJ pQ pO sG
   rw [<- hS] at qX pQ sG hM ⊢
   have tD : Hid (∀ x ∈ S, 0 <= x /\ x < (n : Int)) := by rw [hS]; exact pT
   have tE : Hid S.Nodup := by rw [hS]; exact pU
   have tF := Z0 qX
   have sI := Z0 rJ
   have pZ := Z0 pQ
   have pR := Z0 pO
   obtain ⟨al, cl, rfl, qP⟩ := h2
   replace h1 := (hB.cell (p := ⟨g, off + q, none⟩) hg).trans h1
   have tG := Z0 qP
   have HM' := Z0 hM
   clear qX rJ pQ pO sH hS pB qP hM HM hB pT pU
   by_cases hz : l.length < 1
   ·have hr : ¬ OnceOk ls n len := fun h => by have := sI.out h; omega
    have HR := Z0 hr
    clear hr
    go_wp2_with fail
    go_ret
    exact ⟨_, rfl, HB.out, IsB.no HR.out⟩
   ·by_cases tP : (l.length : Int) > len
    ·have hr : ¬ OnceOk ls n len := fun h => by have := sI.out h; omega
     have HR := Z0 hr
     clear hr
     go_wp2_with fail
     go_ret
     exact ⟨_, rfl, HB.out, IsB.no HR.out⟩
    ·go_wp2_with fail
     go_loopw [8, 32] (fun s i wx => ∃ p : Nat, p <= l.length /\ i = .int .i64 p /\ s = .int .i64 (S.length + p : Nat) /\ Below w.1.size w wx /\ BoolsAt wx w.1.size (ZfB n (S ++ l.take p)) /\ (∀ x ∈ S ++ l.take p, 0 <= x /\ x < (n : Int)) /\ (S ++ l.take p).Nodup) (fun _ i _ => l.length - (intOf i).toNat)
     case atStart => exact ⟨0, ZE _, rfl, rfl, HB.out, by rw [Kb5, Ka1]; exact HM'.out, by rw [Kb5, Ka1]; exact tD.out, by rw [Kb5, Ka1]; exact tE.out⟩
     case round =>
      obtain ⟨wi, tH⟩ : ∃ x, x = wr := ⟨_, rfl⟩
      subst tH
      obtain ⟨p, hp, rfl, rfl, hB, hM, pL, qQ⟩ := hrel
      have HB' := Z0 hB
      have HM := Z0 hM
      have pT := Z0 pL
      have pU := Z0 qQ
      clear pL qQ hM
      by_cases rK : p < l.length
      ·obtain ⟨g2, o2, rfl, tI, sJ⟩ := tG.out (by omega)
       have e1 := (hB.cell (p := ⟨g2, o2 + p, none⟩) tI).trans (sJ p rK)
       have hO := fun (h : OnceOk ls n len) => tF.out h p rK
       have pK : l.take (p + 1) = l.take p ++ [l[p]] := Z8 rK
       obtain ⟨x, hx⟩ : ∃ x, x = l[p] := ⟨_, rfl⟩
       rw [<- hx] at e1 hO pK
       have HO := Z0 hO
       have pX := Z0 pK
       clear hO hx sJ pK
       by_cases x0 : x < 0
       ·have hr : ¬ OnceOk ls n len := fun h => by have := (HO.out h).1; omega
        have HR := Z0 hr
        clear hr hB
        go_wp2_with fail
        go_ret
        exact ⟨_, rfl, HB'.out, IsB.no HR.out⟩
       ·by_cases x1 : x >= (n : Int)
        ·have hr : ¬ OnceOk ls n len := fun h => by have := (HO.out h).2.1; omega
         have HR := Z0 hr
         clear hr hB
         go_wp2_with fail
         go_ret
         exact ⟨_, rfl, HB'.out, IsB.no HR.out⟩
        ·obtain ⟨j, rfl⟩ : ∃ j : Nat, x = (j : Int) := ⟨x.toNat, by omega⟩
         have rL : j < n := by omega
         have m1 := HM.out.cell (i := j) (by rw [Z6o]; exact rL)
         rw [Zjg rL] at m1
         have m2 := HM.out.free j
         have m3 := HM.out.set j true
         rw [ZhH rL] at m3
         have tJ := Z0 m3
         clear m3 hB
         by_cases hm : (j : Int) ∈ S ++ l.take p
         ·have hd : decide ((j : Int) ∈ S ++ l.take p) = true := Kac hm
          rw [hd] at m1
          have hr : ¬ OnceOk ls n len := fun h => (HO.out h).2.2 hm
          have HR := Z0 hr
          clear hr hd hm
          go_wp2_with fail
          go_ret
          exact ⟨_, rfl, HB'.out, IsB.no HR.out⟩
         ·have hd : decide ((j : Int) ∈ S ++ l.take p) = false := Kad hm
          rw [hd] at m1
          have tK := Z0 hm
          clear hd hm
          go_wp2_with fail
          go_roundw
          case rel =>
           refine ⟨p + 1, by omega, by go_num, by go_num, HB'.out.setCell (p := ⟨w.1.size, j, none⟩) (Z1 _) _, by rw [pX.out, <- Kbc]; exact tJ.out, ?_, ?_⟩
           ·rw [pX.out, <- Kbc]
            intro y hy
            rcases ZG.1 hy with hy | hy
            ·exact pT.out y hy
            ·rw [ZI.1 hy]; omega
           ·rw [pX.out, <- Kbc]
            exact Z8m pU.out tK.out
          case measure => simp [intOf]; omega
      ·obtain rfl : p = l.length := by omega
       rw [Kat] at HM pT pU
       clear hB
       go_wp2_with fail
       go_roundw
       case rel =>
        refine ⟨q + 1, by omega, by go_num, by rw [pZ.out, ZC], HB'.out, by rw [pZ.out]; exact HM.out, ?_, by rw [pZ.out]; exact pT.out, by rw [pZ.out]; exact pU.out⟩
        intro y hy
        rcases pR.out y hy with hy | rfl
        ·exact rI.out y hy
        ·omega
       case measure => simp [intOf]; omega
  ·obtain rfl : q = ls.length := by omega
   rw [Kat] at rI pT pU ⊢
   have sK : Hid (ls.flatten.length = n ↔ OnceOk ls n len) := ⟨fun h => ⟨rI.out, pT.out, pU.out, h⟩, fun h => h.all⟩
   clear hM hB
   obtain ⟨N, hN⟩ : ∃ N, N = ls.flatten.length := ⟨_, rfl⟩
   rw [<- hN] at sK ⊢
   clear hN
   go_wp2_with fail
   go_ret
   refine ⟨_, rfl, HB.out, IsB.of ?_⟩
   rw [<- sK.out]
   simp
   try omega
end
end Go.Proofs.YtlgajongmkhcnaaGreatDoor
