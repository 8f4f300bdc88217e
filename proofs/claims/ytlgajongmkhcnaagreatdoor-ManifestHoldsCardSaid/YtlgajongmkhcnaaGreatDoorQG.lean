import Derived.Test.YtlgajongmkhcnaaGreatDoorQZ
import Derived.Test.YtlgajongmkhcnaaGreatDoorQA
import Derived.Test.YtlgajongmkhcnaaGreatDoorQF
import Derived.Deep.Upon
import Derived.Test.YtlgajongmkhcnaaGreatDoorQ5
import Derived.BigQuiet
import Derived.Test.YtlgajongmkhcnaaGreatDoorQ8
set_option linter.unusedVariables false
set_option linter.unusedSimpArgs false
set_option maxHeartbeats 32000000
namespace Go.Proofs.YtlgajongmkhcnaaGreatDoor
open Go.RowKit Go.Sort
set_option maxRecDepth 100000
theorem HasPlan.groups_few {ls : List Lev} {m : Mai} (h : HasPlan ls m) : (Z0Y ls (Z06 m.ps) ls.length).length <= 12000 := by
 have h1 := Z81 ls (Z06 m.ps)
 have h2 := (Z0z h.right).2
 have h3 := h.few
 rw [Z1w] at h1
 have : ls.length * m.ps.length <= 6 * 2000 := Nat.mul_le_mul h2 h3
 omega
theorem ZeQ {ls : List Lev} {m : Mai} (h : HasPlan ls m) {v vc : Value} {w : World} (hr : RdLevs w v ls) (hrc : ReadsT w vc (Z06 m.ps)) :
 Calls Tryz.prog 41 #[v, vc] w fun e w' => ∃ a cap, e = .returned (.tuple #[.slice a (Z0Y ls (Z06 m.ps) ls.length).length cap, .int .i64 0]) /\ Below w.1.size w w' /\ RdGrps w' (.slice a (Z0Y ls (Z06 m.ps) ls.length).length cap) (Z0Y ls (Z06 m.ps) ls.length) := by
 have hl := Z0z h.right
 have hf := h.few
 have h1 := Z5c ls v vc (Z06 m.ps) w hr (Z1q h.right) (by unfold maxLen; omega) hrc (by rw [Z1w]; unfold maxLen; omega) (fun c hc => by have := Z0s (h.code c hc); unfold maxLen; omega)
 rw [Z80 h.right (by rw [Z1w]; exact hf) h.code (Z6p h.pre), Z3C ls _ ls.length (Z1 _)] at h1
 refine h1.mono ?_
 rintro e w' ⟨vg, rfl, hb, hog⟩
 have hrg := RdGrps.of_owns hog
 obtain ⟨ag, cg, hvg⟩ := hog.len
 subst hvg
 exact ⟨ag, cg, rfl, hb, hrg⟩
theorem Z6N {ls : List Lev} {m : Mai} (h : HasPlan ls m) {vl v : Value} {w : World} (hrl : RdLevs w vl ls) (hr : RdPces w v m.ps) :
 Calls Tryz.prog 30 #[vl, Z22 m v] w fun e w' => ∃ a cap, e = .returned (.tuple #[.slice a (Z0Y ls (Z06 m.ps) ls.length).length cap, .int .i64 0]) /\ Below w.1.size w w' /\ RdGrps w' (.slice a (Z0Y ls (Z06 m.ps) ls.length).length cap) (Z0Y ls (Z06 m.ps) ls.length) := by
 have hl : m.ps.length <= 2000 := h.few
 have HGO := Z0 (fun W vc (hW : Below w.1.size w W) (hrc : ReadsT W vc (Z06 m.ps)) => ZeQ h (hrl.below hW) hrc)
 obtain ⟨N, hN⟩ : ∃ N, N = (Z0Y ls (Z06 m.ps) ls.length).length := ⟨_, rfl⟩
 rw [<- hN] at HGO ⊢
 clear hN h hrl
 obtain ⟨a, cap, rfl, hcc⟩ := hr
 unfold Z22
 obtain ⟨cls, ctr, org, ps⟩ := m
 dsimp only at *
 obtain ⟨i0, hi⟩ := info_parts Tryz.infoTx
 have HI := Z0 hi
 have HCC := Z0 hcc
 clear hi hcc
 have c0 : (w.alloc (.cells #[.int .u8 cls, .int .u8 ctr, .string org, .slice a ps.length cap] 34)).cell? ⟨w.1.size, 3, none⟩ = some (.slice a ps.length cap) := cell_of_row _ _ 3 _ _ _ (Z01 w _)
 go_enter Tryz.func30, Tryz.ntmps30
 go_wp2_with (at_make; refine wpList_make_own _ rfl _ _ 84 rfl (w.1.size + 1) 9 i0 (.string ⟨#[]⟩) 1 Tryz.underlying84 HI.out.1 HI.out.2.1 HI.out.2.2.1 _ _ _ ps.length rfl (by first | rfl | simp) rfl (by rw [HI.out.2.2.2]; omega) (by unfold maxLen; omega) (by simp) ?_; intro w1 hown hgrow; have hb1 : Below (w.alloc (.cells #[.int .u8 cls, .int .u8 ctr, .string org, .slice a ps.length cap] 34)).1.size (w.alloc (.cells #[.int .u8 cls, .int .u8 ctr, .string org, .slice a ps.length cap] 34)) w1 := (Z9 _ _).grown hgrow (Z1 _) (fun _ e => by cases e); clear hgrow; have c1 := (hb1.cell (p := ⟨w.1.size, 3, none⟩) (by simp)).trans c0)
 have hB : Below w.1.size w w1 := Z0k (Z9 _ w) (Z1 _) hb1
 have hz1 := hb1.size
 simp only [Z6] at hz1
 clear c1 c0 hb1
 go_loopw [6, 16] (fun l i wr => ∃ k : Nat, k <= ps.length /\ i = .int .i64 k /\ Below w.1.size w wr /\ w.1.size + 1 <= wr.1.size /\ wr.ownsRow (w.1.size + 1) 9 1 l k ((Z06 (ps.take k)).map Value.string)) (fun _ i _ => ps.length - (intOf i).toNat)
 case atStart => exact ⟨0, ZE _, rfl, hB, by omega, by simpa [Z06] using hown⟩
 case round =>
  clear hB hown
  obtain ⟨k, hk, rfl, hB, hz, hO⟩ := hrel
  by_cases hlt : k < ps.length
  ·obtain ⟨g, off, rfl, hg, hat⟩ := HCC.out (by omega)
   have hp := (hat k hlt).below hB hg
   have htk := Z6X ps hlt
   obtain ⟨p, hpe⟩ : ∃ p, p = ps[k] := ⟨_, rfl⟩
   rw [<- hpe] at hp htk
   have HTK := Z0 htk
   obtain ⟨id, pt, cd, gr, br⟩ := p
   obtain ⟨p0, p1, p2, p3, p4⟩ := hp
   dsimp only at p0 p1 p2 p3 p4
   clear hat htk hpe
   have hO1 := (hO.alloc (.cells #[.int .i64 id, .int .i64 pt, .string cd, .int .i64 gr, .bool br] 65)).alloc (.cells #[.string cd] 9)
   have HO1 := Z0 hO1
   clear hO1
   rcases Joins.ownsRow_forms hO with ⟨rfl, hpn⟩ | ⟨g2, cap2, rfl⟩
   ·have HP := Z0 hpn
    clear hpn
    go_wp2_with (at_builtin; refine wpList_append_own _ rfl _ _ 84 rfl (w.1.size + 1) 9 i0 (.string ⟨#[]⟩) 1 16 Tryz.underlying84 HI.out.1 HI.out.2.1 HI.out.2.2.1 HI.out.2.2.2 rfl (by decide) _ _ _ rfl HO1.out ⟨wr.1.size + 1, 0, none⟩ 1 1 [.string cd] rfl (by simp) (by simpa using cell_one_new (wr.alloc (.cells #[.int .i64 id, .int .i64 pt, .string cd, .int .i64 gr, .bool br] 65)) (.string cd) 9) (by simp [Value.oneCell']) (by unfold maxLen; omega) (by omega) (by simp; omega) ?_; intro v' w5 hown' hgrow _)
    go_roundw
    case rel =>
     refine ⟨k + 1, by omega, by go_num, ?_, ?_, ?_⟩
     ·exact ((hB.alloc hB.size _).alloc (by have := hB.size; simp; omega) _).grown hgrow (by have := hB.size; simp; omega) (fun r e => by have := (hO.lt r e).1; omega)
     ·have := hgrow.size; simp at this; omega
     ·rw [HTK.out]
      exact hown'
    case measure => simp [intOf]; omega
   ·go_wp2_with (at_builtin; refine wpList_append_own _ rfl _ _ 84 rfl (w.1.size + 1) 9 i0 (.string ⟨#[]⟩) 1 16 Tryz.underlying84 HI.out.1 HI.out.2.1 HI.out.2.2.1 HI.out.2.2.2 rfl (by decide) _ _ _ rfl HO1.out ⟨wr.1.size + 1, 0, none⟩ 1 1 [.string cd] rfl (by simp) (by simpa using cell_one_new (wr.alloc (.cells #[.int .i64 id, .int .i64 pt, .string cd, .int .i64 gr, .bool br] 65)) (.string cd) 9) (by simp [Value.oneCell']) (by unfold maxLen; omega) (by omega) (by simp; omega) ?_; intro v' w5 hown' hgrow _)
    go_roundw
    case rel =>
     refine ⟨k + 1, by omega, by go_num, ?_, ?_, ?_⟩
     ·exact ((hB.alloc hB.size _).alloc (by have := hB.size; simp; omega) _).grown hgrow (by have := hB.size; simp; omega) (fun r e => by have := (hO.lt r e).1; omega)
     ·have := hgrow.size; simp at this; omega
     ·rw [HTK.out]
      exact hown'
    case measure => simp [intOf]; omega
  ·obtain rfl : k = ps.length := by omega
   rw [List.take_length] at hO
   have HO := Z0 hO
   have hlen : (Z06 ps).length = ps.length := by unfold Z06; simp
   rcases Joins.ownsRow_forms hO with ⟨rfl, hp⟩ | ⟨g2, cap2, rfl⟩
   ·have hrt : ReadsT wr (.slice none 0 0) (Z06 ps) := ⟨none, 0, by rw [hlen, hp], fun h0 => by rw [hlen] at h0; omega⟩
    have HRT := Z0 hrt
    have HP := Z0 hp
    clear hrt hlen hO hp
    go_wp2_with (go_at_call 41; refine (HGO.out _ _ hB HRT.out).mono ?_; rintro e w6 ⟨a6, c6, rfl, hb6, hg6⟩)
    go_ret2
    exact ⟨_, _, rfl, Z00 hB hB.size hb6, hg6⟩
   ·have hrt : ReadsT wr (.slice (some ⟨g2, 0, none⟩) ps.length cap2) (Z06 ps) := ReadsT.of_row (base := w.1.size + 1) (by unfold OwnsT; rw [hlen]; exact HO.out)
    have HRT := Z0 hrt
    clear hrt hlen hO
    go_wp2_with (go_at_call 41; refine (HGO.out _ _ hB HRT.out).mono ?_; rintro e w6 ⟨a6, c6, rfl, hb6, hg6⟩)
    go_ret2
    exact ⟨_, _, rfl, Z00 hB hB.size hb6, hg6⟩
noncomputable def Zab (ls : List Lev) (m : Mai) (zs : List Int) (k : Pck) : Int := if (Z1X ls m zs).2 = 0 then (if (Z1X ls m zs).1 = true /\ Z7f k = true then 0 else 2) else (Z1X ls m zs).2
theorem Z8b {w w2 : World} {c1 c2 : Array Value} {t1 t2 : TypeId} (h : w2 = (w.alloc (.cells c1 t1)).alloc (.cells c2 t2)) :
 w2.1[w.1.size]? = some (.cells c1 t1 (0, 0)) /\ w2.1[w.1.size + 1]? = some (.cells c2 t2 (0, 0)) /\ w2.1.size = w.1.size + 1 + 1 /\ Below w.1.size w w2 := by
 rw [h]
 obtain ⟨a, ha⟩ : ∃ a, a = w.alloc (.cells c1 t1) := ⟨_, rfl⟩
 have za : a.1.size = w.1.size + 1 := by rw [ha, Z6]
 have na : a.1[w.1.size]? = some (.cells c1 t1 (0, 0)) := by rw [ha]; exact Z01 w _
 have nb : (a.alloc (.cells c2 t2)).1[w.1.size + 1]? = some (.cells c2 t2 (0, 0)) := by rw [<- za]; exact Z01 a _
 have ba : Below w.1.size w a := by rw [ha]; exact (Z9 _ w).alloc (Z1 _) _
 rw [<- ha]
 exact ⟨(ZB _ _ _ (by omega)).trans na, nb, by rw [Z6, za], ba.alloc (by omega) _⟩
theorem Z75 (ls : List Lev) (v vp vz : Value) (m : Mai) (zs : List Int) (k : Pck) (w : World) (hr : RdLevs w v ls) (hf : ∀ l ∈ ls, Z0G l) (hl : ls.length <= 100000) (hrp : RdPces w vp m.ps) (h8 : 0 <= m.cls /\ m.cls <= 255 /\ 0 <= m.ctr /\ m.ctr <= 255)
 (hom : m.origin.size <= maxLen) (hml : m.ps.length <= 100000) (hcz : ∀ p ∈ m.ps, p.code.size <= maxLen) (hz : RdInts w vz zs) (hlz : zs.length <= 1000000) :
 Calls Tryz.prog 29 #[v, Z22 m vp, vz, Z3I k] w fun e w' => e = .returned (.int .i64 (Zab ls m zs k)) /\ Below w.1.size w w' := by
 have HVA := Z0 (fun W (hW : Below w.1.size w W) => Zdv ls v vp vz m zs W (hr.below hW) hf hl (hrp.below hW) h8 hom hml hcz (hz.below hW) hlz)
 have HRT := Z0 (fun W => Zcv k W)
 obtain ⟨ap, cp, rfl, _⟩ := hrp
 have hA : Zab ls m zs k = if (Z1X ls m zs).2 = 0 then (if (Z1X ls m zs).1 = true /\ Z7f k = true then 0 else 2) else (Z1X ls m zs).2 := by unfold Zab; rfl
 obtain ⟨R, hR⟩ : ∃ R, R = Z1X ls m zs := ⟨_, rfl⟩
 rw [<- hR] at HVA hA
 obtain ⟨vb, ve⟩ := R
 obtain ⟨A, hAA⟩ : ∃ A, A = Zab ls m zs k := ⟨_, rfl⟩
 obtain ⟨pb, hpb⟩ : ∃ b, b = Z7f k := ⟨_, rfl⟩
 rw [<- hpb] at HRT hA
 rw [<- hAA] at hA ⊢
 dsimp only at HVA hA
 unfold Z22 Z3I at *
 obtain ⟨kp, kg, kb, kt⟩ := k
 obtain ⟨cls, ctr, org, ps⟩ := m
 dsimp only at *
 obtain ⟨w2, hw2⟩ : ∃ w2, w2 = (w.alloc (.cells #[.int .u8 cls, .int .u8 ctr, .string org, .slice ap ps.length cp] 34)).alloc (.cells #[.int .i64 kp, .int .i64 kg, .int .i64 kb, .int .i64 kt] 37) := ⟨_, rfl⟩
 obtain ⟨g1, g2, z2, b2⟩ := Z8b hw2
 obtain ⟨x0, x1, x2, x3⟩ := Z0D g1
 have HKB := Z0 (fun (W : World) (hB : Below w2.1.size w2 W) => Z0D ((hB.block _ (by omega)).trans g2))
 have HW2 := Z0 hw2
 have HB2 := Z0 b2
 have HAH := Z0 hA
 clear hw2 b2 z2 g1 g2 hA hAA hpb hR hr hf hcz hz
 by_cases he : ve = 0
 ·subst he
  cases vb
  ·have HA2 : Hid (A = 2) := Z0 (by have h := HAH.out; simpa using h)
   go_enter Tryz.func29, Tryz.ntmps29
   go_upto_region 1 with fail
   rw [<- HW2.out]
   go_wp2_with (go_at_call 16; refine (HVA.out _ HB2.out).mono ?_; rintro e w3 ⟨rfl, hb3⟩)
   go_ret
   rw [HA2.out]
   exact ⟨rfl, Z00 HB2.out HB2.out.size hb3⟩
  ·cases pb
   ·have HA2 : Hid (A = 2) := Z0 (by have h := HAH.out; simpa using h)
    go_enter Tryz.func29, Tryz.ntmps29
    go_upto_region 1 with fail
    rw [<- HW2.out]
    go_wp2_with (first | (go_at_call 16; refine (HVA.out _ HB2.out).mono ?_; rintro e w3 ⟨rfl, hb3⟩; obtain ⟨y0, y1, y2, y3⟩ := HKB.out w3 hb3) | (go_at_call 68; refine (HRT.out w3).mono ?_; rintro e w4 ⟨rfl, hb4⟩))
    go_ret
    rw [HA2.out]
    exact ⟨rfl, Z00 (Z00 HB2.out HB2.out.size hb3) (Z00 HB2.out HB2.out.size hb3).size hb4⟩
   ·have HA2 : Hid (A = 0) := Z0 (by have h := HAH.out; simpa using h)
    go_enter Tryz.func29, Tryz.ntmps29
    go_upto_region 1 with fail
    rw [<- HW2.out]
    go_wp2_with (first | (go_at_call 16; refine (HVA.out _ HB2.out).mono ?_; rintro e w3 ⟨rfl, hb3⟩; obtain ⟨y0, y1, y2, y3⟩ := HKB.out w3 hb3) | (go_at_call 68; refine (HRT.out w3).mono ?_; rintro e w4 ⟨rfl, hb4⟩))
    go_ret
    rw [HA2.out]
    exact ⟨rfl, Z00 (Z00 HB2.out HB2.out.size hb3) (Z00 HB2.out HB2.out.size hb3).size hb4⟩
 ·have hne : (ve != 0) = true := by simp [he]
  rw [if_neg he] at HAH
  go_enter Tryz.func29, Tryz.ntmps29
  go_upto_region 1 with fail
  rw [<- HW2.out]
  go_wp2_with (go_at_call 16; refine (HVA.out _ HB2.out).mono ?_; rintro e w3 ⟨rfl, hb3⟩)
  go_ret
  rw [HAH.out]
  exact ⟨rfl, Z00 HB2.out HB2.out.size hb3⟩
theorem ZeP {A B : World} (h : Below A.1.size A B) (row : Option Nat) : A.grownBy B row := ⟨h.os, h.tape, h.output, h.size, fun k hk _ => h.block k hk⟩
theorem Z45 {P : Program} (w : World) {ops : Array Oper} {rest : List Oper} {o : Oper} {a : Act} {Q : Exit -> Act -> World -> Prop} (hgd : o.guard = none) (s x : Operand) (t : TypeId)
 (ho : o.op = .call { callee := .builtin .append, args := #[s, x], argTypes := #[t, t] })
 (base : Nat) (e : TypeId) (i : TypeInfo) (z : Value) (size bytes : Nat) (ht : P.underlying t = some (.slice e)) (hi : P.info? e = some i) (hz : i.zero = some z)
 (hsize : i.size = size) (hby : i.bytes = bytes) (hzs : z.cells.size = size) (hsz : 0 < size)
 (v : Value) (n : Nat) (xs : List Value) (hs : a.eval s = v) (hown : w.ownsRow base e size v n xs)
 (base2 : Nat) (v2 : Value) (m : Nat) (news : List Value) (hx : a.eval x = v2) (hown2 : w.ownsRow base2 e size v2 m news) (h1 : ∀ u ∈ news, u.oneCell' = true)
 (h63 : n + m <= maxLen) (hbytes : (n + m) * bytes <= 140737488355328) (hbase : base <= w.1.size)
 (h : ∀ v' w', w'.ownsRow base e size v' (n + m) (xs ++ news) -> w.grownBy w' v.ownBlock -> wpList P ops Q rest (a.put o.dst v') w') : wpList P ops Q (o :: rest) a w := by
 rcases Joins.ownsRow_forms hown2 with ⟨rfl, hm⟩ | ⟨g, cap, rfl⟩
 ·subst hm
  have hne : news = [] := List.length_eq_zero_iff.1 (by have := hown2.1; omega)
  subst hne
  have hform : ∃ b n' c, v = .slice b n' c /\ n' <= c := by
   obtain ⟨_, ⟨rfl, _⟩ | ⟨g, cap, cur, rfl, _, _, hc, _⟩⟩ := hown
   ·exact ⟨none, 0, 0, rfl, Z1 _⟩
   ·exact ⟨_, n, cap, rfl, hc⟩
  obtain ⟨b, n', c, rfl, hle⟩ := hform
  refine wpList_plain hgd fun K hK' => ?_
  have hrun := run_append_nothing (P := P) w t t o.type e i ht hi b n' c hle (.slice none 0 0) (Src.ofNil w ht 0)
  unfold Oper.wp
  simp [execOp, ho, resolve, invoke, builtin, hs, hx, hrun, Result.andThen]
  refine hK' _ _ (h _ _ ?_ (ZeP (Z9 _ _) _))
  simpa using hown
 ·exact wpList_append_own w hgd s x t ho base e i z size bytes ht hi hz hsize hby hzs hsz v n xs hs hown ⟨g, 0, none⟩ m cap news hx hown2.1 (fun j u hj => hown2.cells (g := g) rfl j u hj) h1 h63 hbytes hbase (fun v' w' h2 h3 _ => h v' w' h2 h3)
def OwnsX {α : Type} (T : TypeId) (n : Nat) (cf : α × Value -> List Value) (ids : α -> List Int) (w : World) (base : Nat) (v : Value) (xs : List α) : Prop :=
 ∃ L : List (α × Value), L.map Prod.fst = xs /\ (∀ p ∈ L, RowJ w base p.2 (ids p.1)) /\ w.ownsRow base T n v L.length (L.flatMap cf)
section
variable {α : Type} {T : TypeId} {n : Nat} {cf : α × Value -> List Value} {ids : α -> List Int} {w w' : World} {base : Nat} {v : Value} {xs : List α}
theorem OwnsX.nil (w : World) (base : Nat) : OwnsX T n cf ids w base (.slice none 0 0) [] := ⟨[], rfl, by simp, World.ownsRow_nil _ _ _ _⟩
theorem OwnsX.below (h : OwnsX T n cf ids w base v xs) (hb : Below w.1.size w w') : OwnsX T n cf ids w' base v xs := by
 obtain ⟨L, hL, h1, h2⟩ := h
 exact ⟨L, hL, fun p hp => (h1 p hp).below hb, Z09 h2 hb⟩
theorem OwnsX.mono {base' : Nat} (h : OwnsX T n cf ids w base v xs) (hb : base' <= base) : OwnsX T n cf ids w base' v xs := by
 obtain ⟨L, hL, h1, h2⟩ := h
 exact ⟨L, hL, fun p hp => (h1 p hp).mono hb, Z5L h2 hb⟩
theorem OwnsX.form (h : OwnsX T n cf ids w base v xs) : ∃ a cap, v = .slice a xs.length cap := by
 obtain ⟨L, rfl, _, ho⟩ := h
 rw [Z7]
 exact Z0B ho
theorem OwnsX.beside {row : Option Nat} (h : OwnsX T n cf ids w base v xs) (hg : w.grownBy w' row) (h1 : ∀ g, row = some g -> ∀ cur fr, w.1[g]? ≠ some (.cells cur T fr)) (h2 : ∀ g, row = some g -> ∀ cur fr, w.1[g]? ≠ some (.cells cur 3 fr)) : OwnsX T n cf ids w' base v xs := by
 obtain ⟨L, hL, h3, h4⟩ := h
 exact ⟨L, hL, fun p hp => (h3 p hp).kept hg (fun g e => .inr (h2 g e)), Z0v h4 hg h1⟩
theorem OwnsX.not (h : OwnsX T n cf ids w base v xs) {T' : TypeId} (hT : T' ≠ T) : ∀ g, v.ownBlock = some g -> ∀ cur fr, w.1[g]? ≠ some (.cells cur T' fr) := by
 obtain ⟨L, hL, h3, h4⟩ := h
 exact Z0r h4 hT
theorem OwnsX.app {L L2 : List (α × Value)} {w2 : World} {v' : Value} (hT : 3 ≠ T) (hr : ∀ p ∈ L, RowJ w base p.2 (ids p.1)) (hr2 : ∀ p ∈ L2, RowJ w base p.2 (ids p.1)) (hO : w.ownsRow base T n v L.length (L.flatMap cf)) (hg : w.grownBy w2 v.ownBlock)
 (ho : w2.ownsRow base T n v' (L.length + L2.length) (L.flatMap cf ++ L2.flatMap cf)) : OwnsX T n cf ids w2 base v' (L.map Prod.fst ++ L2.map Prod.fst) := by
 have nA := Z0r hO hT
 refine ⟨L ++ L2, by rw [ZD], fun p hp => ?_, ?_⟩
 ·rcases ZG.1 hp with hp | hp
  ·exact (hr p hp).kept hg (fun g e => .inr (nA g e))
  ·exact (hr2 p hp).kept hg (fun g e => .inr (nA g e))
 ·rw [List.flatMap_append, ZC]
  exact ho
end
def Z2L (p : Tra × Value) : List Value := [.int .i64 p.1.lvl, .string p.1.grp, p.2]
def Z2Y (p : Con × Value) : List Value := [.int .i64 p.1.lvl, p.2]
structure LodW (w : World) (T base : Nat) (bs : List Bun) (ts : List Tra) (cs : List Con) (vb vt vc : Value) : Prop where
 cell : w.1[T]? = some (.cells #[vb, vt, vc] 52 (0, 0))
 b : OwnsX 67 4 Z0N (fun b => b.ids) w base vb bs
 t : OwnsX 112 3 Z2L (fun t => t.bs) w base vt ts
 c : OwnsX 114 2 Z2Y (fun c => c.ts) w base vc cs
section
variable {w w' w2 : World} {T base : Nat} {bs bs' : List Bun} {ts ts' : List Tra} {cs cs' : List Con} {vb vt vc vb' vt' vc' : Value}
theorem LodW.lt (h : LodW w T base bs ts cs vb vt vc) : T < w.1.size := (Z5.1 h.cell).1
theorem LodW.below (h : LodW w T base bs ts cs vb vt vc) (hb : Below w.1.size w w') : LodW w' T base bs ts cs vb vt vc :=
 ⟨(hb.block T h.lt).trans h.cell, h.b.below hb, h.t.below hb, h.c.below hb⟩
theorem cells3 {w : World} {g : Nat} {a b c : Value} {t : TypeId} {fr : Nat × Nat} (h : w.1[g]? = some (.cells #[a, b, c] t fr)) : w.cell? ⟨g, 0, none⟩ = some a /\ w.cell? ⟨g, 1, none⟩ = some b /\ w.cell? ⟨g, 2, none⟩ = some c :=
 ⟨cell_of_row _ _ 0 _ _ _ h, cell_of_row _ _ 1 _ _ _ h, cell_of_row _ _ 2 _ _ _ h⟩
theorem Zdp {w : World} {g : Nat} {a b c u : Value} {t : TypeId} {fr : Nat × Nat} (h : w.1[g]? = some (.cells #[a, b, c] t fr)) :
 (w.setCell ⟨g, 0, none⟩ u).1[g]? = some (.cells #[u, b, c] t fr) /\ (w.setCell ⟨g, 1, none⟩ u).1[g]? = some (.cells #[a, u, c] t fr) /\ (w.setCell ⟨g, 2, none⟩ u).1[g]? = some (.cells #[a, b, u] t fr) := by
 refine ⟨?_, ?_, ?_⟩ <;> simp [World.setCell, Array.getElem?_modify, h]
theorem Z0t {w : World} {g : Nat} {cs : Array Value} (h : w.1[g]? = some (.cells cs 52 (0, 0))) {T' : TypeId} (hT : T' ≠ 52) : ∀ k, some g = some k -> ∀ cur fr, w.1[k]? ≠ some (.cells cur T' fr) := fun k e cur fr hk => by
 obtain rfl := Option.some.inj e
 rw [h] at hk
 injection hk with hk
 injection hk with _ hk _
 exact hT hk.symm
theorem LodW.setB (h : LodW w T base bs ts cs vb vt vc) (hg : w.grownBy w2 vb.ownBlock) (hb : OwnsX 67 4 Z0N (fun b => b.ids) w2 base vb' bs') : LodW (w2.setCell ⟨T, 0, none⟩ vb') T base bs' ts cs vb' vt vc /\ w2.frozen? ⟨T, 0, none⟩ = false /\ w2.cell? ⟨T, 0, none⟩ = some vb := by
 have h2 : w2.1[T]? = some (.cells #[vb, vt, vc] 52 (0, 0)) := (hg.block T h.lt (fun e => h.b.not (T' := 52) (by decide) T e.symm _ _ h.cell)).trans h.cell
 have hs := Z0I w2 ⟨T, 0, none⟩ vb'
 exact ⟨⟨(Zdp h2).1, hb.beside hs (Z0t h2 (by decide)) (Z0t h2 (by decide)), (h.t.beside hg (h.b.not (by decide)) (h.b.not (by decide))).beside hs (Z0t h2 (by decide)) (Z0t h2 (by decide)), (h.c.beside hg (h.b.not (by decide)) (h.b.not (by decide))).beside hs (Z0t h2 (by decide)) (Z0t h2 (by decide))⟩, Z3v h2, (cells3 h2).1⟩
theorem LodW.setT (h : LodW w T base bs ts cs vb vt vc) (hg : w.grownBy w2 vt.ownBlock) (hb : OwnsX 112 3 Z2L (fun t => t.bs) w2 base vt' ts') : LodW (w2.setCell ⟨T, 1, none⟩ vt') T base bs ts' cs vb vt' vc /\ w2.frozen? ⟨T, 1, none⟩ = false /\ w2.cell? ⟨T, 1, none⟩ = some vt := by
 have h2 : w2.1[T]? = some (.cells #[vb, vt, vc] 52 (0, 0)) := (hg.block T h.lt (fun e => h.t.not (T' := 52) (by decide) T e.symm _ _ h.cell)).trans h.cell
 have hs := Z0I w2 ⟨T, 1, none⟩ vt'
 exact ⟨⟨(Zdp h2).2.1, (h.b.beside hg (h.t.not (by decide)) (h.t.not (by decide))).beside hs (Z0t h2 (by decide)) (Z0t h2 (by decide)), hb.beside hs (Z0t h2 (by decide)) (Z0t h2 (by decide)), (h.c.beside hg (h.t.not (by decide)) (h.t.not (by decide))).beside hs (Z0t h2 (by decide)) (Z0t h2 (by decide))⟩, Z3v h2, (cells3 h2).2.1⟩
theorem LodW.setC (h : LodW w T base bs ts cs vb vt vc) (hg : w.grownBy w2 vc.ownBlock) (hb : OwnsX 114 2 Z2Y (fun c => c.ts) w2 base vc' cs') : LodW (w2.setCell ⟨T, 2, none⟩ vc') T base bs ts cs' vb vt vc' /\ w2.frozen? ⟨T, 2, none⟩ = false /\ w2.cell? ⟨T, 2, none⟩ = some vc := by
 have h2 : w2.1[T]? = some (.cells #[vb, vt, vc] 52 (0, 0)) := (hg.block T h.lt (fun e => h.c.not (T' := 52) (by decide) T e.symm _ _ h.cell)).trans h.cell
 have hs := Z0I w2 ⟨T, 2, none⟩ vc'
 exact ⟨⟨(Zdp h2).2.2, (h.b.beside hg (h.c.not (by decide)) (h.c.not (by decide))).beside hs (Z0t h2 (by decide)) (Z0t h2 (by decide)), (h.t.beside hg (h.c.not (by decide)) (h.c.not (by decide))).beside hs (Z0t h2 (by decide)) (Z0t h2 (by decide)), hb.beside hs (Z0t h2 (by decide)) (Z0t h2 (by decide))⟩, Z3v h2, (cells3 h2).2.2⟩
end
theorem Z5B {P : Program} {fn : Func} {p q : Tmp} {ty : TypeId} (h : fn.results = #[.cell p ty, .tmp q]) (tmps : Array Value) (w : World) (g : Nat) (t : TypeId) (cs : Array Value) (fr : Nat × Nat) (d : TypeDesc) (z : Value)
 (hp : tmps.getD p undef = .pointer (some ⟨g, 0, none⟩)) (hq : tmps.getD q undef = z) (hg : w.1[g]? = some (.cells cs t fr))
 (hu : P.underlying ty = some d) (hd : (match d with | .struct _ | .array _ _ => true | _ => false) = true) (hi : (P.info? ty).map (·.size) = some cs.size) :
 (results fn tmps).run P w = .ok (.tuple #[.agg cs, z]) w := by
 have hp' : tmps[p]?.getD undef = .pointer (some ⟨g, 0, none⟩) := by simpa using hp
 have hq' : tmps[q]?.getD undef = z := by simpa using hq
 simp [results, h, hp', hq', asAddr, run_loadVar_row w g t ty cs fr d hg hu hd hi]
theorem ZhF {w : World} {g : Nat} {a b c a' b' c' : Value} {t : TypeId} {fr : Nat × Nat} (h : w.1[g]? = some (.cells #[a, b, c] t fr)) :
 (((w.setCell ⟨g, 0, none⟩ a').setCell ⟨g, 1, none⟩ b').setCell ⟨g, 2, none⟩ c').1[g]? = some (.cells #[a', b', c'] t fr) := (Zdp (Zdp (Zdp h).1).2.1).2.2
def Zdq (vb vt vc : Value) : Value := .agg #[vb, vt, vc]
def ZiQ : Value := .agg #[.slice none 0 0, .slice none 0 0, .slice none 0 0]
theorem Tryz.infoTr : (Tryz.prog.info? 112).map (fun i => (i.zero, i.size, i.bytes)) = some (some (.agg #[.int .i64 0, .string ⟨#[]⟩, .slice none 0 0]), 3, 48) := by kernel_rfl
theorem Tryz.infoCo : (Tryz.prog.info? 114).map (fun i => (i.zero, i.size, i.bytes)) = some (some (.agg #[.int .i64 0, .slice none 0 0]), 2, 32) := by kernel_rfl
def Z4O (x : Grp) (l : List Int) : Tra := ⟨x.lvl, x.name, l⟩
def Z7o (x : Grp) (l : List Int) : Con := ⟨x.lvl, l⟩
theorem Zge {k : Pck} {ps : List Pce} {zs : List Int} {Gs : List Grp} {j : Nat} (hj : j < Gs.length) (he : Z2W Gs j) {st : PkS} (hst : st = Z1Y k ps zs Gs j) {bs : List Bun} (hbs : bs = st.buns ++ Z0S k ps zs Gs[j]) {ts : List Tra} (hts : ts = st.tras ++ (Z0O st.buns.length bs.length k.bundles.toNat).map (Z4O Gs[j])) :
 Z1Y k ps zs Gs (j + 1) = ⟨bs, ts, st.cons ++ (Z0O st.beg ts.length k.trays.toNat).map (Z7o Gs[j]), ts.length⟩ := by
 rw [Z4l, <- hst]
 unfold Z5p
 rw [dif_pos hj]
 dsimp only
 rw [<- hbs]
 have e : (fun l => (⟨Gs[j].lvl, Gs[j].name, l⟩ : Tra)) = Z4O Gs[j] := rfl
 rw [e, <- hts, if_pos he]
 rfl
theorem Zgf {k : Pck} {ps : List Pce} {zs : List Int} {Gs : List Grp} {j : Nat} (hj : j < Gs.length) (he : ¬ Z2W Gs j) {st : PkS} (hst : st = Z1Y k ps zs Gs j) {bs : List Bun} (hbs : bs = st.buns ++ Z0S k ps zs Gs[j]) {ts : List Tra} (hts : ts = st.tras ++ (Z0O st.buns.length bs.length k.bundles.toNat).map (Z4O Gs[j])) :
 Z1Y k ps zs Gs (j + 1) = ⟨bs, ts, st.cons, st.beg⟩ := by
 rw [Z4l, <- hst]
 unfold Z5p
 rw [dif_pos hj]
 dsimp only
 rw [<- hbs]
 have e : (fun l => (⟨Gs[j].lvl, Gs[j].name, l⟩ : Tra)) = Z4O Gs[j] := rfl
 rw [e, <- hts, if_neg he]
theorem ZgN {Gs : List Grp} {j : Nat} : Z2W Gs j ↔ ¬ ∃ h : j + 1 < Gs.length, Gs[j + 1].lvl = (Gs[j]'(by omega)).lvl := by
 unfold Z2W
 constructor
 ·rintro h ⟨h1, h2⟩; exact h h1 h2
 ·intro h h1 h2; exact h ⟨h1, h2⟩
theorem OwnsLL.lies {w : World} {base : Nat} {v : Value} {ts : List (List Int)} (h : OwnsLL w base v ts) : ∃ a cap, v = .slice a ts.length cap /\ (0 < ts.length -> ∃ g, a = some ⟨g, 0, none⟩ /\ g < w.1.size /\ ∀ i (h : i < ts.length), ∃ s, w.cell? ⟨g, i, none⟩ = some s /\ RowJ w base s ts[i]) := by
 obtain ⟨L, rfl, h1, h2⟩ := h
 rcases Joins.ownsRow_forms h2 with ⟨rfl, hp⟩ | ⟨g, cap, rfl⟩
 ·exact ⟨none, 0, by rw [Z7, hp], fun h0 => by rw [Z7, hp] at h0; omega⟩
 ·refine ⟨_, cap, by rw [Z7], fun h0 => ⟨g, rfl, (h2.lt g rfl).2, fun i hi => ?_⟩⟩
  rw [Z7] at hi
  have hc := h2.cellAt i (by rw [Nat.mul_one]; exact hi)
  rw [List.getElem?_map, Z3 hi] at hc
  refine ⟨_, hc, ?_⟩
  rw [List.getElem_map]
  exact h1 _ (Z4 hi)
theorem ZdS {w : World} {base : Nat} {v : Value} {zs : List Int} (h : RowJ w base v zs) : v.oneCell' = true := by
 obtain ⟨a, cap, rfl, _⟩ := h
 rfl
theorem Zik {w : World} {base : Nat} {L : List (Bun × Value)} (h : ∀ p ∈ L, RowJ w base p.2 p.1.ids) : ∀ u ∈ L.flatMap Z0N, u.oneCell' = true := fun u hu => by
 obtain ⟨p, hp, hu⟩ := List.mem_flatMap.1 hu
 have h1 := ZdS (h p hp)
 simp only [Z0N, List.mem_cons, List.not_mem_nil, or_false] at hu
 rcases hu with rfl | rfl | rfl | rfl
 ·rfl
 ·rfl
 ·exact h1
 ·rfl
theorem RdGrps.lies {w : World} {a : Option Addr} {n cap : Nat} {gs : List Grp} (h : RdGrps w (.slice a n cap) gs) : 0 < gs.length -> ∃ g off, a = some ⟨g, off, none⟩ /\ g < w.1.size /\ ∀ i (h : i < gs.length), ∃ sv, RdInts w sv gs[i].items /\ GrpAt w g (off + i * 4) gs[i] sv := by
 obtain ⟨a', cap', hv, hc⟩ := h
 injection hv with h1 h2 h3
 subst h1
 exact hc
theorem Zfu (wr W6 w : World) (x : Grp) (sv sy : Value) (gy o : Nat) (hB : Below w.1.size w wr) (hb : Below W6.1.size W6 wr) (hgy : gy < W6.1.size) (hy : GrpAt W6 gy o x sy) (t : TypeId) :
 ∃ Wq N, wr.alloc (.cells #[.int .i64 x.lvl, .string x.name, .int .i64 x.up, sv] t) = Wq /\ wr.1.size = N /\ Below w.1.size w Wq /\ Below W6.1.size W6 Wq /\ GrpAt Wq gy o x sy /\ Wq.cell? ⟨N, 0, none⟩ = some (.int .i64 x.lvl) /\ Wq.cell? ⟨N, 1, none⟩ = some (.string x.name) /\ Wq.cell? ⟨N, 2, none⟩ = some (.int .i64 x.up) /\ Wq.cell? ⟨N, 3, none⟩ = some sv := by
 have b1 := hB.alloc hB.size (.cells #[.int .i64 x.lvl, .string x.name, .int .i64 x.up, sv] t)
 have b2 := hb.alloc hb.size (.cells #[.int .i64 x.lvl, .string x.name, .int .i64 x.up, sv] t)
 refine ⟨_, _, rfl, rfl, b1, b2, hy.below b2 hgy, Z0f wr _ t 0 _ rfl, Z0f wr _ t 1 _ rfl, Z0f wr _ t 2 _ rfl, Z0f wr _ t 3 _ rfl⟩
theorem Zh2 {α β : Type} {L L7 : List (α × β)} {xs ys zs : List α} (h : L.map Prod.fst = xs) (h7 : L7.map Prod.fst = ys) (hz : zs = xs ++ ys) : L.length = xs.length /\ L.length + L7.length = zs.length := by
 subst h h7 hz
 simp
theorem OwnsX.add {α : Type} {T : TypeId} {n : Nat} {cf : α × Value -> List Value} {ids : α -> List Int} {w w2 : World} {base : Nat} {v v' u : Value} {x : α} {L : List (α × Value)} {xs : List α} (hL : L.map Prod.fst = xs) (hT : 3 ≠ T) (hr : ∀ p ∈ L, RowJ w base p.2 (ids p.1)) (hu : RowJ w base u (ids x)) (hO : w.ownsRow base T n v L.length (L.flatMap cf)) (hg : w.grownBy w2 v.ownBlock)
 (ho : w2.ownsRow base T n v' (L.length + 1) (L.flatMap cf ++ cf (x, u))) : OwnsX T n cf ids w2 base v' (xs ++ [x]) := by
 have := OwnsX.app (L2 := [(x, u)]) hT hr (by simpa using hu) hO hg (by simpa using ho)
 rw [hL] at this
 exact this
theorem OwnsLL.beside {w w' : World} {base : Nat} {v : Value} {ts : List (List Int)} {row : Option Nat} (h : OwnsLL w base v ts) (hg : w.grownBy w' row) (h1 : ∀ g, row = some g -> ∀ cur fr, w.1[g]? ≠ some (.cells cur 35 fr)) (h2 : ∀ g, row = some g -> ∀ cur fr, w.1[g]? ≠ some (.cells cur 3 fr)) : OwnsLL w' base v ts := by
 obtain ⟨L, hL, h3, h4⟩ := h
 exact ⟨L, hL, fun p hp => (h3 p hp).kept hg (fun g e => .inr (h2 g e)), Z0v h4 hg h1⟩
theorem OwnsLL.at {w : World} {base n c : Nat} {a : Option Addr} {ts : List (List Int)} (h : OwnsLL w base (.slice a n c) ts) (h0 : 0 < ts.length) : ∃ g, a = some ⟨g, 0, none⟩ /\ g < w.1.size /\ ∀ i (h : i < ts.length), ∃ s, w.cell? ⟨g, i, none⟩ = some s /\ RowJ w base s ts[i] := by
 obtain ⟨a', cap, hv, hc⟩ := h.lies
 injection hv with h1 _ _
 subst h1
 exact hc h0
theorem OwnsLL.mono {w : World} {base base' : Nat} {v : Value} {ts : List (List Int)} (h : OwnsLL w base v ts) (hb : base' <= base) : OwnsLL w base' v ts := by
 obtain ⟨L, hL, h3, h4⟩ := h
 exact ⟨L, hL, fun p hp => (h3 p hp).mono hb, Z5L h4 hb⟩
structure PkW (wg wx : World) (N : Nat) (x : Grp) (sv : Value) (bs : List Bun) (ts : List Tra) (cs : List Con) (vb vt vc : Value) : Prop where
 b : Below wg.1.size wg wx
 l : LodW wx wg.1.size wg.1.size bs ts cs vb vt vc
 n : wx.1[N]? = some (.cells #[.int .i64 x.lvl, .string x.name, .int .i64 x.up, sv] 107 (0, 0))
section
variable {wg wx wy w2 : World} {N : Nat} {x : Grp} {sv : Value} {bs bs' : List Bun} {ts ts' : List Tra} {cs cs' : List Con} {vb vt vc vb' vt' vc' : Value}
theorem PkW.below (h : PkW wg wx N x sv bs ts cs vb vt vc) (hb : Below wx.1.size wx wy) : PkW wg wy N x sv bs ts cs vb vt vc :=
 ⟨h.b.trans (hb.mono h.b.size), h.l.below hb, (hb.block N (Z5.1 h.n).1).trans h.n⟩
theorem PkW.ne (h : PkW wg wx N x sv bs ts cs vb vt vc) : N ≠ wg.1.size := fun e => by
 have h1 := h.n
 rw [e, h.l.cell] at h1
 injection h1 with h1
 injection h1 with _ h1 _
 exact absurd h1 (by decide)
theorem Z4c {w : World} {a g : Nat} {k : Nat} {u : Value} (h : g ≠ a) : (w.setCell ⟨a, k, none⟩ u).1[g]? = w.1[g]? := by
 simp [World.setCell, Array.getElem?_modify, Ne.symm h]
theorem PkW.addB (h : PkW wg wx N x sv bs ts cs vb vt vc) (hg : wx.grownBy w2 vb.ownBlock) (hb : OwnsX 67 4 Z0N (fun b => b.ids) w2 wg.1.size vb' bs') : PkW wg (w2.setCell ⟨wg.1.size, 0, none⟩ vb') N x sv bs' ts cs vb' vt vc /\ w2.frozen? ⟨wg.1.size, 0, none⟩ = false /\ w2.cell? ⟨wg.1.size, 0, none⟩ = some vb := by
 obtain ⟨h1, h2, h3⟩ := h.l.setB hg hb
 obtain ⟨L, _, _, hLo⟩ := h.l.b
 refine ⟨⟨(h.b.grown hg h.b.size (fun r e => (hLo.lt r e).1)).setCell (p := ⟨wg.1.size, 0, none⟩) (Z1 _) _, h1, ?_⟩, h2, h3⟩
 exact (Z4c h.ne).trans ((hg.block N (Z5.1 h.n).1 (fun e => h.l.b.not (T' := 107) (by decide) N e.symm _ _ h.n)).trans h.n)
theorem PkW.addT (h : PkW wg wx N x sv bs ts cs vb vt vc) (hg : wx.grownBy w2 vt.ownBlock) (hb : OwnsX 112 3 Z2L (fun t => t.bs) w2 wg.1.size vt' ts') : PkW wg (w2.setCell ⟨wg.1.size, 1, none⟩ vt') N x sv bs ts' cs vb vt' vc /\ w2.frozen? ⟨wg.1.size, 1, none⟩ = false /\ w2.cell? ⟨wg.1.size, 1, none⟩ = some vt := by
 obtain ⟨h1, h2, h3⟩ := h.l.setT hg hb
 obtain ⟨L, _, _, hLo⟩ := h.l.t
 refine ⟨⟨(h.b.grown hg h.b.size (fun r e => (hLo.lt r e).1)).setCell (p := ⟨wg.1.size, 1, none⟩) (Z1 _) _, h1, ?_⟩, h2, h3⟩
 exact (Z4c h.ne).trans ((hg.block N (Z5.1 h.n).1 (fun e => h.l.t.not (T' := 107) (by decide) N e.symm _ _ h.n)).trans h.n)
theorem PkW.addC (h : PkW wg wx N x sv bs ts cs vb vt vc) (hg : wx.grownBy w2 vc.ownBlock) (hb : OwnsX 114 2 Z2Y (fun c => c.ts) w2 wg.1.size vc' cs') : PkW wg (w2.setCell ⟨wg.1.size, 2, none⟩ vc') N x sv bs ts cs' vb vt vc' /\ w2.frozen? ⟨wg.1.size, 2, none⟩ = false /\ w2.cell? ⟨wg.1.size, 2, none⟩ = some vc := by
 obtain ⟨h1, h2, h3⟩ := h.l.setC hg hb
 obtain ⟨L, _, _, hLo⟩ := h.l.c
 refine ⟨⟨(h.b.grown hg h.b.size (fun r e => (hLo.lt r e).1)).setCell (p := ⟨wg.1.size, 2, none⟩) (Z1 _) _, h1, ?_⟩, h2, h3⟩
 exact (Z4c h.ne).trans ((hg.block N (Z5.1 h.n).1 (fun e => h.l.c.not (T' := 107) (by decide) N e.symm _ _ h.n)).trans h.n)
theorem PkW.rowsT (h : PkW wg wx N x sv bs ts cs vb vt vc) (hg : wx.grownBy w2 vt.ownBlock) {base : Nat} {v : Value} {R : List (List Int)} (ho : OwnsLL wx base v R) (u : Value) : OwnsLL (w2.setCell ⟨wg.1.size, 1, none⟩ u) base v R := by
 have h2 : w2.1[wg.1.size]? = some (.cells #[vb, vt, vc] 52 (0, 0)) := (hg.block _ h.l.lt (fun e => h.l.t.not (T' := 52) (by decide) _ e.symm _ _ h.l.cell)).trans h.l.cell
 exact (ho.beside hg (h.l.t.not (by decide)) (h.l.t.not (by decide))).beside (Z0I w2 ⟨wg.1.size, 1, none⟩ u) (Z0t h2 (by decide)) (Z0t h2 (by decide))
theorem PkW.rowsC (h : PkW wg wx N x sv bs ts cs vb vt vc) (hg : wx.grownBy w2 vc.ownBlock) {base : Nat} {v : Value} {R : List (List Int)} (ho : OwnsLL wx base v R) (u : Value) : OwnsLL (w2.setCell ⟨wg.1.size, 2, none⟩ u) base v R := by
 have h2 : w2.1[wg.1.size]? = some (.cells #[vb, vt, vc] 52 (0, 0)) := (hg.block _ h.l.lt (fun e => h.l.c.not (T' := 52) (by decide) _ e.symm _ _ h.l.cell)).trans h.l.cell
 exact (ho.beside hg (h.l.c.not (by decide)) (h.l.c.not (by decide))).beside (Z0I w2 ⟨wg.1.size, 2, none⟩ u) (Z0t h2 (by decide)) (Z0t h2 (by decide))
end
theorem Z8r {α : Type} {T : TypeId} {n : Nat} {cf : α × Value -> List Value} {ids : α -> List Int} {w : World} {base g : Nat} {v : Value} {xs : List α} {a b c a' b' c' : Value} (h : OwnsX T n cf ids w base v xs) (hT : T ≠ 52) (hg : w.1[g]? = some (.cells #[a, b, c] 52 (0, 0))) :
 OwnsX T n cf ids (((w.setCell ⟨g, 0, none⟩ a').setCell ⟨g, 1, none⟩ b').setCell ⟨g, 2, none⟩ c') base v xs :=
 ((h.beside (Z0I w ⟨g, 0, none⟩ a') (Z0t hg hT) (Z0t hg (by decide))).beside (Z0I _ ⟨g, 1, none⟩ b') (Z0t (Zdp hg).1 hT) (Z0t (Zdp hg).1 (by decide))).beside (Z0I _ ⟨g, 2, none⟩ c') (Z0t (Zdp (Zdp hg).1).2.1 hT) (Z0t (Zdp (Zdp hg).1).2.1 (by decide))
section
variable {α : Type} {n : Nat} {cf : α × Value -> List Value} {ids : α -> List Int} {w w' : World} {v : Value} {xs : List α}
theorem OwnsX.rd {T : TypeId} {base : Nat} (hf : ∀ p, (cf p).length = n) (h : OwnsX T n cf ids w base v xs) : RdX n cf ids w v xs := by
 obtain ⟨L, rfl, h1, h2⟩ := h
 rcases Joins.ownsRow_forms h2 with ⟨rfl, hp⟩ | ⟨g, cap, rfl⟩
 ·exact ⟨none, 0, by rw [Z7, hp], fun h0 => by rw [Z7, hp] at h0; omega⟩
 ·refine ⟨_, cap, by rw [Z7], fun h0 => ⟨g, 0, rfl, (h2.lt g rfl).2, fun i hi => ?_⟩⟩
  rw [Z7] at hi
  have hm : (L.map Prod.fst)[i]'(by rw [Z7]; exact hi) = L[i].1 := List.getElem_map _
  rw [hm]
  refine ⟨L[i].2, (h1 _ (Z4 hi)).rd, fun j u hj => ?_⟩
  have hjn : j < n := by
   rw [<- hf (L[i].1, L[i].2)]
   exact (List.getElem?_eq_some_iff.1 hj).1
  have hlt : i * n + j < L.length * n := by
   have : (i + 1) * n <= L.length * n := Nat.mul_le_mul_right _ hi
   rw [Nat.add_mul] at this
   omega
  rw [Nat.zero_add, h2.cellAt _ hlt, Z3Z hf L i j hi hjn]
  exact hj
end
structure RdLod (w : World) (vb vt vc : Value) (l : Lod) : Prop where
 b : RdX 4 Z0N (fun b : Bun => b.ids) w vb l.buns
 t : RdX 3 Z2L (fun t : Tra => t.bs) w vt l.tras
 c : RdX 2 Z2Y (fun c : Con => c.ts) w vc l.cons
theorem RdLod.below {w w' : World} {vb vt vc : Value} {l : Lod} (h : RdLod w vb vt vc l) (hb : Below w.1.size w w') : RdLod w' vb vt vc l := ⟨h.b.below hb, h.t.below hb, h.c.below hb⟩
structure SmallL (l : Lod) : Prop where
 b : l.buns.length <= 100000
 t : l.tras.length <= 100000
 c : l.cons.length <= 100000
 bi : (l.buns.flatMap (fun b => b.ids)).length <= 100000
 ti : (l.tras.flatMap (fun t => t.bs)).length <= 100000
 ci : (l.cons.flatMap (fun c => c.ts)).length <= 100000
theorem ZaC {α : Type} {f : α -> List Int} {L : List α} {n : Nat} (h : (L.flatMap f).length <= n) : ∀ x ∈ L, (f x).length <= n := fun x hx => by
 obtain ⟨A, B, rfl⟩ := List.append_of_mem hx
 rw [List.flatMap_append, List.flatMap_cons, ZC, ZC] at h
 omega
theorem Zij {k : Pck} {ps : List Pce} {zs : List Int} {ns : List ByteArray} {bs : List Bun} (h : BunsOk k ps zs ns bs) {q p : Nat} (hq : q < bs.length) (hp : p < bs[q].ids.length) :
 ∃ j : Nat, j < ps.length /\ (Z17 ps (j : Int)).id = bs[q].ids[p] /\ bs[q].ids[p] ∉ (bs.take q).flatMap (fun b => b.ids) ++ bs[q].ids.take p /\ zs.getD j (-1) = bs[q].lvl /\ ns.getD j noB = bs[q].grp := by
 obtain ⟨I, h1, h2, _⟩ := h.good _ (Z4 hq)
 have hpI : p < I.length := by
  have := congrArg List.length h2
  rw [Z7] at this
  omega
 obtain ⟨a1, a2, a3, a4⟩ := h1 _ (Z4 hpI)
 have he : bs[q].ids[p] = (Z17 ps I[p]).id := by
  have h3 : bs[q].ids[p]? = (I.map (fun i => (Z17 ps i).id))[p]? := by rw [<- h2]
  rw [Z3 hp, List.getElem?_map, Z3 hpI] at h3
  exact Option.some.inj h3
 refine ⟨(I[p]).toNat, a2, by rw [Int.toNat_of_nonneg a1, he], ?_, a3, a4⟩
 intro hc
 have hN := h.once
 have hfs := Z82 (ls := bs.map (fun b => b.ids)) (q := q) (p := p) (by rw [Z7]; exact hq) (by rw [List.getElem_map]; exact hp)
 rw [Z1o] at hfs
 have hmt : ((bs.map (fun b => b.ids)).take q).flatten = (bs.take q).flatMap (fun b => b.ids) := by rw [<- List.map_take, Z1o]
 simp only [List.getElem_map, hmt] at hfs
 rw [hfs, <- List.append_assoc, List.nodup_append] at hN
 exact hN.2.2 _ hc _ List.mem_cons_self rfl
theorem ZgY {k : Pck} {ps : List Pce} {zs : List Int} {ns : List ByteArray} (hu : Z4K ps) {b : Bun} (h : Z79 k ps zs ns b) {I : List Int} (hI : ∀ i ∈ I, 0 <= i /\ i.toNat < ps.length) (he : b.ids = I.map (fun i => (Z17 ps i).id)) : Z0j ps I = b.grams /\ b.grams <= k.grams := by
 obtain ⟨I', h1, h2, h3, _, _, h6⟩ := h
 have : I = I' := by
  have hl : I.length = I'.length := by
   have e1 := congrArg List.length he
   have e2 := congrArg List.length h2
   rw [Z7] at e1 e2
   omega
  refine List.ext_getElem hl (fun i hi hi' => ?_)
  have e1 : (I.map (fun i => (Z17 ps i).id))[i]? = (I'.map (fun i => (Z17 ps i).id))[i]? := by rw [<- he, <- h2]
  rw [List.getElem?_map, List.getElem?_map, Z3 hi, Z3 hi'] at e1
  have e2 := Option.some.inj e1
  exact Zb0 hu (hI _ (Z4 hi)) ⟨(h1 _ (Z4 hi')).1, (h1 _ (Z4 hi')).2.1⟩ e2
 subst this
 exact ⟨h3, h6⟩
theorem Z9V {ps : List Pce} {M : Int} (h : ∀ p ∈ ps, 0 <= p.grams /\ p.grams <= M) : ∀ I : List Int, (∀ i ∈ I, 0 <= i /\ i.toNat < ps.length) -> 0 <= Z0j ps I /\ Z0j ps I <= M * I.length
 | [], _ => by unfold Z0j; simp
 | i :: r, hI => by
  have ih := Z9V h r (fun j hj => hI j (List.mem_cons_of_mem _ hj))
  have hi := h _ (Z4m (hI i List.mem_cons_self)).2
  have e : Z0j ps (i :: r) = (Z17 ps i).grams + Z0j ps r := by unfold Z0j; simp
  rw [e, List.length_cons]
  have : M * ((r.length + 1 : Nat) : Int) = M * r.length + M := by
   rw [Int.natCast_add, Int.mul_add]; simp
  omega
theorem OwnsII.pos {w : World} {B n c : Nat} {f : Int -> Option Int} (h : OwnsII w B n f c) {x y : Int} (hx : f x = some y) : 1 <= c := by
 obtain ⟨D, hD, hc, hf⟩ := h
 have := Maps.size_del (hD.tidy Z2H) (k := Lit.int .i64 x)
 rw [((hf x).2 y hx).1, if_pos rfl, hc] at this
 omega
theorem OwnsII.ne {w : World} {B n c : Nat} {f : Int -> Option Int} (h : OwnsII w B n f c) {N : Nat} {cs : Array Value} {t : TypeId} {fr : Nat × Nat} (hN : w.1[N]? = some (.cells cs t fr)) : N ≠ B := fun e => by
 obtain ⟨D, ⟨es, cl, hb, _⟩, _⟩ := h
 rw [e, hb] at hN
 injection hN with hN
 cases hN
theorem Z9f (n : Int) (w : World) : (Instr.makeMap 210 (some (.int .i64 n))).run Tryz.prog w = .ok (.map (some w.1.size)) (w.alloc (.map #[] 0)) := by
 simp only [Instr.makeMap, Sem.run_bind, run_underlying Tryz.underlying210, Result.andThen]
 rfl
theorem Z5G (k : Pck) (l : Lod) (m : Mai) (zs : List Int) (ns : List ByteArray) (vp vz vn vb vt vc : Value) (w : World) (hrp : RdPces w vp m.ps) (hz : RdInts w vz zs) (hn : ReadsT w vn ns) (hr : RdLod w vb vt vc l) (hs : SmallL l)
 (hu : Z4K m.ps) (hpl : m.ps.length <= 2000) (hzl : zs.length = m.ps.length) (hnl : ns.length = m.ps.length) (hg : ∀ p ∈ m.ps, 0 <= p.grams /\ p.grams <= 50000 /\ 0 <= p.id /\ p.id <= 999999) (hid : ∀ b ∈ l.buns, ∀ i ∈ b.ids, 0 <= i /\ i <= 999999) :
 Calls Tryz.prog 77 #[Z22 m vp, vz, vn, Z3I k, Zdq vb vt vc] w fun e w' => ∃ v, e = .returned v /\ Below w.1.size w w' /\ IsB v (BunsOk k m.ps zs ns l.buns) := by
 obtain ⟨ab, cb, hvb, hcb⟩ := hr.b
 obtain ⟨at', ct, hvt, _⟩ := hr.t
 obtain ⟨ac, cc, hvc, _⟩ := hr.c
 subst hvb hvt hvc
 obtain ⟨av, cv, rfl, hpc⟩ := hrp
 obtain ⟨az, cz, rfl, hzc⟩ := hz
 obtain ⟨an, cn, rfl, hnc⟩ := hn
 have hnb := hs.b
 have hbi := hs.bi
 have hpl2 := fun x hx => ZaC (f := fun t : Bun => t.ids) hs.bi x hx
 unfold Zdq Z3I Z22
 have HSU := Z0 (fun b (h : Z79 k m.ps zs ns b) I hI he => ZgY hu h (I := I) hI he)
 have HAT := Z0 (fun (h : BunsOk k m.ps zs ns l.buns) q p hq hp => Zij h (q := q) (p := p) hq hp)
 have HGD := Z0 (fun (h : BunsOk k m.ps zs ns l.buns) => h.good)
 have HALL := Z0 (fun (h : BunsOk k m.ps zs ns l.buns) => h.all)
 have HMK := Z0 (fun h1 h2 h3 => (⟨h1, h2, h3⟩ : BunsOk k m.ps zs ns l.buns))
 obtain ⟨OK, hOK⟩ : ∃ P, P = BunsOk k m.ps zs ns l.buns := ⟨_, rfl⟩
 rw [<- hOK] at HAT HGD HALL HMK ⊢
 have hGOOD : ∀ b, Z79 k m.ps zs ns b ↔ ∃ I : List Int, (∀ i ∈ I, 0 <= i /\ i.toNat < m.ps.length /\ zs.getD i.toNat (-1) = b.lvl /\ ns.getD i.toNat noB = b.grp) /\ b.ids = I.map (fun i => (Z17 m.ps i).id) /\ Z0j m.ps I = b.grams /\ 1 <= I.length /\ (I.length : Int) <= k.pieces /\ b.grams <= k.grams := fun b => Iff.rfl
 obtain ⟨GD, hGD⟩ : ∃ f : Bun -> Prop, f = Z79 k m.ps zs ns := ⟨_, rfl⟩
 rw [<- hGD] at HSU HGD HMK
 have HGI := Z0 (fun b => by rw [hGD]; exact hGOOD b : ∀ b, GD b ↔ ∃ I : List Int, (∀ i ∈ I, 0 <= i /\ i.toNat < m.ps.length /\ zs.getD i.toNat (-1) = b.lvl /\ ns.getD i.toNat noB = b.grp) /\ b.ids = I.map (fun i => (Z17 m.ps i).id) /\ Z0j m.ps I = b.grams /\ 1 <= I.length /\ (I.length : Int) <= k.pieces /\ b.grams <= k.grams)
 obtain ⟨kp, kg, kb, kt⟩ := k
 obtain ⟨bs, ts, cs⟩ := l
 obtain ⟨cls, ctr, org, ps⟩ := m
 dsimp only at *
 obtain ⟨w3, hw3⟩ : ∃ w3, w3 = ((w.alloc (.cells #[.int .u8 cls, .int .u8 ctr, .string org, .slice av ps.length cv] 34)).alloc (.cells #[.int .i64 kp, .int .i64 kg, .int .i64 kb, .int .i64 kt] 37)).alloc (.cells #[.slice ab bs.length cb, .slice at' ts.length ct, .slice ac cs.length cc] 52) := ⟨_, rfl⟩
 obtain ⟨g1, g2, g3⟩ := Za7 hw3
 have hz3 : w3.1.size = w.1.size + 1 + 1 + 1 := by rw [hw3, Z6, Z6, Z6]
 have hb3 : Below w.1.size w w3 := by
  rw [hw3]
  exact (((Z9 _ w).alloc (Z1 _) _).alloc (by simp) _).alloc (by simp; omega) _
 have HBX := Z0 (fun (W : World) (hB : Below w3.1.size w3 W) => And.intro (Z0D ((hB.block _ (by omega)).trans g1)) (And.intro (Z0D ((hB.block _ (by omega)).trans g2)) (cells3 ((hB.block _ (by omega)).trans g3))))
 have HW3 := Z0 hw3
 have HB3 := Z0 hb3
 have HPC := Z0 hpc
 have HZC := Z0 hzc
 have HNC := Z0 hnc
 have HCB := Z0 hcb
 have HG := Z0 hg
 have HID := Z0 hid
 have HPL2 := Z0 hpl2
 have HU := Z0 hu
 have HZL := Z0 hzl
 have HNL := Z0 hnl
 have HGM := Z0 (fun I hI => Z9V (M := 50000) (fun p hp => ⟨(hg p hp).1, (hg p hp).2.1⟩) I hI)
 clear hw3 hb3 hz3 g1 g2 g3 hpc hzc hnc hcb hg hid hpl2 hr hs hu hGOOD hGD hOK hzl hnl
 obtain ⟨⟨x0, x1, x2, x3⟩, ⟨y0, y1, y2, y3⟩, u0, u1, u2⟩ := HBX.out w3 (Z9 _ _)
 have hmm := Z9f
 go_enter Tryz.func77, Tryz.ntmps77
 go_upto_region 1 with fail
 rw [<- HW3.out]
 obtain ⟨w4, hw4⟩ : ∃ w4, w4 = w3.alloc (.map #[] 0) := ⟨_, rfl⟩
 have hb4 : Below w3.1.size w3 w4 := by rw [hw4]; exact (Z9 _ _).alloc (Z1 _) _
 have hI4 : OwnsII w4 w3.1.size 0 (Z7b ps 0 []) 0 := by
  have h := OwnsII.made w3
  rw [<- hw4] at h
  have e : (fun _ => none : Int -> Option Int) = Z7b ps 0 [] := funext (fun u => (Z2J (fun j hj _ => absurd hj (Nat.not_lt_zero _))).symm)
  rw [e] at h
  exact h
 obtain ⟨⟨p0, p1, p2, p3⟩, ⟨q0, q1, q2, q3⟩, r0, r1, r2⟩ := HBX.out w4 hb4
 have HW4 := Z0 hw4
 have HB4 := Z0 hb4
 have HI4 := Z0 hI4
 clear hw4 hb4 hI4
 go_upto_region 2 with fail
 rw [<- HW4.out]
 clear hmm x0 x1 x2 x3 y0 y1 y2 y3 u0 u1 u2
 go_wp2_with fail
 go_loopw [28] (fun i wx => ∃ j : Nat, j <= ps.length /\ i = .int .i64 j /\ Below w3.1.size w3 wx /\ OwnsII wx w3.1.size j (Z7b ps j []) j) (fun i _ => ps.length - (intOf i).toNat)
 case atStart => exact ⟨0, ZE _, rfl, HB4.out, HI4.out⟩
 case round =>
  clear p0 p1 p2 p3 q0 q1 q2 q3 r0 r1 r2
  obtain ⟨j, hj, rfl, hB, hI⟩ := hrel
  have HB := Z0 hB
  by_cases hlt : j < ps.length
  ·obtain ⟨g, off, rfl, hg, hat⟩ := HPC.out (by omega)
   have hp := ((hat j hlt).below HB3.out hg).below hB (ZH hg HB3.out.size)
   have hgj := HG.out _ (Z4 hlt)
   have hpe : Z17 ps (j : Int) = ps[j] := (Z4m ⟨by omega, by rw [Int.toNat_natCast]; exact hlt⟩).1
   have hsucc := ZeM HU.out hlt
   have hnone : Z7b ps j [] ps[j].id = none := Z2J (fun i hi he => by
    have := HU.out i j hi hlt
    rw [hpe] at this
    omega)
   rw [hpe] at hsucc
   obtain ⟨p, hpp⟩ : ∃ p, p = ps[j] := ⟨_, rfl⟩
   rw [<- hpp] at hp hgj hsucc hnone
   obtain ⟨id, pt, cd, gr, br⟩ := p
   obtain ⟨p0, p1, p2, p3, p4⟩ := hp
   dsimp only at p0 p1 p2 p3 p4 hgj hsucc hnone
   have HI := Z0 (hI.below ((Z9 wr.1.size wr).alloc (Z1 _) (.cells #[.int .i64 id, .int .i64 pt, .string cd, .int .i64 gr, .bool br] 65)))
   have HSU2 := Z0 hsucc
   have HNN := Z0 hnone
   clear hpe hpp hat hB hI hsucc hnone
   go_wp2_with (refine Z5z _ rfl _ _ _ _ rfl Tryz.underlying210 w3.1.size j j (Z7b ps j []) rfl HI.out (by unfold maxLen; omega) id (j : Int) (WalkArith.wf_i64 (by omega)) (WalkArith.wf_i64 (by omega)) HNN.out rfl rfl ?_; intro w5 hown5 hg5)
   go_roundw
   case rel =>
    refine ⟨j + 1, by omega, by go_num, (HB.out.alloc HB.out.size _).grown hg5 (by have := HB.out.size; simp; omega) (fun r e => by rw [<- Option.some.inj e]; exact Z1 _), ?_⟩
    rw [<- HSU2.out]
    exact hown5
   case measure => simp [intOf]; omega
  ·obtain rfl : j = ps.length := by omega
   obtain ⟨_, ⟨q0, q1, q2, q3⟩, r0, r1, r2⟩ := HBX.out wr hB
   have HI := Z0 hI
   clear hB hI hj hlt
   go_wp2_with fail
   go_loopw [41] (fun i wx => ∃ (q c : Nat), q <= bs.length /\ i = .int .i64 q /\ Below w3.1.size w3 wx /\ OwnsII wx w3.1.size ps.length (Z7b ps ps.length ((bs.take q).flatMap (fun b => b.ids))) c /\ c + ((bs.take q).flatMap (fun b => b.ids)).length = ps.length /\ (∀ b ∈ bs.take q, GD b) /\ ((bs.take q).flatMap (fun b => b.ids)).Nodup) (fun i _ => bs.length - (intOf i).toNat)
   case atStart => exact ⟨0, ps.length, ZE _, rfl, HB.out, HI.out, by simp, by simp, by simp⟩
   case round =>
    clear q0 q1 q2 q3 r0 r1 r2
    obtain ⟨wo, hwo⟩ : ∃ x, x = wr := ⟨_, rfl⟩
    subst hwo
    obtain ⟨q, c, hq, rfl, hB, hI, hc, hgd, hnd⟩ := hrel
    have HB2 := Z0 hB
    have HGDS := Z0 hgd
    have HND := Z0 hnd
    have HC := Z0 hc
    clear hgd hnd hc
    by_cases hlt : q < bs.length
    ·obtain ⟨g, off, rfl, hg, hcc⟩ := HCB.out (by omega)
     obtain ⟨s, hs, hcell⟩ := hcc q hlt
     have hbw : Below w.1.size w wo := HB3.out.trans (hB.mono HB3.out.size)
     have hmb := Z4 hlt
     have htk : bs.take (q + 1) = bs.take q ++ [bs[q]] := Z8 hlt
     have hpre : (bs.take (q + 1)).flatMap (fun b => b.ids) = (bs.take q).flatMap (fun b => b.ids) ++ bs[q].ids := by rw [htk, List.flatMap_append]; simp
     have hlen := HPL2.out _ hmb
     have hid2 := HID.out _ hmb
     have hat := fun (h : OK) p hp => HAT.out h q p hlt hp
     have hgdq := fun (h : OK) => HGD.out h _ hmb
     obtain ⟨b, hb⟩ : ∃ b, b = bs[q] := ⟨_, rfl⟩
     rw [<- hb] at hs hcell htk hpre hlen hid2 hat hgdq
     have f0 : wo.cell? ⟨g, off + q * 4, none⟩ = some (.int .i64 b.lvl) := (hbw.cell (p := ⟨g, off + q * 4, none⟩) hg).trans (hcell 0 _ rfl)
     have f1 : wo.cell? ⟨g, off + q * 4 + 1, none⟩ = some (.string b.grp) := (hbw.cell (p := ⟨g, off + q * 4 + 1, none⟩) hg).trans (hcell 1 _ rfl)
     have f2 : wo.cell? ⟨g, off + q * 4 + 2, none⟩ = some s := (hbw.cell (p := ⟨g, off + q * 4 + 2, none⟩) hg).trans (hcell 2 _ rfl)
     have f3 : wo.cell? ⟨g, off + q * 4 + 3, none⟩ = some (.int .i64 b.grams) := (hbw.cell (p := ⟨g, off + q * 4 + 3, none⟩) hg).trans (hcell 3 _ rfl)
     obtain ⟨as1, cs', rfl, hsc⟩ := hs
     obtain ⟨pre, hpr⟩ : ∃ l, l = (bs.take q).flatMap (fun b => b.ids) := ⟨_, rfl⟩
     rw [<- hpr] at hI hpre hat
     have HND' : Hid pre.Nodup := by rw [hpr]; exact HND
     have HC' : Hid (c + pre.length = ps.length) := by rw [hpr]; exact HC
     obtain ⟨Wt, hWt⟩ : ∃ W, W = wo.alloc (.cells #[.int .i64 b.lvl, .string b.grp, .slice as1 b.ids.length cs', .int .i64 b.grams] 67) := ⟨_, rfl⟩
     have hn := Z01 wo (.cells #[.int .i64 b.lvl, .string b.grp, .slice as1 b.ids.length cs', .int .i64 b.grams] 67)
     have hbt : Below wo.1.size wo Wt := by rw [hWt]; exact (Z9 _ _).alloc (Z1 _) _
     rw [<- hWt] at hn
     have HWT := Z0 hWt
     have HN := Z0 hn
     have HTK := Z0 htk
     have HPRE := Z0 hpre
     have HID2 := Z0 hid2
     have HAT2 := Z0 hat
     have HGDQ := Z0 hgdq
     have HSC := Z0 hsc
     have HIT := Z0 (hI.below hbt)
     have HB3T := Z0 (hB.trans (hbt.mono hB.size))
     have HGB := HGI.out b
     have HGBH := Z0 HGB
     obtain ⟨n0, n1, n2, n3⟩ := Z0D hn
     obtain ⟨_, ⟨q0, q1, q2, q3⟩, _⟩ := HBX.out Wt (hB.trans (hbt.mono hB.size))
     clear hb hcell hcc hWt hn htk hpre hid2 hat hgdq hsc hbw hbt hmb hB hI hpr HGB HND HC
     go_upto_region 10 with fail
     rw [<- HWT.out]
     by_cases l1 : b.ids.length < 1
     ·have hr : ¬ OK := fun h => by
       obtain ⟨I, _, e, _, e1, _⟩ := HGBH.out.1 (HGDQ.out h)
       have := congrArg List.length e
       rw [Z7] at this
       omega
      have HR := Z0 hr
      clear hr
      go_wp2_with fail
      go_ret
      exact ⟨_, rfl, HB3.out.trans (HB3T.out.mono HB3.out.size), IsB.no HR.out⟩
     ·by_cases l2 : (b.ids.length : Int) > kp
      ·have hr : ¬ OK := fun h => by
        obtain ⟨I, _, e, _, _, e1, _⟩ := HGBH.out.1 (HGDQ.out h)
        have := congrArg List.length e
        rw [Z7] at this
        omega
       have HR := Z0 hr
       clear hr
       go_wp2_with fail
       go_ret
       exact ⟨_, rfl, HB3.out.trans (HB3T.out.mono HB3.out.size), IsB.no HR.out⟩
      ·go_wp2_with fail
       go_loopw [16, 60] (fun gr i wx => ∃ (p c' : Nat) (I : List Int), p <= b.ids.length /\ i = .int .i64 p /\ gr = .int .i64 (Z0j ps I) /\ I.length = p /\ b.ids.take p = I.map (fun i => (Z17 ps i).id) /\ (∀ i ∈ I, 0 <= i /\ i.toNat < ps.length /\ zs.getD i.toNat (-1) = b.lvl /\ ns.getD i.toNat noB = b.grp) /\ Below w3.1.size w3 wx /\ wx.1[wo.1.size]? = some (.cells #[.int .i64 b.lvl, .string b.grp, .slice as1 b.ids.length cs', .int .i64 b.grams] 67 (0, 0)) /\ OwnsII wx w3.1.size ps.length (Z7b ps ps.length (pre ++ b.ids.take p)) c' /\ c' + pre.length + p = ps.length /\ (pre ++ b.ids.take p).Nodup) (fun _ i _ => b.ids.length - (intOf i).toNat)
       case atStart => exact ⟨0, c, [], ZE _, rfl, rfl, rfl, by simp, by simp, HB3T.out, HN.out, by rw [List.take_zero, List.append_nil]; exact HIT.out, by have := HC'.out; omega, by rw [List.take_zero, List.append_nil]; exact HND'.out⟩
       case round =>
        clear n0 n1 n2 n3 f0 f1 f2 f3 q0 q1 q2 q3
        obtain ⟨wi, hwi⟩ : ∃ x, x = wr := ⟨_, rfl⟩
        subst hwi
        obtain ⟨p, c', I, hp, rfl, rfl, hIl, hIe, hIo, hB, hNb, hM, hcp, hnd⟩ := hrel
        have HBI := Z0 hB
        have HNB := Z0 hNb
        have HIL := Z0 hIl
        have HIE := Z0 hIe
        have HIO := Z0 hIo
        have HCP := Z0 hcp
        have HNDI := Z0 hnd
        have HM := Z0 hM
        have hgm := HGM.out I (fun i hi => ⟨(hIo i hi).1, (hIo i hi).2.1⟩)
        rw [hIl] at hgm
        obtain ⟨gr, hgr⟩ : ∃ x, x = Z0j ps I := ⟨_, rfl⟩
        have HGR := Z0 hgr
        rw [<- hgr] at hgm ⊢
        obtain ⟨n0, n1, n2, n3⟩ := Z0D hNb
        obtain ⟨⟨x0, x1, x2, x3⟩, ⟨y0, y1, y2, y3⟩, _⟩ := HBX.out wi hB
        clear hIl hIe hIo hcp hnd hNb hgr
        by_cases hlp : p < b.ids.length
        ·obtain ⟨gs, os, rfl, hgs, hcs⟩ := HSC.out (by omega)
         have hbw : Below w.1.size w wi := HB3.out.trans (hB.mono HB3.out.size)
         have e1 := (hbw.cell (p := ⟨gs, os + p, none⟩) hgs).trans (hcs p hlp)
         have hidp := HID2.out _ (Z4 hlp)
         have hat := fun h => HAT2.out h p hlp
         have htk2 : b.ids.take (p + 1) = b.ids.take p ++ [b.ids[p]] := Z8 hlp
         obtain ⟨x, hx⟩ : ∃ x, x = b.ids[p] := ⟨_, rfl⟩
         rw [<- hx] at e1 hidp hat htk2
         obtain ⟨P, hP⟩ : ∃ P, P = pre ++ b.ids.take p := ⟨_, rfl⟩
         rw [<- hP] at hat hM HM HNDI
         have hpx : pre ++ b.ids.take (p + 1) = P ++ [x] := by rw [htk2, hP, List.append_assoc]
         have HTK2 := Z0 htk2
         have HPX := Z0 hpx
         have HAT3 := Z0 hat
         have HXI := Z0 hidp
         have hpos := fun y => hM.pos (x := x) (y := y)
         have HPOS := Z0 hpos
         clear htk2 hpx hx hcs hP hpos
         rcases Z5b HU.out (Z1 ps.length) P x with hno | ⟨j, hj, hje, hjp, hjs⟩
         ·have hr : ¬ OK := fun h => by
           obtain ⟨j, a1, a2, a3, _⟩ := hat h
           have := Z1R HU.out (Z1 _) a1 (pre := P) (by rw [a2]; exact a3)
           rw [a2, hno] at this
           cases this
          have HR := Z0 hr
          have HNO := Z0 hno
          clear hr hno hat hB hM
          go_wp2_with (refine Z1K _ rfl _ _ _ rfl Tryz.underlying210 w3.1.size ps.length c' (Z7b ps ps.length P) rfl HM.out x (WalkArith.wf_i64 (by omega)) rfl none HNO.out ?_)
          go_quiet (fail)
          go_wp2_with fail
          go_ret
          exact ⟨_, rfl, by first | exact below_drewN (HB3.out.trans (HBI.out.mono HB3.out.size)) _ | exact (HB3.out.trans (HBI.out.mono HB3.out.size)).drew, IsB.no HR.out⟩
         ·have hjz : j < zs.length := by rw [HZL.out]; exact hj
          have hjn : j < ns.length := by rw [HNL.out]; exact hj
          obtain ⟨gz, oz, rfl, hgz, hcz⟩ := HZC.out (by omega)
          obtain ⟨gn, on', rfl, hgn, hcn⟩ := HNC.out (by omega)
          obtain ⟨gp, op, rfl, hgp, hcp⟩ := HPC.out (by omega)
          have e2 := (hbw.cell (p := ⟨gz, oz + j, none⟩) hgz).trans (hcz j hjz)
          have e3 := (hbw.cell (p := ⟨gn, on' + j, none⟩) hgn).trans (hcn j hjn)
          have hpe : Z17 ps (j : Int) = ps[j] := (Z4m ⟨by omega, by rw [Int.toNat_natCast]; exact hj⟩).1
          have hpg := HG.out _ (Z4 hj)
          obtain ⟨_, _, _, e5, _⟩ := hcp j hj
          have hzd : zs.getD j (-1) = zs[j] := by rw [Z2, Z3 hjz]; rfl
          have hnd : ns.getD j noB = ns[j] := by rw [Z2, Z3 hjn]; rfl
          have hsame : OK -> zs.getD j (-1) = b.lvl /\ ns.getD j noB = b.grp := fun h => by
           obtain ⟨j', a1, a2, a3, a4⟩ := hat h
           have h1 := Z1R HU.out (Z1 _) a1 (pre := P) (by rw [a2]; exact a3)
           rw [a2, hjs] at h1
           have h2 : (j : Int) = (j' : Int) := Option.some.inj h1
           obtain rfl : j = j' := by omega
           exact a4
          obtain ⟨z, hze⟩ : ∃ z, z = zs[j] := ⟨_, rfl⟩
          obtain ⟨nm, hnme⟩ : ∃ z, z = ns[j] := ⟨_, rfl⟩
          obtain ⟨pc, hpce⟩ : ∃ z, z = ps[j] := ⟨_, rfl⟩
          rw [hzd, hnd, <- hze, <- hnme] at hsame
          rw [<- hze] at e2 hzd
          rw [<- hnme] at e3 hnd
          rw [<- hpce] at hpe hpg e5
          have HSAME := Z0 hsame
          have HZD := Z0 hzd
          have HNDD := Z0 hnd
          have HPE := Z0 hpe
          have HJS := Z0 hjs
          have HJP := Z0 hjp
          have HJE := Z0 hje
          have hc1 := HPOS.out _ hjs
          obtain ⟨c2, rfl⟩ : ∃ c2, c' = c2 + 1 := ⟨c' - 1, by omega⟩
          have HPC5 := Z0 (fun (W : World) (hW : Below w3.1.size w3 W) => ((HB3.out.trans (hW.mono HB3.out.size)).cell (p := ⟨gp, op + j * 5 + 3, none⟩) hgp).trans e5)
          clear hcz hcn hcp hpe hzd hnd hsame hze hnme hpce hjs hjp hje hat hc1 hbw hM e5
          by_cases q1 : z = b.lvl
          ·have hbq : (z != b.lvl) = false := by simp [q1]
           by_cases q2 : nm = b.grp
           ·have hbs : (nm.toList == b.grp.toList) = true := by rw [ba_eq]; exact decide_eq_true q2
            have Q := Z0 (And.intro q1 q2)
            clear q1 q2 hB
            go_wp2_with (refine Z1K _ rfl _ _ _ rfl Tryz.underlying210 w3.1.size ps.length (c2 + 1) (Z7b ps ps.length P) rfl HM.out x (WalkArith.wf_i64 (by omega)) rfl (some (j : Int)) HJS.out ?_)
            go_quiet (fail)
            obtain ⟨wd, hwd⟩ : ∃ wd, wd = wi.drewN nq := ⟨_, rfl⟩
            rw [<- hwd]
            have hbd : Below wi.1.size wi wd := by rw [hwd]; exact below_drewN (Z9 _ _) _
            have HMD := Z0 (HM.out.below hbd)
            have HBD := Z0 (HBI.out.trans (hbd.mono HBI.out.size))
            have HNBD := Z0 ((hbd.block _ (Z5.1 HNB.out).1).trans HNB.out)
            clear hwd hbd n0 n1 n2 n3 x0 x1 x2 x3 y0 y1 y2 y3 e1 e2 e3
            go_wp2_with (refine Z7c _ rfl _ _ _ rfl Tryz.underlying210 w3.1.size ps.length c2 (Z7b ps ps.length P) rfl HMD.out x (j : Int) (WalkArith.wf_i64 (by omega)) HJS.out rfl ?_; intro w5 hown5 hg5; have hb5 := HBD.out.grown hg5 HBD.out.size (fun r e => by rw [<- Option.some.inj e]; exact Z1 _); obtain ⟨⟨x0, x1, x2, x3⟩, _, _⟩ := HBX.out w5 hb5; have e5 := HPC5.out w5 hb5)
            go_roundw
            case rel =>
             have hc := HCP.out
             have hil := HIL.out
             refine ⟨p + 1, c2, I ++ [(j : Int)], by omega, by go_num, ?_, by rw [ZC, hil]; rfl, ?_, ?_, hb5, ?_, ?_, by omega, ?_⟩
             ·rw [Z3n, HPE.out, <- HGR.out]
             ·rw [HTK2.out, HIE.out, ZD, List.map_cons, List.map_nil, HJE.out]
             ·intro i hi
              rcases ZG.1 hi with hi | hi
              ·exact HIO.out i hi
              ·rw [ZI.1 hi, Int.toNat_natCast]
               exact ⟨by omega, hj, by rw [HZD.out]; exact Q.out.1, by rw [HNDD.out]; exact Q.out.2⟩
             ·exact (hg5.block _ (Z5.1 HNBD.out).1 (fun e => HMD.out.ne HNBD.out (Option.some.inj e))).trans HNBD.out
             ·rw [HPX.out, <- ZeN HU.out (Z1 _)]
              exact hown5
             ·rw [HPX.out]
              exact Z7M HNDI.out HJP.out
            case measure => simp [intOf]; omega
           ·have hbs : (nm.toList == b.grp.toList) = false := by rw [ba_eq]; exact decide_eq_false q2
            have hr : ¬ OK := fun h => q2 (HSAME.out h).2
            have HR := Z0 hr
            clear hr q1 q2 hB
            go_wp2_with (refine Z1K _ rfl _ _ _ rfl Tryz.underlying210 w3.1.size ps.length (c2 + 1) (Z7b ps ps.length P) rfl HM.out x (WalkArith.wf_i64 (by omega)) rfl (some (j : Int)) HJS.out ?_)
            go_quiet (fail)
            go_wp2_with fail
            go_ret
            exact ⟨_, rfl, by first | exact below_drewN (HB3.out.trans (HBI.out.mono HB3.out.size)) _ | exact (HB3.out.trans (HBI.out.mono HB3.out.size)).drew, IsB.no HR.out⟩
          ·have hbq : (z != b.lvl) = true := by simp [q1]
           have hr : ¬ OK := fun h => q1 (HSAME.out h).1
           have HR := Z0 hr
           clear hr q1 hB
           go_wp2_with (refine Z1K _ rfl _ _ _ rfl Tryz.underlying210 w3.1.size ps.length (c2 + 1) (Z7b ps ps.length P) rfl HM.out x (WalkArith.wf_i64 (by omega)) rfl (some (j : Int)) HJS.out ?_)
           go_quiet (fail)
           go_wp2_with fail
           go_ret
           exact ⟨_, rfl, by first | exact below_drewN (HB3.out.trans (HBI.out.mono HB3.out.size)) _ | exact (HB3.out.trans (HBI.out.mono HB3.out.size)).drew, IsB.no HR.out⟩
        ·obtain rfl : p = b.ids.length := by omega
         rw [List.take_length] at HIE HM HNDI
         have hsum := fun (h : OK) => HSU.out b (HGDQ.out h) I (fun i hi => ⟨(HIO.out i hi).1, (HIO.out i hi).2.1⟩) HIE.out
         rw [<- HGR.out] at hsum
         have HSUM := Z0 hsum
         clear hsum hM hB
         by_cases q1 : gr = b.grams
         ·have hbq : (gr != b.grams) = false := by simp [q1]
          by_cases q2 : gr > kg
          ·have hr : ¬ OK := fun h => by have := HSUM.out h; omega
           have HR := Z0 hr
           clear hr q1
           go_wp2_with fail
           go_ret
           exact ⟨_, rfl, HB3.out.trans (HBI.out.mono HB3.out.size), IsB.no HR.out⟩
          ·have hgood : GD b := HGBH.out.2 ⟨I, HIO.out, HIE.out, by rw [<- HGR.out]; exact q1, by have := HIL.out; omega, by have := HIL.out; omega, by omega⟩
           have HGOOD := Z0 hgood
           clear hgood q1
           go_wp2_with fail
           go_roundw
           case rel =>
            refine ⟨q + 1, c', by omega, by go_num, HBI.out, by rw [HPRE.out]; exact HM.out, by rw [HPRE.out, ZC]; have := HCP.out; omega, ?_, by rw [HPRE.out]; exact HNDI.out⟩
            rw [HTK.out]
            intro y hy
            rcases ZG.1 hy with hy | hy
            ·exact HGDS.out y hy
            ·rw [ZI.1 hy]; exact HGOOD.out
           case measure => simp [intOf]; omega
         ·have hbq : (gr != b.grams) = true := by simp [q1]
          have hr : ¬ OK := fun h => q1 (HSUM.out h).1
          have HR := Z0 hr
          clear hr q1
          go_wp2_with fail
          go_ret
          exact ⟨_, rfl, HB3.out.trans (HBI.out.mono HB3.out.size), IsB.no HR.out⟩
    ·obtain rfl : q = bs.length := by omega
     rw [List.take_length] at HC HGDS HND
     have hok : c = 0 ↔ OK := by
      constructor
      ·intro e
       exact HMK.out HGDS.out HND.out (by have := HC.out; omega)
      ·intro h
       have h1 := HALL.out h
       have h2 := HC.out
       omega
     have HOK := Z0 hok
     have HI2 := Z0 hI
     clear hI hB hok
     go_wp2_with (refine Z8h _ rfl _ _ rfl Tryz.underlying210 w3.1.size ps.length c _ rfl HI2.out ?_)
     go_ret
     refine ⟨_, rfl, HB3.out.trans (HB2.out.mono HB3.out.size), IsB.of ?_⟩
     rw [<- HOK.out]
     simp
     try omega
def OwnsRL (w wx : World) (base : Nat) (v : Value) (ts : List (List Int)) : Prop :=
 ∃ L : List (List Int × Value), L.map Prod.fst = ts /\ (∀ p ∈ L, RdInts w p.2 p.1) /\ wx.ownsRow base 35 1 v L.length (L.map Prod.snd)
theorem OwnsRL.rd {w wx : World} {base : Nat} {v : Value} {ts : List (List Int)} (h : OwnsRL w wx base v ts) (hb : Below w.1.size w wx) : Zjl wx v ts := by
 obtain ⟨L, rfl, h1, h2⟩ := h
 rcases Joins.ownsRow_forms h2 with ⟨rfl, hp⟩ | ⟨g, cap, rfl⟩
 ·exact ⟨none, 0, by rw [Z7, hp], fun h0 => by rw [Z7, hp] at h0; omega⟩
 ·refine ⟨_, cap, by rw [Z7], fun h0 => ⟨g, 0, rfl, (h2.lt g rfl).2, fun i hi => ?_⟩⟩
  rw [Z7] at hi
  have hc := h2.cellAt i (by rw [Nat.mul_one]; exact hi)
  rw [List.getElem?_map, Z3 hi] at hc
  refine ⟨_, by rw [Nat.zero_add]; exact hc, ?_⟩
  rw [List.getElem_map]
  exact (h1 _ (Z4 hi)).below hb
theorem OwnsRL.form {w wx : World} {base : Nat} {v : Value} {ts : List (List Int)} (h : OwnsRL w wx base v ts) : ∃ a cap, v = .slice a ts.length cap := by
 obtain ⟨L, rfl, _, h2⟩ := h
 rw [Z7]
 exact Z0B h2
theorem Z7d (k : Pck) (l : Lod) (vb vt vc : Value) (w : World) (hr : RdLod w vb vt vc l) (hs : SmallL l) :
 Calls Tryz.prog 78 #[Z3I k, Zdq vb vt vc] w fun e w' => ∃ v, e = .returned v /\ Below w.1.size w w' /\ IsB v (TrasOk k l) := by
 obtain ⟨i0, hi⟩ := info_parts Tryz.infoSlT
 have HI := Z0 hi
 obtain ⟨ab, cb, hvb, hcb⟩ := hr.b
 obtain ⟨at', ct, hvt, hct⟩ := hr.t
 obtain ⟨ac, cc, hvc, _⟩ := hr.c
 subst hvb hvt hvc
 have hnb := hs.b
 have hnt := hs.t
 have hti := hs.ti
 have hpl := fun x hx => ZaC (f := fun t : Tra => t.bs) hs.ti x hx
 have HON := Z0 (fun W v (hb : Zjl W v (l.tras.map (fun t => t.bs))) => ZbX (l.tras.map (fun t => t.bs)) l.buns.length k.bundles v W hb (by omega) (by rw [Z1o]; omega) (by rw [Z7]; omega))
 have hOK := fun (h : OnceOk (l.tras.map (fun t => t.bs)) l.buns.length k.bundles) (h2 : ∀ t ∈ l.tras, ∀ i ∈ t.bs, ∃ b, l.buns[i.toNat]? = some b /\ b.lvl = t.lvl /\ b.grp = t.grp) => (⟨h, h2⟩ : TrasOk k l)
 have hNO := fun (h : TrasOk k l) => h
 unfold Zdq Z3I
 obtain ⟨kp, kg, kb, kt⟩ := k
 obtain ⟨bs, ts, cs⟩ := l
 dsimp only at *
 obtain ⟨w2, hw2⟩ : ∃ w2, w2 = (w.alloc (.cells #[.int .i64 kp, .int .i64 kg, .int .i64 kb, .int .i64 kt] 37)).alloc (.cells #[.slice ab bs.length cb, .slice at' ts.length ct, .slice ac cs.length cc] 52) := ⟨_, rfl⟩
 obtain ⟨g1, g2, z2, b2⟩ := Z8b hw2
 obtain ⟨x0, x1, x2⟩ := cells3 g2
 have HW2 := Z0 hw2
 have HB2 := Z0 b2
 have HL := Z0 (fun (W : World) (hB : Below w2.1.size w2 W) => And.intro (Z0D ((hB.block _ (by omega)).trans g1)) (cells3 ((hB.block _ (by omega)).trans g2)))
 have HCB := Z0 hcb
 have HCT := Z0 hct
 have HOK := Z0 hOK
 have HPL := Z0 hpl
 clear hw2 g1 g2 z2 b2 hcb hct hr hs hOK hNO hi hpl
 go_enter Tryz.func78, Tryz.ntmps78
 go_upto_region 1 with fail
 rw [<- HW2.out]
 go_wp2_with (at_make; refine wpList_make_own _ rfl _ _ 109 rfl w2.1.size 35 i0 (.slice none 0 0) 1 Tryz.underlying109 HI.out.1 HI.out.2.1 HI.out.2.2.1 _ _ _ ts.length rfl (by first | rfl | simp) rfl (by rw [HI.out.2.2.2]; omega) (by unfold maxLen; omega) (Z1 _) ?_; intro w3 hown hgrow; have hb3 : Below w2.1.size w2 w3 := (Z9 _ _).grown hgrow (Z1 _) (fun _ e => by cases e); have HB3 := Z0 hb3; have HO3 := Z0 hown; clear hgrow hown; obtain ⟨⟨u0, u1, u2, u3⟩, v0, v1, v2⟩ := HL.out w3 hb3)
 go_loopw [5, 19] (fun lv i wx => ∃ q : Nat, q <= ts.length /\ i = .int .i64 q /\ Below w2.1.size w2 wx /\ OwnsRL w wx w2.1.size lv ((ts.take q).map (fun t => t.bs))) (fun _ i _ => ts.length - (intOf i).toNat)
 case atStart => exact ⟨0, ZE _, rfl, HB3.out, ⟨[], by simp, by simp, HO3.out⟩⟩
 case round =>
  clear u0 u1 u2 u3 v0 v1 v2 hb3 x0 x1 x2
  obtain ⟨q, hq, rfl, hB, hO⟩ := hrel
  have HBB := Z0 hB
  by_cases hlt : q < ts.length
  ·obtain ⟨g, off, rfl, hg, hcc⟩ := HCT.out (by omega)
   obtain ⟨s, hs, hcell⟩ := hcc q hlt
   have htk : (ts.take (q + 1)).map (fun t => t.bs) = (ts.take q).map (fun t => t.bs) ++ [ts[q].bs] := by rw [Z8 hlt, ZD]; rfl
   obtain ⟨t, ht⟩ : ∃ t, t = ts[q] := ⟨_, rfl⟩
   rw [<- ht] at hs hcell htk
   have hbw : Below w.1.size w wr := HB2.out.trans (hB.mono HB2.out.size)
   have f0 : wr.cell? ⟨g, off + q * 3, none⟩ = some (.int .i64 t.lvl) := (hbw.cell (p := ⟨g, off + q * 3, none⟩) hg).trans (hcell 0 _ rfl)
   have f1 : wr.cell? ⟨g, off + q * 3 + 1, none⟩ = some (.string t.grp) := (hbw.cell (p := ⟨g, off + q * 3 + 1, none⟩) hg).trans (hcell 1 _ rfl)
   have f2 : wr.cell? ⟨g, off + q * 3 + 2, none⟩ = some s := (hbw.cell (p := ⟨g, off + q * 3 + 2, none⟩) hg).trans (hcell 2 _ rfl)
   have HS := Z0 hs
   obtain ⟨as1, cs', rfl, _⟩ := hs
   have HTK := Z0 htk
   obtain ⟨av, cv, hlv⟩ := hO.form
   have hle : ((ts.take q).map (fun t => t.bs)).length = q := by rw [Z7, List.length_take]; omega
   rw [hle] at hlv
   subst hlv
   obtain ⟨L, hL, hLr, hLo⟩ := hO
   have hLl : L.length = q := by rw [<- hle, <- hL, Z7]
   subst hLl
   have HL0 := Z0 hL
   have HLR := Z0 hLr
   have hLo2 := (hLo.alloc (.cells #[.int .i64 t.lvl, .string t.grp, .slice as1 t.bs.length cs'] 112)).alloc (.cells #[.slice as1 t.bs.length cs'] 35)
   have HLO := Z0 hLo2
   have HLT := Z0 (fun r e => (hLo.lt r e).1)
   clear ht hcell hcc hbw htk hL hLr hLo hLo2 hle hB
   go_wp2_with (at_builtin; refine wpList_append_own _ rfl _ _ 109 rfl w2.1.size 35 i0 (.slice none 0 0) 1 24 Tryz.underlying109 HI.out.1 HI.out.2.1 HI.out.2.2.1 HI.out.2.2.2 rfl (by decide) _ L.length _ rfl HLO.out ⟨wr.1.size + 1, 0, none⟩ 1 1 [.slice as1 t.bs.length cs'] rfl (by simp) (by simpa using cell_one_new (wr.alloc (.cells #[.int .i64 t.lvl, .string t.grp, .slice as1 t.bs.length cs'] 112)) (.slice as1 t.bs.length cs') 35) (by simp [Value.oneCell']) (by unfold maxLen; omega) (by omega) (by have := HBB.out.size; simp; omega) ?_; intro v' w5 hown' hgrow _)
   go_roundw
   case rel =>
    refine ⟨L.length + 1, by omega, by go_num, ((HBB.out.alloc HBB.out.size _).alloc (by have := HBB.out.size; simp; omega) _).grown hgrow (by have := HBB.out.size; simp; omega) (fun r e => HLT.out r e), L ++ [(t.bs, .slice as1 t.bs.length cs')], ?_, ?_, ?_⟩
    ·rw [HTK.out, ZD, HL0.out]; rfl
    ·intro p hp
     rcases ZG.1 hp with hp | hp
     ·exact HLR.out p hp
     ·rw [ZI.1 hp]; exact HS.out
    ·rw [ZC, ZD]
     exact hown'
   case measure => simp [intOf]; omega
  ·obtain rfl : q = ts.length := by omega
   rw [List.take_length] at hO
   have hbw : Below w.1.size w wr := HB2.out.trans (hB.mono HB2.out.size)
   have HR := Z0 (hO.rd hbw)
   obtain ⟨av, cv, hlv⟩ := hO.form
   rw [Z7] at hlv
   subst hlv
   have HBW := Z0 hbw
   obtain ⟨⟨u0, u1, u2, u3⟩, v0, v1, v2⟩ := HL.out wr hB
   clear hO hbw hB
   go_upto_region 7 with fail
   go_cut [36] from 29 to 36 (fun b wx => ∃ c : Bool, b = .bool (!c) /\ (c = true ↔ OnceOk (ts.map (fun t => t.bs)) bs.length kb) /\ Below wr.1.size wr wx)
   case first =>
    go_wp2_with (go_at_call 114; refine (HON.out wr _ HR.out).mono ?_; rintro e w6 ⟨vv, rfl, hb6, r, rfl, hr⟩)
    go_meet
    exact ⟨r, rfl, hr, hb6⟩
   case rest =>
    clear u0 u1 u2 u3 v0 v1 v2
    obtain ⟨wp, hwp⟩ : ∃ x, x = wc := ⟨_, rfl⟩
    subst hwp
    obtain ⟨c, rfl, hc, hbc⟩ := hcut
    have HB6 := Z0 (HBB.out.trans (hbc.mono HBB.out.size))
    have HC := Z0 hc
    clear hbc hc
    cases c
    ·have hr : ¬ TrasOk ⟨kp, kg, kb, kt⟩ ⟨bs, ts, cs⟩ := fun h => by have := HC.out.2 h.once; cases this
     have HRR := Z0 hr
     clear hr
     go_wp2_with fail
     go_ret
     exact ⟨_, rfl, HB2.out.trans (HB6.out.mono HB2.out.size), IsB.no HRR.out⟩
    ·have hon := HC.out.1 rfl
     have hin := fun t (ht : t ∈ ts) i (hi : i ∈ t.bs) => hon.ins i (by rw [Z1o]; exact List.mem_flatMap.2 ⟨t, ht, hi⟩)
     have HON2 := Z0 hon
     have HIN := Z0 hin
     obtain ⟨⟨u0, u1, u2, u3⟩, v0, v1, v2⟩ := HL.out wp HB6.out
     clear hon hin
     go_wp2_with fail
     go_loopw [40] (fun i wx => ∃ q : Nat, q <= ts.length /\ i = .int .i64 q /\ Below w2.1.size w2 wx /\ ∀ t ∈ ts.take q, ∀ i ∈ t.bs, ∃ b, bs[i.toNat]? = some b /\ b.lvl = t.lvl /\ b.grp = t.grp) (fun i _ => ts.length - (intOf i).toNat)
     case atStart => exact ⟨0, ZE _, rfl, HB6.out, by simp⟩
     case round =>
      clear u0 u1 u2 u3 v0 v1 v2
      obtain ⟨wo, hwo⟩ : ∃ x, x = wr := ⟨_, rfl⟩
      subst hwo
      obtain ⟨q, hq, rfl, hB, hal⟩ := hrel
      have HB := Z0 hB
      have HAL := Z0 hal
      clear hal
      by_cases hlt : q < ts.length
      ·obtain ⟨g, off, rfl, hg, hcc⟩ := HCT.out (by omega)
       obtain ⟨s, hs, hcell⟩ := hcc q hlt
       have hbw : Below w.1.size w wo := HB2.out.trans (hB.mono HB2.out.size)
       have hmt := Z4 hlt
       have htk : ts.take (q + 1) = ts.take q ++ [ts[q]] := Z8 hlt
       have hlen := HPL.out _ hmt
       have hin := HIN.out _ hmt
       have hno : TrasOk ⟨kp, kg, kb, kt⟩ ⟨bs, ts, cs⟩ -> ∀ i ∈ ts[q].bs, ∃ b, bs[i.toNat]? = some b /\ b.lvl = ts[q].lvl /\ b.grp = ts[q].grp := fun h => h.grp _ hmt
       obtain ⟨t, ht⟩ : ∃ t, t = ts[q] := ⟨_, rfl⟩
       rw [<- ht] at hs hcell htk hlen hin hno
       have f0 : wo.cell? ⟨g, off + q * 3, none⟩ = some (.int .i64 t.lvl) := (hbw.cell (p := ⟨g, off + q * 3, none⟩) hg).trans (hcell 0 _ rfl)
       have f1 : wo.cell? ⟨g, off + q * 3 + 1, none⟩ = some (.string t.grp) := (hbw.cell (p := ⟨g, off + q * 3 + 1, none⟩) hg).trans (hcell 1 _ rfl)
       have f2 : wo.cell? ⟨g, off + q * 3 + 2, none⟩ = some s := (hbw.cell (p := ⟨g, off + q * 3 + 2, none⟩) hg).trans (hcell 2 _ rfl)
       obtain ⟨as1, cs', rfl, hsc⟩ := hs
       obtain ⟨Wt, hWt⟩ : ∃ W, W = wo.alloc (.cells #[.int .i64 t.lvl, .string t.grp, .slice as1 t.bs.length cs'] 112) := ⟨_, rfl⟩
       have hn := Z01 wo (.cells #[.int .i64 t.lvl, .string t.grp, .slice as1 t.bs.length cs'] 112)
       have hbt : Below wo.1.size wo Wt := by rw [hWt]; exact (Z9 _ _).alloc (Z1 _) _
       have hNl : wo.1.size < Wt.1.size := by rw [hWt, Z6]; exact Nat.lt_succ_self _
       rw [<- hWt] at hn
       have HWT := Z0 hWt
       have HN := Z0 hn
       have HNL := Z0 hNl
       have HTK := Z0 htk
       have HIN2 := Z0 hin
       have HNO := Z0 hno
       have HSC := Z0 hsc
       have HBT := Z0 (HB.out.trans (hbt.mono HB.out.size))
       have HBWT := Z0 (hbw.trans (hbt.mono hbw.size))
       obtain ⟨n0, n1, n2⟩ := cells3 hn
       clear ht hcell hcc hWt hn hNl htk hin hno hsc hbw hbt hmt hB
       go_upto_region 12 with fail
       rw [<- HWT.out]
       go_wp2_with fail
       go_loopw [47] (fun i wx => ∃ p : Nat, p <= t.bs.length /\ i = .int .i64 p /\ Below Wt.1.size Wt wx /\ ∀ i ∈ t.bs.take p, ∃ b, bs[i.toNat]? = some b /\ b.lvl = t.lvl /\ b.grp = t.grp) (fun i _ => t.bs.length - (intOf i).toNat)
       case atStart => exact ⟨0, ZE _, rfl, Z9 _ _, by simp⟩
       case round =>
        clear n0 n1 n2 f0 f1 f2
        obtain ⟨wi, hwi⟩ : ∃ x, x = wr := ⟨_, rfl⟩
        subst hwi
        obtain ⟨p, hp, rfl, hB, hal2⟩ := hrel
        have HB3 := Z0 hB
        have HAL2 := Z0 hal2
        clear hal2
        by_cases hlp : p < t.bs.length
        ·obtain ⟨gs, os, rfl, hgs, hcs⟩ := HSC.out (by omega)
         have hbw : Below w.1.size w wi := HBWT.out.trans (hB.mono HBWT.out.size)
         have e1 := (hbw.cell (p := ⟨gs, os + p, none⟩) hgs).trans (hcs p hlp)
         obtain ⟨i0', i1'⟩ := HIN2.out _ (Z4 hlp)
         have hno := fun h => HNO.out h _ (Z4 hlp)
         have htk2 : t.bs.take (p + 1) = t.bs.take p ++ [t.bs[p]] := Z8 hlp
         obtain ⟨x, hx⟩ : ∃ x, x = t.bs[p] := ⟨_, rfl⟩
         rw [<- hx] at e1 i0' i1' hno htk2
         obtain ⟨j, rfl⟩ : ∃ j : Nat, x = (j : Int) := ⟨x.toNat, by omega⟩
         have hj : j < bs.length := by omega
         rw [Int.toNat_natCast, Z3 hj] at hno
         obtain ⟨gb, ob, rfl, hgb, hcb⟩ := HCB.out (by omega)
         obtain ⟨sb, _, hcell⟩ := hcb j hj
         have hbj : bs[j]? = some bs[j] := Z3 hj
         obtain ⟨b, hbe⟩ : ∃ b, b = bs[j] := ⟨_, rfl⟩
         rw [<- hbe] at hcell hno hbj
         have b0 : wi.cell? ⟨gb, ob + j * 4, none⟩ = some (.int .i64 b.lvl) := (hbw.cell (p := ⟨gb, ob + j * 4, none⟩) hgb).trans (hcell 0 _ rfl)
         have b1 : wi.cell? ⟨gb, ob + j * 4 + 1, none⟩ = some (.string b.grp) := (hbw.cell (p := ⟨gb, ob + j * 4 + 1, none⟩) hgb).trans (hcell 1 _ rfl)
         obtain ⟨⟨u0, u1, u2, u3⟩, v0, v1, v2⟩ := HL.out wi (HBT.out.trans (hB.mono HBT.out.size))
         obtain ⟨n0, n1, n2⟩ := cells3 ((hB.block _ HNL.out).trans HN.out)
         have HNO2 := Z0 hno
         have HTK2 := Z0 htk2
         have HBJ := Z0 hbj
         clear hcell hcb hbe hno htk2 hbj hx hcs hbw hB i0' i1'
         by_cases q1 : b.lvl = t.lvl
         ·have hbq : (b.lvl != t.lvl) = false := by simp [q1]
          by_cases q2 : b.grp = t.grp
          ·have hbs : (b.grp.toList == t.grp.toList) = true := by rw [ba_eq]; exact decide_eq_true q2
           have Q := Z0 (And.intro q1 q2)
           clear q1 q2
           go_wp2_with fail
           go_quiet (fail)
           go_wp2_with fail
           go_roundw
           case rel =>
            refine ⟨p + 1, by omega, by go_num, (by first | exact below_drewN HB3.out _ | exact HB3.out.drew), ?_⟩
            rw [HTK2.out]
            intro y hy
            rcases ZG.1 hy with hy | hy
            ·exact HAL2.out y hy
            ·rw [ZI.1 hy, Int.toNat_natCast]
             exact ⟨b, HBJ.out, Q.out.1, Q.out.2⟩
           case measure => simp [intOf]; omega
          ·have hbs : (b.grp.toList == t.grp.toList) = false := by rw [ba_eq]; exact decide_eq_false q2
           have hr : ¬ TrasOk ⟨kp, kg, kb, kt⟩ ⟨bs, ts, cs⟩ := fun h => by
            obtain ⟨b', h1, h2, h3⟩ := HNO2.out h
            obtain rfl := Option.some.inj h1
            exact q2 h3
           have HRR := Z0 hr
           clear hr q1 q2
           go_wp2_with fail
           go_quiet (fail)
           go_wp2_with fail
           go_ret
           exact ⟨_, rfl, by first | exact below_drewN (HBWT.out.trans (HB3.out.mono HBWT.out.size)) _ | exact (HBWT.out.trans (HB3.out.mono HBWT.out.size)).drew, IsB.no HRR.out⟩
         ·have hbq : (b.lvl != t.lvl) = true := by simp [q1]
          have hr : ¬ TrasOk ⟨kp, kg, kb, kt⟩ ⟨bs, ts, cs⟩ := fun h => by
           obtain ⟨b', h1, h2, h3⟩ := HNO2.out h
           obtain rfl := Option.some.inj h1
           exact q1 h2
          have HRR := Z0 hr
          clear hr q1
          go_wp2_with fail
          go_quiet (fail)
          go_wp2_with fail
          go_ret
          exact ⟨_, rfl, by first | exact below_drewN (HBWT.out.trans (HB3.out.mono HBWT.out.size)) _ | exact (HBWT.out.trans (HB3.out.mono HBWT.out.size)).drew, IsB.no HRR.out⟩
        ·obtain rfl : p = t.bs.length := by omega
         rw [List.take_length] at HAL2
         clear hB
         go_wp2_with fail
         go_roundw
         case rel =>
          refine ⟨q + 1, by omega, by go_num, HBT.out.trans (HB3.out.mono HBT.out.size), ?_⟩
          rw [HTK.out]
          intro y hy
          rcases ZG.1 hy with hy | hy
          ·exact HAL.out y hy
          ·rw [ZI.1 hy]
           exact HAL2.out
         case measure => simp [intOf]; omega
      ·obtain rfl : q = ts.length := by omega
       have hal := HAL.out
       rw [List.take_length] at hal
       have HRR := Z0 (HOK.out HON2.out hal)
       clear hal hB
       go_wp2_with fail
       go_ret
       exact ⟨_, rfl, HB2.out.trans (HB.out.mono HB2.out.size), IsB.yes HRR.out⟩
end Go.Proofs.YtlgajongmkhcnaaGreatDoor
