import Derived.Test.YtlgajongmkhcnaaGreatDoorQWA
import Derived.Test.YtlgajongmkhcnaaGreatDoorQWF
import Derived.Deep.Upon
import Derived.Test.YtlgajongmkhcnaaGreatDoorQW5
import Derived.BigQuiet
import Derived.Test.YtlgajongmkhcnaaGreatDoorQW8
set_option maxRecDepth 100000
set_option linter.unusedVariables false
set_option linter.unusedSimpArgs false
set_option maxHeartbeats 32000000
namespace Go.Proofs.YtlgajongmkhcnaaGreatDoor
open Go.RowKit Go.Sort
theorem HasPlan.groups_few {ls : List Lev} {m : Mai} (h : HasPlan ls m) : (Z0T ls (Z06 m.ps) ls.length).length <= 12000 := by
 have h1 := Z8e ls (Z06 m.ps)
 have h2 := (Z0y h.right).2
 have h3 := h.few
 rw [Z1A] at h1
 have : ls.length * m.ps.length <= 6 * 2000 := Nat.mul_le_mul h2 h3
 omega
theorem ZeX {ls : List Lev} {m : Mai} (h : HasPlan ls m) {v vc : Value} {w : World} (hr : RdLevs w v ls) (sG : ReadsT w vc (Z06 m.ps)) :
 Calls Tryz.prog 41 #[v, vc] w fun e w' => ∃ a cap, e = .returned (.tuple #[.slice a (Z0T ls (Z06 m.ps) ls.length).length cap, .int .i64 0]) /\ Below w.1.size w w' /\ RdGrps w' (.slice a (Z0T ls (Z06 m.ps) ls.length).length cap) (Z0T ls (Z06 m.ps) ls.length) := by
 have hl := Z0y h.right
 have hf := h.few
 have h1 := Z5q ls v vc (Z06 m.ps) w hr (Z1t h.right) (by unfold maxLen; omega) sG (by rw [Z1A]; unfold maxLen; omega) (fun c hc => by have := Z0i (h.code c hc); unfold maxLen; omega)
 rw [Z8d h.right (by rw [Z1A]; exact hf) h.code (Z6G h.pre), Z3M ls _ ls.length (Z1 _)] at h1
 refine h1.mono ?_
 rintro e w' ⟨vg, rfl, hb, uC⟩
 have wC := RdGrps.of_owns uC
 obtain ⟨ag, cg, wD⟩ := uC.len
 subst wD
 exact ⟨ag, cg, rfl, hb, wC⟩
theorem Z73 {ls : List Lev} {m : Mai} (h : HasPlan ls m) {vl v : Value} {w : World} (uD : RdLevs w vl ls) (hr : RdPces w v m.ps) :
 Calls Tryz.prog 30 #[vl, Z0N m v] w fun e w' => ∃ a cap, e = .returned (.tuple #[.slice a (Z0T ls (Z06 m.ps) ls.length).length cap, .int .i64 0]) /\ Below w.1.size w w' /\ RdGrps w' (.slice a (Z0T ls (Z06 m.ps) ls.length).length cap) (Z0T ls (Z06 m.ps) ls.length) := by
 have hl : m.ps.length <= 2000 := h.few
 have sH := Z0 (fun W vc (hW : Below w.1.size w W) (sG : ReadsT W vc (Z06 m.ps)) => ZeX h (uD.below hW) sG)
 obtain ⟨N, hN⟩ : ∃ N, N = (Z0T ls (Z06 m.ps) ls.length).length := ⟨_, rfl⟩
 rw [<- hN] at sH ⊢
 clear hN h uD
 obtain ⟨a, cap, rfl, pO⟩ := hr
 unfold Z0N
 obtain ⟨cls, ctr, org, ps⟩ := m
 dsimp only at *
 obtain ⟨i0, hi⟩ := info_parts Tryz.infoTx
 have HI := Z0 hi
 have wE := Z0 pO
 clear hi pO
 have c0 : (w.alloc (.cells #[.int .u8 cls, .int .u8 ctr, .string org, .slice a ps.length cap] 34)).cell? ⟨w.1.size, 3, none⟩ = some (.slice a ps.length cap) := Kaa _ _ 3 _ _ _ (Z02 w _)
 go_enter Tryz.func30, Tryz.ntmps30
 go_wp2_with (at_make; refine wpList_make_own _ rfl _ _ 84 rfl (w.1.size + 1) 9 i0 (.string ⟨#[]⟩) 1 Tryz.underlying84 HI.out.1 HI.out.2.1 HI.out.2.2.1 _ _ _ ps.length rfl (by first | rfl | simp) rfl (by rw [HI.out.2.2.2]; omega) (by unfold maxLen; omega) (by simp) ?_; intro w1 pV pN; have rM : Below (w.alloc (.cells #[.int .u8 cls, .int .u8 ctr, .string org, .slice a ps.length cap] 34)).1.size (w.alloc (.cells #[.int .u8 cls, .int .u8 ctr, .string org, .slice a ps.length cap] 34)) w1 := (Z9 _ _).grown pN (Z1 _) (fun _ e => by cases e); clear pN; have c1 := (rM.cell (p := ⟨w.1.size, 3, none⟩) (by simp)).trans c0)
 have hB : Below w.1.size w w1 := Z0m (Z9 _ w) (Z1 _) rM
 have wF := rM.size
 simp only [Z6] at wF
 clear c1 c0 rM
 go_loopw [6, 16] (fun l i wr => ∃ k : Nat, k <= ps.length /\ i = .int .i64 k /\ Below w.1.size w wr /\ w.1.size + 1 <= wr.1.size /\ wr.ownsRow (w.1.size + 1) 9 1 l k ((Z06 (ps.take k)).map Value.string)) (fun _ i _ => ps.length - (intOf i).toNat)
 case atStart => exact ⟨0, ZE _, rfl, hB, by omega, by simpa [Z06] using pV⟩
 case round =>
  clear hB pV
  obtain ⟨k, hk, rfl, hB, hz, hO⟩ := hrel
  by_cases pD : k < ps.length
  ·obtain ⟨g, off, rfl, hg, pG⟩ := wE.out (by omega)
   have hp := (pG k pD).below hB hg
   have pK := Z7d ps pD
   obtain ⟨p, pM⟩ : ∃ p, p = ps[k] := ⟨_, rfl⟩
   rw [<- pM] at hp pK
   have pY := Z0 pK
   obtain ⟨id, pt, cd, gr, br⟩ := p
   obtain ⟨p0, p1, p2, p3, p4⟩ := hp
   dsimp only at p0 p1 p2 p3 p4
   clear pG pK pM
   have uE := (hO.alloc (.cells #[.int .i64 id, .int .i64 pt, .string cd, .int .i64 gr, .bool br] 65)).alloc (.cells #[.string cd] 9)
   have uF := Z0 uE
   clear uE
   rcases Joins.ownsRow_forms hO with ⟨rfl, uG⟩ | ⟨g2, cap2, rfl⟩
   ·have HP := Z0 uG
    clear uG
    go_wp2_with (at_builtin; refine wpList_append_own _ rfl _ _ 84 rfl (w.1.size + 1) 9 i0 (.string ⟨#[]⟩) 1 16 Tryz.underlying84 HI.out.1 HI.out.2.1 HI.out.2.2.1 HI.out.2.2.2 rfl (by decide) _ _ _ rfl uF.out ⟨wr.1.size + 1, 0, none⟩ 1 1 [.string cd] rfl (by simp) (by simpa using cell_one_new (wr.alloc (.cells #[.int .i64 id, .int .i64 pt, .string cd, .int .i64 gr, .bool br] 65)) (.string cd) 9) (by simp [Value.oneCell']) (by unfold maxLen; omega) (by omega) (by simp; omega) ?_; intro v' w5 qP pN _)
    go_roundw
    case rel =>
     refine ⟨k + 1, by omega, by go_num, ?_, ?_, ?_⟩
     ·exact ((hB.alloc hB.size _).alloc (by have := hB.size; simp; omega) _).grown pN (by have := hB.size; simp; omega) (fun r e => by have := (hO.lt r e).1; omega)
     ·have := pN.size; simp at this; omega
     ·rw [pY.out]
      exact qP
    case measure => simp [intOf]; omega
   ·go_wp2_with (at_builtin; refine wpList_append_own _ rfl _ _ 84 rfl (w.1.size + 1) 9 i0 (.string ⟨#[]⟩) 1 16 Tryz.underlying84 HI.out.1 HI.out.2.1 HI.out.2.2.1 HI.out.2.2.2 rfl (by decide) _ _ _ rfl uF.out ⟨wr.1.size + 1, 0, none⟩ 1 1 [.string cd] rfl (by simp) (by simpa using cell_one_new (wr.alloc (.cells #[.int .i64 id, .int .i64 pt, .string cd, .int .i64 gr, .bool br] 65)) (.string cd) 9) (by simp [Value.oneCell']) (by unfold maxLen; omega) (by omega) (by simp; omega) ?_; intro v' w5 qP pN _)
    go_roundw
    case rel =>
     refine ⟨k + 1, by omega, by go_num, ?_, ?_, ?_⟩
     ·exact ((hB.alloc hB.size _).alloc (by have := hB.size; simp; omega) _).grown pN (by have := hB.size; simp; omega) (fun r e => by have := (hO.lt r e).1; omega)
     ·have := pN.size; simp at this; omega
     ·rw [pY.out]
      exact qP
    case measure => simp [intOf]; omega
  ·obtain rfl : k = ps.length := by omega
   rw [Kat] at hO
   have HO := Z0 hO
   have pW : (Z06 ps).length = ps.length := by unfold Z06; simp
   rcases Joins.ownsRow_forms hO with ⟨rfl, hp⟩ | ⟨g2, cap2, rfl⟩
   ·have qQ : ReadsT wr (.slice none 0 0) (Z06 ps) := ⟨none, 0, by rw [pW, hp], fun h0 => by rw [pW] at h0; omega⟩
    have qD := Z0 qQ
    have HP := Z0 hp
    clear qQ pW hO hp
    go_wp2_with (go_at_call 41; refine (sH.out _ _ hB qD.out).mono ?_; rintro e w6 ⟨a6, c6, rfl, qR, sI⟩)
    go_ret2
    exact ⟨_, _, rfl, Z01 hB hB.size qR, sI⟩
   ·have qQ : ReadsT wr (.slice (some ⟨g2, 0, none⟩) ps.length cap2) (Z06 ps) := ReadsT.of_row (base := w.1.size + 1) (by unfold OwnsT; rw [pW]; exact HO.out)
    have qD := Z0 qQ
    clear qQ pW hO
    go_wp2_with (go_at_call 41; refine (sH.out _ _ hB qD.out).mono ?_; rintro e w6 ⟨a6, c6, rfl, qR, sI⟩)
    go_ret2
    exact ⟨_, _, rfl, Z01 hB hB.size qR, sI⟩
noncomputable def Z4V (ls : List Lev) (m : Mai) (zs : List Int) (k : Pck) : Int := if (Z1I ls m zs).2 = 0 then (if (Z1I ls m zs).1 = true /\ Z5R k = true then 0 else 2) else (Z1I ls m zs).2
theorem Z8n {w w2 : World} {c1 c2 : Array Value} {t1 t2 : TypeId} (h : w2 = (w.alloc (.cells c1 t1)).alloc (.cells c2 t2)) :
 w2.1[w.1.size]? = some (.cells c1 t1 (0, 0)) /\ w2.1[w.1.size + 1]? = some (.cells c2 t2 (0, 0)) /\ w2.1.size = w.1.size + 1 + 1 /\ Below w.1.size w w2 := by
 rw [h]
 obtain ⟨a, ha⟩ : ∃ a, a = w.alloc (.cells c1 t1) := ⟨_, rfl⟩
 have za : a.1.size = w.1.size + 1 := by rw [ha, Z6]
 have na : a.1[w.1.size]? = some (.cells c1 t1 (0, 0)) := by rw [ha]; exact Z02 w _
 have nb : (a.alloc (.cells c2 t2)).1[w.1.size + 1]? = some (.cells c2 t2 (0, 0)) := by rw [<- za]; exact Z02 a _
 have ba : Below w.1.size w a := by rw [ha]; exact (Z9 _ w).alloc (Z1 _) _
 rw [<- ha]
 exact ⟨(ZB _ _ _ (by omega)).trans na, nb, by rw [Z6, za], ba.alloc (by omega) _⟩
theorem Z2o (ls : List Lev) (v vp vz : Value) (m : Mai) (zs : List Int) (k : Pck) (w : World) (hr : RdLevs w v ls) (hf : ∀ l ∈ ls, Z0x l) (hl : ls.length <= 100000) (pP : RdPces w vp m.ps) (h8 : 0 <= m.cls /\ m.cls <= 255 /\ 0 <= m.ctr /\ m.ctr <= 255)
 (qS : m.origin.size <= maxLen) (qT : m.ps.length <= 100000) (pQ : ∀ p ∈ m.ps, p.code.size <= maxLen) (hz : RdInts w vz zs) (qU : zs.length <= 1000000) :
 Calls Tryz.prog 29 #[v, Z0N m vp, vz, Z1R k] w fun e w' => e = .returned (.int .i64 (Z4V ls m zs k)) /\ Below w.1.size w w' := by
 have qI := Z0 (fun W (hW : Below w.1.size w W) => ZdF ls v vp vz m zs W (hr.below hW) hf hl (pP.below hW) h8 qS qT pQ (hz.below hW) qU)
 have qD := Z0 (fun W => ZcC k W)
 obtain ⟨ap, cp, rfl, _⟩ := pP
 have hA : Z4V ls m zs k = if (Z1I ls m zs).2 = 0 then (if (Z1I ls m zs).1 = true /\ Z5R k = true then 0 else 2) else (Z1I ls m zs).2 := by unfold Z4V; rfl
 obtain ⟨R, hR⟩ : ∃ R, R = Z1I ls m zs := ⟨_, rfl⟩
 rw [<- hR] at qI hA
 obtain ⟨vb, ve⟩ := R
 obtain ⟨A, qV⟩ : ∃ A, A = Z4V ls m zs k := ⟨_, rfl⟩
 obtain ⟨pb, uH⟩ : ∃ b, b = Z5R k := ⟨_, rfl⟩
 rw [<- uH] at qD hA
 rw [<- qV] at hA ⊢
 dsimp only at qI hA
 unfold Z0N Z1R at *
 obtain ⟨kp, kg, kb, kt⟩ := k
 obtain ⟨cls, ctr, org, ps⟩ := m
 dsimp only at *
 obtain ⟨w2, qE⟩ : ∃ w2, w2 = (w.alloc (.cells #[.int .u8 cls, .int .u8 ctr, .string org, .slice ap ps.length cp] 34)).alloc (.cells #[.int .i64 kp, .int .i64 kg, .int .i64 kb, .int .i64 kt] 37) := ⟨_, rfl⟩
 obtain ⟨g1, g2, z2, b2⟩ := Z8n qE
 obtain ⟨x0, x1, x2, x3⟩ := Z0r g1
 have uI := Z0 (fun (W : World) (hB : Below w2.1.size w2 W) => Z0r ((hB.block _ (by omega)).trans g2))
 have qJ := Z0 qE
 have pC := Z0 b2
 have qW := Z0 hA
 clear qE b2 z2 g1 g2 hA qV uH hR hr hf pQ hz
 by_cases he : ve = 0
 ·subst he
  cases vb
  ·have qX : Hid (A = 2) := Z0 (by have h := qW.out; simpa using h)
   go_enter Tryz.func29, Tryz.ntmps29
   go_upto_region 1 with fail
   rw [<- qJ.out]
   go_wp2_with (go_at_call 16; refine (qI.out _ pC.out).mono ?_; rintro e w3 ⟨rfl, pE⟩)
   go_ret
   rw [qX.out]
   exact ⟨rfl, Z01 pC.out pC.out.size pE⟩
  ·cases pb
   ·have qX : Hid (A = 2) := Z0 (by have h := qW.out; simpa using h)
    go_enter Tryz.func29, Tryz.ntmps29
    go_upto_region 1 with fail
    rw [<- qJ.out]
    go_wp2_with (first | (go_at_call 16; refine (qI.out _ pC.out).mono ?_; rintro e w3 ⟨rfl, pE⟩; obtain ⟨y0, y1, y2, y3⟩ := uI.out w3 pE) | (go_at_call 68; refine (qD.out w3).mono ?_; rintro e w4 ⟨rfl, pH⟩))
    go_ret
    rw [qX.out]
    exact ⟨rfl, Z01 (Z01 pC.out pC.out.size pE) (Z01 pC.out pC.out.size pE).size pH⟩
   ·have qX : Hid (A = 0) := Z0 (by have h := qW.out; simpa using h)
    go_enter Tryz.func29, Tryz.ntmps29
    go_upto_region 1 with fail
    rw [<- qJ.out]
    go_wp2_with (first | (go_at_call 16; refine (qI.out _ pC.out).mono ?_; rintro e w3 ⟨rfl, pE⟩; obtain ⟨y0, y1, y2, y3⟩ := uI.out w3 pE) | (go_at_call 68; refine (qD.out w3).mono ?_; rintro e w4 ⟨rfl, pH⟩))
    go_ret
    rw [qX.out]
    exact ⟨rfl, Z01 (Z01 pC.out pC.out.size pE) (Z01 pC.out pC.out.size pE).size pH⟩
 ·have qF : (ve != 0) = true := by simp [he]
  rw [if_neg he] at qW
  go_enter Tryz.func29, Tryz.ntmps29
  go_upto_region 1 with fail
  rw [<- qJ.out]
  go_wp2_with (go_at_call 16; refine (qI.out _ pC.out).mono ?_; rintro e w3 ⟨rfl, pE⟩)
  go_ret
  rw [qW.out]
  exact ⟨rfl, Z01 pC.out pC.out.size pE⟩
theorem ZeW {A B : World} (h : Below A.1.size A B) (row : Option Nat) : A.grownBy B row := ⟨h.os, h.tape, h.output, h.size, fun k hk _ => h.block k hk⟩
theorem Z4h {P : Program} (w : World) {ops : Array Oper} {rest : List Oper} {o : Oper} {a : Act} {Q : Exit -> Act -> World -> Prop} (qY : o.guard = none) (s x : Operand) (t : TypeId)
 (ho : o.op = .call { callee := .builtin .append, args := #[s, x], argTypes := #[t, t] })
 (base : Nat) (e : TypeId) (i : TypeInfo) (z : Value) (size bytes : Nat) (ht : P.underlying t = some (.slice e)) (hi : P.info? e = some i) (hz : i.zero = some z)
 (wG : i.size = size) (wH : i.bytes = bytes) (wI : z.cells.size = size) (wJ : 0 < size)
 (v : Value) (n : Nat) (xs : List Value) (hs : a.eval s = v) (pV : w.ownsRow base e size v n xs)
 (base2 : Nat) (v2 : Value) (m : Nat) (news : List Value) (hx : a.eval x = v2) (rN : w.ownsRow base2 e size v2 m news) (h1 : ∀ u ∈ news, u.oneCell' = true)
 (wK : n + m <= maxLen) (wL : (n + m) * bytes <= 140737488355328) (wM : base <= w.1.size)
 (h : ∀ v' w', w'.ownsRow base e size v' (n + m) (xs ++ news) -> w.grownBy w' v.ownBlock -> wpList P ops Q rest (a.put o.dst v') w') : wpList P ops Q (o :: rest) a w := by
 rcases Joins.ownsRow_forms rN with ⟨rfl, hm⟩ | ⟨g, cap, rfl⟩
 ·subst hm
  have qF : news = [] := Kag.1 (by have := rN.1; omega)
  subst qF
  have wN : ∃ b n' c, v = .slice b n' c /\ n' <= c := by
   obtain ⟨_, ⟨rfl, _⟩ | ⟨g, cap, cur, rfl, _, _, hc, _⟩⟩ := pV
   ·exact ⟨none, 0, 0, rfl, Z1 _⟩
   ·exact ⟨_, n, cap, rfl, hc⟩
  obtain ⟨b, n', c, rfl, qZ⟩ := wN
  refine wpList_plain qY fun K hK' => ?_
  have wO := run_append_nothing (P := P) w t t o.type e i ht hi b n' c qZ (.slice none 0 0) (Src.ofNil w ht 0)
  unfold Oper.wp
  simp [execOp, ho, resolve, invoke, builtin, hs, hx, wO, Result.andThen]
  refine hK' _ _ (h _ _ ?_ (ZeW (Z9 _ _) _))
  simpa using pV
 ·exact wpList_append_own w qY s x t ho base e i z size bytes ht hi hz wG wH wI wJ v n xs hs pV ⟨g, 0, none⟩ m cap news hx rN.1 (fun j u hj => rN.cells (g := g) rfl j u hj) h1 wK wL wM (fun v' w' h2 h3 _ => h v' w' h2 h3)
def OwnsX {α : Type} (T : TypeId) (n : Nat) (cf : α × Value -> List Value) (ids : α -> List Int) (w : World) (base : Nat) (v : Value) (xs : List α) : Prop :=
 ∃ L : List (α × Value), L.map Prod.fst = xs /\ (∀ p ∈ L, RowJ w base p.2 (ids p.1)) /\ w.ownsRow base T n v L.length (L.flatMap cf)
section
variable {α : Type} {T : TypeId} {n : Nat} {cf : α × Value -> List Value} {ids : α -> List Int} {w w' : World} {base : Nat} {v : Value} {xs : List α}
theorem OwnsX.nil (w : World) (base : Nat) : OwnsX T n cf ids w base (.slice none 0 0) [] := ⟨[], rfl, by simp, Kbb _ _ _ _⟩
theorem OwnsX.below (h : OwnsX T n cf ids w base v xs) (hb : Below w.1.size w w') : OwnsX T n cf ids w' base v xs := by
 obtain ⟨L, hL, h1, h2⟩ := h
 exact ⟨L, hL, fun p hp => (h1 p hp).below hb, Z09 h2 hb⟩
theorem OwnsX.mono {base' : Nat} (h : OwnsX T n cf ids w base v xs) (hb : base' <= base) : OwnsX T n cf ids w base' v xs := by
 obtain ⟨L, hL, h1, h2⟩ := h
 exact ⟨L, hL, fun p hp => (h1 p hp).mono hb, Z60 h2 hb⟩
theorem OwnsX.form (h : OwnsX T n cf ids w base v xs) : ∃ a cap, v = .slice a xs.length cap := by
 obtain ⟨L, rfl, _, ho⟩ := h
 rw [Z7]
 exact Z0F ho
theorem OwnsX.beside {row : Option Nat} (h : OwnsX T n cf ids w base v xs) (hg : w.grownBy w' row) (h1 : ∀ g, row = some g -> ∀ cur fr, w.1[g]? ≠ some (.cells cur T fr)) (h2 : ∀ g, row = some g -> ∀ cur fr, w.1[g]? ≠ some (.cells cur 3 fr)) : OwnsX T n cf ids w' base v xs := by
 obtain ⟨L, hL, h3, h4⟩ := h
 exact ⟨L, hL, fun p hp => (h3 p hp).kept hg (fun g e => .inr (h2 g e)), Z0w h4 hg h1⟩
theorem OwnsX.not (h : OwnsX T n cf ids w base v xs) {T' : TypeId} (hT : T' ≠ T) : ∀ g, v.ownBlock = some g -> ∀ cur fr, w.1[g]? ≠ some (.cells cur T' fr) := by
 obtain ⟨L, hL, h3, h4⟩ := h
 exact Z0q h4 hT
theorem OwnsX.app {L L2 : List (α × Value)} {w2 : World} {v' : Value} (hT : 3 ≠ T) (hr : ∀ p ∈ L, RowJ w base p.2 (ids p.1)) (wP : ∀ p ∈ L2, RowJ w base p.2 (ids p.1)) (hO : w.ownsRow base T n v L.length (L.flatMap cf)) (hg : w.grownBy w2 v.ownBlock)
 (ho : w2.ownsRow base T n v' (L.length + L2.length) (L.flatMap cf ++ L2.flatMap cf)) : OwnsX T n cf ids w2 base v' (L.map Prod.fst ++ L2.map Prod.fst) := by
 have nA := Z0q hO hT
 refine ⟨L ++ L2, by rw [ZD], fun p hp => ?_, ?_⟩
 ·rcases ZG.1 hp with hp | hp
  ·exact (hr p hp).kept hg (fun g e => .inr (nA g e))
  ·exact (wP p hp).kept hg (fun g e => .inr (nA g e))
 ·rw [Kai, ZC]
  exact ho
end
def Z4Z (p : Tra × Value) : List Value := [.int .i64 p.1.lvl, .string p.1.grp, p.2]
def Z5s (p : Con × Value) : List Value := [.int .i64 p.1.lvl, p.2]
structure LodW (w : World) (T base : Nat) (bs : List Bun) (ts : List Tra) (cs : List Con) (vb vt vc : Value) : Prop where
 cell : w.1[T]? = some (.cells #[vb, vt, vc] 52 (0, 0))
 b : OwnsX 67 4 Z1H (fun b => b.ids) w base vb bs
 t : OwnsX 112 3 Z4Z (fun t => t.bs) w base vt ts
 c : OwnsX 114 2 Z5s (fun c => c.ts) w base vc cs
section
variable {w w' w2 : World} {T base : Nat} {bs bs' : List Bun} {ts ts' : List Tra} {cs cs' : List Con} {vb vt vc vb' vt' vc' : Value}
theorem LodW.lt (h : LodW w T base bs ts cs vb vt vc) : T < w.1.size := (Z5.1 h.cell).1
theorem LodW.below (h : LodW w T base bs ts cs vb vt vc) (hb : Below w.1.size w w') : LodW w' T base bs ts cs vb vt vc :=
 ⟨(hb.block T h.lt).trans h.cell, h.b.below hb, h.t.below hb, h.c.below hb⟩
theorem cells3 {w : World} {g : Nat} {a b c : Value} {t : TypeId} {fr : Nat × Nat} (h : w.1[g]? = some (.cells #[a, b, c] t fr)) : w.cell? ⟨g, 0, none⟩ = some a /\ w.cell? ⟨g, 1, none⟩ = some b /\ w.cell? ⟨g, 2, none⟩ = some c :=
 ⟨Kaa _ _ 0 _ _ _ h, Kaa _ _ 1 _ _ _ h, Kaa _ _ 2 _ _ _ h⟩
theorem Zdy {w : World} {g : Nat} {a b c u : Value} {t : TypeId} {fr : Nat × Nat} (h : w.1[g]? = some (.cells #[a, b, c] t fr)) :
 (w.setCell ⟨g, 0, none⟩ u).1[g]? = some (.cells #[u, b, c] t fr) /\ (w.setCell ⟨g, 1, none⟩ u).1[g]? = some (.cells #[a, u, c] t fr) /\ (w.setCell ⟨g, 2, none⟩ u).1[g]? = some (.cells #[a, b, u] t fr) := by
 refine ⟨?_, ?_, ?_⟩ <;> simp [World.setCell, Kap, h]
theorem Z0u {w : World} {g : Nat} {cs : Array Value} (h : w.1[g]? = some (.cells cs 52 (0, 0))) {T' : TypeId} (hT : T' ≠ 52) : ∀ k, some g = some k -> ∀ cur fr, w.1[k]? ≠ some (.cells cur T' fr) := fun k e cur fr hk => by
 obtain rfl := Kav e
 rw [h] at hk
 injection hk with hk
 injection hk with _ hk _
 exact hT hk.symm
theorem LodW.setB (h : LodW w T base bs ts cs vb vt vc) (hg : w.grownBy w2 vb.ownBlock) (hb : OwnsX 67 4 Z1H (fun b => b.ids) w2 base vb' bs') : LodW (w2.setCell ⟨T, 0, none⟩ vb') T base bs' ts cs vb' vt vc /\ w2.frozen? ⟨T, 0, none⟩ = false /\ w2.cell? ⟨T, 0, none⟩ = some vb := by
 have h2 : w2.1[T]? = some (.cells #[vb, vt, vc] 52 (0, 0)) := (hg.block T h.lt (fun e => h.b.not (T' := 52) (by decide) T e.symm _ _ h.cell)).trans h.cell
 have hs := Z0I w2 ⟨T, 0, none⟩ vb'
 exact ⟨⟨(Zdy h2).1, hb.beside hs (Z0u h2 (by decide)) (Z0u h2 (by decide)), (h.t.beside hg (h.b.not (by decide)) (h.b.not (by decide))).beside hs (Z0u h2 (by decide)) (Z0u h2 (by decide)), (h.c.beside hg (h.b.not (by decide)) (h.b.not (by decide))).beside hs (Z0u h2 (by decide)) (Z0u h2 (by decide))⟩, Z2t h2, (cells3 h2).1⟩
theorem LodW.setT (h : LodW w T base bs ts cs vb vt vc) (hg : w.grownBy w2 vt.ownBlock) (hb : OwnsX 112 3 Z4Z (fun t => t.bs) w2 base vt' ts') : LodW (w2.setCell ⟨T, 1, none⟩ vt') T base bs ts' cs vb vt' vc /\ w2.frozen? ⟨T, 1, none⟩ = false /\ w2.cell? ⟨T, 1, none⟩ = some vt := by
 have h2 : w2.1[T]? = some (.cells #[vb, vt, vc] 52 (0, 0)) := (hg.block T h.lt (fun e => h.t.not (T' := 52) (by decide) T e.symm _ _ h.cell)).trans h.cell
 have hs := Z0I w2 ⟨T, 1, none⟩ vt'
 exact ⟨⟨(Zdy h2).2.1, (h.b.beside hg (h.t.not (by decide)) (h.t.not (by decide))).beside hs (Z0u h2 (by decide)) (Z0u h2 (by decide)), hb.beside hs (Z0u h2 (by decide)) (Z0u h2 (by decide)), (h.c.beside hg (h.t.not (by decide)) (h.t.not (by decide))).beside hs (Z0u h2 (by decide)) (Z0u h2 (by decide))⟩, Z2t h2, (cells3 h2).2.1⟩
theorem LodW.setC (h : LodW w T base bs ts cs vb vt vc) (hg : w.grownBy w2 vc.ownBlock) (hb : OwnsX 114 2 Z5s (fun c => c.ts) w2 base vc' cs') : LodW (w2.setCell ⟨T, 2, none⟩ vc') T base bs ts cs' vb vt vc' /\ w2.frozen? ⟨T, 2, none⟩ = false /\ w2.cell? ⟨T, 2, none⟩ = some vc := by
 have h2 : w2.1[T]? = some (.cells #[vb, vt, vc] 52 (0, 0)) := (hg.block T h.lt (fun e => h.c.not (T' := 52) (by decide) T e.symm _ _ h.cell)).trans h.cell
 have hs := Z0I w2 ⟨T, 2, none⟩ vc'
 exact ⟨⟨(Zdy h2).2.2, (h.b.beside hg (h.c.not (by decide)) (h.c.not (by decide))).beside hs (Z0u h2 (by decide)) (Z0u h2 (by decide)), (h.t.beside hg (h.c.not (by decide)) (h.c.not (by decide))).beside hs (Z0u h2 (by decide)) (Z0u h2 (by decide)), hb.beside hs (Z0u h2 (by decide)) (Z0u h2 (by decide))⟩, Z2t h2, (cells3 h2).2.2⟩
end
theorem Z21 {P : Program} {fn : Func} {p q : Tmp} {ty : TypeId} (h : fn.results = #[.cell p ty, .tmp q]) (tmps : Array Value) (w : World) (g : Nat) (t : TypeId) (cs : Array Value) (fr : Nat × Nat) (d : TypeDesc) (z : Value)
 (hp : tmps.getD p undef = .pointer (some ⟨g, 0, none⟩)) (hq : tmps.getD q undef = z) (hg : w.1[g]? = some (.cells cs t fr))
 (hu : P.underlying ty = some d) (hd : (match d with | .struct _ | .array _ _ => true | _ => false) = true) (hi : (P.info? ty).map (·.size) = some cs.size) :
 (results fn tmps).run P w = .ok (.tuple #[.agg cs, z]) w := by
 have hp' : tmps[p]?.getD undef = .pointer (some ⟨g, 0, none⟩) := by simpa using hp
 have hq' : tmps[q]?.getD undef = z := by simpa using hq
 simp [results, h, hp', hq', asAddr, run_loadVar_row w g t ty cs fr d hg hu hd hi]
theorem ZaA {w : World} {g : Nat} {a b c a' b' c' : Value} {t : TypeId} {fr : Nat × Nat} (h : w.1[g]? = some (.cells #[a, b, c] t fr)) :
 (((w.setCell ⟨g, 0, none⟩ a').setCell ⟨g, 1, none⟩ b').setCell ⟨g, 2, none⟩ c').1[g]? = some (.cells #[a', b', c'] t fr) := (Zdy (Zdy (Zdy h).1).2.1).2.2
def Zc8 (vb vt vc : Value) : Value := .agg #[vb, vt, vc]
def Z6H : Value := .agg #[.slice none 0 0, .slice none 0 0, .slice none 0 0]
theorem ZhN (ls : List Lev) (v vp vz : Value) (m : Mai) (zs : List Int) (k : Pck) (w : World) (hr : RdLevs w v ls) (hf : ∀ l ∈ ls, Z0x l) (hl : ls.length <= 100000) (pP : RdPces w vp m.ps) (h8 : 0 <= m.cls /\ m.cls <= 255 /\ 0 <= m.ctr /\ m.ctr <= 255)
 (qS : m.origin.size <= maxLen) (qT : m.ps.length <= 100000) (pQ : ∀ p ∈ m.ps, p.code.size <= maxLen) (hz : RdInts w vz zs) (qU : zs.length <= 1000000) (qF : Z4V ls m zs k ≠ 0) :
 Calls Tryz.prog 12 #[v, Z0N m vp, vz, Z1R k] w fun e w' => e = .returned (.tuple #[Z6H, .int .i64 (Z4V ls m zs k)]) /\ Below w.1.size w w' := by
 have pZ := Z0 (fun W (hW : Below w.1.size w W) => Z2o ls v vp vz m zs k W (hr.below hW) hf hl (pP.below hW) h8 qS qT pQ (hz.below hW) qU)
 obtain ⟨A, qV⟩ : ∃ A, A = Z4V ls m zs k := ⟨_, rfl⟩
 rw [<- qV] at pZ qF ⊢
 unfold Z0N Z1R Z6H at *
 obtain ⟨kp, kg, kb, kt⟩ := k
 obtain ⟨cls, ctr, org, ps⟩ := m
 dsimp only at *
 obtain ⟨w3, pJ⟩ : ∃ w3, w3 = ((w.alloc (.cells #[.int .u8 cls, .int .u8 ctr, .string org, vp] 34)).alloc (.cells #[.int .i64 kp, .int .i64 kg, .int .i64 kb, .int .i64 kt] 37)).alloc (.cells #[.slice none 0 0, .slice none 0 0, .slice none 0 0] 52) := ⟨_, rfl⟩
 obtain ⟨g1, g2, g3⟩ := Z5L pJ
 have rA : w3.1.size = w.1.size + 1 + 1 + 1 := by rw [pJ, Z6, Z6, Z6]
 have pE : Below w.1.size w w3 := by
  rw [pJ]
  exact (((Z9 _ w).alloc (Z1 _) _).alloc (by simp) _).alloc (by simp; omega) _
 obtain ⟨x0, x1, x2, x3⟩ := Z0r g1
 obtain ⟨y0, y1, y2, y3⟩ := Z0r g2
 have rB := Z0 (fun (W : World) (hB : Below w3.1.size w3 W) => (hB.block _ (by omega)).trans g3)
 have rC := Z0 (fun (W : World) (hB : Below w3.1.size w3 W) => (fun j => Z2t (i := j) ((hB.block _ (by omega)).trans g3) : ∀ j, W.frozen? ⟨w.1.size + 1 + 1, j, none⟩ = false))
 have rD := Z0 pJ
 have pA := Z0 pE
 have yL := Z0 qF
 have hq : (A != 0) = true := by simp [qF]
 clear pJ pE rA g1 g2 g3 qV hr hf pQ hz pP qF
 go_enter Tryz.func12, Tryz.ntmps12
 go_upto_region 1 with fail
 rw [<- rD.out]
 go_wp2_with (go_at_call 29; refine (pZ.out _ pA.out).mono ?_; rintro e w4 ⟨rfl, pH⟩; obtain ⟨c0, c1, c2⟩ := cells3 (rB.out w4 pH); have z0 := rC.out w4 pH 0; have z1 := rC.out w4 pH 1; have z2 := rC.out w4 pH 2)
 refine bodyPost_ret (Z21 rfl _ _ (w.1.size + 1 + 1) 52 _ (0, 0) _ (.int .i64 A) rfl rfl (ZaA (rB.out w4 pH)) Tryz.underlying52 rfl (by kernel_rfl)) rfl ?_
 have sJ := Z01 pA.out pA.out.size pH
 exact ⟨rfl, ((sJ.setCell (p := ⟨w.1.size + 1 + 1, 0, none⟩) (Kbr _ 2) _).setCell (p := ⟨w.1.size + 1 + 1, 1, none⟩) (Kbr _ 2) _).setCell (p := ⟨w.1.size + 1 + 1, 2, none⟩) (Kbr _ 2) _⟩
theorem Zew (ls : List Lev) (v vp vz : Value) (m : Mai) (zs : List Int) (k : Pck) (w : World) (hr : RdLevs w v ls) (hf : ∀ l ∈ ls, Z0x l) (hl : ls.length <= 100000) (pP : RdPces w vp m.ps) (h8 : 0 <= m.cls /\ m.cls <= 255 /\ 0 <= m.ctr /\ m.ctr <= 255)
 (qS : m.origin.size <= maxLen) (qT : m.ps.length <= 100000) (pQ : ∀ p ∈ m.ps, p.code.size <= maxLen) (hz : RdInts w vz zs) (qU : zs.length <= 1000000) (hA : Z4V ls m zs k = 0) (hv : ∃ p ∈ m.ps, k.grams < p.grams) :
 Calls Tryz.prog 12 #[v, Z0N m vp, vz, Z1R k] w fun e w' => e = .returned (.tuple #[Z6H, .int .i64 3]) /\ Below w.1.size w w' := by
 have pZ := Z0 (fun W (hW : Below w.1.size w W) => Z2o ls v vp vz m zs k W (hr.below hW) hf hl (pP.below hW) h8 qS qT pQ (hz.below hW) qU)
 rw [hA] at pZ
 have yM := Z0 pP
 obtain ⟨av, cv, rfl, rE⟩ := pP
 have rO := Z0 rE
 unfold Z0N Z1R Z6H at *
 obtain ⟨kp, kg, kb, kt⟩ := k
 obtain ⟨cls, ctr, org, ps⟩ := m
 dsimp only at *
 obtain ⟨w3, pJ⟩ : ∃ w3, w3 = ((w.alloc (.cells #[.int .u8 cls, .int .u8 ctr, .string org, .slice av ps.length cv] 34)).alloc (.cells #[.int .i64 kp, .int .i64 kg, .int .i64 kb, .int .i64 kt] 37)).alloc (.cells #[.slice none 0 0, .slice none 0 0, .slice none 0 0] 52) := ⟨_, rfl⟩
 obtain ⟨g1, g2, g3⟩ := Z5L pJ
 have rA : w3.1.size = w.1.size + 1 + 1 + 1 := by rw [pJ, Z6, Z6, Z6]
 have pE : Below w.1.size w w3 := by
  rw [pJ]
  exact (((Z9 _ w).alloc (Z1 _) _).alloc (by simp) _).alloc (by simp; omega) _
 obtain ⟨x0, x1, x2, x3⟩ := Z0r g1
 obtain ⟨y0, y1, y2, y3⟩ := Z0r g2
 have uJ := Z0 (show w.1.size < w3.1.size /\ w.1.size + 1 < w3.1.size by omega)
 have rB := Z0 (fun (W : World) (hB : Below w3.1.size w3 W) => (hB.block _ (by omega)).trans g3)
 have rC := Z0 (fun (W : World) (hB : Below w3.1.size w3 W) => (fun j => Z2t (i := j) ((hB.block _ (by omega)).trans g3) : ∀ j, W.frozen? ⟨w.1.size + 1 + 1, j, none⟩ = false))
 have rD := Z0 pJ
 have pA := Z0 pE
 have HV := Z0 hv
 clear pJ pE rA g1 g2 g3 hA hr hf pQ hz rE hv
 go_enter Tryz.func12, Tryz.ntmps12
 go_upto_region 1 with fail
 rw [<- rD.out]
 have uK := Z0 (fun (W : World) (hB : Below w3.1.size w3 W) => (⟨(hB.cell (p := ⟨w.1.size, 3, none⟩) uJ.out.1).trans x3, (hB.cell (p := ⟨w.1.size + 1, 1, none⟩) uJ.out.2).trans y1⟩ : W.cell? ⟨w.1.size, 3, none⟩ = some (.slice av ps.length cv) /\ W.cell? ⟨w.1.size + 1, 1, none⟩ = some (.int .i64 kg)))
 go_wp2_with (go_at_call 29; refine (pZ.out _ pA.out).mono ?_; rintro e w4 ⟨rfl, pH⟩; obtain ⟨f3, f1⟩ := uK.out w4 pH)
 go_loopw [37] (fun i wx => ∃ j : Nat, j <= ps.length /\ i = .int .i64 j /\ Below w3.1.size w3 wx /\ ∀ q (h : q < ps.length), q < j -> ps[q].grams <= kg) (fun i _ => ps.length - (intOf i).toNat)
 case atStart => exact ⟨0, ZE _, rfl, pH, fun q _ h => absurd h (Ka2 _)⟩
 case round =>
  clear f3 f1 pH x0 x1 x2 x3 y0 y1 y2 y3
  obtain ⟨j, hj, rfl, hB, pL⟩ := hrel
  have qK := Z0 pL
  have pI := Z0 hB
  clear pL
  by_cases pD : j < ps.length
  ·obtain ⟨g, off, rfl, hg, pG⟩ := rO.out (by omega)
   have hp := ((pG j pD).below pA.out hg).below hB (ZH hg pA.out.size)
   obtain ⟨p, pM⟩ : ∃ p, p = ps[j] := ⟨_, rfl⟩
   have sK := Z0 pM
   rw [<- pM] at hp
   obtain ⟨id, pt, cd, gr, br⟩ := p
   obtain ⟨p0, p1, p2, p3, p4⟩ := hp
   dsimp only at p0 p1 p2 p3 p4
   obtain ⟨f3, f1⟩ := uK.out (wr.alloc (.cells #[.int .i64 id, .int .i64 pt, .string cd, .int .i64 gr, .bool br] 65)) (hB.alloc hB.size _)
   clear pM pG hB
   by_cases yN : gr > kg
   ·obtain ⟨c0, c1, c2⟩ := cells3 (rB.out (wr.alloc (.cells #[.int .i64 id, .int .i64 pt, .string cd, .int .i64 gr, .bool br] 65)) (pI.out.alloc pI.out.size _))
    have z := rC.out (wr.alloc (.cells #[.int .i64 id, .int .i64 pt, .string cd, .int .i64 gr, .bool br] 65)) (pI.out.alloc pI.out.size _)
    have z0 := z 0
    have z1 := z 1
    have z2 := z 2
    clear z
    go_wp2_with fail
    refine bodyPost_ret (Z21 rfl _ _ (w.1.size + 1 + 1) 52 _ (0, 0) _ (.int .i64 3) rfl rfl (ZaA (rB.out _ (pI.out.alloc pI.out.size _))) Tryz.underlying52 rfl (by kernel_rfl)) rfl ?_
    have sJ := Z01 pA.out pA.out.size (pI.out.alloc pI.out.size (.cells #[.int .i64 id, .int .i64 pt, .string cd, .int .i64 gr, .bool br] 65))
    exact ⟨rfl, ((sJ.setCell (p := ⟨w.1.size + 1 + 1, 0, none⟩) (Kbr _ 2) _).setCell (p := ⟨w.1.size + 1 + 1, 1, none⟩) (Kbr _ 2) _).setCell (p := ⟨w.1.size + 1 + 1, 2, none⟩) (Kbr _ 2) _⟩
   ·go_wp2_with fail
    go_roundw
    case rel =>
     refine ⟨j + 1, by omega, by go_num, pI.out.alloc pI.out.size _, fun q hq yO => ?_⟩
     by_cases e : q = j
     ·subst e
      rw [<- sK.out]
      show gr <= kg
      omega
     ·exact qK.out q hq (by omega)
    case measure => simp [intOf]; omega
  ·obtain ⟨p, hp, uL⟩ := HV.out
   obtain ⟨q, hq, wQ⟩ := Kau.1 hp
   have := qK.out q hq (by omega)
   rw [wQ] at this
   omega
theorem Tryz.infoTr : (Tryz.prog.info? 112).map (fun i => (i.zero, i.size, i.bytes)) = some (some (.agg #[.int .i64 0, .string ⟨#[]⟩, .slice none 0 0]), 3, 48) := by kernel_rfl
theorem Tryz.infoCo : (Tryz.prog.info? 114).map (fun i => (i.zero, i.size, i.bytes)) = some (some (.agg #[.int .i64 0, .slice none 0 0]), 2, 32) := by kernel_rfl
def Z4Y (x : Grp) (l : List Int) : Tra := ⟨x.lvl, x.name, l⟩
def Z7E (x : Grp) (l : List Int) : Con := ⟨x.lvl, l⟩
theorem Zgk {k : Pck} {ps : List Pce} {zs : List Int} {Gs : List Grp} {j : Nat} (hj : j < Gs.length) (he : Z39 Gs j) {st : PkS} (sL : st = Z24 k ps zs Gs j) {bs : List Bun} (qG : bs = st.buns ++ Z0S k ps zs Gs[j]) {ts : List Tra} (sM : ts = st.tras ++ (Z0O st.buns.length bs.length k.bundles.toNat).map (Z4Y Gs[j])) :
 Z24 k ps zs Gs (j + 1) = ⟨bs, ts, st.cons ++ (Z0O st.beg ts.length k.trays.toNat).map (Z7E Gs[j]), ts.length⟩ := by
 rw [Z4u, <- sL]
 unfold Z5C
 rw [dif_pos hj]
 dsimp only
 rw [<- qG]
 have e : (fun l => (⟨Gs[j].lvl, Gs[j].name, l⟩ : Tra)) = Z4Y Gs[j] := rfl
 rw [e, <- sM, if_pos he]
 rfl
theorem Zgl {k : Pck} {ps : List Pce} {zs : List Int} {Gs : List Grp} {j : Nat} (hj : j < Gs.length) (he : ¬ Z39 Gs j) {st : PkS} (sL : st = Z24 k ps zs Gs j) {bs : List Bun} (qG : bs = st.buns ++ Z0S k ps zs Gs[j]) {ts : List Tra} (sM : ts = st.tras ++ (Z0O st.buns.length bs.length k.bundles.toNat).map (Z4Y Gs[j])) :
 Z24 k ps zs Gs (j + 1) = ⟨bs, ts, st.cons, st.beg⟩ := by
 rw [Z4u, <- sL]
 unfold Z5C
 rw [dif_pos hj]
 dsimp only
 rw [<- qG]
 have e : (fun l => (⟨Gs[j].lvl, Gs[j].name, l⟩ : Tra)) = Z4Y Gs[j] := rfl
 rw [e, <- sM, if_neg he]
theorem ZgP {Gs : List Grp} {j : Nat} : Z39 Gs j ↔ ¬ ∃ h : j + 1 < Gs.length, Gs[j + 1].lvl = (Gs[j]'(by omega)).lvl := by
 unfold Z39
 constructor
 ·rintro h ⟨h1, h2⟩; exact h h1 h2
 ·intro h h1 h2; exact h ⟨h1, h2⟩
theorem OwnsLL.lies {w : World} {base : Nat} {v : Value} {ts : List (List Int)} (h : OwnsLL w base v ts) : ∃ a cap, v = .slice a ts.length cap /\ (0 < ts.length -> ∃ g, a = some ⟨g, 0, none⟩ /\ g < w.1.size /\ ∀ i (h : i < ts.length), ∃ s, w.cell? ⟨g, i, none⟩ = some s /\ RowJ w base s ts[i]) := by
 obtain ⟨L, rfl, h1, h2⟩ := h
 rcases Joins.ownsRow_forms h2 with ⟨rfl, hp⟩ | ⟨g, cap, rfl⟩
 ·exact ⟨none, 0, by rw [Z7, hp], fun h0 => by rw [Z7, hp] at h0; omega⟩
 ·refine ⟨_, cap, by rw [Z7], fun h0 => ⟨g, rfl, (h2.lt g rfl).2, fun i hi => ?_⟩⟩
  rw [Z7] at hi
  have hc := h2.cellAt i (by rw [Kdf]; exact hi)
  rw [Kal, Z3 hi] at hc
  refine ⟨_, hc, ?_⟩
  rw [Kba]
  exact h1 _ (Z4 hi)
theorem Ze3 {w : World} {base : Nat} {v : Value} {zs : List Int} (h : RowJ w base v zs) : v.oneCell' = true := by
 obtain ⟨a, cap, rfl, _⟩ := h
 rfl
theorem Zii {w : World} {base : Nat} {L : List (Bun × Value)} (h : ∀ p ∈ L, RowJ w base p.2 p.1.ids) : ∀ u ∈ L.flatMap Z1H, u.oneCell' = true := fun u hu => by
 obtain ⟨p, hp, hu⟩ := Ka5.1 hu
 have h1 := Ze3 (h p hp)
 simp only [Z1H, Kbf, Kda, or_false] at hu
 rcases hu with rfl | rfl | rfl | rfl
 ·rfl
 ·rfl
 ·exact h1
 ·rfl
theorem RdGrps.lies {w : World} {a : Option Addr} {n cap : Nat} {gs : List Grp} (h : RdGrps w (.slice a n cap) gs) : 0 < gs.length -> ∃ g off, a = some ⟨g, off, none⟩ /\ g < w.1.size /\ ∀ i (h : i < gs.length), ∃ sv, RdInts w sv gs[i].items /\ GrpAt w g (off + i * 4) gs[i] sv := by
 obtain ⟨a', cap', hv, hc⟩ := h
 injection hv with h1 h2 h3
 subst h1
 exact hc
theorem Zfz (wr W6 w : World) (x : Grp) (sv sy : Value) (gy o : Nat) (hB : Below w.1.size w wr) (hb : Below W6.1.size W6 wr) (wR : gy < W6.1.size) (hy : GrpAt W6 gy o x sy) (t : TypeId) :
 ∃ Wq N, wr.alloc (.cells #[.int .i64 x.lvl, .string x.name, .int .i64 x.up, sv] t) = Wq /\ wr.1.size = N /\ Below w.1.size w Wq /\ Below W6.1.size W6 Wq /\ GrpAt Wq gy o x sy /\ Wq.cell? ⟨N, 0, none⟩ = some (.int .i64 x.lvl) /\ Wq.cell? ⟨N, 1, none⟩ = some (.string x.name) /\ Wq.cell? ⟨N, 2, none⟩ = some (.int .i64 x.up) /\ Wq.cell? ⟨N, 3, none⟩ = some sv := by
 have b1 := hB.alloc hB.size (.cells #[.int .i64 x.lvl, .string x.name, .int .i64 x.up, sv] t)
 have b2 := hb.alloc hb.size (.cells #[.int .i64 x.lvl, .string x.name, .int .i64 x.up, sv] t)
 refine ⟨_, _, rfl, rfl, b1, b2, hy.below b2 wR, Z0f wr _ t 0 _ rfl, Z0f wr _ t 1 _ rfl, Z0f wr _ t 2 _ rfl, Z0f wr _ t 3 _ rfl⟩
theorem Zh1 {α β : Type} {L L7 : List (α × β)} {xs ys zs : List α} (h : L.map Prod.fst = xs) (h7 : L7.map Prod.fst = ys) (hz : zs = xs ++ ys) : L.length = xs.length /\ L.length + L7.length = zs.length := by
 subst h h7 hz
 simp
theorem OwnsX.add {α : Type} {T : TypeId} {n : Nat} {cf : α × Value -> List Value} {ids : α -> List Int} {w w2 : World} {base : Nat} {v v' u : Value} {x : α} {L : List (α × Value)} {xs : List α} (hL : L.map Prod.fst = xs) (hT : 3 ≠ T) (hr : ∀ p ∈ L, RowJ w base p.2 (ids p.1)) (hu : RowJ w base u (ids x)) (hO : w.ownsRow base T n v L.length (L.flatMap cf)) (hg : w.grownBy w2 v.ownBlock)
 (ho : w2.ownsRow base T n v' (L.length + 1) (L.flatMap cf ++ cf (x, u))) : OwnsX T n cf ids w2 base v' (xs ++ [x]) := by
 have := OwnsX.app (L2 := [(x, u)]) hT hr (by simpa using hu) hO hg (by simpa using ho)
 rw [hL] at this
 exact this
theorem OwnsLL.beside {w w' : World} {base : Nat} {v : Value} {ts : List (List Int)} {row : Option Nat} (h : OwnsLL w base v ts) (hg : w.grownBy w' row) (h1 : ∀ g, row = some g -> ∀ cur fr, w.1[g]? ≠ some (.cells cur 35 fr)) (h2 : ∀ g, row = some g -> ∀ cur fr, w.1[g]? ≠ some (.cells cur 3 fr)) : OwnsLL w' base v ts := by
 obtain ⟨L, hL, h3, h4⟩ := h
 exact ⟨L, hL, fun p hp => (h3 p hp).kept hg (fun g e => .inr (h2 g e)), Z0w h4 hg h1⟩
theorem OwnsLL.at {w : World} {base n c : Nat} {a : Option Addr} {ts : List (List Int)} (h : OwnsLL w base (.slice a n c) ts) (h0 : 0 < ts.length) : ∃ g, a = some ⟨g, 0, none⟩ /\ g < w.1.size /\ ∀ i (h : i < ts.length), ∃ s, w.cell? ⟨g, i, none⟩ = some s /\ RowJ w base s ts[i] := by
 obtain ⟨a', cap, hv, hc⟩ := h.lies
 injection hv with h1 _ _
 subst h1
 exact hc h0
theorem OwnsLL.mono {w : World} {base base' : Nat} {v : Value} {ts : List (List Int)} (h : OwnsLL w base v ts) (hb : base' <= base) : OwnsLL w base' v ts := by
 obtain ⟨L, hL, h3, h4⟩ := h
 exact ⟨L, hL, fun p hp => (h3 p hp).mono hb, Z60 h4 hb⟩
structure PkW (wg wx : World) (N : Nat) (x : Grp) (sv : Value) (bs : List Bun) (ts : List Tra) (cs : List Con) (vb vt vc : Value) : Prop where
 b : Below wg.1.size wg wx
 l : LodW wx wg.1.size wg.1.size bs ts cs vb vt vc
 n : wx.1[N]? = some (.cells #[.int .i64 x.lvl, .string x.name, .int .i64 x.up, sv] 107 (0, 0))
section
variable {wg wx wy w2 : World} {N : Nat} {x : Grp} {sv : Value} {bs bs' : List Bun} {ts ts' : List Tra} {cs cs' : List Con} {vb vt vc vb' vt' vc' : Value}
theorem PkW.below (h : PkW wg wx N x sv bs ts cs vb vt vc) (hb : Below wx.1.size wx wy) : PkW wg wy N x sv bs ts cs vb vt vc :=
 ⟨h.b.trans (hb.mono h.b.size), h.l.below hb, (hb.block N (Z5.1 h.n).1).trans h.n⟩
theorem PkW.ne (h : PkW wg wx N x sv bs ts cs vb vt vc) : N ≠ wg.1.size := fun e => by
 have h1 := h.n
 rw [e, h.l.cell] at h1
 injection h1 with h1
 injection h1 with _ h1 _
 exact absurd h1 (by decide)
theorem Z4m {w : World} {a g : Nat} {k : Nat} {u : Value} (h : g ≠ a) : (w.setCell ⟨a, k, none⟩ u).1[g]? = w.1[g]? := by
 simp [World.setCell, Kap, Ne.symm h]
theorem PkW.addB (h : PkW wg wx N x sv bs ts cs vb vt vc) (hg : wx.grownBy w2 vb.ownBlock) (hb : OwnsX 67 4 Z1H (fun b => b.ids) w2 wg.1.size vb' bs') : PkW wg (w2.setCell ⟨wg.1.size, 0, none⟩ vb') N x sv bs' ts cs vb' vt vc /\ w2.frozen? ⟨wg.1.size, 0, none⟩ = false /\ w2.cell? ⟨wg.1.size, 0, none⟩ = some vb := by
 obtain ⟨h1, h2, h3⟩ := h.l.setB hg hb
 obtain ⟨L, _, _, hLo⟩ := h.l.b
 refine ⟨⟨(h.b.grown hg h.b.size (fun r e => (hLo.lt r e).1)).setCell (p := ⟨wg.1.size, 0, none⟩) (Z1 _) _, h1, ?_⟩, h2, h3⟩
 exact (Z4m h.ne).trans ((hg.block N (Z5.1 h.n).1 (fun e => h.l.b.not (T' := 107) (by decide) N e.symm _ _ h.n)).trans h.n)
theorem PkW.addT (h : PkW wg wx N x sv bs ts cs vb vt vc) (hg : wx.grownBy w2 vt.ownBlock) (hb : OwnsX 112 3 Z4Z (fun t => t.bs) w2 wg.1.size vt' ts') : PkW wg (w2.setCell ⟨wg.1.size, 1, none⟩ vt') N x sv bs ts' cs vb vt' vc /\ w2.frozen? ⟨wg.1.size, 1, none⟩ = false /\ w2.cell? ⟨wg.1.size, 1, none⟩ = some vt := by
 obtain ⟨h1, h2, h3⟩ := h.l.setT hg hb
 obtain ⟨L, _, _, hLo⟩ := h.l.t
 refine ⟨⟨(h.b.grown hg h.b.size (fun r e => (hLo.lt r e).1)).setCell (p := ⟨wg.1.size, 1, none⟩) (Z1 _) _, h1, ?_⟩, h2, h3⟩
 exact (Z4m h.ne).trans ((hg.block N (Z5.1 h.n).1 (fun e => h.l.t.not (T' := 107) (by decide) N e.symm _ _ h.n)).trans h.n)
theorem PkW.addC (h : PkW wg wx N x sv bs ts cs vb vt vc) (hg : wx.grownBy w2 vc.ownBlock) (hb : OwnsX 114 2 Z5s (fun c => c.ts) w2 wg.1.size vc' cs') : PkW wg (w2.setCell ⟨wg.1.size, 2, none⟩ vc') N x sv bs ts cs' vb vt vc' /\ w2.frozen? ⟨wg.1.size, 2, none⟩ = false /\ w2.cell? ⟨wg.1.size, 2, none⟩ = some vc := by
 obtain ⟨h1, h2, h3⟩ := h.l.setC hg hb
 obtain ⟨L, _, _, hLo⟩ := h.l.c
 refine ⟨⟨(h.b.grown hg h.b.size (fun r e => (hLo.lt r e).1)).setCell (p := ⟨wg.1.size, 2, none⟩) (Z1 _) _, h1, ?_⟩, h2, h3⟩
 exact (Z4m h.ne).trans ((hg.block N (Z5.1 h.n).1 (fun e => h.l.c.not (T' := 107) (by decide) N e.symm _ _ h.n)).trans h.n)
theorem PkW.rowsT (h : PkW wg wx N x sv bs ts cs vb vt vc) (hg : wx.grownBy w2 vt.ownBlock) {base : Nat} {v : Value} {R : List (List Int)} (ho : OwnsLL wx base v R) (u : Value) : OwnsLL (w2.setCell ⟨wg.1.size, 1, none⟩ u) base v R := by
 have h2 : w2.1[wg.1.size]? = some (.cells #[vb, vt, vc] 52 (0, 0)) := (hg.block _ h.l.lt (fun e => h.l.t.not (T' := 52) (by decide) _ e.symm _ _ h.l.cell)).trans h.l.cell
 exact (ho.beside hg (h.l.t.not (by decide)) (h.l.t.not (by decide))).beside (Z0I w2 ⟨wg.1.size, 1, none⟩ u) (Z0u h2 (by decide)) (Z0u h2 (by decide))
theorem PkW.rowsC (h : PkW wg wx N x sv bs ts cs vb vt vc) (hg : wx.grownBy w2 vc.ownBlock) {base : Nat} {v : Value} {R : List (List Int)} (ho : OwnsLL wx base v R) (u : Value) : OwnsLL (w2.setCell ⟨wg.1.size, 2, none⟩ u) base v R := by
 have h2 : w2.1[wg.1.size]? = some (.cells #[vb, vt, vc] 52 (0, 0)) := (hg.block _ h.l.lt (fun e => h.l.c.not (T' := 52) (by decide) _ e.symm _ _ h.l.cell)).trans h.l.cell
 exact (ho.beside hg (h.l.c.not (by decide)) (h.l.c.not (by decide))).beside (Z0I w2 ⟨wg.1.size, 2, none⟩ u) (Z0u h2 (by decide)) (Z0u h2 (by decide))
end
theorem Z8F {α : Type} {T : TypeId} {n : Nat} {cf : α × Value -> List Value} {ids : α -> List Int} {w : World} {base g : Nat} {v : Value} {xs : List α} {a b c a' b' c' : Value} (h : OwnsX T n cf ids w base v xs) (hT : T ≠ 52) (hg : w.1[g]? = some (.cells #[a, b, c] 52 (0, 0))) :
 OwnsX T n cf ids (((w.setCell ⟨g, 0, none⟩ a').setCell ⟨g, 1, none⟩ b').setCell ⟨g, 2, none⟩ c') base v xs :=
 ((h.beside (Z0I w ⟨g, 0, none⟩ a') (Z0u hg hT) (Z0u hg (by decide))).beside (Z0I _ ⟨g, 1, none⟩ b') (Z0u (Zdy hg).1 hT) (Z0u (Zdy hg).1 (by decide))).beside (Z0I _ ⟨g, 2, none⟩ c') (Z0u (Zdy (Zdy hg).1).2.1 hT) (Z0u (Zdy (Zdy hg).1).2.1 (by decide))
section
variable {α : Type} {n : Nat} {cf : α × Value -> List Value} {ids : α -> List Int} {w w' : World} {v : Value} {xs : List α}
theorem OwnsX.rd {T : TypeId} {base : Nat} (hf : ∀ p, (cf p).length = n) (h : OwnsX T n cf ids w base v xs) : RdX n cf ids w v xs := by
 obtain ⟨L, rfl, h1, h2⟩ := h
 rcases Joins.ownsRow_forms h2 with ⟨rfl, hp⟩ | ⟨g, cap, rfl⟩
 ·exact ⟨none, 0, by rw [Z7, hp], fun h0 => by rw [Z7, hp] at h0; omega⟩
 ·refine ⟨_, cap, by rw [Z7], fun h0 => ⟨g, 0, rfl, (h2.lt g rfl).2, fun i hi => ?_⟩⟩
  rw [Z7] at hi
  have hm : (L.map Prod.fst)[i]'(by rw [Z7]; exact hi) = L[i].1 := Kba _
  rw [hm]
  refine ⟨L[i].2, (h1 _ (Z4 hi)).rd, fun j u hj => ?_⟩
  have rP : j < n := by
   rw [<- hf (L[i].1, L[i].2)]
   exact (Kam.1 hj).1
  have pD : i * n + j < L.length * n := by
   have : (i + 1) * n <= L.length * n := Kcm _ hi
   rw [Kcq] at this
   omega
  rw [Ka0, h2.cellAt _ pD, Z79 hf L i j hi rP]
  exact hj
end
structure RdLod (w : World) (vb vt vc : Value) (l : Lod) : Prop where
 b : RdX 4 Z1H (fun b : Bun => b.ids) w vb l.buns
 t : RdX 3 Z4Z (fun t : Tra => t.bs) w vt l.tras
 c : RdX 2 Z5s (fun c : Con => c.ts) w vc l.cons
theorem RdLod.below {w w' : World} {vb vt vc : Value} {l : Lod} (h : RdLod w vb vt vc l) (hb : Below w.1.size w w') : RdLod w' vb vt vc l := ⟨h.b.below hb, h.t.below hb, h.c.below hb⟩
structure SmallL (l : Lod) : Prop where
 b : l.buns.length <= 100000
 t : l.tras.length <= 100000
 c : l.cons.length <= 100000
 bi : (l.buns.flatMap (fun b => b.ids)).length <= 100000
 ti : (l.tras.flatMap (fun t => t.bs)).length <= 100000
 ci : (l.cons.flatMap (fun c => c.ts)).length <= 100000
theorem ZaL {α : Type} {f : α -> List Int} {L : List α} {n : Nat} (h : (L.flatMap f).length <= n) : ∀ x ∈ L, (f x).length <= n := fun x hx => by
 obtain ⟨A, B, rfl⟩ := List.append_of_mem hx
 rw [Kai, Kao, ZC, ZC] at h
 omega
theorem Zih {k : Pck} {ps : List Pce} {zs : List Int} {ns : List ByteArray} {bs : List Bun} (h : BunsOk k ps zs ns bs) {q p : Nat} (hq : q < bs.length) (hp : p < bs[q].ids.length) :
 ∃ j : Nat, j < ps.length /\ (Z18 ps (j : Int)).id = bs[q].ids[p] /\ bs[q].ids[p] ∉ (bs.take q).flatMap (fun b => b.ids) ++ bs[q].ids.take p /\ zs.getD j (-1) = bs[q].lvl /\ ns.getD j noB = bs[q].grp := by
 obtain ⟨I, h1, h2, _⟩ := h.good _ (Z4 hq)
 have uM : p < I.length := by
  have := Kah List.length h2
  rw [Z7] at this
  omega
 obtain ⟨a1, a2, a3, a4⟩ := h1 _ (Z4 uM)
 have he : bs[q].ids[p] = (Z18 ps I[p]).id := by
  have h3 : bs[q].ids[p]? = (I.map (fun i => (Z18 ps i).id))[p]? := by rw [<- h2]
  rw [Z3 hp, Kal, Z3 uM] at h3
  exact Kav h3
 refine ⟨(I[p]).toNat, a2, by rw [Ka3 a1, he], ?_, a3, a4⟩
 intro hc
 have hN := h.once
 have sN := Z8f (ls := bs.map (fun b => b.ids)) (q := q) (p := p) (by rw [Z7]; exact hq) (by rw [Kba]; exact hp)
 rw [Z1s] at sN
 have qL : ((bs.map (fun b => b.ids)).take q).flatten = (bs.take q).flatMap (fun b => b.ids) := by rw [<- List.map_take, Z1s]
 simp only [Kba, qL] at sN
 rw [sN, <- Kbc, Kc5] at hN
 exact hN.2.2 _ hc _ Kaf rfl
theorem ZgY {k : Pck} {ps : List Pce} {zs : List Int} {ns : List ByteArray} (hu : Z4U ps) {b : Bun} (h : Z7q k ps zs ns b) {I : List Int} (hI : ∀ i ∈ I, 0 <= i /\ i.toNat < ps.length) (he : b.ids = I.map (fun i => (Z18 ps i).id)) : Z0k ps I = b.grams /\ b.grams <= k.grams := by
 obtain ⟨I', h1, h2, h3, _, _, h6⟩ := h
 have : I = I' := by
  have hl : I.length = I'.length := by
   have e1 := Kah List.length he
   have e2 := Kah List.length h2
   rw [Z7] at e1 e2
   omega
  refine Kcf hl (fun i hi hi' => ?_)
  have e1 : (I.map (fun i => (Z18 ps i).id))[i]? = (I'.map (fun i => (Z18 ps i).id))[i]? := by rw [<- he, <- h2]
  rw [Kal, Kal, Z3 hi, Z3 hi'] at e1
  have e2 := Kav e1
  exact Zba hu (hI _ (Z4 hi)) ⟨(h1 _ (Z4 hi')).1, (h1 _ (Z4 hi')).2.1⟩ e2
 subst this
 exact ⟨h3, h6⟩
theorem Za4 {ps : List Pce} {M : Int} (h : ∀ p ∈ ps, 0 <= p.grams /\ p.grams <= M) : ∀ I : List Int, (∀ i ∈ I, 0 <= i /\ i.toNat < ps.length) -> 0 <= Z0k ps I /\ Z0k ps I <= M * I.length
 | [], _ => by unfold Z0k; simp
 | i :: r, hI => by
  have ih := Za4 h r (fun j hj => hI j (Kaj _ hj))
  have hi := h _ (Z4v (hI i Kaf)).2
  have e : Z0k ps (i :: r) = (Z18 ps i).grams + Z0k ps r := by unfold Z0k; simp
  rw [e, Ka9]
  have : M * ((r.length + 1 : Nat) : Int) = M * r.length + M := by
   rw [Kc3, Int.mul_add]; simp
  omega
theorem OwnsII.pos {w : World} {B n c : Nat} {f : Int -> Option Int} (h : OwnsII w B n f c) {x y : Int} (hx : f x = some y) : 1 <= c := by
 obtain ⟨D, hD, hc, hf⟩ := h
 have := Maps.size_del (hD.tidy Z2T) (k := Lit.int .i64 x)
 rw [((hf x).2 y hx).1, if_pos rfl, hc] at this
 omega
theorem OwnsII.ne {w : World} {B n c : Nat} {f : Int -> Option Int} (h : OwnsII w B n f c) {N : Nat} {cs : Array Value} {t : TypeId} {fr : Nat × Nat} (hN : w.1[N]? = some (.cells cs t fr)) : N ≠ B := fun e => by
 obtain ⟨D, ⟨es, cl, hb, _⟩, _⟩ := h
 rw [e, hb] at hN
 injection hN with hN
 cases hN
theorem Z9n (n : Int) (w : World) : (Instr.makeMap 210 (some (.int .i64 n))).run Tryz.prog w = .ok (.map (some w.1.size)) (w.alloc (.map #[] 0)) := by
 simp only [Instr.makeMap, Sem.run_bind, run_underlying Tryz.underlying210, Result.andThen]
 rfl
theorem Z5U (k : Pck) (l : Lod) (m : Mai) (zs : List Int) (ns : List ByteArray) (vp vz vn vb vt vc : Value) (w : World) (pP : RdPces w vp m.ps) (hz : RdInts w vz zs) (hn : ReadsT w vn ns) (hr : RdLod w vb vt vc l) (hs : SmallL l)
 (hu : Z4U m.ps) (sO : m.ps.length <= 2000) (uN : zs.length = m.ps.length) (uO : ns.length = m.ps.length) (hg : ∀ p ∈ m.ps, 0 <= p.grams /\ p.grams <= 50000 /\ 0 <= p.id /\ p.id <= 999999) (hid : ∀ b ∈ l.buns, ∀ i ∈ b.ids, 0 <= i /\ i <= 999999) :
 Calls Tryz.prog 77 #[Z0N m vp, vz, vn, Z1R k, Zc8 vb vt vc] w fun e w' => ∃ v, e = .returned v /\ Below w.1.size w w' /\ IsB v (BunsOk k m.ps zs ns l.buns) := by
 obtain ⟨ab, cb, sP, qA⟩ := hr.b
 obtain ⟨at', ct, sQ, _⟩ := hr.t
 obtain ⟨ac, cc, sR, _⟩ := hr.c
 subst sP sQ sR
 obtain ⟨av, cv, rfl, rE⟩ := pP
 obtain ⟨az, cz, rfl, uP⟩ := hz
 obtain ⟨an, cn, rfl, uQ⟩ := hn
 have wS := hs.b
 have yP := hs.bi
 have uR := fun x hx => ZaL (f := fun t : Bun => t.ids) hs.bi x hx
 unfold Zc8 Z1R Z0N
 have uS := Z0 (fun b (h : Z7q k m.ps zs ns b) I hI he => ZgY hu h (I := I) hI he)
 have uT := Z0 (fun (h : BunsOk k m.ps zs ns l.buns) q p hq hp => Zih h (q := q) (p := p) hq hp)
 have sS := Z0 (fun (h : BunsOk k m.ps zs ns l.buns) => h.good)
 have uU := Z0 (fun (h : BunsOk k m.ps zs ns l.buns) => h.all)
 have sT := Z0 (fun h1 h2 h3 => (⟨h1, h2, h3⟩ : BunsOk k m.ps zs ns l.buns))
 obtain ⟨OK, rF⟩ : ∃ P, P = BunsOk k m.ps zs ns l.buns := ⟨_, rfl⟩
 rw [<- rF] at uT sS uU sT ⊢
 have uV : ∀ b, Z7q k m.ps zs ns b ↔ ∃ I : List Int, (∀ i ∈ I, 0 <= i /\ i.toNat < m.ps.length /\ zs.getD i.toNat (-1) = b.lvl /\ ns.getD i.toNat noB = b.grp) /\ b.ids = I.map (fun i => (Z18 m.ps i).id) /\ Z0k m.ps I = b.grams /\ 1 <= I.length /\ (I.length : Int) <= k.pieces /\ b.grams <= k.grams := fun b => Iff.rfl
 obtain ⟨GD, sU⟩ : ∃ f : Bun -> Prop, f = Z7q k m.ps zs ns := ⟨_, rfl⟩
 rw [<- sU] at uS sS sT
 have wT := Z0 (fun b => by rw [sU]; exact uV b : ∀ b, GD b ↔ ∃ I : List Int, (∀ i ∈ I, 0 <= i /\ i.toNat < m.ps.length /\ zs.getD i.toNat (-1) = b.lvl /\ ns.getD i.toNat noB = b.grp) /\ b.ids = I.map (fun i => (Z18 m.ps i).id) /\ Z0k m.ps I = b.grams /\ 1 <= I.length /\ (I.length : Int) <= k.pieces /\ b.grams <= k.grams)
 obtain ⟨kp, kg, kb, kt⟩ := k
 obtain ⟨bs, ts, cs⟩ := l
 obtain ⟨cls, ctr, org, ps⟩ := m
 dsimp only at *
 obtain ⟨w3, pJ⟩ : ∃ w3, w3 = ((w.alloc (.cells #[.int .u8 cls, .int .u8 ctr, .string org, .slice av ps.length cv] 34)).alloc (.cells #[.int .i64 kp, .int .i64 kg, .int .i64 kb, .int .i64 kt] 37)).alloc (.cells #[.slice ab bs.length cb, .slice at' ts.length ct, .slice ac cs.length cc] 52) := ⟨_, rfl⟩
 obtain ⟨g1, g2, g3⟩ := Z5L pJ
 have rA : w3.1.size = w.1.size + 1 + 1 + 1 := by rw [pJ, Z6, Z6, Z6]
 have pE : Below w.1.size w w3 := by
  rw [pJ]
  exact (((Z9 _ w).alloc (Z1 _) _).alloc (by simp) _).alloc (by simp; omega) _
 have qM := Z0 (fun (W : World) (hB : Below w3.1.size w3 W) => And.intro (Z0r ((hB.block _ (by omega)).trans g1)) (And.intro (Z0r ((hB.block _ (by omega)).trans g2)) (cells3 ((hB.block _ (by omega)).trans g3))))
 have rD := Z0 pJ
 have pA := Z0 pE
 have rO := Z0 rE
 have wU := Z0 uP
 have wV := Z0 uQ
 have sV := Z0 qA
 have HG := Z0 hg
 have wW := Z0 hid
 have wX := Z0 uR
 have HU := Z0 hu
 have wY := Z0 uN
 have sW := Z0 uO
 have wZ := Z0 (fun I hI => Za4 (M := 50000) (fun p hp => ⟨(hg p hp).1, (hg p hp).2.1⟩) I hI)
 clear pJ pE rA g1 g2 g3 rE uP uQ qA hg hid uR hr hs hu uV sU rF uN uO
 obtain ⟨⟨x0, x1, x2, x3⟩, ⟨y0, y1, y2, y3⟩, u0, u1, u2⟩ := qM.out w3 (Z9 _ _)
 have xA := Z9n
 go_enter Tryz.func77, Tryz.ntmps77
 go_upto_region 1 with fail
 rw [<- rD.out]
 obtain ⟨w4, rQ⟩ : ∃ w4, w4 = w3.alloc (.map #[] 0) := ⟨_, rfl⟩
 have pH : Below w3.1.size w3 w4 := by rw [rQ]; exact (Z9 _ _).alloc (Z1 _) _
 have uW : OwnsII w4 w3.1.size 0 (Z7s ps 0 []) 0 := by
  have h := OwnsII.made w3
  rw [<- rQ] at h
  have e : (fun _ => none : Int -> Option Int) = Z7s ps 0 [] := funext (fun u => (Z2V (fun j hj _ => absurd hj (Ka2 _))).symm)
  rw [e] at h
  exact h
 obtain ⟨⟨p0, p1, p2, p3⟩, ⟨q0, q1, q2, q3⟩, r0, r1, r2⟩ := qM.out w4 pH
 have xB := Z0 rQ
 have xC := Z0 pH
 have xD := Z0 uW
 clear rQ pH uW
 go_upto_region 2 with fail
 rw [<- xB.out]
 clear xA x0 x1 x2 x3 y0 y1 y2 y3 u0 u1 u2
 go_wp2_with fail
 go_loopw [28] (fun i wx => ∃ j : Nat, j <= ps.length /\ i = .int .i64 j /\ Below w3.1.size w3 wx /\ OwnsII wx w3.1.size j (Z7s ps j []) j) (fun i _ => ps.length - (intOf i).toNat)
 case atStart => exact ⟨0, ZE _, rfl, xC.out, xD.out⟩
 case round =>
  clear p0 p1 p2 p3 q0 q1 q2 q3 r0 r1 r2
  obtain ⟨j, hj, rfl, hB, hI⟩ := hrel
  have HB := Z0 hB
  by_cases pD : j < ps.length
  ·obtain ⟨g, off, rfl, hg, pG⟩ := rO.out (by omega)
   have hp := ((pG j pD).below pA.out hg).below hB (ZH hg pA.out.size)
   have uX := HG.out _ (Z4 pD)
   have pM : Z18 ps (j : Int) = ps[j] := (Z4v ⟨by omega, by rw [Kar]; exact pD⟩).1
   have rG := ZeT HU.out pD
   have rR : Z7s ps j [] ps[j].id = none := Z2V (fun i hi he => by
    have := HU.out i j hi pD
    rw [pM] at this
    omega)
   rw [pM] at rG
   obtain ⟨p, uY⟩ : ∃ p, p = ps[j] := ⟨_, rfl⟩
   rw [<- uY] at hp uX rG rR
   obtain ⟨id, pt, cd, gr, br⟩ := p
   obtain ⟨p0, p1, p2, p3, p4⟩ := hp
   dsimp only at p0 p1 p2 p3 p4 uX rG rR
   have HI := Z0 (hI.below ((Z9 wr.1.size wr).alloc (Z1 _) (.cells #[.int .i64 id, .int .i64 pt, .string cd, .int .i64 gr, .bool br] 65)))
   have xE := Z0 rG
   have xF := Z0 rR
   clear pM uY pG hB hI rG rR
   go_wp2_with (refine Z5N _ rfl _ _ _ _ rfl Tryz.underlying210 w3.1.size j j (Z7s ps j []) rfl HI.out (by unfold maxLen; omega) id (j : Int) (WalkArith.wf_i64 (by omega)) (WalkArith.wf_i64 (by omega)) xF.out rfl rfl ?_; intro w5 sX rS)
   go_roundw
   case rel =>
    refine ⟨j + 1, by omega, by go_num, (HB.out.alloc HB.out.size _).grown rS (by have := HB.out.size; simp; omega) (fun r e => by rw [<- Kav e]; exact Z1 _), ?_⟩
    rw [<- xE.out]
    exact sX
   case measure => simp [intOf]; omega
  ·obtain rfl : j = ps.length := by omega
   obtain ⟨_, ⟨q0, q1, q2, q3⟩, r0, r1, r2⟩ := qM.out wr hB
   have HI := Z0 hI
   clear hB hI hj pD
   go_wp2_with fail
   go_loopw [41] (fun i wx => ∃ (q c : Nat), q <= bs.length /\ i = .int .i64 q /\ Below w3.1.size w3 wx /\ OwnsII wx w3.1.size ps.length (Z7s ps ps.length ((bs.take q).flatMap (fun b => b.ids))) c /\ c + ((bs.take q).flatMap (fun b => b.ids)).length = ps.length /\ (∀ b ∈ bs.take q, GD b) /\ ((bs.take q).flatMap (fun b => b.ids)).Nodup) (fun i _ => bs.length - (intOf i).toNat)
   case atStart => exact ⟨0, ps.length, ZE _, rfl, HB.out, HI.out, by simp, by simp, by simp⟩
   case round =>
    clear q0 q1 q2 q3 r0 r1 r2
    obtain ⟨wo, sY⟩ : ∃ x, x = wr := ⟨_, rfl⟩
    subst sY
    obtain ⟨q, c, hq, rfl, hB, hI, hc, qY, pS⟩ := hrel
    have pC := Z0 hB
    have sZ := Z0 qY
    have rT := Z0 pS
    have HC := Z0 hc
    clear qY pS hc
    by_cases pD : q < bs.length
    ·obtain ⟨g, off, rfl, hg, pO⟩ := sV.out (by omega)
     obtain ⟨s, hs, pF⟩ := pO q pD
     have pB : Below w.1.size w wo := pA.out.trans (hB.mono pA.out.size)
     have rU := Z4 pD
     have pK : bs.take (q + 1) = bs.take q ++ [bs[q]] := Z8 pD
     have rV : (bs.take (q + 1)).flatMap (fun b => b.ids) = (bs.take q).flatMap (fun b => b.ids) ++ bs[q].ids := by rw [pK, Kai]; simp
     have pW := wX.out _ rU
     have tA := wW.out _ rU
     have pG := fun (h : OK) p hp => uT.out h q p pD hp
     have tB := fun (h : OK) => sS.out h _ rU
     obtain ⟨b, hb⟩ : ∃ b, b = bs[q] := ⟨_, rfl⟩
     rw [<- hb] at hs pF pK rV pW tA pG tB
     have f0 : wo.cell? ⟨g, off + q * 4, none⟩ = some (.int .i64 b.lvl) := (pB.cell (p := ⟨g, off + q * 4, none⟩) hg).trans (pF 0 _ rfl)
     have f1 : wo.cell? ⟨g, off + q * 4 + 1, none⟩ = some (.string b.grp) := (pB.cell (p := ⟨g, off + q * 4 + 1, none⟩) hg).trans (pF 1 _ rfl)
     have f2 : wo.cell? ⟨g, off + q * 4 + 2, none⟩ = some s := (pB.cell (p := ⟨g, off + q * 4 + 2, none⟩) hg).trans (pF 2 _ rfl)
     have f3 : wo.cell? ⟨g, off + q * 4 + 3, none⟩ = some (.int .i64 b.grams) := (pB.cell (p := ⟨g, off + q * 4 + 3, none⟩) hg).trans (pF 3 _ rfl)
     obtain ⟨as1, cs', rfl, rH⟩ := hs
     obtain ⟨pre, rW⟩ : ∃ l, l = (bs.take q).flatMap (fun b => b.ids) := ⟨_, rfl⟩
     rw [<- rW] at hI rV pG
     have xG : Hid pre.Nodup := by rw [rW]; exact rT
     have HC' : Hid (c + pre.length = ps.length) := by rw [rW]; exact HC
     obtain ⟨Wt, pT⟩ : ∃ W, W = wo.alloc (.cells #[.int .i64 b.lvl, .string b.grp, .slice as1 b.ids.length cs', .int .i64 b.grams] 67) := ⟨_, rfl⟩
     have hn := Z02 wo (.cells #[.int .i64 b.lvl, .string b.grp, .slice as1 b.ids.length cs', .int .i64 b.grams] 67)
     have qB : Below wo.1.size wo Wt := by rw [pT]; exact (Z9 _ _).alloc (Z1 _) _
     rw [<- pT] at hn
     have tC := Z0 pT
     have HN := Z0 hn
     have pY := Z0 pK
     have tD := Z0 rV
     have xH := Z0 tA
     have xI := Z0 pG
     have tE := Z0 tB
     have tF := Z0 rH
     have xJ := Z0 (hI.below qB)
     have tG := Z0 (hB.trans (qB.mono hB.size))
     have uZ := wT.out b
     have tH := Z0 uZ
     obtain ⟨n0, n1, n2, n3⟩ := Z0r hn
     obtain ⟨_, ⟨q0, q1, q2, q3⟩, _⟩ := qM.out Wt (hB.trans (qB.mono hB.size))
     clear hb pF pO pT hn pK rV tA pG tB rH pB qB rU hB hI rW uZ rT HC
     go_upto_region 10 with fail
     rw [<- tC.out]
     by_cases l1 : b.ids.length < 1
     ·have hr : ¬ OK := fun h => by
       obtain ⟨I, _, e, _, e1, _⟩ := tH.out.1 (tE.out h)
       have := Kah List.length e
       rw [Z7] at this
       omega
      have HR := Z0 hr
      clear hr
      go_wp2_with fail
      go_ret
      exact ⟨_, rfl, pA.out.trans (tG.out.mono pA.out.size), IsB.no HR.out⟩
     ·by_cases l2 : (b.ids.length : Int) > kp
      ·have hr : ¬ OK := fun h => by
        obtain ⟨I, _, e, _, _, e1, _⟩ := tH.out.1 (tE.out h)
        have := Kah List.length e
        rw [Z7] at this
        omega
       have HR := Z0 hr
       clear hr
       go_wp2_with fail
       go_ret
       exact ⟨_, rfl, pA.out.trans (tG.out.mono pA.out.size), IsB.no HR.out⟩
      ·go_wp2_with fail
       go_loopw [16, 60] (fun gr i wx => ∃ (p c' : Nat) (I : List Int), p <= b.ids.length /\ i = .int .i64 p /\ gr = .int .i64 (Z0k ps I) /\ I.length = p /\ b.ids.take p = I.map (fun i => (Z18 ps i).id) /\ (∀ i ∈ I, 0 <= i /\ i.toNat < ps.length /\ zs.getD i.toNat (-1) = b.lvl /\ ns.getD i.toNat noB = b.grp) /\ Below w3.1.size w3 wx /\ wx.1[wo.1.size]? = some (.cells #[.int .i64 b.lvl, .string b.grp, .slice as1 b.ids.length cs', .int .i64 b.grams] 67 (0, 0)) /\ OwnsII wx w3.1.size ps.length (Z7s ps ps.length (pre ++ b.ids.take p)) c' /\ c' + pre.length + p = ps.length /\ (pre ++ b.ids.take p).Nodup) (fun _ i _ => b.ids.length - (intOf i).toNat)
       case atStart => exact ⟨0, c, [], ZE _, rfl, rfl, rfl, by simp, by simp, tG.out, HN.out, by rw [Kb5, Ka1]; exact xJ.out, by have := HC'.out; omega, by rw [Kb5, Ka1]; exact xG.out⟩
       case round =>
        clear n0 n1 n2 n3 f0 f1 f2 f3 q0 q1 q2 q3
        obtain ⟨wi, tI⟩ : ∃ x, x = wr := ⟨_, rfl⟩
        subst tI
        obtain ⟨p, c', I, hp, rfl, rfl, tJ, vA, rX, hB, tK, hM, rI, pS⟩ := hrel
        have pR := Z0 hB
        have vB := Z0 tK
        have tL := Z0 tJ
        have rY := Z0 vA
        have rZ := Z0 rX
        have vC := Z0 rI
        have sA := Z0 pS
        have HM := Z0 hM
        have vD := wZ.out I (fun i hi => ⟨(rX i hi).1, (rX i hi).2.1⟩)
        rw [tJ] at vD
        obtain ⟨gr, tM⟩ : ∃ x, x = Z0k ps I := ⟨_, rfl⟩
        have tN := Z0 tM
        rw [<- tM] at vD ⊢
        obtain ⟨n0, n1, n2, n3⟩ := Z0r tK
        obtain ⟨⟨x0, x1, x2, x3⟩, ⟨y0, y1, y2, y3⟩, _⟩ := qM.out wi hB
        clear tJ vA rX rI pS tK tM
        by_cases pX : p < b.ids.length
        ·obtain ⟨gs, os, rfl, tO, rJ⟩ := tF.out (by omega)
         have pB : Below w.1.size w wi := pA.out.trans (hB.mono pA.out.size)
         have e1 := (pB.cell (p := ⟨gs, os + p, none⟩) tO).trans (rJ p pX)
         have vE := xH.out _ (Z4 pX)
         have pG := fun h => xI.out h p pX
         have qC : b.ids.take (p + 1) = b.ids.take p ++ [b.ids[p]] := Z8 pX
         obtain ⟨x, hx⟩ : ∃ x, x = b.ids[p] := ⟨_, rfl⟩
         rw [<- hx] at e1 vE pG qC
         obtain ⟨P, hP⟩ : ∃ P, P = pre ++ b.ids.take p := ⟨_, rfl⟩
         rw [<- hP] at pG hM HM sA
         have vF : pre ++ b.ids.take (p + 1) = P ++ [x] := by rw [qC, hP, Kbc]
         have tP := Z0 qC
         have vG := Z0 vF
         have yQ := Z0 pG
         have yR := Z0 vE
         have vH := fun y => hM.pos (x := x) (y := y)
         have xK := Z0 vH
         clear qC vF hx rJ hP vH
         rcases Z5p HU.out (Z1 ps.length) P x with pL | ⟨j, hj, vI, vJ, sB⟩
         ·have hr : ¬ OK := fun h => by
           obtain ⟨j, a1, a2, a3, _⟩ := pG h
           have := Z1X HU.out (Z1 _) a1 (pre := P) (by rw [a2]; exact a3)
           rw [a2, pL] at this
           cases this
          have HR := Z0 hr
          have qK := Z0 pL
          clear hr pL pG hB hM
          go_wp2_with (refine Z1P _ rfl _ _ _ rfl Tryz.underlying210 w3.1.size ps.length c' (Z7s ps ps.length P) rfl HM.out x (WalkArith.wf_i64 (by omega)) rfl none qK.out ?_)
          go_quiet (fail)
          go_wp2_with fail
          go_ret
          exact ⟨_, rfl, by first | exact below_drewN (pA.out.trans (pR.out.mono pA.out.size)) _ | exact (pA.out.trans (pR.out.mono pA.out.size)).drew, IsB.no HR.out⟩
         ·have vK : j < zs.length := by rw [wY.out]; exact hj
          have rP : j < ns.length := by rw [sW.out]; exact hj
          obtain ⟨gz, oz, rfl, xL, pQ⟩ := wU.out (by omega)
          obtain ⟨gn, on', rfl, xM, vL⟩ := wV.out (by omega)
          obtain ⟨gp, op, rfl, xN, rI⟩ := rO.out (by omega)
          have e2 := (pB.cell (p := ⟨gz, oz + j, none⟩) xL).trans (pQ j vK)
          have e3 := (pB.cell (p := ⟨gn, on' + j, none⟩) xM).trans (vL j rP)
          have pM : Z18 ps (j : Int) = ps[j] := (Z4v ⟨by omega, by rw [Kar]; exact hj⟩).1
          have uL := HG.out _ (Z4 hj)
          obtain ⟨_, _, _, e5, _⟩ := rI j hj
          have sC : zs.getD j (-1) = zs[j] := by rw [Z2, Z3 vK]; rfl
          have pS : ns.getD j noB = ns[j] := by rw [Z2, Z3 rP]; rfl
          have tQ : OK -> zs.getD j (-1) = b.lvl /\ ns.getD j noB = b.grp := fun h => by
           obtain ⟨j', a1, a2, a3, a4⟩ := pG h
           have h1 := Z1X HU.out (Z1 _) a1 (pre := P) (by rw [a2]; exact a3)
           rw [a2, sB] at h1
           have h2 : (j : Int) = (j' : Int) := Kav h1
           obtain rfl : j = j' := by omega
           exact a4
          obtain ⟨z, tR⟩ : ∃ z, z = zs[j] := ⟨_, rfl⟩
          obtain ⟨nm, tS⟩ : ∃ z, z = ns[j] := ⟨_, rfl⟩
          obtain ⟨pc, vM⟩ : ∃ z, z = ps[j] := ⟨_, rfl⟩
          rw [sC, pS, <- tR, <- tS] at tQ
          rw [<- tR] at e2 sC
          rw [<- tS] at e3 pS
          rw [<- vM] at pM uL e5
          have vN := Z0 tQ
          have xO := Z0 sC
          have xP := Z0 pS
          have sK := Z0 pM
          have sD := Z0 sB
          have xQ := Z0 vJ
          have xR := Z0 vI
          have xS := xK.out _ sB
          obtain ⟨c2, rfl⟩ : ∃ c2, c' = c2 + 1 := ⟨c' - 1, by omega⟩
          have xT := Z0 (fun (W : World) (hW : Below w3.1.size w3 W) => ((pA.out.trans (hW.mono pA.out.size)).cell (p := ⟨gp, op + j * 5 + 3, none⟩) xN).trans e5)
          clear pQ vL rI pM sC pS tQ tR tS vM sB vJ vI pG xS pB hM e5
          by_cases q1 : z = b.lvl
          ·have rK : (z != b.lvl) = false := by simp [q1]
           by_cases q2 : nm = b.grp
           ·have qG : (nm.toList == b.grp.toList) = true := by rw [ba_eq]; exact Kac q2
            have Q := Z0 (And.intro q1 q2)
            clear q1 q2 hB
            go_wp2_with (refine Z1P _ rfl _ _ _ rfl Tryz.underlying210 w3.1.size ps.length (c2 + 1) (Z7s ps ps.length P) rfl HM.out x (WalkArith.wf_i64 (by omega)) rfl (some (j : Int)) sD.out ?_)
            go_quiet (fail)
            obtain ⟨wd, tT⟩ : ∃ wd, wd = wi.drewN nq := ⟨_, rfl⟩
            rw [<- tT]
            have sE : Below wi.1.size wi wd := by rw [tT]; exact below_drewN (Z9 _ _) _
            have vO := Z0 (HM.out.below sE)
            have vP := Z0 (pR.out.trans (sE.mono pR.out.size))
            have tU := Z0 ((sE.block _ (Z5.1 vB.out).1).trans vB.out)
            clear tT sE n0 n1 n2 n3 x0 x1 x2 x3 y0 y1 y2 y3 e1 e2 e3
            go_wp2_with (refine Z7t _ rfl _ _ _ rfl Tryz.underlying210 w3.1.size ps.length c2 (Z7s ps ps.length P) rfl vO.out x (j : Int) (WalkArith.wf_i64 (by omega)) sD.out rfl ?_; intro w5 sX rS; have tV := vP.out.grown rS vP.out.size (fun r e => by rw [<- Kav e]; exact Z1 _); obtain ⟨⟨x0, x1, x2, x3⟩, _, _⟩ := qM.out w5 tV; have e5 := xT.out w5 tV)
            go_roundw
            case rel =>
             have hc := vC.out
             have xU := tL.out
             refine ⟨p + 1, c2, I ++ [(j : Int)], by omega, by go_num, ?_, by rw [ZC, xU]; rfl, ?_, ?_, tV, ?_, ?_, by omega, ?_⟩
             ·rw [Z3w, sK.out, <- tN.out]
             ·rw [tP.out, rY.out, ZD, Kan, Kbe, xR.out]
             ·intro i hi
              rcases ZG.1 hi with hi | hi
              ·exact rZ.out i hi
              ·rw [ZI.1 hi, Kar]
               exact ⟨by omega, hj, by rw [xO.out]; exact Q.out.1, by rw [xP.out]; exact Q.out.2⟩
             ·exact (rS.block _ (Z5.1 tU.out).1 (fun e => vO.out.ne tU.out (Kav e))).trans tU.out
             ·rw [vG.out, <- ZeU HU.out (Z1 _)]
              exact sX
             ·rw [vG.out]
              exact Z7Z sA.out xQ.out
            case measure => simp [intOf]; omega
           ·have qG : (nm.toList == b.grp.toList) = false := by rw [ba_eq]; exact Kad q2
            have hr : ¬ OK := fun h => q2 (vN.out h).2
            have HR := Z0 hr
            clear hr q1 q2 hB
            go_wp2_with (refine Z1P _ rfl _ _ _ rfl Tryz.underlying210 w3.1.size ps.length (c2 + 1) (Z7s ps ps.length P) rfl HM.out x (WalkArith.wf_i64 (by omega)) rfl (some (j : Int)) sD.out ?_)
            go_quiet (fail)
            go_wp2_with fail
            go_ret
            exact ⟨_, rfl, by first | exact below_drewN (pA.out.trans (pR.out.mono pA.out.size)) _ | exact (pA.out.trans (pR.out.mono pA.out.size)).drew, IsB.no HR.out⟩
          ·have rK : (z != b.lvl) = true := by simp [q1]
           have hr : ¬ OK := fun h => q1 (vN.out h).1
           have HR := Z0 hr
           clear hr q1 hB
           go_wp2_with (refine Z1P _ rfl _ _ _ rfl Tryz.underlying210 w3.1.size ps.length (c2 + 1) (Z7s ps ps.length P) rfl HM.out x (WalkArith.wf_i64 (by omega)) rfl (some (j : Int)) sD.out ?_)
           go_quiet (fail)
           go_wp2_with fail
           go_ret
           exact ⟨_, rfl, by first | exact below_drewN (pA.out.trans (pR.out.mono pA.out.size)) _ | exact (pA.out.trans (pR.out.mono pA.out.size)).drew, IsB.no HR.out⟩
        ·obtain rfl : p = b.ids.length := by omega
         rw [Kat] at rY HM sA
         have tW := fun (h : OK) => uS.out b (tE.out h) I (fun i hi => ⟨(rZ.out i hi).1, (rZ.out i hi).2.1⟩) rY.out
         rw [<- tN.out] at tW
         have vQ := Z0 tW
         clear tW hM hB
         by_cases q1 : gr = b.grams
         ·have rK : (gr != b.grams) = false := by simp [q1]
          by_cases q2 : gr > kg
          ·have hr : ¬ OK := fun h => by have := vQ.out h; omega
           have HR := Z0 hr
           clear hr q1
           go_wp2_with fail
           go_ret
           exact ⟨_, rfl, pA.out.trans (pR.out.mono pA.out.size), IsB.no HR.out⟩
          ·have vR : GD b := tH.out.2 ⟨I, rZ.out, rY.out, by rw [<- tN.out]; exact q1, by have := tL.out; omega, by have := tL.out; omega, by omega⟩
           have xV := Z0 vR
           clear vR q1
           go_wp2_with fail
           go_roundw
           case rel =>
            refine ⟨q + 1, c', by omega, by go_num, pR.out, by rw [tD.out]; exact HM.out, by rw [tD.out, ZC]; have := vC.out; omega, ?_, by rw [tD.out]; exact sA.out⟩
            rw [pY.out]
            intro y hy
            rcases ZG.1 hy with hy | hy
            ·exact sZ.out y hy
            ·rw [ZI.1 hy]; exact xV.out
           case measure => simp [intOf]; omega
         ·have rK : (gr != b.grams) = true := by simp [q1]
          have hr : ¬ OK := fun h => q1 (vQ.out h).1
          have HR := Z0 hr
          clear hr q1
          go_wp2_with fail
          go_ret
          exact ⟨_, rfl, pA.out.trans (pR.out.mono pA.out.size), IsB.no HR.out⟩
    ·obtain rfl : q = bs.length := by omega
     rw [Kat] at HC sZ rT
     have vS : c = 0 ↔ OK := by
      constructor
      ·intro e
       exact sT.out sZ.out rT.out (by have := HC.out; omega)
      ·intro h
       have h1 := uU.out h
       have h2 := HC.out
       omega
     have tX := Z0 vS
     have xW := Z0 hI
     clear hI hB vS
     go_wp2_with (refine Z8s _ rfl _ _ rfl Tryz.underlying210 w3.1.size ps.length c _ rfl xW.out ?_)
     go_ret
     refine ⟨_, rfl, pA.out.trans (pC.out.mono pA.out.size), IsB.of ?_⟩
     rw [<- tX.out]
     simp
     try omega
def OwnsRL (w wx : World) (base : Nat) (v : Value) (ts : List (List Int)) : Prop :=
 ∃ L : List (List Int × Value), L.map Prod.fst = ts /\ (∀ p ∈ L, RdInts w p.2 p.1) /\ wx.ownsRow base 35 1 v L.length (L.map Prod.snd)
theorem OwnsRL.rd {w wx : World} {base : Nat} {v : Value} {ts : List (List Int)} (h : OwnsRL w wx base v ts) (hb : Below w.1.size w wx) : Zje wx v ts := by
 obtain ⟨L, rfl, h1, h2⟩ := h
 rcases Joins.ownsRow_forms h2 with ⟨rfl, hp⟩ | ⟨g, cap, rfl⟩
 ·exact ⟨none, 0, by rw [Z7, hp], fun h0 => by rw [Z7, hp] at h0; omega⟩
 ·refine ⟨_, cap, by rw [Z7], fun h0 => ⟨g, 0, rfl, (h2.lt g rfl).2, fun i hi => ?_⟩⟩
  rw [Z7] at hi
  have hc := h2.cellAt i (by rw [Kdf]; exact hi)
  rw [Kal, Z3 hi] at hc
  refine ⟨_, by rw [Ka0]; exact hc, ?_⟩
  rw [Kba]
  exact (h1 _ (Z4 hi)).below hb
theorem OwnsRL.form {w wx : World} {base : Nat} {v : Value} {ts : List (List Int)} (h : OwnsRL w wx base v ts) : ∃ a cap, v = .slice a ts.length cap := by
 obtain ⟨L, rfl, _, h2⟩ := h
 rw [Z7]
 exact Z0F h2
theorem Z7u (k : Pck) (l : Lod) (vb vt vc : Value) (w : World) (hr : RdLod w vb vt vc l) (hs : SmallL l) :
 Calls Tryz.prog 78 #[Z1R k, Zc8 vb vt vc] w fun e w' => ∃ v, e = .returned v /\ Below w.1.size w w' /\ IsB v (TrasOk k l) := by
 obtain ⟨i0, hi⟩ := info_parts Tryz.infoSlT
 have HI := Z0 hi
 obtain ⟨ab, cb, sP, qA⟩ := hr.b
 obtain ⟨at', ct, sQ, vT⟩ := hr.t
 obtain ⟨ac, cc, sR, _⟩ := hr.c
 subst sP sQ sR
 have wS := hs.b
 have yS := hs.t
 have yT := hs.ti
 have sO := fun x hx => ZaL (f := fun t : Tra => t.bs) hs.ti x hx
 have xX := Z0 (fun W v (hb : Zje W v (l.tras.map (fun t => t.bs))) => Zc5 (l.tras.map (fun t => t.bs)) l.buns.length k.bundles v W hb (by omega) (by rw [Z1s]; omega) (by rw [Z7]; omega))
 have rF := fun (h : OnceOk (l.tras.map (fun t => t.bs)) l.buns.length k.bundles) (h2 : ∀ t ∈ l.tras, ∀ i ∈ t.bs, ∃ b, l.buns[i.toNat]? = some b /\ b.lvl = t.lvl /\ b.grp = t.grp) => (⟨h, h2⟩ : TrasOk k l)
 have xY := fun (h : TrasOk k l) => h
 unfold Zc8 Z1R
 obtain ⟨kp, kg, kb, kt⟩ := k
 obtain ⟨bs, ts, cs⟩ := l
 dsimp only at *
 obtain ⟨w2, qE⟩ : ∃ w2, w2 = (w.alloc (.cells #[.int .i64 kp, .int .i64 kg, .int .i64 kb, .int .i64 kt] 37)).alloc (.cells #[.slice ab bs.length cb, .slice at' ts.length ct, .slice ac cs.length cc] 52) := ⟨_, rfl⟩
 obtain ⟨g1, g2, z2, b2⟩ := Z8n qE
 obtain ⟨x0, x1, x2⟩ := cells3 g2
 have qJ := Z0 qE
 have pC := Z0 b2
 have HL := Z0 (fun (W : World) (hB : Below w2.1.size w2 W) => And.intro (Z0r ((hB.block _ (by omega)).trans g1)) (cells3 ((hB.block _ (by omega)).trans g2)))
 have sV := Z0 qA
 have vU := Z0 vT
 have tX := Z0 rF
 have xZ := Z0 sO
 clear qE g1 g2 z2 b2 qA vT hr hs rF xY hi sO
 go_enter Tryz.func78, Tryz.ntmps78
 go_upto_region 1 with fail
 rw [<- qJ.out]
 go_wp2_with (at_make; refine wpList_make_own _ rfl _ _ 109 rfl w2.1.size 35 i0 (.slice none 0 0) 1 Tryz.underlying109 HI.out.1 HI.out.2.1 HI.out.2.2.1 _ _ _ ts.length rfl (by first | rfl | simp) rfl (by rw [HI.out.2.2.2]; omega) (by unfold maxLen; omega) (Z1 _) ?_; intro w3 pV pN; have pE : Below w2.1.size w2 w3 := (Z9 _ _).grown pN (Z1 _) (fun _ e => by cases e); have pA := Z0 pE; have yA := Z0 pV; clear pN pV; obtain ⟨⟨u0, u1, u2, u3⟩, v0, v1, v2⟩ := HL.out w3 pE)
 go_loopw [5, 19] (fun lv i wx => ∃ q : Nat, q <= ts.length /\ i = .int .i64 q /\ Below w2.1.size w2 wx /\ OwnsRL w wx w2.1.size lv ((ts.take q).map (fun t => t.bs))) (fun _ i _ => ts.length - (intOf i).toNat)
 case atStart => exact ⟨0, ZE _, rfl, pA.out, ⟨[], by simp, by simp, yA.out⟩⟩
 case round =>
  clear u0 u1 u2 u3 v0 v1 v2 pE x0 x1 x2
  obtain ⟨q, hq, rfl, hB, hO⟩ := hrel
  have pI := Z0 hB
  by_cases pD : q < ts.length
  ·obtain ⟨g, off, rfl, hg, pO⟩ := vU.out (by omega)
   obtain ⟨s, hs, pF⟩ := pO q pD
   have pK : (ts.take (q + 1)).map (fun t => t.bs) = (ts.take q).map (fun t => t.bs) ++ [ts[q].bs] := by rw [Z8 pD, ZD]; rfl
   obtain ⟨t, ht⟩ : ∃ t, t = ts[q] := ⟨_, rfl⟩
   rw [<- ht] at hs pF pK
   have pB : Below w.1.size w wr := pC.out.trans (hB.mono pC.out.size)
   have f0 : wr.cell? ⟨g, off + q * 3, none⟩ = some (.int .i64 t.lvl) := (pB.cell (p := ⟨g, off + q * 3, none⟩) hg).trans (pF 0 _ rfl)
   have f1 : wr.cell? ⟨g, off + q * 3 + 1, none⟩ = some (.string t.grp) := (pB.cell (p := ⟨g, off + q * 3 + 1, none⟩) hg).trans (pF 1 _ rfl)
   have f2 : wr.cell? ⟨g, off + q * 3 + 2, none⟩ = some s := (pB.cell (p := ⟨g, off + q * 3 + 2, none⟩) hg).trans (pF 2 _ rfl)
   have HS := Z0 hs
   obtain ⟨as1, cs', rfl, _⟩ := hs
   have pY := Z0 pK
   obtain ⟨av, cv, rL⟩ := hO.form
   have qZ : ((ts.take q).map (fun t => t.bs)).length = q := by rw [Z7, Kax]; omega
   rw [qZ] at rL
   subst rL
   obtain ⟨L, hL, hLr, hLo⟩ := hO
   have yB : L.length = q := by rw [<- qZ, <- hL, Z7]
   subst yB
   have yC := Z0 hL
   have yD := Z0 hLr
   have vV := (hLo.alloc (.cells #[.int .i64 t.lvl, .string t.grp, .slice as1 t.bs.length cs'] 112)).alloc (.cells #[.slice as1 t.bs.length cs'] 35)
   have yE := Z0 vV
   have yF := Z0 (fun r e => (hLo.lt r e).1)
   clear ht pF pO pB pK hL hLr hLo vV qZ hB
   go_wp2_with (at_builtin; refine wpList_append_own _ rfl _ _ 109 rfl w2.1.size 35 i0 (.slice none 0 0) 1 24 Tryz.underlying109 HI.out.1 HI.out.2.1 HI.out.2.2.1 HI.out.2.2.2 rfl (by decide) _ L.length _ rfl yE.out ⟨wr.1.size + 1, 0, none⟩ 1 1 [.slice as1 t.bs.length cs'] rfl (by simp) (by simpa using cell_one_new (wr.alloc (.cells #[.int .i64 t.lvl, .string t.grp, .slice as1 t.bs.length cs'] 112)) (.slice as1 t.bs.length cs') 35) (by simp [Value.oneCell']) (by unfold maxLen; omega) (by omega) (by have := pI.out.size; simp; omega) ?_; intro v' w5 qP pN _)
   go_roundw
   case rel =>
    refine ⟨L.length + 1, by omega, by go_num, ((pI.out.alloc pI.out.size _).alloc (by have := pI.out.size; simp; omega) _).grown pN (by have := pI.out.size; simp; omega) (fun r e => yF.out r e), L ++ [(t.bs, .slice as1 t.bs.length cs')], ?_, ?_, ?_⟩
    ·rw [pY.out, ZD, yC.out]; rfl
    ·intro p hp
     rcases ZG.1 hp with hp | hp
     ·exact yD.out p hp
     ·rw [ZI.1 hp]; exact HS.out
    ·rw [ZC, ZD]
     exact qP
   case measure => simp [intOf]; omega
  ·obtain rfl : q = ts.length := by omega
   rw [Kat] at hO
   have pB : Below w.1.size w wr := pC.out.trans (hB.mono pC.out.size)
   have HR := Z0 (hO.rd pB)
   obtain ⟨av, cv, rL⟩ := hO.form
   rw [Z7] at rL
   subst rL
   have yU := Z0 pB
   obtain ⟨⟨u0, u1, u2, u3⟩, v0, v1, v2⟩ := HL.out wr hB
   clear hO pB hB
   go_upto_region 7 with fail
   go_cut [36] from 29 to 36 (fun b wx => ∃ c : Bool, b = .bool (!c) /\ (c = true ↔ OnceOk (ts.map (fun t => t.bs)) bs.length kb) /\ Below wr.1.size wr wx)
   case first =>
    go_wp2_with (go_at_call 114; refine (xX.out wr _ HR.out).mono ?_; rintro e w6 ⟨vv, rfl, qR, r, rfl, hr⟩)
    go_meet
    exact ⟨r, rfl, hr, qR⟩
   case rest =>
    clear u0 u1 u2 u3 v0 v1 v2
    obtain ⟨wp, yG⟩ : ∃ x, x = wc := ⟨_, rfl⟩
    subst yG
    obtain ⟨c, rfl, hc, vW⟩ := hcut
    have tY := Z0 (pI.out.trans (vW.mono pI.out.size))
    have HC := Z0 hc
    clear vW hc
    cases c
    ·have hr : ¬ TrasOk ⟨kp, kg, kb, kt⟩ ⟨bs, ts, cs⟩ := fun h => by have := HC.out.2 h.once; cases this
     have qH := Z0 hr
     clear hr
     go_wp2_with fail
     go_ret
     exact ⟨_, rfl, pC.out.trans (tY.out.mono pC.out.size), IsB.no qH.out⟩
    ·have tZ := HC.out.1 rfl
     have qN := fun t (ht : t ∈ ts) i (hi : i ∈ t.bs) => tZ.ins i (by rw [Z1s]; exact Ka5.2 ⟨t, ht, hi⟩)
     have yH := Z0 tZ
     have yI := Z0 qN
     obtain ⟨⟨u0, u1, u2, u3⟩, v0, v1, v2⟩ := HL.out wp tY.out
     clear tZ qN
     go_wp2_with fail
     go_loopw [40] (fun i wx => ∃ q : Nat, q <= ts.length /\ i = .int .i64 q /\ Below w2.1.size w2 wx /\ ∀ t ∈ ts.take q, ∀ i ∈ t.bs, ∃ b, bs[i.toNat]? = some b /\ b.lvl = t.lvl /\ b.grp = t.grp) (fun i _ => ts.length - (intOf i).toNat)
     case atStart => exact ⟨0, ZE _, rfl, tY.out, by simp⟩
     case round =>
      clear u0 u1 u2 u3 v0 v1 v2
      obtain ⟨wo, sY⟩ : ∃ x, x = wr := ⟨_, rfl⟩
      subst sY
      obtain ⟨q, hq, rfl, hB, qO⟩ := hrel
      have HB := Z0 hB
      have pZ := Z0 qO
      clear qO
      by_cases pD : q < ts.length
      ·obtain ⟨g, off, rfl, hg, pO⟩ := vU.out (by omega)
       obtain ⟨s, hs, pF⟩ := pO q pD
       have pB : Below w.1.size w wo := pC.out.trans (hB.mono pC.out.size)
       have qL := Z4 pD
       have pK : ts.take (q + 1) = ts.take q ++ [ts[q]] := Z8 pD
       have pW := xZ.out _ qL
       have qN := yI.out _ qL
       have pL : TrasOk ⟨kp, kg, kb, kt⟩ ⟨bs, ts, cs⟩ -> ∀ i ∈ ts[q].bs, ∃ b, bs[i.toNat]? = some b /\ b.lvl = ts[q].lvl /\ b.grp = ts[q].grp := fun h => h.grp _ qL
       obtain ⟨t, ht⟩ : ∃ t, t = ts[q] := ⟨_, rfl⟩
       rw [<- ht] at hs pF pK pW qN pL
       have f0 : wo.cell? ⟨g, off + q * 3, none⟩ = some (.int .i64 t.lvl) := (pB.cell (p := ⟨g, off + q * 3, none⟩) hg).trans (pF 0 _ rfl)
       have f1 : wo.cell? ⟨g, off + q * 3 + 1, none⟩ = some (.string t.grp) := (pB.cell (p := ⟨g, off + q * 3 + 1, none⟩) hg).trans (pF 1 _ rfl)
       have f2 : wo.cell? ⟨g, off + q * 3 + 2, none⟩ = some s := (pB.cell (p := ⟨g, off + q * 3 + 2, none⟩) hg).trans (pF 2 _ rfl)
       obtain ⟨as1, cs', rfl, rH⟩ := hs
       obtain ⟨Wt, pT⟩ : ∃ W, W = wo.alloc (.cells #[.int .i64 t.lvl, .string t.grp, .slice as1 t.bs.length cs'] 112) := ⟨_, rfl⟩
       have hn := Z02 wo (.cells #[.int .i64 t.lvl, .string t.grp, .slice as1 t.bs.length cs'] 112)
       have qB : Below wo.1.size wo Wt := by rw [pT]; exact (Z9 _ _).alloc (Z1 _) _
       have vX : wo.1.size < Wt.1.size := by rw [pT, Z6]; exact Ka4 _
       rw [<- pT] at hn
       have tC := Z0 pT
       have HN := Z0 hn
       have sW := Z0 vX
       have pY := Z0 pK
       have yJ := Z0 qN
       have qK := Z0 pL
       have tF := Z0 rH
       have sF := Z0 (HB.out.trans (qB.mono HB.out.size))
       have pU := Z0 (pB.trans (qB.mono pB.size))
       obtain ⟨n0, n1, n2⟩ := cells3 hn
       clear ht pF pO pT hn vX pK qN pL rH pB qB qL hB
       go_upto_region 12 with fail
       rw [<- tC.out]
       go_wp2_with fail
       go_loopw [47] (fun i wx => ∃ p : Nat, p <= t.bs.length /\ i = .int .i64 p /\ Below Wt.1.size Wt wx /\ ∀ i ∈ t.bs.take p, ∃ b, bs[i.toNat]? = some b /\ b.lvl = t.lvl /\ b.grp = t.grp) (fun i _ => t.bs.length - (intOf i).toNat)
       case atStart => exact ⟨0, ZE _, rfl, Z9 _ _, by simp⟩
       case round =>
        clear n0 n1 n2 f0 f1 f2
        obtain ⟨wi, tI⟩ : ∃ x, x = wr := ⟨_, rfl⟩
        subst tI
        obtain ⟨p, hp, rfl, hB, vY⟩ := hrel
        have pA := Z0 hB
        have uA := Z0 vY
        clear vY
        by_cases pX : p < t.bs.length
        ·obtain ⟨gs, os, rfl, tO, rJ⟩ := tF.out (by omega)
         have pB : Below w.1.size w wi := pU.out.trans (hB.mono pU.out.size)
         have e1 := (pB.cell (p := ⟨gs, os + p, none⟩) tO).trans (rJ p pX)
         obtain ⟨i0', i1'⟩ := yJ.out _ (Z4 pX)
         have pL := fun h => qK.out h _ (Z4 pX)
         have qC : t.bs.take (p + 1) = t.bs.take p ++ [t.bs[p]] := Z8 pX
         obtain ⟨x, hx⟩ : ∃ x, x = t.bs[p] := ⟨_, rfl⟩
         rw [<- hx] at e1 i0' i1' pL qC
         obtain ⟨j, rfl⟩ : ∃ j : Nat, x = (j : Int) := ⟨x.toNat, by omega⟩
         have hj : j < bs.length := by omega
         rw [Kar, Z3 hj] at pL
         obtain ⟨gb, ob, rfl, vZ, qA⟩ := sV.out (by omega)
         obtain ⟨sb, _, pF⟩ := qA j hj
         have uB : bs[j]? = some bs[j] := Z3 hj
         obtain ⟨b, wA⟩ : ∃ b, b = bs[j] := ⟨_, rfl⟩
         rw [<- wA] at pF pL uB
         have b0 : wi.cell? ⟨gb, ob + j * 4, none⟩ = some (.int .i64 b.lvl) := (pB.cell (p := ⟨gb, ob + j * 4, none⟩) vZ).trans (pF 0 _ rfl)
         have b1 : wi.cell? ⟨gb, ob + j * 4 + 1, none⟩ = some (.string b.grp) := (pB.cell (p := ⟨gb, ob + j * 4 + 1, none⟩) vZ).trans (pF 1 _ rfl)
         obtain ⟨⟨u0, u1, u2, u3⟩, v0, v1, v2⟩ := HL.out wi (sF.out.trans (hB.mono sF.out.size))
         obtain ⟨n0, n1, n2⟩ := cells3 ((hB.block _ sW.out).trans HN.out)
         have wB := Z0 pL
         have tP := Z0 qC
         have yK := Z0 uB
         clear pF qA wA pL qC uB hx rJ pB hB i0' i1'
         by_cases q1 : b.lvl = t.lvl
         ·have rK : (b.lvl != t.lvl) = false := by simp [q1]
          by_cases q2 : b.grp = t.grp
          ·have qG : (b.grp.toList == t.grp.toList) = true := by rw [ba_eq]; exact Kac q2
           have Q := Z0 (And.intro q1 q2)
           clear q1 q2
           go_wp2_with fail
           go_quiet (fail)
           go_wp2_with fail
           go_roundw
           case rel =>
            refine ⟨p + 1, by omega, by go_num, (by first | exact below_drewN pA.out _ | exact pA.out.drew), ?_⟩
            rw [tP.out]
            intro y hy
            rcases ZG.1 hy with hy | hy
            ·exact uA.out y hy
            ·rw [ZI.1 hy, Kar]
             exact ⟨b, yK.out, Q.out.1, Q.out.2⟩
           case measure => simp [intOf]; omega
          ·have qG : (b.grp.toList == t.grp.toList) = false := by rw [ba_eq]; exact Kad q2
           have hr : ¬ TrasOk ⟨kp, kg, kb, kt⟩ ⟨bs, ts, cs⟩ := fun h => by
            obtain ⟨b', h1, h2, h3⟩ := wB.out h
            obtain rfl := Kav h1
            exact q2 h3
           have qH := Z0 hr
           clear hr q1 q2
           go_wp2_with fail
           go_quiet (fail)
           go_wp2_with fail
           go_ret
           exact ⟨_, rfl, by first | exact below_drewN (pU.out.trans (pA.out.mono pU.out.size)) _ | exact (pU.out.trans (pA.out.mono pU.out.size)).drew, IsB.no qH.out⟩
         ·have rK : (b.lvl != t.lvl) = true := by simp [q1]
          have hr : ¬ TrasOk ⟨kp, kg, kb, kt⟩ ⟨bs, ts, cs⟩ := fun h => by
           obtain ⟨b', h1, h2, h3⟩ := wB.out h
           obtain rfl := Kav h1
           exact q1 h2
          have qH := Z0 hr
          clear hr q1
          go_wp2_with fail
          go_quiet (fail)
          go_wp2_with fail
          go_ret
          exact ⟨_, rfl, by first | exact below_drewN (pU.out.trans (pA.out.mono pU.out.size)) _ | exact (pU.out.trans (pA.out.mono pU.out.size)).drew, IsB.no qH.out⟩
        ·obtain rfl : p = t.bs.length := by omega
         rw [Kat] at uA
         clear hB
         go_wp2_with fail
         go_roundw
         case rel =>
          refine ⟨q + 1, by omega, by go_num, sF.out.trans (pA.out.mono sF.out.size), ?_⟩
          rw [pY.out]
          intro y hy
          rcases ZG.1 hy with hy | hy
          ·exact pZ.out y hy
          ·rw [ZI.1 hy]
           exact uA.out
         case measure => simp [intOf]; omega
      ·obtain rfl : q = ts.length := by omega
       have qO := pZ.out
       rw [Kat] at qO
       have qH := Z0 (tX.out yH.out qO)
       clear qO hB
       go_wp2_with fail
       go_ret
       exact ⟨_, rfl, pC.out.trans (HB.out.mono pC.out.size), IsB.yes qH.out⟩
end Go.Proofs.YtlgajongmkhcnaaGreatDoor
