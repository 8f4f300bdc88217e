import Derived.Test.YtlgajongmkhcnaaGreatDoorQUA
import Derived.Test.YtlgajongmkhcnaaGreatDoorQUF
import Derived.Deep.Upon
import Derived.Test.YtlgajongmkhcnaaGreatDoorQU5
import Derived.BigQuiet
import Derived.Test.YtlgajongmkhcnaaGreatDoorQU8
set_option maxRecDepth 100000
set_option linter.unusedVariables false
set_option linter.unusedSimpArgs false
set_option maxHeartbeats 32000000
namespace Go.Proofs.YtlgajongmkhcnaaGreatDoor
open Go.RowKit Go.Sort
theorem HasPlan.groups_few {ls : List Lev} {m : Mai} (h : HasPlan ls m) : (Z16 ls (Z07 m.ps) ls.length).length <= 12000 := by
 have h1 := Z8B ls (Z07 m.ps)
 have h2 := (Z0y h.right).2
 have h3 := h.few
 rw [Z1G] at h1
 have : ls.length * m.ps.length <= 6 * 2000 := Nat.mul_le_mul h2 h3
 omega
theorem ZfU {ls : List Lev} {m : Mai} (h : HasPlan ls m) {v vc : Value} {w : World} (hr : RdLevs w v ls) (rT : ReadsT w vc (Z07 m.ps)) :
 Calls Tryz.prog 41 #[v, vc] w fun e w' => ∃ a cap, e = .returned (.tuple #[.slice a (Z16 ls (Z07 m.ps) ls.length).length cap, .int .i64 0]) /\ Below w.1.size w w' /\ RdGrps w' (.slice a (Z16 ls (Z07 m.ps) ls.length).length cap) (Z16 ls (Z07 m.ps) ls.length) := by
 have hl := Z0y h.right
 have hf := h.few
 have h1 := Z5G ls v vc (Z07 m.ps) w hr (Z1A h.right) (by unfold maxLen; omega) rT (by rw [Z1G]; unfold maxLen; omega) (fun c hc => by have := Z0w (h.code c hc); unfold maxLen; omega)
 rw [Z8A h.right (by rw [Z1G]; exact hf) h.code (Z75 h.pre), Z3T ls _ ls.length (Z1 _)] at h1
 refine h1.mono ?_
 rintro e w' ⟨vg, rfl, hb, tO⟩
 have vQ := RdGrps.of_owns tO
 obtain ⟨ag, cg, vR⟩ := tO.len
 subst vR
 exact ⟨ag, cg, rfl, hb, vQ⟩
theorem Z7p {ls : List Lev} {m : Mai} (h : HasPlan ls m) {vl v : Value} {w : World} (tP : RdLevs w vl ls) (hr : RdPces w v m.ps) :
 Calls Tryz.prog 30 #[vl, Z2r m v] w fun e w' => ∃ a cap, e = .returned (.tuple #[.slice a (Z16 ls (Z07 m.ps) ls.length).length cap, .int .i64 0]) /\ Below w.1.size w w' /\ RdGrps w' (.slice a (Z16 ls (Z07 m.ps) ls.length).length cap) (Z16 ls (Z07 m.ps) ls.length) := by
 have hl : m.ps.length <= 2000 := h.few
 have rU := Z0 (fun W vc (hW : Below w.1.size w W) (rT : ReadsT W vc (Z07 m.ps)) => ZfU h (tP.below hW) rT)
 obtain ⟨N, hN⟩ : ∃ N, N = (Z16 ls (Z07 m.ps) ls.length).length := ⟨_, rfl⟩
 rw [<- hN] at rU ⊢
 clear hN h tP
 obtain ⟨a, cap, rfl, pK⟩ := hr
 unfold Z2r
 obtain ⟨cls, ctr, org, ps⟩ := m
 dsimp only at *
 obtain ⟨i0, hi⟩ := info_parts Tryz.infoTx
 have HI := Z0 hi
 have vS := Z0 pK
 clear hi pK
 have c0 : (w.alloc (.cells #[.int .u8 cls, .int .u8 ctr, .string org, .slice a ps.length cap] 34)).cell? ⟨w.1.size, 3, none⟩ = some (.slice a ps.length cap) := Kaa _ _ 3 _ _ _ (Z02 w _)
 go_enter Tryz.func30, Tryz.ntmps30
 go_wp2_with (at_make; refine wpList_make_own _ rfl _ _ 84 rfl (w.1.size + 1) 9 i0 (.string ⟨#[]⟩) 1 Tryz.underlying84 HI.out.1 HI.out.2.1 HI.out.2.2.1 _ _ _ ps.length rfl (by first | rfl | simp) rfl (by rw [HI.out.2.2.2]; omega) (by unfold maxLen; omega) (by simp) ?_; intro w1 pQ pI; have qZ : Below (w.alloc (.cells #[.int .u8 cls, .int .u8 ctr, .string org, .slice a ps.length cap] 34)).1.size (w.alloc (.cells #[.int .u8 cls, .int .u8 ctr, .string org, .slice a ps.length cap] 34)) w1 := (Z9 _ _).grown pI (Z1 _) (fun _ e => by cases e); clear pI; have c1 := (qZ.cell (p := ⟨w.1.size, 3, none⟩) (by simp)).trans c0)
 have hB : Below w.1.size w w1 := Z0l (Z9 _ w) (Z1 _) qZ
 have vT := qZ.size
 simp only [Z6] at vT
 clear c1 c0 qZ
 go_loopw [6, 16] (fun l i wr => ∃ k : Nat, k <= ps.length /\ i = .int .i64 k /\ Below w.1.size w wr /\ w.1.size + 1 <= wr.1.size /\ wr.ownsRow (w.1.size + 1) 9 1 l k ((Z07 (ps.take k)).map Value.string)) (fun _ i _ => ps.length - (intOf i).toNat)
 case atStart => exact ⟨0, ZE _, rfl, hB, by omega, by simpa [Z07] using pQ⟩
 case round =>
  clear hB pQ
  obtain ⟨k, hk, rfl, hB, hz, hO⟩ := hrel
  by_cases pD : k < ps.length
  ·obtain ⟨g, off, rfl, hg, pF⟩ := vS.out (by omega)
   have hp := (pF k pD).below hB hg
   have pH := Z7x ps pD
   obtain ⟨p, pM⟩ : ∃ p, p = ps[k] := ⟨_, rfl⟩
   rw [<- pM] at hp pH
   have pT := Z0 pH
   obtain ⟨id, pt, cd, gr, br⟩ := p
   obtain ⟨p0, p1, p2, p3, p4⟩ := hp
   dsimp only at p0 p1 p2 p3 p4
   clear pF pH pM
   have tQ := (hO.alloc (.cells #[.int .i64 id, .int .i64 pt, .string cd, .int .i64 gr, .bool br] 65)).alloc (.cells #[.string cd] 9)
   have tR := Z0 tQ
   clear tQ
   rcases Joins.ownsRow_forms hO with ⟨rfl, tS⟩ | ⟨g2, cap2, rfl⟩
   ·have HP := Z0 tS
    clear tS
    go_wp2_with (at_builtin; refine wpList_append_own _ rfl _ _ 84 rfl (w.1.size + 1) 9 i0 (.string ⟨#[]⟩) 1 16 Tryz.underlying84 HI.out.1 HI.out.2.1 HI.out.2.2.1 HI.out.2.2.2 rfl (by decide) _ _ _ rfl tR.out ⟨wr.1.size + 1, 0, none⟩ 1 1 [.string cd] rfl (by simp) (by simpa using cell_one_new (wr.alloc (.cells #[.int .i64 id, .int .i64 pt, .string cd, .int .i64 gr, .bool br] 65)) (.string cd) 9) (by simp [Value.oneCell']) (by unfold maxLen; omega) (by omega) (by simp; omega) ?_; intro v' w5 qJ pI _)
    go_roundw
    case rel =>
     refine ⟨k + 1, by omega, by go_num, ?_, ?_, ?_⟩
     ·exact ((hB.alloc hB.size _).alloc (by have := hB.size; simp; omega) _).grown pI (by have := hB.size; simp; omega) (fun r e => by have := (hO.lt r e).1; omega)
     ·have := pI.size; simp at this; omega
     ·rw [pT.out]
      exact qJ
    case measure => simp [intOf]; omega
   ·go_wp2_with (at_builtin; refine wpList_append_own _ rfl _ _ 84 rfl (w.1.size + 1) 9 i0 (.string ⟨#[]⟩) 1 16 Tryz.underlying84 HI.out.1 HI.out.2.1 HI.out.2.2.1 HI.out.2.2.2 rfl (by decide) _ _ _ rfl tR.out ⟨wr.1.size + 1, 0, none⟩ 1 1 [.string cd] rfl (by simp) (by simpa using cell_one_new (wr.alloc (.cells #[.int .i64 id, .int .i64 pt, .string cd, .int .i64 gr, .bool br] 65)) (.string cd) 9) (by simp [Value.oneCell']) (by unfold maxLen; omega) (by omega) (by simp; omega) ?_; intro v' w5 qJ pI _)
    go_roundw
    case rel =>
     refine ⟨k + 1, by omega, by go_num, ?_, ?_, ?_⟩
     ·exact ((hB.alloc hB.size _).alloc (by have := hB.size; simp; omega) _).grown pI (by have := hB.size; simp; omega) (fun r e => by have := (hO.lt r e).1; omega)
     ·have := pI.size; simp at this; omega
     ·rw [pT.out]
      exact qJ
    case measure => simp [intOf]; omega
  ·obtain rfl : k = ps.length := by omega
   rw [Kat] at hO
   have HO := Z0 hO
   have pR : (Z07 ps).length = ps.length := by unfold Z07; simp
   rcases Joins.ownsRow_forms hO with ⟨rfl, hp⟩ | ⟨g2, cap2, rfl⟩
   ·have qK : ReadsT wr (.slice none 0 0) (Z07 ps) := ⟨none, 0, by rw [pR, hp], fun h0 => by rw [pR] at h0; omega⟩
    have pX := Z0 qK
    have HP := Z0 hp
    clear qK pR hO hp
    go_wp2_with (go_at_call 41; refine (rU.out _ _ hB pX.out).mono ?_; rintro e w6 ⟨a6, c6, rfl, qL, rV⟩)
    go_ret2
    exact ⟨_, _, rfl, Z01 hB hB.size qL, rV⟩
   ·have qK : ReadsT wr (.slice (some ⟨g2, 0, none⟩) ps.length cap2) (Z07 ps) := ReadsT.of_row (base := w.1.size + 1) (by unfold OwnsT; rw [pR]; exact HO.out)
    have pX := Z0 qK
    clear qK pR hO
    go_wp2_with (go_at_call 41; refine (rU.out _ _ hB pX.out).mono ?_; rintro e w6 ⟨a6, c6, rfl, qL, rV⟩)
    go_ret2
    exact ⟨_, _, rfl, Z01 hB hB.size qL, rV⟩
noncomputable def Zb3 (ls : List Lev) (m : Mai) (zs : List Int) (k : Pck) : Int := if (Z28 ls m zs).2 = 0 then (if (Z28 ls m zs).1 = true /\ Z7K k = true then 0 else 2) else (Z28 ls m zs).2
theorem Z8M {w w2 : World} {c1 c2 : Array Value} {t1 t2 : TypeId} (h : w2 = (w.alloc (.cells c1 t1)).alloc (.cells c2 t2)) :
 w2.1[w.1.size]? = some (.cells c1 t1 (0, 0)) /\ w2.1[w.1.size + 1]? = some (.cells c2 t2 (0, 0)) /\ w2.1.size = w.1.size + 1 + 1 /\ Below w.1.size w w2 := by
 rw [h]
 obtain ⟨a, ha⟩ : ∃ a, a = w.alloc (.cells c1 t1) := ⟨_, rfl⟩
 have za : a.1.size = w.1.size + 1 := by rw [ha, Z6]
 have na : a.1[w.1.size]? = some (.cells c1 t1 (0, 0)) := by rw [ha]; exact Z02 w _
 have nb : (a.alloc (.cells c2 t2)).1[w.1.size + 1]? = some (.cells c2 t2 (0, 0)) := by rw [<- za]; exact Z02 a _
 have ba : Below w.1.size w a := by rw [ha]; exact (Z9 _ w).alloc (Z1 _) _
 rw [<- ha]
 exact ⟨(ZB _ _ _ (by omega)).trans na, nb, by rw [Z6, za], ba.alloc (by omega) _⟩
theorem Z7E (ls : List Lev) (v vp vz : Value) (m : Mai) (zs : List Int) (k : Pck) (w : World) (hr : RdLevs w v ls) (hf : ∀ l ∈ ls, Z0K l) (hl : ls.length <= 100000) (rA : RdPces w vp m.ps) (h8 : 0 <= m.cls /\ m.cls <= 255 /\ 0 <= m.ctr /\ m.ctr <= 255)
 (vU : m.origin.size <= maxLen) (vV : m.ps.length <= 100000) (qM : ∀ p ∈ m.ps, p.code.size <= maxLen) (hz : RdInts w vz zs) (vW : zs.length <= 1000000) :
 Calls Tryz.prog 29 #[v, Z2r m vp, vz, Z4J k] w fun e w' => e = .returned (.int .i64 (Zb3 ls m zs k)) /\ Below w.1.size w w' := by
 have qD := Z0 (fun W (hW : Below w.1.size w W) => Zen ls v vp vz m zs W (hr.below hW) hf hl (rA.below hW) h8 vU vV qM (hz.below hW) vW)
 have pX := Z0 (fun W => Zdl k W)
 obtain ⟨ap, cp, rfl, _⟩ := rA
 have hA : Zb3 ls m zs k = if (Z28 ls m zs).2 = 0 then (if (Z28 ls m zs).1 = true /\ Z7K k = true then 0 else 2) else (Z28 ls m zs).2 := by unfold Zb3; rfl
 obtain ⟨R, hR⟩ : ∃ R, R = Z28 ls m zs := ⟨_, rfl⟩
 rw [<- hR] at qD hA
 obtain ⟨vb, ve⟩ := R
 obtain ⟨A, tT⟩ : ∃ A, A = Zb3 ls m zs k := ⟨_, rfl⟩
 obtain ⟨pb, tU⟩ : ∃ b, b = Z7K k := ⟨_, rfl⟩
 rw [<- tU] at pX hA
 rw [<- tT] at hA ⊢
 dsimp only at qD hA
 unfold Z2r Z4J at *
 obtain ⟨kp, kg, kb, kt⟩ := k
 obtain ⟨cls, ctr, org, ps⟩ := m
 dsimp only at *
 obtain ⟨w2, pY⟩ : ∃ w2, w2 = (w.alloc (.cells #[.int .u8 cls, .int .u8 ctr, .string org, .slice ap ps.length cp] 34)).alloc (.cells #[.int .i64 kp, .int .i64 kg, .int .i64 kb, .int .i64 kt] 37) := ⟨_, rfl⟩
 obtain ⟨g1, g2, z2, b2⟩ := Z8M pY
 obtain ⟨x0, x1, x2, x3⟩ := Z0H g1
 have tV := Z0 (fun (W : World) (hB : Below w2.1.size w2 W) => Z0H ((hB.block _ (by omega)).trans g2))
 have qE := Z0 pY
 have pC := Z0 b2
 have qN := Z0 hA
 clear pY b2 z2 g1 g2 hA tT tU hR hr hf qM hz
 by_cases he : ve = 0
 ·subst he
  cases vb
  ·have qO : Hid (A = 2) := Z0 (by have h := qN.out; simpa using h)
   go_enter Tryz.func29, Tryz.ntmps29
   go_upto_region 1 with fail
   rw [<- qE.out]
   go_wp2_with (go_at_call 16; refine (qD.out _ pC.out).mono ?_; rintro e w3 ⟨rfl, pG⟩)
   go_ret
   rw [qO.out]
   exact ⟨rfl, Z01 pC.out pC.out.size pG⟩
  ·cases pb
   ·have qO : Hid (A = 2) := Z0 (by have h := qN.out; simpa using h)
    go_enter Tryz.func29, Tryz.ntmps29
    go_upto_region 1 with fail
    rw [<- qE.out]
    go_wp2_with (first | (go_at_call 16; refine (qD.out _ pC.out).mono ?_; rintro e w3 ⟨rfl, pG⟩; obtain ⟨y0, y1, y2, y3⟩ := tV.out w3 pG) | (go_at_call 68; refine (pX.out w3).mono ?_; rintro e w4 ⟨rfl, pZ⟩))
    go_ret
    rw [qO.out]
    exact ⟨rfl, Z01 (Z01 pC.out pC.out.size pG) (Z01 pC.out pC.out.size pG).size pZ⟩
   ·have qO : Hid (A = 0) := Z0 (by have h := qN.out; simpa using h)
    go_enter Tryz.func29, Tryz.ntmps29
    go_upto_region 1 with fail
    rw [<- qE.out]
    go_wp2_with (first | (go_at_call 16; refine (qD.out _ pC.out).mono ?_; rintro e w3 ⟨rfl, pG⟩; obtain ⟨y0, y1, y2, y3⟩ := tV.out w3 pG) | (go_at_call 68; refine (pX.out w3).mono ?_; rintro e w4 ⟨rfl, pZ⟩))
    go_ret
    rw [qO.out]
    exact ⟨rfl, Z01 (Z01 pC.out pC.out.size pG) (Z01 pC.out pC.out.size pG).size pZ⟩
 ·have tW : (ve != 0) = true := by simp [he]
  rw [if_neg he] at qN
  go_enter Tryz.func29, Tryz.ntmps29
  go_upto_region 1 with fail
  rw [<- qE.out]
  go_wp2_with (go_at_call 16; refine (qD.out _ pC.out).mono ?_; rintro e w3 ⟨rfl, pG⟩)
  go_ret
  rw [qN.out]
  exact ⟨rfl, Z01 pC.out pC.out.size pG⟩
theorem ZfT {A B : World} (h : Below A.1.size A B) (row : Option Nat) : A.grownBy B row := ⟨h.os, h.tape, h.output, h.size, fun k hk _ => h.block k hk⟩
theorem Z4p {P : Program} (w : World) {ops : Array Oper} {rest : List Oper} {o : Oper} {a : Act} {Q : Exit -> Act -> World -> Prop} (qP : o.guard = none) (s x : Operand) (t : TypeId)
 (ho : o.op = .call { callee := .builtin .append, args := #[s, x], argTypes := #[t, t] })
 (base : Nat) (e : TypeId) (i : TypeInfo) (z : Value) (size bytes : Nat) (ht : P.underlying t = some (.slice e)) (hi : P.info? e = some i) (hz : i.zero = some z)
 (vX : i.size = size) (vY : i.bytes = bytes) (vZ : z.cells.size = size) (wA : 0 < size)
 (v : Value) (n : Nat) (xs : List Value) (hs : a.eval s = v) (pQ : w.ownsRow base e size v n xs)
 (base2 : Nat) (v2 : Value) (m : Nat) (news : List Value) (hx : a.eval x = v2) (rB : w.ownsRow base2 e size v2 m news) (h1 : ∀ u ∈ news, u.oneCell' = true)
 (wB : n + m <= maxLen) (wC : (n + m) * bytes <= 140737488355328) (wD : base <= w.1.size)
 (h : ∀ v' w', w'.ownsRow base e size v' (n + m) (xs ++ news) -> w.grownBy w' v.ownBlock -> wpList P ops Q rest (a.put o.dst v') w') : wpList P ops Q (o :: rest) a w := by
 rcases Joins.ownsRow_forms rB with ⟨rfl, hm⟩ | ⟨g, cap, rfl⟩
 ·subst hm
  have tW : news = [] := Kag.1 (by have := rB.1; omega)
  subst tW
  have wE : ∃ b n' c, v = .slice b n' c /\ n' <= c := by
   obtain ⟨_, ⟨rfl, _⟩ | ⟨g, cap, cur, rfl, _, _, hc, _⟩⟩ := pQ
   ·exact ⟨none, 0, 0, rfl, Z1 _⟩
   ·exact ⟨_, n, cap, rfl, hc⟩
  obtain ⟨b, n', c, rfl, qQ⟩ := wE
  refine wpList_plain qP fun K hK' => ?_
  have wF := run_append_nothing (P := P) w t t o.type e i ht hi b n' c qQ (.slice none 0 0) (Src.ofNil w ht 0)
  unfold Oper.wp
  simp [execOp, ho, resolve, invoke, builtin, hs, hx, wF, Result.andThen]
  refine hK' _ _ (h _ _ ?_ (ZfT (Z9 _ _) _))
  simpa using pQ
 ·exact wpList_append_own w qP s x t ho base e i z size bytes ht hi hz vX vY vZ wA v n xs hs pQ ⟨g, 0, none⟩ m cap news hx rB.1 (fun j u hj => rB.cells (g := g) rfl j u hj) h1 wB wC wD (fun v' w' h2 h3 _ => h v' w' h2 h3)
def OwnsX {α : Type} (T : TypeId) (n : Nat) (cf : α × Value -> List Value) (ids : α -> List Int) (w : World) (base : Nat) (v : Value) (xs : List α) : Prop :=
 ∃ L : List (α × Value), L.map Prod.fst = xs /\ (∀ p ∈ L, RowJ w base p.2 (ids p.1)) /\ w.ownsRow base T n v L.length (L.flatMap cf)
section
variable {α : Type} {T : TypeId} {n : Nat} {cf : α × Value -> List Value} {ids : α -> List Int} {w w' : World} {base : Nat} {v : Value} {xs : List α}
theorem OwnsX.nil (w : World) (base : Nat) : OwnsX T n cf ids w base (.slice none 0 0) [] := ⟨[], rfl, by simp, Kbb _ _ _ _⟩
theorem OwnsX.below (h : OwnsX T n cf ids w base v xs) (hb : Below w.1.size w w') : OwnsX T n cf ids w' base v xs := by
 obtain ⟨L, hL, h1, h2⟩ := h
 exact ⟨L, hL, fun p hp => (h1 p hp).below hb, Z09 h2 hb⟩
theorem OwnsX.mono {base' : Nat} (h : OwnsX T n cf ids w base v xs) (hb : base' <= base) : OwnsX T n cf ids w base' v xs := by
 obtain ⟨L, hL, h1, h2⟩ := h
 exact ⟨L, hL, fun p hp => (h1 p hp).mono hb, Z6g h2 hb⟩
theorem OwnsX.form (h : OwnsX T n cf ids w base v xs) : ∃ a cap, v = .slice a xs.length cap := by
 obtain ⟨L, rfl, _, ho⟩ := h
 rw [Z7]
 exact Z0F ho
theorem OwnsX.beside {row : Option Nat} (h : OwnsX T n cf ids w base v xs) (hg : w.grownBy w' row) (h1 : ∀ g, row = some g -> ∀ cur fr, w.1[g]? ≠ some (.cells cur T fr)) (h2 : ∀ g, row = some g -> ∀ cur fr, w.1[g]? ≠ some (.cells cur 3 fr)) : OwnsX T n cf ids w' base v xs := by
 obtain ⟨L, hL, h3, h4⟩ := h
 exact ⟨L, hL, fun p hp => (h3 p hp).kept hg (fun g e => .inr (h2 g e)), Z0A h4 hg h1⟩
theorem OwnsX.not (h : OwnsX T n cf ids w base v xs) {T' : TypeId} (hT : T' ≠ T) : ∀ g, v.ownBlock = some g -> ∀ cur fr, w.1[g]? ≠ some (.cells cur T' fr) := by
 obtain ⟨L, hL, h3, h4⟩ := h
 exact Z0t h4 hT
theorem OwnsX.app {L L2 : List (α × Value)} {w2 : World} {v' : Value} (hT : 3 ≠ T) (hr : ∀ p ∈ L, RowJ w base p.2 (ids p.1)) (wG : ∀ p ∈ L2, RowJ w base p.2 (ids p.1)) (hO : w.ownsRow base T n v L.length (L.flatMap cf)) (hg : w.grownBy w2 v.ownBlock)
 (ho : w2.ownsRow base T n v' (L.length + L2.length) (L.flatMap cf ++ L2.flatMap cf)) : OwnsX T n cf ids w2 base v' (L.map Prod.fst ++ L2.map Prod.fst) := by
 have nA := Z0t hO hT
 refine ⟨L ++ L2, by rw [ZD], fun p hp => ?_, ?_⟩
 ·rcases ZG.1 hp with hp | hp
  ·exact (hr p hp).kept hg (fun g e => .inr (nA g e))
  ·exact (wG p hp).kept hg (fun g e => .inr (nA g e))
 ·rw [Kai, ZC]
  exact ho
end
def Z34 (p : Tra × Value) : List Value := [.int .i64 p.1.lvl, .string p.1.grp, p.2]
def Z3h (p : Con × Value) : List Value := [.int .i64 p.1.lvl, p.2]
structure LodW (w : World) (T base : Nat) (bs : List Bun) (ts : List Tra) (cs : List Con) (vb vt vc : Value) : Prop where
 cell : w.1[T]? = some (.cells #[vb, vt, vc] 52 (0, 0))
 b : OwnsX 67 4 Z0T (fun b => b.ids) w base vb bs
 t : OwnsX 112 3 Z34 (fun t => t.bs) w base vt ts
 c : OwnsX 114 2 Z3h (fun c => c.ts) w base vc cs
section
variable {w w' w2 : World} {T base : Nat} {bs bs' : List Bun} {ts ts' : List Tra} {cs cs' : List Con} {vb vt vc vb' vt' vc' : Value}
theorem LodW.lt (h : LodW w T base bs ts cs vb vt vc) : T < w.1.size := (Z5.1 h.cell).1
theorem LodW.below (h : LodW w T base bs ts cs vb vt vc) (hb : Below w.1.size w w') : LodW w' T base bs ts cs vb vt vc :=
 ⟨(hb.block T h.lt).trans h.cell, h.b.below hb, h.t.below hb, h.c.below hb⟩
theorem cells3 {w : World} {g : Nat} {a b c : Value} {t : TypeId} {fr : Nat × Nat} (h : w.1[g]? = some (.cells #[a, b, c] t fr)) : w.cell? ⟨g, 0, none⟩ = some a /\ w.cell? ⟨g, 1, none⟩ = some b /\ w.cell? ⟨g, 2, none⟩ = some c :=
 ⟨Kaa _ _ 0 _ _ _ h, Kaa _ _ 1 _ _ _ h, Kaa _ _ 2 _ _ _ h⟩
theorem Zeg {w : World} {g : Nat} {a b c u : Value} {t : TypeId} {fr : Nat × Nat} (h : w.1[g]? = some (.cells #[a, b, c] t fr)) :
 (w.setCell ⟨g, 0, none⟩ u).1[g]? = some (.cells #[u, b, c] t fr) /\ (w.setCell ⟨g, 1, none⟩ u).1[g]? = some (.cells #[a, u, c] t fr) /\ (w.setCell ⟨g, 2, none⟩ u).1[g]? = some (.cells #[a, b, u] t fr) := by
 refine ⟨?_, ?_, ?_⟩ <;> simp [World.setCell, Kap, h]
theorem Z0x {w : World} {g : Nat} {cs : Array Value} (h : w.1[g]? = some (.cells cs 52 (0, 0))) {T' : TypeId} (hT : T' ≠ 52) : ∀ k, some g = some k -> ∀ cur fr, w.1[k]? ≠ some (.cells cur T' fr) := fun k e cur fr hk => by
 obtain rfl := Kav e
 rw [h] at hk
 injection hk with hk
 injection hk with _ hk _
 exact hT hk.symm
theorem LodW.setB (h : LodW w T base bs ts cs vb vt vc) (hg : w.grownBy w2 vb.ownBlock) (hb : OwnsX 67 4 Z0T (fun b => b.ids) w2 base vb' bs') : LodW (w2.setCell ⟨T, 0, none⟩ vb') T base bs' ts cs vb' vt vc /\ w2.frozen? ⟨T, 0, none⟩ = false /\ w2.cell? ⟨T, 0, none⟩ = some vb := by
 have h2 : w2.1[T]? = some (.cells #[vb, vt, vc] 52 (0, 0)) := (hg.block T h.lt (fun e => h.b.not (T' := 52) (by decide) T e.symm _ _ h.cell)).trans h.cell
 have hs := Z0P w2 ⟨T, 0, none⟩ vb'
 exact ⟨⟨(Zeg h2).1, hb.beside hs (Z0x h2 (by decide)) (Z0x h2 (by decide)), (h.t.beside hg (h.b.not (by decide)) (h.b.not (by decide))).beside hs (Z0x h2 (by decide)) (Z0x h2 (by decide)), (h.c.beside hg (h.b.not (by decide)) (h.b.not (by decide))).beside hs (Z0x h2 (by decide)) (Z0x h2 (by decide))⟩, Z3N h2, (cells3 h2).1⟩
theorem LodW.setT (h : LodW w T base bs ts cs vb vt vc) (hg : w.grownBy w2 vt.ownBlock) (hb : OwnsX 112 3 Z34 (fun t => t.bs) w2 base vt' ts') : LodW (w2.setCell ⟨T, 1, none⟩ vt') T base bs ts' cs vb vt' vc /\ w2.frozen? ⟨T, 1, none⟩ = false /\ w2.cell? ⟨T, 1, none⟩ = some vt := by
 have h2 : w2.1[T]? = some (.cells #[vb, vt, vc] 52 (0, 0)) := (hg.block T h.lt (fun e => h.t.not (T' := 52) (by decide) T e.symm _ _ h.cell)).trans h.cell
 have hs := Z0P w2 ⟨T, 1, none⟩ vt'
 exact ⟨⟨(Zeg h2).2.1, (h.b.beside hg (h.t.not (by decide)) (h.t.not (by decide))).beside hs (Z0x h2 (by decide)) (Z0x h2 (by decide)), hb.beside hs (Z0x h2 (by decide)) (Z0x h2 (by decide)), (h.c.beside hg (h.t.not (by decide)) (h.t.not (by decide))).beside hs (Z0x h2 (by decide)) (Z0x h2 (by decide))⟩, Z3N h2, (cells3 h2).2.1⟩
theorem LodW.setC (h : LodW w T base bs ts cs vb vt vc) (hg : w.grownBy w2 vc.ownBlock) (hb : OwnsX 114 2 Z3h (fun c => c.ts) w2 base vc' cs') : LodW (w2.setCell ⟨T, 2, none⟩ vc') T base bs ts cs' vb vt vc' /\ w2.frozen? ⟨T, 2, none⟩ = false /\ w2.cell? ⟨T, 2, none⟩ = some vc := by
 have h2 : w2.1[T]? = some (.cells #[vb, vt, vc] 52 (0, 0)) := (hg.block T h.lt (fun e => h.c.not (T' := 52) (by decide) T e.symm _ _ h.cell)).trans h.cell
 have hs := Z0P w2 ⟨T, 2, none⟩ vc'
 exact ⟨⟨(Zeg h2).2.2, (h.b.beside hg (h.c.not (by decide)) (h.c.not (by decide))).beside hs (Z0x h2 (by decide)) (Z0x h2 (by decide)), (h.t.beside hg (h.c.not (by decide)) (h.c.not (by decide))).beside hs (Z0x h2 (by decide)) (Z0x h2 (by decide)), hb.beside hs (Z0x h2 (by decide)) (Z0x h2 (by decide))⟩, Z3N h2, (cells3 h2).2.2⟩
end
theorem Z68 {P : Program} {fn : Func} {p q : Tmp} {ty : TypeId} (h : fn.results = #[.cell p ty, .tmp q]) (tmps : Array Value) (w : World) (g : Nat) (t : TypeId) (cs : Array Value) (fr : Nat × Nat) (d : TypeDesc) (z : Value)
 (hp : tmps.getD p undef = .pointer (some ⟨g, 0, none⟩)) (hq : tmps.getD q undef = z) (hg : w.1[g]? = some (.cells cs t fr))
 (hu : P.underlying ty = some d) (hd : (match d with | .struct _ | .array _ _ => true | _ => false) = true) (hi : (P.info? ty).map (·.size) = some cs.size) :
 (results fn tmps).run P w = .ok (.tuple #[.agg cs, z]) w := by
 have hp' : tmps[p]?.getD undef = .pointer (some ⟨g, 0, none⟩) := by simpa using hp
 have hq' : tmps[q]?.getD undef = z := by simpa using hq
 simp [results, h, hp', hq', asAddr, run_loadVar_row w g t ty cs fr d hg hu hd hi]
theorem ZiY {w : World} {g : Nat} {a b c a' b' c' : Value} {t : TypeId} {fr : Nat × Nat} (h : w.1[g]? = some (.cells #[a, b, c] t fr)) :
 (((w.setCell ⟨g, 0, none⟩ a').setCell ⟨g, 1, none⟩ b').setCell ⟨g, 2, none⟩ c').1[g]? = some (.cells #[a', b', c'] t fr) := (Zeg (Zeg (Zeg h).1).2.1).2.2
def Zeh (vb vt vc : Value) : Value := .agg #[vb, vt, vc]
theorem Tryz.infoTr : (Tryz.prog.info? 112).map (fun i => (i.zero, i.size, i.bytes)) = some (some (.agg #[.int .i64 0, .string ⟨#[]⟩, .slice none 0 0]), 3, 48) := by kernel_rfl
theorem Tryz.infoCo : (Tryz.prog.info? 114).map (fun i => (i.zero, i.size, i.bytes)) = some (some (.agg #[.int .i64 0, .slice none 0 0]), 2, 32) := by kernel_rfl
def Z5e (x : Grp) (l : List Int) : Tra := ⟨x.lvl, x.name, l⟩
def Z7X (x : Grp) (l : List Int) : Con := ⟨x.lvl, l⟩
theorem Zhu {k : Pck} {ps : List Pce} {zs : List Int} {Gs : List Grp} {j : Nat} (hj : j < Gs.length) (he : Z3f Gs j) {st : PkS} (rW : st = Z29 k ps zs Gs j) {bs : List Bun} (qA : bs = st.buns ++ Z10 k ps zs Gs[j]) {ts : List Tra} (rX : ts = st.tras ++ (Z0V st.buns.length bs.length k.bundles.toNat).map (Z5e Gs[j])) :
 Z29 k ps zs Gs (j + 1) = ⟨bs, ts, st.cons ++ (Z0V st.beg ts.length k.trays.toNat).map (Z7X Gs[j]), ts.length⟩ := by
 rw [Z4G, <- rW]
 unfold Z5T
 rw [dif_pos hj]
 dsimp only
 rw [<- qA]
 have e : (fun l => (⟨Gs[j].lvl, Gs[j].name, l⟩ : Tra)) = Z5e Gs[j] := rfl
 rw [e, <- rX, if_pos he]
 rfl
theorem Zhv {k : Pck} {ps : List Pce} {zs : List Int} {Gs : List Grp} {j : Nat} (hj : j < Gs.length) (he : ¬ Z3f Gs j) {st : PkS} (rW : st = Z29 k ps zs Gs j) {bs : List Bun} (qA : bs = st.buns ++ Z10 k ps zs Gs[j]) {ts : List Tra} (rX : ts = st.tras ++ (Z0V st.buns.length bs.length k.bundles.toNat).map (Z5e Gs[j])) :
 Z29 k ps zs Gs (j + 1) = ⟨bs, ts, st.cons, st.beg⟩ := by
 rw [Z4G, <- rW]
 unfold Z5T
 rw [dif_pos hj]
 dsimp only
 rw [<- qA]
 have e : (fun l => (⟨Gs[j].lvl, Gs[j].name, l⟩ : Tra)) = Z5e Gs[j] := rfl
 rw [e, <- rX, if_neg he]
theorem Zi1 {Gs : List Grp} {j : Nat} : Z3f Gs j ↔ ¬ ∃ h : j + 1 < Gs.length, Gs[j + 1].lvl = (Gs[j]'(by omega)).lvl := by
 unfold Z3f
 constructor
 ·rintro h ⟨h1, h2⟩; exact h h1 h2
 ·intro h h1 h2; exact h ⟨h1, h2⟩
theorem OwnsLL.lies {w : World} {base : Nat} {v : Value} {ts : List (List Int)} (h : OwnsLL w base v ts) : ∃ a cap, v = .slice a ts.length cap /\ (0 < ts.length -> ∃ g, a = some ⟨g, 0, none⟩ /\ g < w.1.size /\ ∀ i (h : i < ts.length), ∃ s, w.cell? ⟨g, i, none⟩ = some s /\ RowJ w base s ts[i]) := by
 obtain ⟨L, rfl, h1, h2⟩ := h
 rcases Joins.ownsRow_forms h2 with ⟨rfl, hp⟩ | ⟨g, cap, rfl⟩
 ·exact ⟨none, 0, by rw [Z7, hp], fun h0 => by rw [Z7, hp] at h0; omega⟩
 ·refine ⟨_, cap, by rw [Z7], fun h0 => ⟨g, rfl, (h2.lt g rfl).2, fun i hi => ?_⟩⟩
  rw [Z7] at hi
  have hc := h2.cellAt i (by rw [Kdj]; exact hi)
  rw [Kal, Z3 hi] at hc
  refine ⟨_, hc, ?_⟩
  rw [Kba]
  exact h1 _ (Z4 hi)
theorem ZeS {w : World} {base : Nat} {v : Value} {zs : List Int} (h : RowJ w base v zs) : v.oneCell' = true := by
 obtain ⟨a, cap, rfl, _⟩ := h
 rfl
theorem ZjH {w : World} {base : Nat} {L : List (Bun × Value)} (h : ∀ p ∈ L, RowJ w base p.2 p.1.ids) : ∀ u ∈ L.flatMap Z0T, u.oneCell' = true := fun u hu => by
 obtain ⟨p, hp, hu⟩ := Ka5.1 hu
 have h1 := ZeS (h p hp)
 simp only [Z0T, Kbf, Kda, or_false] at hu
 rcases hu with rfl | rfl | rfl | rfl
 ·rfl
 ·rfl
 ·exact h1
 ·rfl
theorem RdGrps.lies {w : World} {a : Option Addr} {n cap : Nat} {gs : List Grp} (h : RdGrps w (.slice a n cap) gs) : 0 < gs.length -> ∃ g off, a = some ⟨g, off, none⟩ /\ g < w.1.size /\ ∀ i (h : i < gs.length), ∃ sv, RdInts w sv gs[i].items /\ GrpAt w g (off + i * 4) gs[i] sv := by
 obtain ⟨a', cap', hv, hc⟩ := h
 injection hv with h1 h2 h3
 subst h1
 exact hc
theorem Zgy (wr W6 w : World) (x : Grp) (sv sy : Value) (gy o : Nat) (hB : Below w.1.size w wr) (hb : Below W6.1.size W6 wr) (wH : gy < W6.1.size) (hy : GrpAt W6 gy o x sy) (t : TypeId) :
 ∃ Wq N, wr.alloc (.cells #[.int .i64 x.lvl, .string x.name, .int .i64 x.up, sv] t) = Wq /\ wr.1.size = N /\ Below w.1.size w Wq /\ Below W6.1.size W6 Wq /\ GrpAt Wq gy o x sy /\ Wq.cell? ⟨N, 0, none⟩ = some (.int .i64 x.lvl) /\ Wq.cell? ⟨N, 1, none⟩ = some (.string x.name) /\ Wq.cell? ⟨N, 2, none⟩ = some (.int .i64 x.up) /\ Wq.cell? ⟨N, 3, none⟩ = some sv := by
 have b1 := hB.alloc hB.size (.cells #[.int .i64 x.lvl, .string x.name, .int .i64 x.up, sv] t)
 have b2 := hb.alloc hb.size (.cells #[.int .i64 x.lvl, .string x.name, .int .i64 x.up, sv] t)
 refine ⟨_, _, rfl, rfl, b1, b2, hy.below b2 wH, Z0f wr _ t 0 _ rfl, Z0f wr _ t 1 _ rfl, Z0f wr _ t 2 _ rfl, Z0f wr _ t 3 _ rfl⟩
theorem Zig {α β : Type} {L L7 : List (α × β)} {xs ys zs : List α} (h : L.map Prod.fst = xs) (h7 : L7.map Prod.fst = ys) (hz : zs = xs ++ ys) : L.length = xs.length /\ L.length + L7.length = zs.length := by
 subst h h7 hz
 simp
theorem OwnsX.add {α : Type} {T : TypeId} {n : Nat} {cf : α × Value -> List Value} {ids : α -> List Int} {w w2 : World} {base : Nat} {v v' u : Value} {x : α} {L : List (α × Value)} {xs : List α} (hL : L.map Prod.fst = xs) (hT : 3 ≠ T) (hr : ∀ p ∈ L, RowJ w base p.2 (ids p.1)) (hu : RowJ w base u (ids x)) (hO : w.ownsRow base T n v L.length (L.flatMap cf)) (hg : w.grownBy w2 v.ownBlock)
 (ho : w2.ownsRow base T n v' (L.length + 1) (L.flatMap cf ++ cf (x, u))) : OwnsX T n cf ids w2 base v' (xs ++ [x]) := by
 have := OwnsX.app (L2 := [(x, u)]) hT hr (by simpa using hu) hO hg (by simpa using ho)
 rw [hL] at this
 exact this
theorem OwnsLL.beside {w w' : World} {base : Nat} {v : Value} {ts : List (List Int)} {row : Option Nat} (h : OwnsLL w base v ts) (hg : w.grownBy w' row) (h1 : ∀ g, row = some g -> ∀ cur fr, w.1[g]? ≠ some (.cells cur 35 fr)) (h2 : ∀ g, row = some g -> ∀ cur fr, w.1[g]? ≠ some (.cells cur 3 fr)) : OwnsLL w' base v ts := by
 obtain ⟨L, hL, h3, h4⟩ := h
 exact ⟨L, hL, fun p hp => (h3 p hp).kept hg (fun g e => .inr (h2 g e)), Z0A h4 hg h1⟩
theorem OwnsLL.at {w : World} {base n c : Nat} {a : Option Addr} {ts : List (List Int)} (h : OwnsLL w base (.slice a n c) ts) (h0 : 0 < ts.length) : ∃ g, a = some ⟨g, 0, none⟩ /\ g < w.1.size /\ ∀ i (h : i < ts.length), ∃ s, w.cell? ⟨g, i, none⟩ = some s /\ RowJ w base s ts[i] := by
 obtain ⟨a', cap, hv, hc⟩ := h.lies
 injection hv with h1 _ _
 subst h1
 exact hc h0
theorem OwnsLL.mono {w : World} {base base' : Nat} {v : Value} {ts : List (List Int)} (h : OwnsLL w base v ts) (hb : base' <= base) : OwnsLL w base' v ts := by
 obtain ⟨L, hL, h3, h4⟩ := h
 exact ⟨L, hL, fun p hp => (h3 p hp).mono hb, Z6g h4 hb⟩
structure PkW (wg wx : World) (N : Nat) (x : Grp) (sv : Value) (bs : List Bun) (ts : List Tra) (cs : List Con) (vb vt vc : Value) : Prop where
 b : Below wg.1.size wg wx
 l : LodW wx wg.1.size wg.1.size bs ts cs vb vt vc
 n : wx.1[N]? = some (.cells #[.int .i64 x.lvl, .string x.name, .int .i64 x.up, sv] 107 (0, 0))
section
variable {wg wx wy w2 : World} {N : Nat} {x : Grp} {sv : Value} {bs bs' : List Bun} {ts ts' : List Tra} {cs cs' : List Con} {vb vt vc vb' vt' vc' : Value}
theorem PkW.below (h : PkW wg wx N x sv bs ts cs vb vt vc) (hb : Below wx.1.size wx wy) : PkW wg wy N x sv bs ts cs vb vt vc :=
 ⟨h.b.trans (hb.mono h.b.size), h.l.below hb, (hb.block N (Z5.1 h.n).1).trans h.n⟩
theorem PkW.ne (h : PkW wg wx N x sv bs ts cs vb vt vc) : N ≠ wg.1.size := fun e => by
 have h1 := h.n
 rw [e, h.l.cell] at h1
 injection h1 with h1
 injection h1 with _ h1 _
 exact absurd h1 (by decide)
theorem Z4y {w : World} {a g : Nat} {k : Nat} {u : Value} (h : g ≠ a) : (w.setCell ⟨a, k, none⟩ u).1[g]? = w.1[g]? := by
 simp [World.setCell, Kap, Ne.symm h]
theorem PkW.addB (h : PkW wg wx N x sv bs ts cs vb vt vc) (hg : wx.grownBy w2 vb.ownBlock) (hb : OwnsX 67 4 Z0T (fun b => b.ids) w2 wg.1.size vb' bs') : PkW wg (w2.setCell ⟨wg.1.size, 0, none⟩ vb') N x sv bs' ts cs vb' vt vc /\ w2.frozen? ⟨wg.1.size, 0, none⟩ = false /\ w2.cell? ⟨wg.1.size, 0, none⟩ = some vb := by
 obtain ⟨h1, h2, h3⟩ := h.l.setB hg hb
 obtain ⟨L, _, _, hLo⟩ := h.l.b
 refine ⟨⟨(h.b.grown hg h.b.size (fun r e => (hLo.lt r e).1)).setCell (p := ⟨wg.1.size, 0, none⟩) (Z1 _) _, h1, ?_⟩, h2, h3⟩
 exact (Z4y h.ne).trans ((hg.block N (Z5.1 h.n).1 (fun e => h.l.b.not (T' := 107) (by decide) N e.symm _ _ h.n)).trans h.n)
theorem PkW.addT (h : PkW wg wx N x sv bs ts cs vb vt vc) (hg : wx.grownBy w2 vt.ownBlock) (hb : OwnsX 112 3 Z34 (fun t => t.bs) w2 wg.1.size vt' ts') : PkW wg (w2.setCell ⟨wg.1.size, 1, none⟩ vt') N x sv bs ts' cs vb vt' vc /\ w2.frozen? ⟨wg.1.size, 1, none⟩ = false /\ w2.cell? ⟨wg.1.size, 1, none⟩ = some vt := by
 obtain ⟨h1, h2, h3⟩ := h.l.setT hg hb
 obtain ⟨L, _, _, hLo⟩ := h.l.t
 refine ⟨⟨(h.b.grown hg h.b.size (fun r e => (hLo.lt r e).1)).setCell (p := ⟨wg.1.size, 1, none⟩) (Z1 _) _, h1, ?_⟩, h2, h3⟩
 exact (Z4y h.ne).trans ((hg.block N (Z5.1 h.n).1 (fun e => h.l.t.not (T' := 107) (by decide) N e.symm _ _ h.n)).trans h.n)
theorem PkW.addC (h : PkW wg wx N x sv bs ts cs vb vt vc) (hg : wx.grownBy w2 vc.ownBlock) (hb : OwnsX 114 2 Z3h (fun c => c.ts) w2 wg.1.size vc' cs') : PkW wg (w2.setCell ⟨wg.1.size, 2, none⟩ vc') N x sv bs ts cs' vb vt vc' /\ w2.frozen? ⟨wg.1.size, 2, none⟩ = false /\ w2.cell? ⟨wg.1.size, 2, none⟩ = some vc := by
 obtain ⟨h1, h2, h3⟩ := h.l.setC hg hb
 obtain ⟨L, _, _, hLo⟩ := h.l.c
 refine ⟨⟨(h.b.grown hg h.b.size (fun r e => (hLo.lt r e).1)).setCell (p := ⟨wg.1.size, 2, none⟩) (Z1 _) _, h1, ?_⟩, h2, h3⟩
 exact (Z4y h.ne).trans ((hg.block N (Z5.1 h.n).1 (fun e => h.l.c.not (T' := 107) (by decide) N e.symm _ _ h.n)).trans h.n)
theorem PkW.rowsT (h : PkW wg wx N x sv bs ts cs vb vt vc) (hg : wx.grownBy w2 vt.ownBlock) {base : Nat} {v : Value} {R : List (List Int)} (ho : OwnsLL wx base v R) (u : Value) : OwnsLL (w2.setCell ⟨wg.1.size, 1, none⟩ u) base v R := by
 have h2 : w2.1[wg.1.size]? = some (.cells #[vb, vt, vc] 52 (0, 0)) := (hg.block _ h.l.lt (fun e => h.l.t.not (T' := 52) (by decide) _ e.symm _ _ h.l.cell)).trans h.l.cell
 exact (ho.beside hg (h.l.t.not (by decide)) (h.l.t.not (by decide))).beside (Z0P w2 ⟨wg.1.size, 1, none⟩ u) (Z0x h2 (by decide)) (Z0x h2 (by decide))
theorem PkW.rowsC (h : PkW wg wx N x sv bs ts cs vb vt vc) (hg : wx.grownBy w2 vc.ownBlock) {base : Nat} {v : Value} {R : List (List Int)} (ho : OwnsLL wx base v R) (u : Value) : OwnsLL (w2.setCell ⟨wg.1.size, 2, none⟩ u) base v R := by
 have h2 : w2.1[wg.1.size]? = some (.cells #[vb, vt, vc] 52 (0, 0)) := (hg.block _ h.l.lt (fun e => h.l.c.not (T' := 52) (by decide) _ e.symm _ _ h.l.cell)).trans h.l.cell
 exact (ho.beside hg (h.l.c.not (by decide)) (h.l.c.not (by decide))).beside (Z0P w2 ⟨wg.1.size, 2, none⟩ u) (Z0x h2 (by decide)) (Z0x h2 (by decide))
end
theorem Z96 {α : Type} {T : TypeId} {n : Nat} {cf : α × Value -> List Value} {ids : α -> List Int} {w : World} {base g : Nat} {v : Value} {xs : List α} {a b c a' b' c' : Value} (h : OwnsX T n cf ids w base v xs) (hT : T ≠ 52) (hg : w.1[g]? = some (.cells #[a, b, c] 52 (0, 0))) :
 OwnsX T n cf ids (((w.setCell ⟨g, 0, none⟩ a').setCell ⟨g, 1, none⟩ b').setCell ⟨g, 2, none⟩ c') base v xs :=
 ((h.beside (Z0P w ⟨g, 0, none⟩ a') (Z0x hg hT) (Z0x hg (by decide))).beside (Z0P _ ⟨g, 1, none⟩ b') (Z0x (Zeg hg).1 hT) (Z0x (Zeg hg).1 (by decide))).beside (Z0P _ ⟨g, 2, none⟩ c') (Z0x (Zeg (Zeg hg).1).2.1 hT) (Z0x (Zeg (Zeg hg).1).2.1 (by decide))
section
variable {α : Type} {n : Nat} {cf : α × Value -> List Value} {ids : α -> List Int} {w w' : World} {v : Value} {xs : List α}
theorem OwnsX.rd {T : TypeId} {base : Nat} (hf : ∀ p, (cf p).length = n) (h : OwnsX T n cf ids w base v xs) : RdX n cf ids w v xs := by
 obtain ⟨L, rfl, h1, h2⟩ := h
 rcases Joins.ownsRow_forms h2 with ⟨rfl, hp⟩ | ⟨g, cap, rfl⟩
 ·exact ⟨none, 0, by rw [Z7, hp], fun h0 => by rw [Z7, hp] at h0; omega⟩
 ·refine ⟨_, cap, by rw [Z7], fun h0 => ⟨g, 0, rfl, (h2.lt g rfl).2, fun i hi => ?_⟩⟩
  rw [Z7] at hi
  have hm : (L.map Prod.fst)[i]'(by rw [Z7]; exact hi) = L[i].1 := Kba _
  rw [hm]
  refine ⟨L[i].2, (h1 _ (Z4 hi)).rd, fun j u hj => ?_⟩
  have rC : j < n := by
   rw [<- hf (L[i].1, L[i].2)]
   exact (Kam.1 hj).1
  have pD : i * n + j < L.length * n := by
   have : (i + 1) * n <= L.length * n := Kcm _ hi
   rw [Kcq] at this
   omega
  rw [Ka0, h2.cellAt _ pD, Z3e hf L i j hi rC]
  exact hj
end
structure RdLod (w : World) (vb vt vc : Value) (l : Lod) : Prop where
 b : RdX 4 Z0T (fun b : Bun => b.ids) w vb l.buns
 t : RdX 3 Z34 (fun t : Tra => t.bs) w vt l.tras
 c : RdX 2 Z3h (fun c : Con => c.ts) w vc l.cons
theorem RdLod.below {w w' : World} {vb vt vc : Value} {l : Lod} (h : RdLod w vb vt vc l) (hb : Below w.1.size w w') : RdLod w' vb vt vc l := ⟨h.b.below hb, h.t.below hb, h.c.below hb⟩
structure SmallL (l : Lod) : Prop where
 b : l.buns.length <= 100000
 t : l.tras.length <= 100000
 c : l.cons.length <= 100000
 bi : (l.buns.flatMap (fun b => b.ids)).length <= 100000
 ti : (l.tras.flatMap (fun t => t.bs)).length <= 100000
 ci : (l.cons.flatMap (fun c => c.ts)).length <= 100000
theorem Zbo {α : Type} {f : α -> List Int} {L : List α} {n : Nat} (h : (L.flatMap f).length <= n) : ∀ x ∈ L, (f x).length <= n := fun x hx => by
 obtain ⟨A, B, rfl⟩ := List.append_of_mem hx
 rw [Kai, Kao, ZC, ZC] at h
 omega
theorem ZjG {k : Pck} {ps : List Pce} {zs : List Int} {ns : List ByteArray} {bs : List Bun} (h : BunsOk k ps zs ns bs) {q p : Nat} (hq : q < bs.length) (hp : p < bs[q].ids.length) :
 ∃ j : Nat, j < ps.length /\ (Z15 ps (j : Int)).id = bs[q].ids[p] /\ bs[q].ids[p] ∉ (bs.take q).flatMap (fun b => b.ids) ++ bs[q].ids.take p /\ zs.getD j (-1) = bs[q].lvl /\ ns.getD j noB = bs[q].grp := by
 obtain ⟨I, h1, h2, _⟩ := h.good _ (Z4 hq)
 have tX : p < I.length := by
  have := Kah List.length h2
  rw [Z7] at this
  omega
 obtain ⟨a1, a2, a3, a4⟩ := h1 _ (Z4 tX)
 have he : bs[q].ids[p] = (Z15 ps I[p]).id := by
  have h3 : bs[q].ids[p]? = (I.map (fun i => (Z15 ps i).id))[p]? := by rw [<- h2]
  rw [Z3 hp, Kal, Z3 tX] at h3
  exact Kav h3
 refine ⟨(I[p]).toNat, a2, by rw [Ka3 a1, he], ?_, a3, a4⟩
 intro hc
 have hN := h.once
 have rY := Z8D (ls := bs.map (fun b => b.ids)) (q := q) (p := p) (by rw [Z7]; exact hq) (by rw [Kba]; exact hp)
 rw [Z1v] at rY
 have qF : ((bs.map (fun b => b.ids)).take q).flatten = (bs.take q).flatMap (fun b => b.ids) := by rw [<- List.map_take, Z1v]
 simp only [Kba, qF] at rY
 rw [rY, <- Kbc, Kc5] at hN
 exact hN.2.2 _ hc _ Kaf rfl
theorem Zid {k : Pck} {ps : List Pce} {zs : List Int} {ns : List ByteArray} (hu : Z5b ps) {b : Bun} (h : Z5N k ps zs ns b) {I : List Int} (hI : ∀ i ∈ I, 0 <= i /\ i.toNat < ps.length) (he : b.ids = I.map (fun i => (Z15 ps i).id)) : Z0k ps I = b.grams /\ b.grams <= k.grams := by
 obtain ⟨I', h1, h2, h3, _, _, h6⟩ := h
 have : I = I' := by
  have hl : I.length = I'.length := by
   have e1 := Kah List.length he
   have e2 := Kah List.length h2
   rw [Z7] at e1 e2
   omega
  refine Kcf hl (fun i hi hi' => ?_)
  have e1 : (I.map (fun i => (Z15 ps i).id))[i]? = (I'.map (fun i => (Z15 ps i).id))[i]? := by rw [<- he, <- h2]
  rw [Kal, Kal, Z3 hi, Z3 hi'] at e1
  have e2 := Kav e1
  exact ZbM hu (hI _ (Z4 hi)) ⟨(h1 _ (Z4 hi')).1, (h1 _ (Z4 hi')).2.1⟩ e2
 subst this
 exact ⟨h3, h6⟩
theorem ZaD {ps : List Pce} {M : Int} (h : ∀ p ∈ ps, 0 <= p.grams /\ p.grams <= M) : ∀ I : List Int, (∀ i ∈ I, 0 <= i /\ i.toNat < ps.length) -> 0 <= Z0k ps I /\ Z0k ps I <= M * I.length
 | [], _ => by unfold Z0k; simp
 | i :: r, hI => by
  have ih := ZaD h r (fun j hj => hI j (Kaj _ hj))
  have hi := h _ (Z4K (hI i Kaf)).2
  have e : Z0k ps (i :: r) = (Z15 ps i).grams + Z0k ps r := by unfold Z0k; simp
  rw [e, Ka9]
  have : M * ((r.length + 1 : Nat) : Int) = M * r.length + M := by
   rw [Kc3, Int.mul_add]; simp
  omega
theorem OwnsII.pos {w : World} {B n c : Nat} {f : Int -> Option Int} (h : OwnsII w B n f c) {x y : Int} (hx : f x = some y) : 1 <= c := by
 obtain ⟨D, hD, hc, hf⟩ := h
 have := Maps.size_del (hD.tidy Z30) (k := Lit.int .i64 x)
 rw [((hf x).2 y hx).1, if_pos rfl, hc] at this
 omega
theorem OwnsII.ne {w : World} {B n c : Nat} {f : Int -> Option Int} (h : OwnsII w B n f c) {N : Nat} {cs : Array Value} {t : TypeId} {fr : Nat × Nat} (hN : w.1[N]? = some (.cells cs t fr)) : N ≠ B := fun e => by
 obtain ⟨D, ⟨es, cl, hb, _⟩, _⟩ := h
 rw [e, hb] at hN
 injection hN with hN
 cases hN
theorem Z9V (n : Int) (w : World) : (Instr.makeMap 210 (some (.int .i64 n))).run Tryz.prog w = .ok (.map (some w.1.size)) (w.alloc (.map #[] 0)) := by
 simp only [Instr.makeMap, Sem.run_bind, run_underlying Tryz.underlying210, Result.andThen]
 rfl
theorem Z6b (k : Pck) (l : Lod) (m : Mai) (zs : List Int) (ns : List ByteArray) (vp vz vn vb vt vc : Value) (w : World) (rA : RdPces w vp m.ps) (hz : RdInts w vz zs) (hn : ReadsT w vn ns) (hr : RdLod w vb vt vc l) (hs : SmallL l)
 (hu : Z5b m.ps) (rZ : m.ps.length <= 2000) (tY : zs.length = m.ps.length) (tZ : ns.length = m.ps.length) (hg : ∀ p ∈ m.ps, 0 <= p.grams /\ p.grams <= 50000 /\ 0 <= p.id /\ p.id <= 999999) (hid : ∀ b ∈ l.buns, ∀ i ∈ b.ids, 0 <= i /\ i <= 999999) :
 Calls Tryz.prog 77 #[Z2r m vp, vz, vn, Z4J k, Zeh vb vt vc] w fun e w' => ∃ v, e = .returned v /\ Below w.1.size w w' /\ IsB v (BunsOk k m.ps zs ns l.buns) := by
 obtain ⟨ab, cb, sA, pU⟩ := hr.b
 obtain ⟨at', ct, sB, _⟩ := hr.t
 obtain ⟨ac, cc, sC, _⟩ := hr.c
 subst sA sB sC
 obtain ⟨av, cv, rfl, uA⟩ := rA
 obtain ⟨az, cz, rfl, uB⟩ := hz
 obtain ⟨an, cn, rfl, uC⟩ := hn
 have wI := hs.b
 have yF := hs.bi
 have uD := fun x hx => Zbo (f := fun t : Bun => t.ids) hs.bi x hx
 unfold Zeh Z4J Z2r
 have uE := Z0 (fun b (h : Z5N k m.ps zs ns b) I hI he => Zid hu h (I := I) hI he)
 have uF := Z0 (fun (h : BunsOk k m.ps zs ns l.buns) q p hq hp => ZjG h (q := q) (p := p) hq hp)
 have sD := Z0 (fun (h : BunsOk k m.ps zs ns l.buns) => h.good)
 have uG := Z0 (fun (h : BunsOk k m.ps zs ns l.buns) => h.all)
 have sE := Z0 (fun h1 h2 h3 => (⟨h1, h2, h3⟩ : BunsOk k m.ps zs ns l.buns))
 obtain ⟨OK, qR⟩ : ∃ P, P = BunsOk k m.ps zs ns l.buns := ⟨_, rfl⟩
 rw [<- qR] at uF sD uG sE ⊢
 have uH : ∀ b, Z5N k m.ps zs ns b ↔ ∃ I : List Int, (∀ i ∈ I, 0 <= i /\ i.toNat < m.ps.length /\ zs.getD i.toNat (-1) = b.lvl /\ ns.getD i.toNat noB = b.grp) /\ b.ids = I.map (fun i => (Z15 m.ps i).id) /\ Z0k m.ps I = b.grams /\ 1 <= I.length /\ (I.length : Int) <= k.pieces /\ b.grams <= k.grams := fun b => Iff.rfl
 obtain ⟨GD, sF⟩ : ∃ f : Bun -> Prop, f = Z5N k m.ps zs ns := ⟨_, rfl⟩
 rw [<- sF] at uE sD sE
 have wJ := Z0 (fun b => by rw [sF]; exact uH b : ∀ b, GD b ↔ ∃ I : List Int, (∀ i ∈ I, 0 <= i /\ i.toNat < m.ps.length /\ zs.getD i.toNat (-1) = b.lvl /\ ns.getD i.toNat noB = b.grp) /\ b.ids = I.map (fun i => (Z15 m.ps i).id) /\ Z0k m.ps I = b.grams /\ 1 <= I.length /\ (I.length : Int) <= k.pieces /\ b.grams <= k.grams)
 obtain ⟨kp, kg, kb, kt⟩ := k
 obtain ⟨bs, ts, cs⟩ := l
 obtain ⟨cls, ctr, org, ps⟩ := m
 dsimp only at *
 obtain ⟨w3, qS⟩ : ∃ w3, w3 = ((w.alloc (.cells #[.int .u8 cls, .int .u8 ctr, .string org, .slice av ps.length cv] 34)).alloc (.cells #[.int .i64 kp, .int .i64 kg, .int .i64 kb, .int .i64 kt] 37)).alloc (.cells #[.slice ab bs.length cb, .slice at' ts.length ct, .slice ac cs.length cc] 52) := ⟨_, rfl⟩
 obtain ⟨g1, g2, g3⟩ := ZaU qS
 have wK : w3.1.size = w.1.size + 1 + 1 + 1 := by rw [qS, Z6, Z6, Z6]
 have pG : Below w.1.size w w3 := by
  rw [qS]
  exact (((Z9 _ w).alloc (Z1 _) _).alloc (by simp) _).alloc (by simp; omega) _
 have qG := Z0 (fun (W : World) (hB : Below w3.1.size w3 W) => And.intro (Z0H ((hB.block _ (by omega)).trans g1)) (And.intro (Z0H ((hB.block _ (by omega)).trans g2)) (cells3 ((hB.block _ (by omega)).trans g3))))
 have wL := Z0 qS
 have pA := Z0 pG
 have uI := Z0 uA
 have wM := Z0 uB
 have wN := Z0 uC
 have sG := Z0 pU
 have HG := Z0 hg
 have wO := Z0 hid
 have wP := Z0 uD
 have HU := Z0 hu
 have wQ := Z0 tY
 have sH := Z0 tZ
 have wR := Z0 (fun I hI => ZaD (M := 50000) (fun p hp => ⟨(hg p hp).1, (hg p hp).2.1⟩) I hI)
 clear qS pG wK g1 g2 g3 uA uB uC pU hg hid uD hr hs hu uH sF qR tY tZ
 obtain ⟨⟨x0, x1, x2, x3⟩, ⟨y0, y1, y2, y3⟩, u0, u1, u2⟩ := qG.out w3 (Z9 _ _)
 have wS := Z9V
 go_enter Tryz.func77, Tryz.ntmps77
 go_upto_region 1 with fail
 rw [<- wL.out]
 obtain ⟨w4, rD⟩ : ∃ w4, w4 = w3.alloc (.map #[] 0) := ⟨_, rfl⟩
 have pZ : Below w3.1.size w3 w4 := by rw [rD]; exact (Z9 _ _).alloc (Z1 _) _
 have uJ : OwnsII w4 w3.1.size 0 (Z7M ps 0 []) 0 := by
  have h := OwnsII.made w3
  rw [<- rD] at h
  have e : (fun _ => none : Int -> Option Int) = Z7M ps 0 [] := funext (fun u => (Z32 (fun j hj _ => absurd hj (Ka2 _))).symm)
  rw [e] at h
  exact h
 obtain ⟨⟨p0, p1, p2, p3⟩, ⟨q0, q1, q2, q3⟩, r0, r1, r2⟩ := qG.out w4 pZ
 have wT := Z0 rD
 have wU := Z0 pZ
 have wV := Z0 uJ
 clear rD pZ uJ
 go_upto_region 2 with fail
 rw [<- wT.out]
 clear wS x0 x1 x2 x3 y0 y1 y2 y3 u0 u1 u2
 go_wp2_with fail
 go_loopw [28] (fun i wx => ∃ j : Nat, j <= ps.length /\ i = .int .i64 j /\ Below w3.1.size w3 wx /\ OwnsII wx w3.1.size j (Z7M ps j []) j) (fun i _ => ps.length - (intOf i).toNat)
 case atStart => exact ⟨0, ZE _, rfl, wU.out, wV.out⟩
 case round =>
  clear p0 p1 p2 p3 q0 q1 q2 q3 r0 r1 r2
  obtain ⟨j, hj, rfl, hB, hI⟩ := hrel
  have HB := Z0 hB
  by_cases pD : j < ps.length
  ·obtain ⟨g, off, rfl, hg, pF⟩ := uI.out (by omega)
   have hp := ((pF j pD).below pA.out hg).below hB (ZH hg pA.out.size)
   have uK := HG.out _ (Z4 pD)
   have pM : Z15 ps (j : Int) = ps[j] := (Z4K ⟨by omega, by rw [Kar]; exact pD⟩).1
   have qT := ZfQ HU.out pD
   have rE : Z7M ps j [] ps[j].id = none := Z32 (fun i hi he => by
    have := HU.out i j hi pD
    rw [pM] at this
    omega)
   rw [pM] at qT
   obtain ⟨p, uL⟩ : ∃ p, p = ps[j] := ⟨_, rfl⟩
   rw [<- uL] at hp uK qT rE
   obtain ⟨id, pt, cd, gr, br⟩ := p
   obtain ⟨p0, p1, p2, p3, p4⟩ := hp
   dsimp only at p0 p1 p2 p3 p4 uK qT rE
   have HI := Z0 (hI.below ((Z9 wr.1.size wr).alloc (Z1 _) (.cells #[.int .i64 id, .int .i64 pt, .string cd, .int .i64 gr, .bool br] 65)))
   have wW := Z0 qT
   have wX := Z0 rE
   clear pM uL pF hB hI qT rE
   go_wp2_with (refine Z66 _ rfl _ _ _ _ rfl Tryz.underlying210 w3.1.size j j (Z7M ps j []) rfl HI.out (by unfold maxLen; omega) id (j : Int) (WalkArith.wf_i64 (by omega)) (WalkArith.wf_i64 (by omega)) wX.out rfl rfl ?_; intro w5 sI rF)
   go_roundw
   case rel =>
    refine ⟨j + 1, by omega, by go_num, (HB.out.alloc HB.out.size _).grown rF (by have := HB.out.size; simp; omega) (fun r e => by rw [<- Kav e]; exact Z1 _), ?_⟩
    rw [<- wW.out]
    exact sI
   case measure => simp [intOf]; omega
  ·obtain rfl : j = ps.length := by omega
   obtain ⟨_, ⟨q0, q1, q2, q3⟩, r0, r1, r2⟩ := qG.out wr hB
   have HI := Z0 hI
   clear hB hI hj pD
   go_wp2_with fail
   go_loopw [41] (fun i wx => ∃ (q c : Nat), q <= bs.length /\ i = .int .i64 q /\ Below w3.1.size w3 wx /\ OwnsII wx w3.1.size ps.length (Z7M ps ps.length ((bs.take q).flatMap (fun b => b.ids))) c /\ c + ((bs.take q).flatMap (fun b => b.ids)).length = ps.length /\ (∀ b ∈ bs.take q, GD b) /\ ((bs.take q).flatMap (fun b => b.ids)).Nodup) (fun i _ => bs.length - (intOf i).toNat)
   case atStart => exact ⟨0, ps.length, ZE _, rfl, HB.out, HI.out, by simp, by simp, by simp⟩
   case round =>
    clear q0 q1 q2 q3 r0 r1 r2
    obtain ⟨wo, sJ⟩ : ∃ x, x = wr := ⟨_, rfl⟩
    subst sJ
    obtain ⟨q, c, hq, rfl, hB, hI, hc, qP, pN⟩ := hrel
    have pC := Z0 hB
    have sK := Z0 qP
    have rG := Z0 pN
    have HC := Z0 hc
    clear qP pN hc
    by_cases pD : q < bs.length
    ·obtain ⟨g, off, rfl, hg, pK⟩ := sG.out (by omega)
     obtain ⟨s, hs, pE⟩ := pK q pD
     have pB : Below w.1.size w wo := pA.out.trans (hB.mono pA.out.size)
     have rH := Z4 pD
     have pH : bs.take (q + 1) = bs.take q ++ [bs[q]] := Z8 pD
     have rI : (bs.take (q + 1)).flatMap (fun b => b.ids) = (bs.take q).flatMap (fun b => b.ids) ++ bs[q].ids := by rw [pH, Kai]; simp
     have pR := wP.out _ rH
     have sL := wO.out _ rH
     have pF := fun (h : OK) p hp => uF.out h q p pD hp
     have sM := fun (h : OK) => sD.out h _ rH
     obtain ⟨b, hb⟩ : ∃ b, b = bs[q] := ⟨_, rfl⟩
     rw [<- hb] at hs pE pH rI pR sL pF sM
     have f0 : wo.cell? ⟨g, off + q * 4, none⟩ = some (.int .i64 b.lvl) := (pB.cell (p := ⟨g, off + q * 4, none⟩) hg).trans (pE 0 _ rfl)
     have f1 : wo.cell? ⟨g, off + q * 4 + 1, none⟩ = some (.string b.grp) := (pB.cell (p := ⟨g, off + q * 4 + 1, none⟩) hg).trans (pE 1 _ rfl)
     have f2 : wo.cell? ⟨g, off + q * 4 + 2, none⟩ = some s := (pB.cell (p := ⟨g, off + q * 4 + 2, none⟩) hg).trans (pE 2 _ rfl)
     have f3 : wo.cell? ⟨g, off + q * 4 + 3, none⟩ = some (.int .i64 b.grams) := (pB.cell (p := ⟨g, off + q * 4 + 3, none⟩) hg).trans (pE 3 _ rfl)
     obtain ⟨as1, cs', rfl, qU⟩ := hs
     obtain ⟨pre, rJ⟩ : ∃ l, l = (bs.take q).flatMap (fun b => b.ids) := ⟨_, rfl⟩
     rw [<- rJ] at hI rI pF
     have wY : Hid pre.Nodup := by rw [rJ]; exact rG
     have HC' : Hid (c + pre.length = ps.length) := by rw [rJ]; exact HC
     obtain ⟨Wt, pO⟩ : ∃ W, W = wo.alloc (.cells #[.int .i64 b.lvl, .string b.grp, .slice as1 b.ids.length cs', .int .i64 b.grams] 67) := ⟨_, rfl⟩
     have hn := Z02 wo (.cells #[.int .i64 b.lvl, .string b.grp, .slice as1 b.ids.length cs', .int .i64 b.grams] 67)
     have pV : Below wo.1.size wo Wt := by rw [pO]; exact (Z9 _ _).alloc (Z1 _) _
     rw [<- pO] at hn
     have sN := Z0 pO
     have HN := Z0 hn
     have pT := Z0 pH
     have sO := Z0 rI
     have wZ := Z0 sL
     have xA := Z0 pF
     have sP := Z0 sM
     have sQ := Z0 qU
     have xB := Z0 (hI.below pV)
     have sR := Z0 (hB.trans (pV.mono hB.size))
     have uM := wJ.out b
     have sS := Z0 uM
     obtain ⟨n0, n1, n2, n3⟩ := Z0H hn
     obtain ⟨_, ⟨q0, q1, q2, q3⟩, _⟩ := qG.out Wt (hB.trans (pV.mono hB.size))
     clear hb pE pK pO hn pH rI sL pF sM qU pB pV rH hB hI rJ uM rG HC
     go_upto_region 10 with fail
     rw [<- sN.out]
     by_cases l1 : b.ids.length < 1
     ·have hr : ¬ OK := fun h => by
       obtain ⟨I, _, e, _, e1, _⟩ := sS.out.1 (sP.out h)
       have := Kah List.length e
       rw [Z7] at this
       omega
      have HR := Z0 hr
      clear hr
      go_wp2_with fail
      go_ret
      exact ⟨_, rfl, pA.out.trans (sR.out.mono pA.out.size), IsB.no HR.out⟩
     ·by_cases l2 : (b.ids.length : Int) > kp
      ·have hr : ¬ OK := fun h => by
        obtain ⟨I, _, e, _, _, e1, _⟩ := sS.out.1 (sP.out h)
        have := Kah List.length e
        rw [Z7] at this
        omega
       have HR := Z0 hr
       clear hr
       go_wp2_with fail
       go_ret
       exact ⟨_, rfl, pA.out.trans (sR.out.mono pA.out.size), IsB.no HR.out⟩
      ·go_wp2_with fail
       go_loopw [16, 60] (fun gr i wx => ∃ (p c' : Nat) (I : List Int), p <= b.ids.length /\ i = .int .i64 p /\ gr = .int .i64 (Z0k ps I) /\ I.length = p /\ b.ids.take p = I.map (fun i => (Z15 ps i).id) /\ (∀ i ∈ I, 0 <= i /\ i.toNat < ps.length /\ zs.getD i.toNat (-1) = b.lvl /\ ns.getD i.toNat noB = b.grp) /\ Below w3.1.size w3 wx /\ wx.1[wo.1.size]? = some (.cells #[.int .i64 b.lvl, .string b.grp, .slice as1 b.ids.length cs', .int .i64 b.grams] 67 (0, 0)) /\ OwnsII wx w3.1.size ps.length (Z7M ps ps.length (pre ++ b.ids.take p)) c' /\ c' + pre.length + p = ps.length /\ (pre ++ b.ids.take p).Nodup) (fun _ i _ => b.ids.length - (intOf i).toNat)
       case atStart => exact ⟨0, c, [], ZE _, rfl, rfl, rfl, by simp, by simp, sR.out, HN.out, by rw [Kb5, Ka1]; exact xB.out, by have := HC'.out; omega, by rw [Kb5, Ka1]; exact wY.out⟩
       case round =>
        clear n0 n1 n2 n3 f0 f1 f2 f3 q0 q1 q2 q3
        obtain ⟨wi, sT⟩ : ∃ x, x = wr := ⟨_, rfl⟩
        subst sT
        obtain ⟨p, c', I, hp, rfl, rfl, sU, uN, rK, hB, sV, hM, qV, pN⟩ := hrel
        have pL := Z0 hB
        have uO := Z0 sV
        have sW := Z0 sU
        have rL := Z0 uN
        have rM := Z0 rK
        have uP := Z0 qV
        have rN := Z0 pN
        have HM := Z0 hM
        have uQ := wR.out I (fun i hi => ⟨(rK i hi).1, (rK i hi).2.1⟩)
        rw [sU] at uQ
        obtain ⟨gr, sX⟩ : ∃ x, x = Z0k ps I := ⟨_, rfl⟩
        have sY := Z0 sX
        rw [<- sX] at uQ ⊢
        obtain ⟨n0, n1, n2, n3⟩ := Z0H sV
        obtain ⟨⟨x0, x1, x2, x3⟩, ⟨y0, y1, y2, y3⟩, _⟩ := qG.out wi hB
        clear sU uN rK qV pN sV sX
        by_cases pS : p < b.ids.length
        ·obtain ⟨gs, os, rfl, sZ, qW⟩ := sQ.out (by omega)
         have pB : Below w.1.size w wi := pA.out.trans (hB.mono pA.out.size)
         have e1 := (pB.cell (p := ⟨gs, os + p, none⟩) sZ).trans (qW p pS)
         have uR := wZ.out _ (Z4 pS)
         have pF := fun h => xA.out h p pS
         have pW : b.ids.take (p + 1) = b.ids.take p ++ [b.ids[p]] := Z8 pS
         obtain ⟨x, hx⟩ : ∃ x, x = b.ids[p] := ⟨_, rfl⟩
         rw [<- hx] at e1 uR pF pW
         obtain ⟨P, hP⟩ : ∃ P, P = pre ++ b.ids.take p := ⟨_, rfl⟩
         rw [<- hP] at pF hM HM rN
         have uS : pre ++ b.ids.take (p + 1) = P ++ [x] := by rw [pW, hP, Kbc]
         have tA := Z0 pW
         have uT := Z0 uS
         have yG := Z0 pF
         have yH := Z0 uR
         have uU := fun y => hM.pos (x := x) (y := y)
         have xC := Z0 uU
         clear pW uS hx qW hP uU
         rcases Z5F HU.out (Z1 ps.length) P x with pJ | ⟨j, hj, uV, uW, rO⟩
         ·have hr : ¬ OK := fun h => by
           obtain ⟨j, a1, a2, a3, _⟩ := pF h
           have := Z22 HU.out (Z1 _) a1 (pre := P) (by rw [a2]; exact a3)
           rw [a2, pJ] at this
           cases this
          have HR := Z0 hr
          have tB := Z0 pJ
          clear hr pJ pF hB hM
          go_wp2_with (refine Z1V _ rfl _ _ _ rfl Tryz.underlying210 w3.1.size ps.length c' (Z7M ps ps.length P) rfl HM.out x (WalkArith.wf_i64 (by omega)) rfl none tB.out ?_)
          go_quiet (fail)
          go_wp2_with fail
          go_ret
          exact ⟨_, rfl, by first | exact below_drewN (pA.out.trans (pL.out.mono pA.out.size)) _ | exact (pA.out.trans (pL.out.mono pA.out.size)).drew, IsB.no HR.out⟩
         ·have uX : j < zs.length := by rw [wQ.out]; exact hj
          have rC : j < ns.length := by rw [sH.out]; exact hj
          obtain ⟨gz, oz, rfl, xD, qM⟩ := wM.out (by omega)
          obtain ⟨gn, on', rfl, xE, uY⟩ := wN.out (by omega)
          obtain ⟨gp, op, rfl, xF, qV⟩ := uI.out (by omega)
          have e2 := (pB.cell (p := ⟨gz, oz + j, none⟩) xD).trans (qM j uX)
          have e3 := (pB.cell (p := ⟨gn, on' + j, none⟩) xE).trans (uY j rC)
          have pM : Z15 ps (j : Int) = ps[j] := (Z4K ⟨by omega, by rw [Kar]; exact hj⟩).1
          have xG := HG.out _ (Z4 hj)
          obtain ⟨_, _, _, e5, _⟩ := qV j hj
          have rP : zs.getD j (-1) = zs[j] := by rw [Z2, Z3 uX]; rfl
          have pN : ns.getD j noB = ns[j] := by rw [Z2, Z3 rC]; rfl
          have tC : OK -> zs.getD j (-1) = b.lvl /\ ns.getD j noB = b.grp := fun h => by
           obtain ⟨j', a1, a2, a3, a4⟩ := pF h
           have h1 := Z22 HU.out (Z1 _) a1 (pre := P) (by rw [a2]; exact a3)
           rw [a2, rO] at h1
           have h2 : (j : Int) = (j' : Int) := Kav h1
           obtain rfl : j = j' := by omega
           exact a4
          obtain ⟨z, tD⟩ : ∃ z, z = zs[j] := ⟨_, rfl⟩
          obtain ⟨nm, tE⟩ : ∃ z, z = ns[j] := ⟨_, rfl⟩
          obtain ⟨pc, uZ⟩ : ∃ z, z = ps[j] := ⟨_, rfl⟩
          rw [rP, pN, <- tD, <- tE] at tC
          rw [<- tD] at e2 rP
          rw [<- tE] at e3 pN
          rw [<- uZ] at pM xG e5
          have vA := Z0 tC
          have xH := Z0 rP
          have xI := Z0 pN
          have xJ := Z0 pM
          have rQ := Z0 rO
          have xK := Z0 uW
          have xL := Z0 uV
          have xM := xC.out _ rO
          obtain ⟨c2, rfl⟩ : ∃ c2, c' = c2 + 1 := ⟨c' - 1, by omega⟩
          have xN := Z0 (fun (W : World) (hW : Below w3.1.size w3 W) => ((pA.out.trans (hW.mono pA.out.size)).cell (p := ⟨gp, op + j * 5 + 3, none⟩) xF).trans e5)
          clear qM uY qV pM rP pN tC tD tE uZ rO uW uV pF xM pB hM e5
          by_cases q1 : z = b.lvl
          ·have qX : (z != b.lvl) = false := by simp [q1]
           by_cases q2 : nm = b.grp
           ·have qA : (nm.toList == b.grp.toList) = true := by rw [ba_eq]; exact Kac q2
            have Q := Z0 (And.intro q1 q2)
            clear q1 q2 hB
            go_wp2_with (refine Z1V _ rfl _ _ _ rfl Tryz.underlying210 w3.1.size ps.length (c2 + 1) (Z7M ps ps.length P) rfl HM.out x (WalkArith.wf_i64 (by omega)) rfl (some (j : Int)) rQ.out ?_)
            go_quiet (fail)
            obtain ⟨wd, tF⟩ : ∃ wd, wd = wi.drewN nq := ⟨_, rfl⟩
            rw [<- tF]
            have rR : Below wi.1.size wi wd := by rw [tF]; exact below_drewN (Z9 _ _) _
            have vB := Z0 (HM.out.below rR)
            have vC := Z0 (pL.out.trans (rR.mono pL.out.size))
            have tG := Z0 ((rR.block _ (Z5.1 uO.out).1).trans uO.out)
            clear tF rR n0 n1 n2 n3 x0 x1 x2 x3 y0 y1 y2 y3 e1 e2 e3
            go_wp2_with (refine Z7N _ rfl _ _ _ rfl Tryz.underlying210 w3.1.size ps.length c2 (Z7M ps ps.length P) rfl vB.out x (j : Int) (WalkArith.wf_i64 (by omega)) rQ.out rfl ?_; intro w5 sI rF; have tH := vC.out.grown rF vC.out.size (fun r e => by rw [<- Kav e]; exact Z1 _); obtain ⟨⟨x0, x1, x2, x3⟩, _, _⟩ := qG.out w5 tH; have e5 := xN.out w5 tH)
            go_roundw
            case rel =>
             have hc := uP.out
             have xO := sW.out
             refine ⟨p + 1, c2, I ++ [(j : Int)], by omega, by go_num, ?_, by rw [ZC, xO]; rfl, ?_, ?_, tH, ?_, ?_, by omega, ?_⟩
             ·rw [Z3F, xJ.out, <- sY.out]
             ·rw [tA.out, rL.out, ZD, Kan, Kbe, xL.out]
             ·intro i hi
              rcases ZG.1 hi with hi | hi
              ·exact rM.out i hi
              ·rw [ZI.1 hi, Kar]
               exact ⟨by omega, hj, by rw [xH.out]; exact Q.out.1, by rw [xI.out]; exact Q.out.2⟩
             ·exact (rF.block _ (Z5.1 tG.out).1 (fun e => vB.out.ne tG.out (Kav e))).trans tG.out
             ·rw [uT.out, <- ZfR HU.out (Z1 _)]
              exact sI
             ·rw [uT.out]
              exact Z8m rN.out xK.out
            case measure => simp [intOf]; omega
           ·have qA : (nm.toList == b.grp.toList) = false := by rw [ba_eq]; exact Kad q2
            have hr : ¬ OK := fun h => q2 (vA.out h).2
            have HR := Z0 hr
            clear hr q1 q2 hB
            go_wp2_with (refine Z1V _ rfl _ _ _ rfl Tryz.underlying210 w3.1.size ps.length (c2 + 1) (Z7M ps ps.length P) rfl HM.out x (WalkArith.wf_i64 (by omega)) rfl (some (j : Int)) rQ.out ?_)
            go_quiet (fail)
            go_wp2_with fail
            go_ret
            exact ⟨_, rfl, by first | exact below_drewN (pA.out.trans (pL.out.mono pA.out.size)) _ | exact (pA.out.trans (pL.out.mono pA.out.size)).drew, IsB.no HR.out⟩
          ·have qX : (z != b.lvl) = true := by simp [q1]
           have hr : ¬ OK := fun h => q1 (vA.out h).1
           have HR := Z0 hr
           clear hr q1 hB
           go_wp2_with (refine Z1V _ rfl _ _ _ rfl Tryz.underlying210 w3.1.size ps.length (c2 + 1) (Z7M ps ps.length P) rfl HM.out x (WalkArith.wf_i64 (by omega)) rfl (some (j : Int)) rQ.out ?_)
           go_quiet (fail)
           go_wp2_with fail
           go_ret
           exact ⟨_, rfl, by first | exact below_drewN (pA.out.trans (pL.out.mono pA.out.size)) _ | exact (pA.out.trans (pL.out.mono pA.out.size)).drew, IsB.no HR.out⟩
        ·obtain rfl : p = b.ids.length := by omega
         rw [Kat] at rL HM rN
         have tI := fun (h : OK) => uE.out b (sP.out h) I (fun i hi => ⟨(rM.out i hi).1, (rM.out i hi).2.1⟩) rL.out
         rw [<- sY.out] at tI
         have vD := Z0 tI
         clear tI hM hB
         by_cases q1 : gr = b.grams
         ·have qX : (gr != b.grams) = false := by simp [q1]
          by_cases q2 : gr > kg
          ·have hr : ¬ OK := fun h => by have := vD.out h; omega
           have HR := Z0 hr
           clear hr q1
           go_wp2_with fail
           go_ret
           exact ⟨_, rfl, pA.out.trans (pL.out.mono pA.out.size), IsB.no HR.out⟩
          ·have vE : GD b := sS.out.2 ⟨I, rM.out, rL.out, by rw [<- sY.out]; exact q1, by have := sW.out; omega, by have := sW.out; omega, by omega⟩
           have xP := Z0 vE
           clear vE q1
           go_wp2_with fail
           go_roundw
           case rel =>
            refine ⟨q + 1, c', by omega, by go_num, pL.out, by rw [sO.out]; exact HM.out, by rw [sO.out, ZC]; have := uP.out; omega, ?_, by rw [sO.out]; exact rN.out⟩
            rw [pT.out]
            intro y hy
            rcases ZG.1 hy with hy | hy
            ·exact sK.out y hy
            ·rw [ZI.1 hy]; exact xP.out
           case measure => simp [intOf]; omega
         ·have qX : (gr != b.grams) = true := by simp [q1]
          have hr : ¬ OK := fun h => q1 (vD.out h).1
          have HR := Z0 hr
          clear hr q1
          go_wp2_with fail
          go_ret
          exact ⟨_, rfl, pA.out.trans (pL.out.mono pA.out.size), IsB.no HR.out⟩
    ·obtain rfl : q = bs.length := by omega
     rw [Kat] at HC sK rG
     have vF : c = 0 ↔ OK := by
      constructor
      ·intro e
       exact sE.out sK.out rG.out (by have := HC.out; omega)
      ·intro h
       have h1 := uG.out h
       have h2 := HC.out
       omega
     have tJ := Z0 vF
     have xQ := Z0 hI
     clear hI hB vF
     go_wp2_with (refine Z8R _ rfl _ _ rfl Tryz.underlying210 w3.1.size ps.length c _ rfl xQ.out ?_)
     go_ret
     refine ⟨_, rfl, pA.out.trans (pC.out.mono pA.out.size), IsB.of ?_⟩
     rw [<- tJ.out]
     simp
     try omega
def OwnsRL (w wx : World) (base : Nat) (v : Value) (ts : List (List Int)) : Prop :=
 ∃ L : List (List Int × Value), L.map Prod.fst = ts /\ (∀ p ∈ L, RdInts w p.2 p.1) /\ wx.ownsRow base 35 1 v L.length (L.map Prod.snd)
theorem OwnsRL.rd {w wx : World} {base : Nat} {v : Value} {ts : List (List Int)} (h : OwnsRL w wx base v ts) (hb : Below w.1.size w wx) : RdLL wx v ts := by
 obtain ⟨L, rfl, h1, h2⟩ := h
 rcases Joins.ownsRow_forms h2 with ⟨rfl, hp⟩ | ⟨g, cap, rfl⟩
 ·exact ⟨none, 0, by rw [Z7, hp], fun h0 => by rw [Z7, hp] at h0; omega⟩
 ·refine ⟨_, cap, by rw [Z7], fun h0 => ⟨g, 0, rfl, (h2.lt g rfl).2, fun i hi => ?_⟩⟩
  rw [Z7] at hi
  have hc := h2.cellAt i (by rw [Kdj]; exact hi)
  rw [Kal, Z3 hi] at hc
  refine ⟨_, by rw [Ka0]; exact hc, ?_⟩
  rw [Kba]
  exact (h1 _ (Z4 hi)).below hb
theorem OwnsRL.form {w wx : World} {base : Nat} {v : Value} {ts : List (List Int)} (h : OwnsRL w wx base v ts) : ∃ a cap, v = .slice a ts.length cap := by
 obtain ⟨L, rfl, _, h2⟩ := h
 rw [Z7]
 exact Z0F h2
theorem OwnsRL.below {w wx wy : World} {base : Nat} {v : Value} {ts : List (List Int)} (h : OwnsRL w wx base v ts) (hb : Below wx.1.size wx wy) : OwnsRL w wy base v ts := by
 obtain ⟨L, hL, h1, h2⟩ := h
 exact ⟨L, hL, h1, Z09 h2 hb⟩
theorem Z7P (k : Pck) (l : Lod) (vb vt vc : Value) (w : World) (hr : RdLod w vb vt vc l) (hs : SmallL l) :
 Calls Tryz.prog 78 #[Z4J k, Zeh vb vt vc] w fun e w' => ∃ v, e = .returned v /\ Below w.1.size w w' /\ IsB v (TrasOk k l) := by
 obtain ⟨i0, hi⟩ := info_parts Tryz.infoSlT
 have HI := Z0 hi
 obtain ⟨ab, cb, sA, pU⟩ := hr.b
 obtain ⟨at', ct, sB, vG⟩ := hr.t
 obtain ⟨ac, cc, sC, _⟩ := hr.c
 subst sA sB sC
 have wI := hs.b
 have yI := hs.t
 have yJ := hs.ti
 have rZ := fun x hx => Zbo (f := fun t : Tra => t.bs) hs.ti x hx
 have xR := Z0 (fun W v (hb : RdLL W v (l.tras.map (fun t => t.bs))) => ZcF (l.tras.map (fun t => t.bs)) l.buns.length k.bundles v W hb (by omega) (by rw [Z1v]; omega) (by rw [Z7]; omega))
 have qR := fun (h : OnceOk (l.tras.map (fun t => t.bs)) l.buns.length k.bundles) (h2 : ∀ t ∈ l.tras, ∀ i ∈ t.bs, ∃ b, l.buns[i.toNat]? = some b /\ b.lvl = t.lvl /\ b.grp = t.grp) => (⟨h, h2⟩ : TrasOk k l)
 have xS := fun (h : TrasOk k l) => h
 unfold Zeh Z4J
 obtain ⟨kp, kg, kb, kt⟩ := k
 obtain ⟨bs, ts, cs⟩ := l
 dsimp only at *
 obtain ⟨w2, pY⟩ : ∃ w2, w2 = (w.alloc (.cells #[.int .i64 kp, .int .i64 kg, .int .i64 kb, .int .i64 kt] 37)).alloc (.cells #[.slice ab bs.length cb, .slice at' ts.length ct, .slice ac cs.length cc] 52) := ⟨_, rfl⟩
 obtain ⟨g1, g2, z2, b2⟩ := Z8M pY
 obtain ⟨x0, x1, x2⟩ := cells3 g2
 have qE := Z0 pY
 have pC := Z0 b2
 have HL := Z0 (fun (W : World) (hB : Below w2.1.size w2 W) => And.intro (Z0H ((hB.block _ (by omega)).trans g1)) (cells3 ((hB.block _ (by omega)).trans g2)))
 have sG := Z0 pU
 have vH := Z0 vG
 have tJ := Z0 qR
 have xT := Z0 rZ
 clear pY g1 g2 z2 b2 pU vG hr hs qR xS hi rZ
 go_enter Tryz.func78, Tryz.ntmps78
 go_upto_region 1 with fail
 rw [<- qE.out]
 go_wp2_with (at_make; refine wpList_make_own _ rfl _ _ 109 rfl w2.1.size 35 i0 (.slice none 0 0) 1 Tryz.underlying109 HI.out.1 HI.out.2.1 HI.out.2.2.1 _ _ _ ts.length rfl (by first | rfl | simp) rfl (by rw [HI.out.2.2.2]; omega) (by unfold maxLen; omega) (Z1 _) ?_; intro w3 pQ pI; have pG : Below w2.1.size w2 w3 := (Z9 _ _).grown pI (Z1 _) (fun _ e => by cases e); have pA := Z0 pG; have xU := Z0 pQ; clear pI pQ; obtain ⟨⟨u0, u1, u2, u3⟩, v0, v1, v2⟩ := HL.out w3 pG)
 go_loopw [5, 19] (fun lv i wx => ∃ q : Nat, q <= ts.length /\ i = .int .i64 q /\ Below w2.1.size w2 wx /\ OwnsRL w wx w2.1.size lv ((ts.take q).map (fun t => t.bs))) (fun _ i _ => ts.length - (intOf i).toNat)
 case atStart => exact ⟨0, ZE _, rfl, pA.out, ⟨[], by simp, by simp, xU.out⟩⟩
 case round =>
  clear u0 u1 u2 u3 v0 v1 v2 pG x0 x1 x2
  obtain ⟨q, hq, rfl, hB, hO⟩ := hrel
  have qB := Z0 hB
  by_cases pD : q < ts.length
  ·obtain ⟨g, off, rfl, hg, pK⟩ := vH.out (by omega)
   obtain ⟨s, hs, pE⟩ := pK q pD
   have pH : (ts.take (q + 1)).map (fun t => t.bs) = (ts.take q).map (fun t => t.bs) ++ [ts[q].bs] := by rw [Z8 pD, ZD]; rfl
   obtain ⟨t, ht⟩ : ∃ t, t = ts[q] := ⟨_, rfl⟩
   rw [<- ht] at hs pE pH
   have pB : Below w.1.size w wr := pC.out.trans (hB.mono pC.out.size)
   have f0 : wr.cell? ⟨g, off + q * 3, none⟩ = some (.int .i64 t.lvl) := (pB.cell (p := ⟨g, off + q * 3, none⟩) hg).trans (pE 0 _ rfl)
   have f1 : wr.cell? ⟨g, off + q * 3 + 1, none⟩ = some (.string t.grp) := (pB.cell (p := ⟨g, off + q * 3 + 1, none⟩) hg).trans (pE 1 _ rfl)
   have f2 : wr.cell? ⟨g, off + q * 3 + 2, none⟩ = some s := (pB.cell (p := ⟨g, off + q * 3 + 2, none⟩) hg).trans (pE 2 _ rfl)
   have HS := Z0 hs
   obtain ⟨as1, cs', rfl, _⟩ := hs
   have pT := Z0 pH
   obtain ⟨av, cv, qY⟩ := hO.form
   have qQ : ((ts.take q).map (fun t => t.bs)).length = q := by rw [Z7, Kax]; omega
   rw [qQ] at qY
   subst qY
   obtain ⟨L, hL, hLr, hLo⟩ := hO
   have xV : L.length = q := by rw [<- qQ, <- hL, Z7]
   subst xV
   have xW := Z0 hL
   have xX := Z0 hLr
   have vI := (hLo.alloc (.cells #[.int .i64 t.lvl, .string t.grp, .slice as1 t.bs.length cs'] 112)).alloc (.cells #[.slice as1 t.bs.length cs'] 35)
   have xY := Z0 vI
   have xZ := Z0 (fun r e => (hLo.lt r e).1)
   clear ht pE pK pB pH hL hLr hLo vI qQ hB
   go_wp2_with (at_builtin; refine wpList_append_own _ rfl _ _ 109 rfl w2.1.size 35 i0 (.slice none 0 0) 1 24 Tryz.underlying109 HI.out.1 HI.out.2.1 HI.out.2.2.1 HI.out.2.2.2 rfl (by decide) _ L.length _ rfl xY.out ⟨wr.1.size + 1, 0, none⟩ 1 1 [.slice as1 t.bs.length cs'] rfl (by simp) (by simpa using cell_one_new (wr.alloc (.cells #[.int .i64 t.lvl, .string t.grp, .slice as1 t.bs.length cs'] 112)) (.slice as1 t.bs.length cs') 35) (by simp [Value.oneCell']) (by unfold maxLen; omega) (by omega) (by have := qB.out.size; simp; omega) ?_; intro v' w5 qJ pI _)
   go_roundw
   case rel =>
    refine ⟨L.length + 1, by omega, by go_num, ((qB.out.alloc qB.out.size _).alloc (by have := qB.out.size; simp; omega) _).grown pI (by have := qB.out.size; simp; omega) (fun r e => xZ.out r e), L ++ [(t.bs, .slice as1 t.bs.length cs')], ?_, ?_, ?_⟩
    ·rw [pT.out, ZD, xW.out]; rfl
    ·intro p hp
     rcases ZG.1 hp with hp | hp
     ·exact xX.out p hp
     ·rw [ZI.1 hp]; exact HS.out
    ·rw [ZC, ZD]
     exact qJ
   case measure => simp [intOf]; omega
  ·obtain rfl : q = ts.length := by omega
   rw [Kat] at hO
   have pB : Below w.1.size w wr := pC.out.trans (hB.mono pC.out.size)
   have HR := Z0 (hO.rd pB)
   obtain ⟨av, cv, qY⟩ := hO.form
   rw [Z7] at qY
   subst qY
   have yK := Z0 pB
   obtain ⟨⟨u0, u1, u2, u3⟩, v0, v1, v2⟩ := HL.out wr hB
   clear hO pB hB
   go_upto_region 7 with fail
   go_cut [36] from 29 to 36 (fun b wx => ∃ c : Bool, b = .bool (!c) /\ (c = true ↔ OnceOk (ts.map (fun t => t.bs)) bs.length kb) /\ Below wr.1.size wr wx)
   case first =>
    go_wp2_with (go_at_call 114; refine (xR.out wr _ HR.out).mono ?_; rintro e w6 ⟨vv, rfl, qL, r, rfl, hr⟩)
    go_meet
    exact ⟨r, rfl, hr, qL⟩
   case rest =>
    clear u0 u1 u2 u3 v0 v1 v2
    obtain ⟨wp, yA⟩ : ∃ x, x = wc := ⟨_, rfl⟩
    subst yA
    obtain ⟨c, rfl, hc, vJ⟩ := hcut
    have tK := Z0 (qB.out.trans (vJ.mono qB.out.size))
    have HC := Z0 hc
    clear vJ hc
    cases c
    ·have hr : ¬ TrasOk ⟨kp, kg, kb, kt⟩ ⟨bs, ts, cs⟩ := fun h => by have := HC.out.2 h.once; cases this
     have qC := Z0 hr
     clear hr
     go_wp2_with fail
     go_ret
     exact ⟨_, rfl, pC.out.trans (tK.out.mono pC.out.size), IsB.no qC.out⟩
    ·have tL := HC.out.1 rfl
     have qH := fun t (ht : t ∈ ts) i (hi : i ∈ t.bs) => tL.ins i (by rw [Z1v]; exact Ka5.2 ⟨t, ht, hi⟩)
     have yB := Z0 tL
     have yC := Z0 qH
     obtain ⟨⟨u0, u1, u2, u3⟩, v0, v1, v2⟩ := HL.out wp tK.out
     clear tL qH
     go_wp2_with fail
     go_loopw [40] (fun i wx => ∃ q : Nat, q <= ts.length /\ i = .int .i64 q /\ Below w2.1.size w2 wx /\ ∀ t ∈ ts.take q, ∀ i ∈ t.bs, ∃ b, bs[i.toNat]? = some b /\ b.lvl = t.lvl /\ b.grp = t.grp) (fun i _ => ts.length - (intOf i).toNat)
     case atStart => exact ⟨0, ZE _, rfl, tK.out, by simp⟩
     case round =>
      clear u0 u1 u2 u3 v0 v1 v2
      obtain ⟨wo, sJ⟩ : ∃ x, x = wr := ⟨_, rfl⟩
      subst sJ
      obtain ⟨q, hq, rfl, hB, qI⟩ := hrel
      have HB := Z0 hB
      have vK := Z0 qI
      clear qI
      by_cases pD : q < ts.length
      ·obtain ⟨g, off, rfl, hg, pK⟩ := vH.out (by omega)
       obtain ⟨s, hs, pE⟩ := pK q pD
       have pB : Below w.1.size w wo := pC.out.trans (hB.mono pC.out.size)
       have qF := Z4 pD
       have pH : ts.take (q + 1) = ts.take q ++ [ts[q]] := Z8 pD
       have pR := xT.out _ qF
       have qH := yC.out _ qF
       have pJ : TrasOk ⟨kp, kg, kb, kt⟩ ⟨bs, ts, cs⟩ -> ∀ i ∈ ts[q].bs, ∃ b, bs[i.toNat]? = some b /\ b.lvl = ts[q].lvl /\ b.grp = ts[q].grp := fun h => h.grp _ qF
       obtain ⟨t, ht⟩ : ∃ t, t = ts[q] := ⟨_, rfl⟩
       rw [<- ht] at hs pE pH pR qH pJ
       have f0 : wo.cell? ⟨g, off + q * 3, none⟩ = some (.int .i64 t.lvl) := (pB.cell (p := ⟨g, off + q * 3, none⟩) hg).trans (pE 0 _ rfl)
       have f1 : wo.cell? ⟨g, off + q * 3 + 1, none⟩ = some (.string t.grp) := (pB.cell (p := ⟨g, off + q * 3 + 1, none⟩) hg).trans (pE 1 _ rfl)
       have f2 : wo.cell? ⟨g, off + q * 3 + 2, none⟩ = some s := (pB.cell (p := ⟨g, off + q * 3 + 2, none⟩) hg).trans (pE 2 _ rfl)
       obtain ⟨as1, cs', rfl, qU⟩ := hs
       obtain ⟨Wt, pO⟩ : ∃ W, W = wo.alloc (.cells #[.int .i64 t.lvl, .string t.grp, .slice as1 t.bs.length cs'] 112) := ⟨_, rfl⟩
       have hn := Z02 wo (.cells #[.int .i64 t.lvl, .string t.grp, .slice as1 t.bs.length cs'] 112)
       have pV : Below wo.1.size wo Wt := by rw [pO]; exact (Z9 _ _).alloc (Z1 _) _
       have vL : wo.1.size < Wt.1.size := by rw [pO, Z6]; exact Ka4 _
       rw [<- pO] at hn
       have sN := Z0 pO
       have HN := Z0 hn
       have sH := Z0 vL
       have pT := Z0 pH
       have yD := Z0 qH
       have tB := Z0 pJ
       have sQ := Z0 qU
       have rS := Z0 (HB.out.trans (pV.mono HB.out.size))
       have pP := Z0 (pB.trans (pV.mono pB.size))
       obtain ⟨n0, n1, n2⟩ := cells3 hn
       clear ht pE pK pO hn vL pH qH pJ qU pB pV qF hB
       go_upto_region 12 with fail
       rw [<- sN.out]
       go_wp2_with fail
       go_loopw [47] (fun i wx => ∃ p : Nat, p <= t.bs.length /\ i = .int .i64 p /\ Below Wt.1.size Wt wx /\ ∀ i ∈ t.bs.take p, ∃ b, bs[i.toNat]? = some b /\ b.lvl = t.lvl /\ b.grp = t.grp) (fun i _ => t.bs.length - (intOf i).toNat)
       case atStart => exact ⟨0, ZE _, rfl, Z9 _ _, by simp⟩
       case round =>
        clear n0 n1 n2 f0 f1 f2
        obtain ⟨wi, sT⟩ : ∃ x, x = wr := ⟨_, rfl⟩
        subst sT
        obtain ⟨p, hp, rfl, hB, vM⟩ := hrel
        have pA := Z0 hB
        have tM := Z0 vM
        clear vM
        by_cases pS : p < t.bs.length
        ·obtain ⟨gs, os, rfl, sZ, qW⟩ := sQ.out (by omega)
         have pB : Below w.1.size w wi := pP.out.trans (hB.mono pP.out.size)
         have e1 := (pB.cell (p := ⟨gs, os + p, none⟩) sZ).trans (qW p pS)
         obtain ⟨i0', i1'⟩ := yD.out _ (Z4 pS)
         have pJ := fun h => tB.out h _ (Z4 pS)
         have pW : t.bs.take (p + 1) = t.bs.take p ++ [t.bs[p]] := Z8 pS
         obtain ⟨x, hx⟩ : ∃ x, x = t.bs[p] := ⟨_, rfl⟩
         rw [<- hx] at e1 i0' i1' pJ pW
         obtain ⟨j, rfl⟩ : ∃ j : Nat, x = (j : Int) := ⟨x.toNat, by omega⟩
         have hj : j < bs.length := by omega
         rw [Kar, Z3 hj] at pJ
         obtain ⟨gb, ob, rfl, vN, pU⟩ := sG.out (by omega)
         obtain ⟨sb, _, pE⟩ := pU j hj
         have tN : bs[j]? = some bs[j] := Z3 hj
         obtain ⟨b, vO⟩ : ∃ b, b = bs[j] := ⟨_, rfl⟩
         rw [<- vO] at pE pJ tN
         have b0 : wi.cell? ⟨gb, ob + j * 4, none⟩ = some (.int .i64 b.lvl) := (pB.cell (p := ⟨gb, ob + j * 4, none⟩) vN).trans (pE 0 _ rfl)
         have b1 : wi.cell? ⟨gb, ob + j * 4 + 1, none⟩ = some (.string b.grp) := (pB.cell (p := ⟨gb, ob + j * 4 + 1, none⟩) vN).trans (pE 1 _ rfl)
         obtain ⟨⟨u0, u1, u2, u3⟩, v0, v1, v2⟩ := HL.out wi (rS.out.trans (hB.mono rS.out.size))
         obtain ⟨n0, n1, n2⟩ := cells3 ((hB.block _ sH.out).trans HN.out)
         have vP := Z0 pJ
         have tA := Z0 pW
         have yE := Z0 tN
         clear pE pU vO pJ pW tN hx qW pB hB i0' i1'
         by_cases q1 : b.lvl = t.lvl
         ·have qX : (b.lvl != t.lvl) = false := by simp [q1]
          by_cases q2 : b.grp = t.grp
          ·have qA : (b.grp.toList == t.grp.toList) = true := by rw [ba_eq]; exact Kac q2
           have Q := Z0 (And.intro q1 q2)
           clear q1 q2
           go_wp2_with fail
           go_quiet (fail)
           go_wp2_with fail
           go_roundw
           case rel =>
            refine ⟨p + 1, by omega, by go_num, (by first | exact below_drewN pA.out _ | exact pA.out.drew), ?_⟩
            rw [tA.out]
            intro y hy
            rcases ZG.1 hy with hy | hy
            ·exact tM.out y hy
            ·rw [ZI.1 hy, Kar]
             exact ⟨b, yE.out, Q.out.1, Q.out.2⟩
           case measure => simp [intOf]; omega
          ·have qA : (b.grp.toList == t.grp.toList) = false := by rw [ba_eq]; exact Kad q2
           have hr : ¬ TrasOk ⟨kp, kg, kb, kt⟩ ⟨bs, ts, cs⟩ := fun h => by
            obtain ⟨b', h1, h2, h3⟩ := vP.out h
            obtain rfl := Kav h1
            exact q2 h3
           have qC := Z0 hr
           clear hr q1 q2
           go_wp2_with fail
           go_quiet (fail)
           go_wp2_with fail
           go_ret
           exact ⟨_, rfl, by first | exact below_drewN (pP.out.trans (pA.out.mono pP.out.size)) _ | exact (pP.out.trans (pA.out.mono pP.out.size)).drew, IsB.no qC.out⟩
         ·have qX : (b.lvl != t.lvl) = true := by simp [q1]
          have hr : ¬ TrasOk ⟨kp, kg, kb, kt⟩ ⟨bs, ts, cs⟩ := fun h => by
           obtain ⟨b', h1, h2, h3⟩ := vP.out h
           obtain rfl := Kav h1
           exact q1 h2
          have qC := Z0 hr
          clear hr q1
          go_wp2_with fail
          go_quiet (fail)
          go_wp2_with fail
          go_ret
          exact ⟨_, rfl, by first | exact below_drewN (pP.out.trans (pA.out.mono pP.out.size)) _ | exact (pP.out.trans (pA.out.mono pP.out.size)).drew, IsB.no qC.out⟩
        ·obtain rfl : p = t.bs.length := by omega
         rw [Kat] at tM
         clear hB
         go_wp2_with fail
         go_roundw
         case rel =>
          refine ⟨q + 1, by omega, by go_num, rS.out.trans (pA.out.mono rS.out.size), ?_⟩
          rw [pT.out]
          intro y hy
          rcases ZG.1 hy with hy | hy
          ·exact vK.out y hy
          ·rw [ZI.1 hy]
           exact tM.out
         case measure => simp [intOf]; omega
      ·obtain rfl : q = ts.length := by omega
       have qI := vK.out
       rw [Kat] at qI
       have qC := Z0 (tJ.out yB.out qI)
       clear qI hB
       go_wp2_with fail
       go_ret
       exact ⟨_, rfl, pC.out.trans (HB.out.mono pC.out.size), IsB.yes qC.out⟩
end Go.Proofs.YtlgajongmkhcnaaGreatDoor
