import Derived.Test.YtojedplbhialpaaGreatDoorGI
import Derived.Test.YtojedplbhialpaaGreatDoorGX
import Derived.Deep.Upon
import Derived.Test.YtojedplbhialpaaGreatDoorGB
import Derived.BigQuiet
import Derived.Test.YtojedplbhialpaaGreatDoorGE
/-! TF -/
namespace Go.Proofs.YtojedplbhialpaaGreatDoor
open Go.RowKit Go.Sort
set_option linter.unusedVariables false
set_option maxRecDepth 100000
theorem HasPlan.groups_few {ls : List Lev} {m : Mai} (h : HasPlan ls m) : (gAll ls (codesM m.ps) ls.length).length ≤ 12000 := by
  have h1 := gTo_bound2 ls (codesM m.ps)
  have h2 := (right_len h.right).2
  have h3 := h.few
  rw [codesM_len] at h1
  have : ls.length * m.ps.length ≤ 6 * 2000 := Nat.mul_le_mul h2 h3
  omega
theorem groups_of {ls : List Lev} {m : Mai} (h : HasPlan ls m) {v vc : Value} {w : World} (hr : RdLevs w v ls) (hrc : ReadsT w vc (codesM m.ps)) :
    Calls Tryz.prog 101 #[v, vc] w fun e w' => ∃ a cap, e = .returned (.tuple #[.slice a (gAll ls (codesM m.ps) ls.length).length cap, .int .i64 0]) ∧ Below w.heap.size w w' ∧ RdGrps w' (.slice a (gAll ls (codesM m.ps) ls.length).length cap) (gAll ls (codesM m.ps) ls.length) := by
  have hl := right_len h.right
  have hf := h.few
  have h1 := groups_any ls v vc (codesM m.ps) w hr (right_fits h.right) (by unfold maxLen; omega) hrc (by rw [codesM_len]; unfold maxLen; omega) (fun c hc => by have := codeB_size (h.code c hc); unfold maxLen; omega)
  rw [groupsR_ok h.right (by rw [codesM_len]; exact hf) h.code (noShort_any h.pre), gTo_closed ls _ ls.length (Nat.le_refl _)] at h1
  refine h1.mono ?_
  rintro e w' ⟨vg, rfl, hb, hog⟩
  have hrg := RdGrps.of_owns hog
  obtain ⟨ag, cg, hvg⟩ := hog.len
  subst hvg
  exact ⟨ag, cg, rfl, hb, hrg⟩
set_option maxHeartbeats 8000000 in
theorem groupsOf_ok {ls : List Lev} {m : Mai} (h : HasPlan ls m) {vl v : Value} {w : World} (hrl : RdLevs w vl ls) (hr : RdPces w v m.ps) :
    Calls Tryz.prog 46 #[vl, maiV m v] w fun e w' => ∃ a cap, e = .returned (.tuple #[.slice a (gAll ls (codesM m.ps) ls.length).length cap, .int .i64 0]) ∧ Below w.heap.size w w' ∧ RdGrps w' (.slice a (gAll ls (codesM m.ps) ls.length).length cap) (gAll ls (codesM m.ps) ls.length) := by
  have hl : m.ps.length ≤ 2000 := h.few
  have HGO := Lib.hid (fun W vc (hW : Below w.heap.size w W) (hrc : ReadsT W vc (codesM m.ps)) => groups_of h (hrl.below hW) hrc)
  obtain ⟨N, hN⟩ : ∃ N, N = (gAll ls (codesM m.ps) ls.length).length := ⟨_, rfl⟩
  rw [← hN] at HGO ⊢
  clear hN h hrl
  obtain ⟨a, cap, rfl, hcc⟩ := hr
  unfold maiV
  obtain ⟨cls, ctr, org, ps⟩ := m
  dsimp only at *
  obtain ⟨i0, hi⟩ := info_parts Tryz.infoTx
  have HI := Lib.hid hi
  have HCC := Lib.hid hcc
  clear hi hcc
  have c0 : (w.alloc (.cells #[.int .u8 cls, .int .u8 ctr, .string org, .slice a ps.length cap] 29)).cell? ⟨w.heap.size, 3, none⟩ = some (.slice a ps.length cap) := cell_of_row _ _ 3 _ _ _ (alloc_new w _)
  go_enter Tryz.func46, Tryz.ntmps46
  go_wp2_with (at_make; refine wpList_make_own _ rfl _ _ 126 rfl (w.heap.size + 1) 9 i0 (.string ⟨#[]⟩) 1 Tryz.underlying126 HI.out.1 HI.out.2.1 HI.out.2.2.1 _ _ _ ps.length rfl (by first | rfl | simp) rfl (by rw [HI.out.2.2.2]; omega) (by unfold maxLen; omega) (by simp) ?_; intro w1 hown hgrow; have hb1 : Below (w.alloc (.cells #[.int .u8 cls, .int .u8 ctr, .string org, .slice a ps.length cap] 29)).heap.size (w.alloc (.cells #[.int .u8 cls, .int .u8 ctr, .string org, .slice a ps.length cap] 29)) w1 := (Below.refl _ _).grown hgrow (Nat.le_refl _) (fun _ e => by cases e); clear hgrow; have c1 := (hb1.cell (p := ⟨w.heap.size, 3, none⟩) (by simp)).trans c0)
  have hB : Below w.heap.size w w1 := below_ac (Below.refl _ w) (Nat.le_refl _) hb1
  have hz1 := hb1.size
  simp only [World.size_alloc] at hz1
  clear c1 c0 hb1
  go_loopw [6, 16] (fun l i wr => ∃ k : Nat, k ≤ ps.length ∧ i = .int .i64 k ∧ Below w.heap.size w wr ∧ w.heap.size + 1 ≤ wr.heap.size ∧ wr.ownsRow (w.heap.size + 1) 9 1 l k ((codesM (ps.take k)).map Value.string)) (fun _ i _ => ps.length - (intOf i).toNat)
  case atStart => exact ⟨0, Nat.zero_le _, rfl, hB, by omega, by simpa [codesM] using hown⟩
  case round =>
    clear hB hown
    obtain ⟨k, hk, rfl, hB, hz, hO⟩ := hrel
    by_cases hlt : k < ps.length
    · obtain ⟨g, off, rfl, hg, hat⟩ := HCC.out (by omega)
      have hp := (hat k hlt).below hB hg
      have htk := codesM_take ps hlt
      obtain ⟨p, hpe⟩ : ∃ p, p = ps[k] := ⟨_, rfl⟩
      rw [← hpe] at hp htk
      have HTK := Lib.hid htk
      obtain ⟨id, pt, cd, gr, br⟩ := p
      obtain ⟨p0, p1, p2, p3, p4⟩ := hp
      dsimp only at p0 p1 p2 p3 p4
      clear hat htk hpe
      have hO1 := (hO.alloc (.cells #[.int .i64 id, .int .i64 pt, .string cd, .int .i64 gr, .bool br] 90)).alloc (.cells #[.string cd] 9)
      have HO1 := Lib.hid hO1
      clear hO1
      rcases Joins.ownsRow_forms hO with ⟨rfl, hpn⟩ | ⟨g2, cap2, rfl⟩
      · have HP := Lib.hid hpn
        clear hpn
        go_wp2_with (at_builtin; refine wpList_append_own _ rfl _ _ 126 rfl (w.heap.size + 1) 9 i0 (.string ⟨#[]⟩) 1 16 Tryz.underlying126 HI.out.1 HI.out.2.1 HI.out.2.2.1 HI.out.2.2.2 rfl (by decide) _ _ _ rfl HO1.out ⟨wr.heap.size + 1, 0, none⟩ 1 1 [.string cd] rfl (by simp) (by simpa using cell_one_new (wr.alloc (.cells #[.int .i64 id, .int .i64 pt, .string cd, .int .i64 gr, .bool br] 90)) (.string cd) 9) (by simp [Value.oneCell']) (by unfold maxLen; omega) (by omega) (by simp; omega) ?_; intro v' w5 hown' hgrow _)
        go_roundw
        case rel =>
          refine ⟨k + 1, by omega, by go_num, ?_, ?_, ?_⟩
          · exact ((hB.alloc hB.size _).alloc (by have := hB.size; simp; omega) _).grown hgrow (by have := hB.size; simp; omega) (fun r e => by have := (hO.lt r e).1; omega)
          · have := hgrow.size; simp at this; omega
          · rw [HTK.out]
            exact hown'
        case measure => simp [intOf]; omega
      · go_wp2_with (at_builtin; refine wpList_append_own _ rfl _ _ 126 rfl (w.heap.size + 1) 9 i0 (.string ⟨#[]⟩) 1 16 Tryz.underlying126 HI.out.1 HI.out.2.1 HI.out.2.2.1 HI.out.2.2.2 rfl (by decide) _ _ _ rfl HO1.out ⟨wr.heap.size + 1, 0, none⟩ 1 1 [.string cd] rfl (by simp) (by simpa using cell_one_new (wr.alloc (.cells #[.int .i64 id, .int .i64 pt, .string cd, .int .i64 gr, .bool br] 90)) (.string cd) 9) (by simp [Value.oneCell']) (by unfold maxLen; omega) (by omega) (by simp; omega) ?_; intro v' w5 hown' hgrow _)
        go_roundw
        case rel =>
          refine ⟨k + 1, by omega, by go_num, ?_, ?_, ?_⟩
          · exact ((hB.alloc hB.size _).alloc (by have := hB.size; simp; omega) _).grown hgrow (by have := hB.size; simp; omega) (fun r e => by have := (hO.lt r e).1; omega)
          · have := hgrow.size; simp at this; omega
          · rw [HTK.out]
            exact hown'
        case measure => simp [intOf]; omega
    · obtain rfl : k = ps.length := by omega
      rw [List.take_length] at hO
      have HO := Lib.hid hO
      have hlen : (codesM ps).length = ps.length := by unfold codesM; simp
      rcases Joins.ownsRow_forms hO with ⟨rfl, hp⟩ | ⟨g2, cap2, rfl⟩
      · have hrt : ReadsT wr (.slice none 0 0) (codesM ps) := ⟨none, 0, by rw [hlen, hp], fun h0 => by rw [hlen] at h0; omega⟩
        have HRT := Lib.hid hrt
        have HP := Lib.hid hp
        clear hrt hlen hO hp
        go_wp2_with (go_at_call 101; refine (HGO.out _ _ hB HRT.out).mono ?_; rintro e w6 ⟨a6, c6, rfl, hb6, hg6⟩)
        go_ret2
        exact ⟨_, _, rfl, below_c hB hB.size hb6, hg6⟩
      · have hrt : ReadsT wr (.slice (some ⟨g2, 0, none⟩) ps.length cap2) (codesM ps) := ReadsT.of_row (base := w.heap.size + 1) (by unfold OwnsT; rw [hlen]; exact HO.out)
        have HRT := Lib.hid hrt
        clear hrt hlen hO
        go_wp2_with (go_at_call 101; refine (HGO.out _ _ hB HRT.out).mono ?_; rintro e w6 ⟨a6, c6, rfl, hb6, hg6⟩)
        go_ret2
        exact ⟨_, _, rfl, below_c hB hB.size hb6, hg6⟩
noncomputable def allR (ls : List Lev) (m : Mai) (zs : List Int) (k : Pck) : Int := if (validR ls m zs).2 = 0 then (if (validR ls m zs).1 = true ∧ pckB k = true then 0 else 2) else (validR ls m zs).2
theorem boxes2 {w w2 : World} {c1 c2 : Array Value} {t1 t2 : TypeId} (h : w2 = (w.alloc (.cells c1 t1)).alloc (.cells c2 t2)) :
    w2.heap[w.heap.size]? = some (.cells c1 t1 (0, 0)) ∧ w2.heap[w.heap.size + 1]? = some (.cells c2 t2 (0, 0)) ∧ w2.heap.size = w.heap.size + 1 + 1 ∧ Below w.heap.size w w2 := by
  rw [h]
  obtain ⟨a, ha⟩ : ∃ a, a = w.alloc (.cells c1 t1) := ⟨_, rfl⟩
  have za : a.heap.size = w.heap.size + 1 := by rw [ha, World.size_alloc]
  have na : a.heap[w.heap.size]? = some (.cells c1 t1 (0, 0)) := by rw [ha]; exact alloc_new w _
  have nb : (a.alloc (.cells c2 t2)).heap[w.heap.size + 1]? = some (.cells c2 t2 (0, 0)) := by rw [← za]; exact alloc_new a _
  have ba : Below w.heap.size w a := by rw [ha]; exact (Below.refl _ w).alloc (Nat.le_refl _) _
  rw [← ha]
  exact ⟨(Below.heap_alloc _ _ _ (by omega)).trans na, nb, by rw [World.size_alloc, za], ba.alloc (by omega) _⟩
set_option maxHeartbeats 16000000 in
theorem allowed_any (ls : List Lev) (v vp vz : Value) (m : Mai) (zs : List Int) (k : Pck) (w : World) (hr : RdLevs w v ls) (hf : ∀ l ∈ ls, LevFits l) (hl : ls.length ≤ 100000) (hrp : RdPces w vp m.ps) (h8 : 0 ≤ m.cls ∧ m.cls ≤ 255 ∧ 0 ≤ m.ctr ∧ m.ctr ≤ 255)
    (hom : m.origin.size ≤ maxLen) (hml : m.ps.length ≤ 100000) (hcz : ∀ p ∈ m.ps, p.code.size ≤ maxLen) (hz : RdInts w vz zs) (hlz : zs.length ≤ 1000000) :
    Calls Tryz.prog 45 #[v, maiV m vp, vz, pckV k] w fun e w' => e = .returned (.int .i64 (allR ls m zs k)) ∧ Below w.heap.size w w' := by
  have HVA := Lib.hid (fun W (hW : Below w.heap.size w W) => valid_any ls v vp vz m zs W (hr.below hW) hf hl (hrp.below hW) h8 hom hml hcz (hz.below hW) hlz)
  have HRT := Lib.hid (fun W => tRight_any k W)
  obtain ⟨ap, cp, rfl, _⟩ := hrp
  have hA : allR ls m zs k = if (validR ls m zs).2 = 0 then (if (validR ls m zs).1 = true ∧ pckB k = true then 0 else 2) else (validR ls m zs).2 := by unfold allR; rfl
  obtain ⟨R, hR⟩ : ∃ R, R = validR ls m zs := ⟨_, rfl⟩
  rw [← hR] at HVA hA
  obtain ⟨vb, ve⟩ := R
  obtain ⟨A, hAA⟩ : ∃ A, A = allR ls m zs k := ⟨_, rfl⟩
  obtain ⟨pb, hpb⟩ : ∃ b, b = pckB k := ⟨_, rfl⟩
  rw [← hpb] at HRT hA
  rw [← hAA] at hA ⊢
  dsimp only at HVA hA
  unfold maiV pckV at *
  obtain ⟨kp, kg, kb, kt⟩ := k
  obtain ⟨cls, ctr, org, ps⟩ := m
  dsimp only at *
  obtain ⟨w2, hw2⟩ : ∃ w2, w2 = (w.alloc (.cells #[.int .u8 cls, .int .u8 ctr, .string org, .slice ap ps.length cp] 29)).alloc (.cells #[.int .i64 kp, .int .i64 kg, .int .i64 kb, .int .i64 kt] 32) := ⟨_, rfl⟩
  obtain ⟨g1, g2, z2, b2⟩ := boxes2 hw2
  obtain ⟨x0, x1, x2, x3⟩ := cells4 g1
  have HKB := Lib.hid (fun (W : World) (hB : Below w2.heap.size w2 W) => cells4 ((hB.block _ (by omega)).trans g2))
  have HW2 := Lib.hid hw2
  have HB2 := Lib.hid b2
  have HAH := Lib.hid hA
  clear hw2 b2 z2 g1 g2 hA hAA hpb hR hr hf hcz hz
  by_cases he : ve = 0
  · subst he
    cases vb
    · have HA2 : Hid (A = 2) := Lib.hid (by have h := HAH.out; simpa using h)
      go_enter Tryz.func45, Tryz.ntmps45
      go_upto_region 1 with fail
      rw [← HW2.out]
      go_wp2_with (go_at_call 99; refine (HVA.out _ HB2.out).mono ?_; rintro e w3 ⟨rfl, hb3⟩)
      go_ret
      rw [HA2.out]
      exact ⟨rfl, below_c HB2.out HB2.out.size hb3⟩
    · cases pb
      · have HA2 : Hid (A = 2) := Lib.hid (by have h := HAH.out; simpa using h)
        go_enter Tryz.func45, Tryz.ntmps45
        go_upto_region 1 with fail
        rw [← HW2.out]
        go_wp2_with (first | (go_at_call 99; refine (HVA.out _ HB2.out).mono ?_; rintro e w3 ⟨rfl, hb3⟩; obtain ⟨y0, y1, y2, y3⟩ := HKB.out w3 hb3) | (go_at_call 100; refine (HRT.out w3).mono ?_; rintro e w4 ⟨rfl, hb4⟩))
        go_ret
        rw [HA2.out]
        exact ⟨rfl, below_c (below_c HB2.out HB2.out.size hb3) (below_c HB2.out HB2.out.size hb3).size hb4⟩
      · have HA2 : Hid (A = 0) := Lib.hid (by have h := HAH.out; simpa using h)
        go_enter Tryz.func45, Tryz.ntmps45
        go_upto_region 1 with fail
        rw [← HW2.out]
        go_wp2_with (first | (go_at_call 99; refine (HVA.out _ HB2.out).mono ?_; rintro e w3 ⟨rfl, hb3⟩; obtain ⟨y0, y1, y2, y3⟩ := HKB.out w3 hb3) | (go_at_call 100; refine (HRT.out w3).mono ?_; rintro e w4 ⟨rfl, hb4⟩))
        go_ret
        rw [HA2.out]
        exact ⟨rfl, below_c (below_c HB2.out HB2.out.size hb3) (below_c HB2.out HB2.out.size hb3).size hb4⟩
  · have hne : (ve != 0) = true := by simp [he]
    rw [if_neg he] at HAH
    go_enter Tryz.func45, Tryz.ntmps45
    go_upto_region 1 with fail
    rw [← HW2.out]
    go_wp2_with (go_at_call 99; refine (HVA.out _ HB2.out).mono ?_; rintro e w3 ⟨rfl, hb3⟩)
    go_ret
    rw [HAH.out]
    exact ⟨rfl, below_c HB2.out HB2.out.size hb3⟩
end Go.Proofs.YtojedplbhialpaaGreatDoor

/-! TG -/
namespace Go.Proofs.YtojedplbhialpaaGreatDoor
open Go.RowKit Go.Sort
set_option linter.unusedVariables false
set_option maxRecDepth 100000
theorem grown_any {A B : World} (h : Below A.heap.size A B) (row : Option Nat) : A.grownBy B row := ⟨h.os, h.tape, h.output, h.size, fun k hk _ => h.block k hk⟩
theorem wpList_append_both {P : Program} (w : World) {ops : Array Oper} {rest : List Oper} {o : Oper} {a : Act} {Q : Exit → Act → World → Prop} (hgd : o.guard = none) (s x : Operand) (t : TypeId)
    (ho : o.op = .call { callee := .builtin .append, args := #[s, x], argTypes := #[t, t] })
    (base : Nat) (e : TypeId) (i : TypeInfo) (z : Value) (size bytes : Nat) (ht : P.underlying t = some (.slice e)) (hi : P.info? e = some i) (hz : i.zero = some z)
    (hsize : i.size = size) (hby : i.bytes = bytes) (hzs : z.cells.size = size) (hsz : 0 < size)
    (v : Value) (n : Nat) (xs : List Value) (hs : a.eval s = v) (hown : w.ownsRow base e size v n xs)
    (base2 : Nat) (v2 : Value) (m : Nat) (news : List Value) (hx : a.eval x = v2) (hown2 : w.ownsRow base2 e size v2 m news) (h1 : ∀ u ∈ news, u.oneCell' = true)
    (h63 : n + m ≤ maxLen) (hbytes : (n + m) * bytes ≤ 140737488355328) (hbase : base ≤ w.heap.size)
    (h : ∀ v' w', w'.ownsRow base e size v' (n + m) (xs ++ news) → w.grownBy w' v.ownBlock → wpList P ops Q rest (a.put o.dst v') w') : wpList P ops Q (o :: rest) a w := by
  rcases Joins.ownsRow_forms hown2 with ⟨rfl, hm⟩ | ⟨g, cap, rfl⟩
  · subst hm
    have hne : news = [] := List.length_eq_zero_iff.1 (by have := hown2.1; omega)
    subst hne
    have hform : ∃ b n' c, v = .slice b n' c ∧ n' ≤ c := by
      obtain ⟨_, ⟨rfl, _⟩ | ⟨g, cap, cur, rfl, _, _, hc, _⟩⟩ := hown
      · exact ⟨none, 0, 0, rfl, Nat.le_refl _⟩
      · exact ⟨_, n, cap, rfl, hc⟩
    obtain ⟨b, n', c, rfl, hle⟩ := hform
    refine wpList_plain hgd fun K hK' => ?_
    have hrun := run_append_nothing (P := P) w t t o.type e i ht hi b n' c hle (.slice none 0 0) (Src.ofNil w ht 0)
    unfold Oper.wp
    simp [execOp, ho, resolve, invoke, builtin, hs, hx, hrun, Result.andThen]
    refine hK' _ _ (h _ _ ?_ (grown_any (Below.refl _ _) _))
    simpa using hown
  · exact wpList_append_own w hgd s x t ho base e i z size bytes ht hi hz hsize hby hzs hsz v n xs hs hown ⟨g, 0, none⟩ m cap news hx hown2.1 (fun j u hj => hown2.cells (g := g) rfl j u hj) h1 h63 hbytes hbase (fun v' w' h2 h3 _ => h v' w' h2 h3)
def OwnsX {α : Type} (T : TypeId) (n : Nat) (cf : α × Value → List Value) (ids : α → List Int) (w : World) (base : Nat) (v : Value) (xs : List α) : Prop :=
  ∃ L : List (α × Value), L.map Prod.fst = xs ∧ (∀ p ∈ L, RowJ w base p.2 (ids p.1)) ∧ w.ownsRow base T n v L.length (L.flatMap cf)
section
variable {α : Type} {T : TypeId} {n : Nat} {cf : α × Value → List Value} {ids : α → List Int} {w w' : World} {base : Nat} {v : Value} {xs : List α}
theorem OwnsX.nil (w : World) (base : Nat) : OwnsX T n cf ids w base (.slice none 0 0) [] := ⟨[], rfl, by simp, World.ownsRow_nil _ _ _ _⟩
theorem OwnsX.below (h : OwnsX T n cf ids w base v xs) (hb : Below w.heap.size w w') : OwnsX T n cf ids w' base v xs := by
  obtain ⟨L, hL, h1, h2⟩ := h
  exact ⟨L, hL, fun p hp => (h1 p hp).below hb, row_belowT h2 hb⟩
theorem OwnsX.mono {base' : Nat} (h : OwnsX T n cf ids w base v xs) (hb : base' ≤ base) : OwnsX T n cf ids w base' v xs := by
  obtain ⟨L, hL, h1, h2⟩ := h
  exact ⟨L, hL, fun p hp => (h1 p hp).mono hb, own_mono h2 hb⟩
theorem OwnsX.form (h : OwnsX T n cf ids w base v xs) : ∃ a cap, v = .slice a xs.length cap := by
  obtain ⟨L, rfl, _, ho⟩ := h
  rw [List.length_map]
  exact own_form ho
theorem OwnsX.beside {row : Option Nat} (h : OwnsX T n cf ids w base v xs) (hg : w.grownBy w' row) (h1 : ∀ g, row = some g → ∀ cur fr, w.heap[g]? ≠ some (.cells cur T fr)) (h2 : ∀ g, row = some g → ∀ cur fr, w.heap[g]? ≠ some (.cells cur 3 fr)) : OwnsX T n cf ids w' base v xs := by
  obtain ⟨L, hL, h3, h4⟩ := h
  exact ⟨L, hL, fun p hp => (h3 p hp).kept hg (fun g e => .inr (h2 g e)), kept_typed h4 hg h1⟩
theorem OwnsX.not (h : OwnsX T n cf ids w base v xs) {T' : TypeId} (hT : T' ≠ T) : ∀ g, v.ownBlock = some g → ∀ cur fr, w.heap[g]? ≠ some (.cells cur T' fr) := by
  obtain ⟨L, hL, h3, h4⟩ := h
  exact own_not h4 hT
theorem OwnsX.app {L L2 : List (α × Value)} {w2 : World} {v' : Value} (hT : 3 ≠ T) (hr : ∀ p ∈ L, RowJ w base p.2 (ids p.1)) (hr2 : ∀ p ∈ L2, RowJ w base p.2 (ids p.1)) (hO : w.ownsRow base T n v L.length (L.flatMap cf)) (hg : w.grownBy w2 v.ownBlock)
    (ho : w2.ownsRow base T n v' (L.length + L2.length) (L.flatMap cf ++ L2.flatMap cf)) : OwnsX T n cf ids w2 base v' (L.map Prod.fst ++ L2.map Prod.fst) := by
  have nA := own_not hO hT
  refine ⟨L ++ L2, by rw [List.map_append], fun p hp => ?_, ?_⟩
  · rcases List.mem_append.1 hp with hp | hp
    · exact (hr p hp).kept hg (fun g e => .inr (nA g e))
    · exact (hr2 p hp).kept hg (fun g e => .inr (nA g e))
  · rw [List.flatMap_append, List.length_append]
    exact ho
end
def traCell (p : Tra × Value) : List Value := [.int .i64 p.1.lvl, .string p.1.grp, p.2]
def conCell (p : Con × Value) : List Value := [.int .i64 p.1.lvl, p.2]
structure LodW (w : World) (T base : Nat) (bs : List Bun) (ts : List Tra) (cs : List Con) (vb vt vc : Value) : Prop where
  cell : w.heap[T]? = some (.cells #[vb, vt, vc] 39 (0, 0))
  b : OwnsX 53 4 bunCell (fun b => b.ids) w base vb bs
  t : OwnsX 55 3 traCell (fun t => t.bs) w base vt ts
  c : OwnsX 57 2 conCell (fun c => c.ts) w base vc cs
section
variable {w w' w2 : World} {T base : Nat} {bs bs' : List Bun} {ts ts' : List Tra} {cs cs' : List Con} {vb vt vc vb' vt' vc' : Value}
theorem LodW.lt (h : LodW w T base bs ts cs vb vt vc) : T < w.heap.size := (Array.getElem?_eq_some_iff.1 h.cell).1
theorem LodW.below (h : LodW w T base bs ts cs vb vt vc) (hb : Below w.heap.size w w') : LodW w' T base bs ts cs vb vt vc :=
  ⟨(hb.block T h.lt).trans h.cell, h.b.below hb, h.t.below hb, h.c.below hb⟩
theorem cells3 {w : World} {g : Nat} {a b c : Value} {t : TypeId} {fr : Nat × Nat} (h : w.heap[g]? = some (.cells #[a, b, c] t fr)) : w.cell? ⟨g, 0, none⟩ = some a ∧ w.cell? ⟨g, 1, none⟩ = some b ∧ w.cell? ⟨g, 2, none⟩ = some c :=
  ⟨cell_of_row _ _ 0 _ _ _ h, cell_of_row _ _ 1 _ _ _ h, cell_of_row _ _ 2 _ _ _ h⟩
theorem set3 {w : World} {g : Nat} {a b c u : Value} {t : TypeId} {fr : Nat × Nat} (h : w.heap[g]? = some (.cells #[a, b, c] t fr)) :
    (w.setCell ⟨g, 0, none⟩ u).heap[g]? = some (.cells #[u, b, c] t fr) ∧ (w.setCell ⟨g, 1, none⟩ u).heap[g]? = some (.cells #[a, u, c] t fr) ∧ (w.setCell ⟨g, 2, none⟩ u).heap[g]? = some (.cells #[a, b, u] t fr) := by
  refine ⟨?_, ?_, ?_⟩ <;> simp [World.setCell, Array.getElem?_modify, h]
theorem lod_set {w : World} {g : Nat} {cs : Array Value} (h : w.heap[g]? = some (.cells cs 39 (0, 0))) {T' : TypeId} (hT : T' ≠ 39) : ∀ k, some g = some k → ∀ cur fr, w.heap[k]? ≠ some (.cells cur T' fr) := fun k e cur fr hk => by
  obtain rfl := Option.some.inj e
  rw [h] at hk
  injection hk with hk
  injection hk with _ hk _
  exact hT hk.symm
theorem LodW.setB (h : LodW w T base bs ts cs vb vt vc) (hg : w.grownBy w2 vb.ownBlock) (hb : OwnsX 53 4 bunCell (fun b => b.ids) w2 base vb' bs') : LodW (w2.setCell ⟨T, 0, none⟩ vb') T base bs' ts cs vb' vt vc ∧ w2.frozen? ⟨T, 0, none⟩ = false ∧ w2.cell? ⟨T, 0, none⟩ = some vb := by
  have h2 : w2.heap[T]? = some (.cells #[vb, vt, vc] 39 (0, 0)) := (hg.block T h.lt (fun e => h.b.not (T' := 39) (by decide) T e.symm _ _ h.cell)).trans h.cell
  have hs := set_grown w2 ⟨T, 0, none⟩ vb'
  exact ⟨⟨(set3 h2).1, hb.beside hs (lod_set h2 (by decide)) (lod_set h2 (by decide)), (h.t.beside hg (h.b.not (by decide)) (h.b.not (by decide))).beside hs (lod_set h2 (by decide)) (lod_set h2 (by decide)), (h.c.beside hg (h.b.not (by decide)) (h.b.not (by decide))).beside hs (lod_set h2 (by decide)) (lod_set h2 (by decide))⟩, row_free h2, (cells3 h2).1⟩
theorem LodW.setT (h : LodW w T base bs ts cs vb vt vc) (hg : w.grownBy w2 vt.ownBlock) (hb : OwnsX 55 3 traCell (fun t => t.bs) w2 base vt' ts') : LodW (w2.setCell ⟨T, 1, none⟩ vt') T base bs ts' cs vb vt' vc ∧ w2.frozen? ⟨T, 1, none⟩ = false ∧ w2.cell? ⟨T, 1, none⟩ = some vt := by
  have h2 : w2.heap[T]? = some (.cells #[vb, vt, vc] 39 (0, 0)) := (hg.block T h.lt (fun e => h.t.not (T' := 39) (by decide) T e.symm _ _ h.cell)).trans h.cell
  have hs := set_grown w2 ⟨T, 1, none⟩ vt'
  exact ⟨⟨(set3 h2).2.1, (h.b.beside hg (h.t.not (by decide)) (h.t.not (by decide))).beside hs (lod_set h2 (by decide)) (lod_set h2 (by decide)), hb.beside hs (lod_set h2 (by decide)) (lod_set h2 (by decide)), (h.c.beside hg (h.t.not (by decide)) (h.t.not (by decide))).beside hs (lod_set h2 (by decide)) (lod_set h2 (by decide))⟩, row_free h2, (cells3 h2).2.1⟩
theorem LodW.setC (h : LodW w T base bs ts cs vb vt vc) (hg : w.grownBy w2 vc.ownBlock) (hb : OwnsX 57 2 conCell (fun c => c.ts) w2 base vc' cs') : LodW (w2.setCell ⟨T, 2, none⟩ vc') T base bs ts cs' vb vt vc' ∧ w2.frozen? ⟨T, 2, none⟩ = false ∧ w2.cell? ⟨T, 2, none⟩ = some vc := by
  have h2 : w2.heap[T]? = some (.cells #[vb, vt, vc] 39 (0, 0)) := (hg.block T h.lt (fun e => h.c.not (T' := 39) (by decide) T e.symm _ _ h.cell)).trans h.cell
  have hs := set_grown w2 ⟨T, 2, none⟩ vc'
  exact ⟨⟨(set3 h2).2.2, (h.b.beside hg (h.c.not (by decide)) (h.c.not (by decide))).beside hs (lod_set h2 (by decide)) (lod_set h2 (by decide)), (h.t.beside hg (h.c.not (by decide)) (h.c.not (by decide))).beside hs (lod_set h2 (by decide)) (lod_set h2 (by decide)), hb.beside hs (lod_set h2 (by decide)) (lod_set h2 (by decide))⟩, row_free h2, (cells3 h2).2.2⟩
end
end Go.Proofs.YtojedplbhialpaaGreatDoor

/-! TI -/
namespace Go.Proofs.YtojedplbhialpaaGreatDoor
open Go.RowKit Go.Sort
set_option linter.unusedVariables false
set_option maxRecDepth 100000
theorem results_cell_two {P : Program} {fn : Func} {p q : Tmp} {ty : TypeId} (h : fn.results = #[.cell p ty, .tmp q]) (tmps : Array Value) (w : World) (g : Nat) (t : TypeId) (cs : Array Value) (fr : Nat × Nat) (d : TypeDesc) (z : Value)
    (hp : tmps.getD p undef = .pointer (some ⟨g, 0, none⟩)) (hq : tmps.getD q undef = z) (hg : w.heap[g]? = some (.cells cs t fr))
    (hu : P.underlying ty = some d) (hd : (match d with | .struct _ | .array _ _ => true | _ => false) = true) (hi : (P.info? ty).map (·.size) = some cs.size) :
    (results fn tmps).run P w = .ok (.tuple #[.agg cs, z]) w := by
  have hp' : tmps[p]?.getD undef = .pointer (some ⟨g, 0, none⟩) := by simpa using hp
  have hq' : tmps[q]?.getD undef = z := by simpa using hq
  simp [results, h, hp', hq', asAddr, run_loadVar_row w g t ty cs fr d hg hu hd hi]
theorem set3all {w : World} {g : Nat} {a b c a' b' c' : Value} {t : TypeId} {fr : Nat × Nat} (h : w.heap[g]? = some (.cells #[a, b, c] t fr)) :
    (((w.setCell ⟨g, 0, none⟩ a').setCell ⟨g, 1, none⟩ b').setCell ⟨g, 2, none⟩ c').heap[g]? = some (.cells #[a', b', c'] t fr) := (set3 (set3 (set3 h).1).2.1).2.2
def lodV (vb vt vc : Value) : Value := .agg #[vb, vt, vc]
def noLod : Value := .agg #[.slice none 0 0, .slice none 0 0, .slice none 0 0]
end Go.Proofs.YtojedplbhialpaaGreatDoor

/-! TJ -/
namespace Go.Proofs.YtojedplbhialpaaGreatDoor
open Go.RowKit Go.Sort
set_option linter.unusedVariables false
set_option maxRecDepth 100000
theorem Tryz.infoTr : (Tryz.prog.info? 55).map (fun i => (i.zero, i.size, i.bytes)) = some (some (.agg #[.int .i64 0, .string ⟨#[]⟩, .slice none 0 0]), 3, 48) := by kernel_rfl
theorem Tryz.infoCo : (Tryz.prog.info? 57).map (fun i => (i.zero, i.size, i.bytes)) = some (some (.agg #[.int .i64 0, .slice none 0 0]), 2, 32) := by kernel_rfl
def traOf (x : Grp) (l : List Int) : Tra := ⟨x.lvl, x.name, l⟩
def conOf (x : Grp) (l : List Int) : Con := ⟨x.lvl, l⟩
theorem pkTo_yes {k : Pck} {ps : List Pce} {zs : List Int} {Gs : List Grp} {j : Nat} (hj : j < Gs.length) (he : endsL Gs j) {st : PkS} (hst : st = pkTo k ps zs Gs j) {bs : List Bun} (hbs : bs = st.buns ++ bunsOf k ps zs Gs[j]) {ts : List Tra} (hts : ts = st.tras ++ (shareR st.buns.length bs.length k.bundles.toNat).map (traOf Gs[j])) :
    pkTo k ps zs Gs (j + 1) = ⟨bs, ts, st.cons ++ (shareR st.beg ts.length k.trays.toNat).map (conOf Gs[j]), ts.length⟩ := by
  rw [pkTo_succ, ← hst]
  unfold pkStep
  rw [dif_pos hj]
  dsimp only
  rw [← hbs]
  have e : (fun l => (⟨Gs[j].lvl, Gs[j].name, l⟩ : Tra)) = traOf Gs[j] := rfl
  rw [e, ← hts, if_pos he]
  rfl
theorem pkTo_not {k : Pck} {ps : List Pce} {zs : List Int} {Gs : List Grp} {j : Nat} (hj : j < Gs.length) (he : ¬ endsL Gs j) {st : PkS} (hst : st = pkTo k ps zs Gs j) {bs : List Bun} (hbs : bs = st.buns ++ bunsOf k ps zs Gs[j]) {ts : List Tra} (hts : ts = st.tras ++ (shareR st.buns.length bs.length k.bundles.toNat).map (traOf Gs[j])) :
    pkTo k ps zs Gs (j + 1) = ⟨bs, ts, st.cons, st.beg⟩ := by
  rw [pkTo_succ, ← hst]
  unfold pkStep
  rw [dif_pos hj]
  dsimp only
  rw [← hbs]
  have e : (fun l => (⟨Gs[j].lvl, Gs[j].name, l⟩ : Tra)) = traOf Gs[j] := rfl
  rw [e, ← hts, if_neg he]
theorem ends_iff {Gs : List Grp} {j : Nat} : endsL Gs j ↔ ¬ ∃ h : j + 1 < Gs.length, Gs[j + 1].lvl = (Gs[j]'(by omega)).lvl := by
  unfold endsL
  constructor
  · rintro h ⟨h1, h2⟩; exact h h1 h2
  · intro h h1 h2; exact h ⟨h1, h2⟩
theorem OwnsLL.lies {w : World} {base : Nat} {v : Value} {ts : List (List Int)} (h : OwnsLL w base v ts) : ∃ a cap, v = .slice a ts.length cap ∧ (0 < ts.length → ∃ g, a = some ⟨g, 0, none⟩ ∧ g < w.heap.size ∧ ∀ i (h : i < ts.length), ∃ s, w.cell? ⟨g, i, none⟩ = some s ∧ RowJ w base s ts[i]) := by
  obtain ⟨L, rfl, h1, h2⟩ := h
  rcases Joins.ownsRow_forms h2 with ⟨rfl, hp⟩ | ⟨g, cap, rfl⟩
  · exact ⟨none, 0, by rw [List.length_map, hp], fun h0 => by rw [List.length_map, hp] at h0; omega⟩
  · refine ⟨_, cap, by rw [List.length_map], fun h0 => ⟨g, rfl, (h2.lt g rfl).2, fun i hi => ?_⟩⟩
    rw [List.length_map] at hi
    have hc := h2.cellAt i (by rw [Nat.mul_one]; exact hi)
    rw [List.getElem?_map, List.getElem?_eq_getElem hi] at hc
    refine ⟨_, hc, ?_⟩
    rw [List.getElem_map]
    exact h1 _ (List.getElem_mem hi)
theorem slice_one {w : World} {base : Nat} {v : Value} {zs : List Int} (h : RowJ w base v zs) : v.oneCell' = true := by
  obtain ⟨a, cap, rfl, _⟩ := h
  rfl
theorem bun_one {w : World} {base : Nat} {L : List (Bun × Value)} (h : ∀ p ∈ L, RowJ w base p.2 p.1.ids) : ∀ u ∈ L.flatMap bunCell, u.oneCell' = true := fun u hu => by
  obtain ⟨p, hp, hu⟩ := List.mem_flatMap.1 hu
  have h1 := slice_one (h p hp)
  simp only [bunCell, List.mem_cons, List.not_mem_nil, or_false] at hu
  rcases hu with rfl | rfl | rfl | rfl
  · rfl
  · rfl
  · exact h1
  · rfl
theorem RdGrps.lies {w : World} {a : Option Addr} {n cap : Nat} {gs : List Grp} (h : RdGrps w (.slice a n cap) gs) : 0 < gs.length → ∃ g off, a = some ⟨g, off, none⟩ ∧ g < w.heap.size ∧ ∀ i (h : i < gs.length), ∃ sv, RdInts w sv gs[i].items ∧ GrpAt w g (off + i * 4) gs[i] sv := by
  obtain ⟨a', cap', hv, hc⟩ := h
  injection hv with h1 h2 h3
  subst h1
  exact hc
theorem box_facts (wr W6 w : World) (x : Grp) (sv sy : Value) (gy o : Nat) (hB : Below w.heap.size w wr) (hb : Below W6.heap.size W6 wr) (hgy : gy < W6.heap.size) (hy : GrpAt W6 gy o x sy) (t : TypeId) :
    ∃ Wq N, wr.alloc (.cells #[.int .i64 x.lvl, .string x.name, .int .i64 x.up, sv] t) = Wq ∧ wr.heap.size = N ∧ Below w.heap.size w Wq ∧ Below W6.heap.size W6 Wq ∧ GrpAt Wq gy o x sy ∧ Wq.cell? ⟨N, 0, none⟩ = some (.int .i64 x.lvl) ∧ Wq.cell? ⟨N, 1, none⟩ = some (.string x.name) ∧ Wq.cell? ⟨N, 2, none⟩ = some (.int .i64 x.up) ∧ Wq.cell? ⟨N, 3, none⟩ = some sv := by
  have b1 := hB.alloc hB.size (.cells #[.int .i64 x.lvl, .string x.name, .int .i64 x.up, sv] t)
  have b2 := hb.alloc hb.size (.cells #[.int .i64 x.lvl, .string x.name, .int .i64 x.up, sv] t)
  refine ⟨_, _, rfl, rfl, b1, b2, hy.below b2 hgy, cells_new wr _ t 0 _ rfl, cells_new wr _ t 1 _ rfl, cells_new wr _ t 2 _ rfl, cells_new wr _ t 3 _ rfl⟩
theorem app_lens {α β : Type} {L L7 : List (α × β)} {xs ys zs : List α} (h : L.map Prod.fst = xs) (h7 : L7.map Prod.fst = ys) (hz : zs = xs ++ ys) : L.length = xs.length ∧ L.length + L7.length = zs.length := by
  subst h h7 hz
  simp
theorem OwnsX.add {α : Type} {T : TypeId} {n : Nat} {cf : α × Value → List Value} {ids : α → List Int} {w w2 : World} {base : Nat} {v v' u : Value} {x : α} {L : List (α × Value)} {xs : List α} (hL : L.map Prod.fst = xs) (hT : 3 ≠ T) (hr : ∀ p ∈ L, RowJ w base p.2 (ids p.1)) (hu : RowJ w base u (ids x)) (hO : w.ownsRow base T n v L.length (L.flatMap cf)) (hg : w.grownBy w2 v.ownBlock)
    (ho : w2.ownsRow base T n v' (L.length + 1) (L.flatMap cf ++ cf (x, u))) : OwnsX T n cf ids w2 base v' (xs ++ [x]) := by
  have := OwnsX.app (L2 := [(x, u)]) hT hr (by simpa using hu) hO hg (by simpa using ho)
  rw [hL] at this
  exact this
theorem OwnsLL.beside {w w' : World} {base : Nat} {v : Value} {ts : List (List Int)} {row : Option Nat} (h : OwnsLL w base v ts) (hg : w.grownBy w' row) (h1 : ∀ g, row = some g → ∀ cur fr, w.heap[g]? ≠ some (.cells cur 30 fr)) (h2 : ∀ g, row = some g → ∀ cur fr, w.heap[g]? ≠ some (.cells cur 3 fr)) : OwnsLL w' base v ts := by
  obtain ⟨L, hL, h3, h4⟩ := h
  exact ⟨L, hL, fun p hp => (h3 p hp).kept hg (fun g e => .inr (h2 g e)), kept_typed h4 hg h1⟩
theorem OwnsLL.at {w : World} {base n c : Nat} {a : Option Addr} {ts : List (List Int)} (h : OwnsLL w base (.slice a n c) ts) (h0 : 0 < ts.length) : ∃ g, a = some ⟨g, 0, none⟩ ∧ g < w.heap.size ∧ ∀ i (h : i < ts.length), ∃ s, w.cell? ⟨g, i, none⟩ = some s ∧ RowJ w base s ts[i] := by
  obtain ⟨a', cap, hv, hc⟩ := h.lies
  injection hv with h1 _ _
  subst h1
  exact hc h0
theorem OwnsLL.mono {w : World} {base base' : Nat} {v : Value} {ts : List (List Int)} (h : OwnsLL w base v ts) (hb : base' ≤ base) : OwnsLL w base' v ts := by
  obtain ⟨L, hL, h3, h4⟩ := h
  exact ⟨L, hL, fun p hp => (h3 p hp).mono hb, own_mono h4 hb⟩
structure PkW (wg wx : World) (N : Nat) (x : Grp) (sv : Value) (bs : List Bun) (ts : List Tra) (cs : List Con) (vb vt vc : Value) : Prop where
  b : Below wg.heap.size wg wx
  l : LodW wx wg.heap.size wg.heap.size bs ts cs vb vt vc
  n : wx.heap[N]? = some (.cells #[.int .i64 x.lvl, .string x.name, .int .i64 x.up, sv] 114 (0, 0))
section
variable {wg wx wy w2 : World} {N : Nat} {x : Grp} {sv : Value} {bs bs' : List Bun} {ts ts' : List Tra} {cs cs' : List Con} {vb vt vc vb' vt' vc' : Value}
theorem PkW.below (h : PkW wg wx N x sv bs ts cs vb vt vc) (hb : Below wx.heap.size wx wy) : PkW wg wy N x sv bs ts cs vb vt vc :=
  ⟨h.b.trans (hb.mono h.b.size), h.l.below hb, (hb.block N (Array.getElem?_eq_some_iff.1 h.n).1).trans h.n⟩
theorem PkW.ne (h : PkW wg wx N x sv bs ts cs vb vt vc) : N ≠ wg.heap.size := fun e => by
  have h1 := h.n
  rw [e, h.l.cell] at h1
  injection h1 with h1
  injection h1 with _ h1 _
  exact absurd h1 (by decide)
theorem set_other {w : World} {a g : Nat} {k : Nat} {u : Value} (h : g ≠ a) : (w.setCell ⟨a, k, none⟩ u).heap[g]? = w.heap[g]? := by
  simp [World.setCell, Array.getElem?_modify, Ne.symm h]
theorem PkW.addB (h : PkW wg wx N x sv bs ts cs vb vt vc) (hg : wx.grownBy w2 vb.ownBlock) (hb : OwnsX 53 4 bunCell (fun b => b.ids) w2 wg.heap.size vb' bs') : PkW wg (w2.setCell ⟨wg.heap.size, 0, none⟩ vb') N x sv bs' ts cs vb' vt vc ∧ w2.frozen? ⟨wg.heap.size, 0, none⟩ = false ∧ w2.cell? ⟨wg.heap.size, 0, none⟩ = some vb := by
  obtain ⟨h1, h2, h3⟩ := h.l.setB hg hb
  obtain ⟨L, _, _, hLo⟩ := h.l.b
  refine ⟨⟨(h.b.grown hg h.b.size (fun r e => (hLo.lt r e).1)).setCell (p := ⟨wg.heap.size, 0, none⟩) (Nat.le_refl _) _, h1, ?_⟩, h2, h3⟩
  exact (set_other h.ne).trans ((hg.block N (Array.getElem?_eq_some_iff.1 h.n).1 (fun e => h.l.b.not (T' := 114) (by decide) N e.symm _ _ h.n)).trans h.n)
theorem PkW.addT (h : PkW wg wx N x sv bs ts cs vb vt vc) (hg : wx.grownBy w2 vt.ownBlock) (hb : OwnsX 55 3 traCell (fun t => t.bs) w2 wg.heap.size vt' ts') : PkW wg (w2.setCell ⟨wg.heap.size, 1, none⟩ vt') N x sv bs ts' cs vb vt' vc ∧ w2.frozen? ⟨wg.heap.size, 1, none⟩ = false ∧ w2.cell? ⟨wg.heap.size, 1, none⟩ = some vt := by
  obtain ⟨h1, h2, h3⟩ := h.l.setT hg hb
  obtain ⟨L, _, _, hLo⟩ := h.l.t
  refine ⟨⟨(h.b.grown hg h.b.size (fun r e => (hLo.lt r e).1)).setCell (p := ⟨wg.heap.size, 1, none⟩) (Nat.le_refl _) _, h1, ?_⟩, h2, h3⟩
  exact (set_other h.ne).trans ((hg.block N (Array.getElem?_eq_some_iff.1 h.n).1 (fun e => h.l.t.not (T' := 114) (by decide) N e.symm _ _ h.n)).trans h.n)
theorem PkW.addC (h : PkW wg wx N x sv bs ts cs vb vt vc) (hg : wx.grownBy w2 vc.ownBlock) (hb : OwnsX 57 2 conCell (fun c => c.ts) w2 wg.heap.size vc' cs') : PkW wg (w2.setCell ⟨wg.heap.size, 2, none⟩ vc') N x sv bs ts cs' vb vt vc' ∧ w2.frozen? ⟨wg.heap.size, 2, none⟩ = false ∧ w2.cell? ⟨wg.heap.size, 2, none⟩ = some vc := by
  obtain ⟨h1, h2, h3⟩ := h.l.setC hg hb
  obtain ⟨L, _, _, hLo⟩ := h.l.c
  refine ⟨⟨(h.b.grown hg h.b.size (fun r e => (hLo.lt r e).1)).setCell (p := ⟨wg.heap.size, 2, none⟩) (Nat.le_refl _) _, h1, ?_⟩, h2, h3⟩
  exact (set_other h.ne).trans ((hg.block N (Array.getElem?_eq_some_iff.1 h.n).1 (fun e => h.l.c.not (T' := 114) (by decide) N e.symm _ _ h.n)).trans h.n)
theorem PkW.rowsT (h : PkW wg wx N x sv bs ts cs vb vt vc) (hg : wx.grownBy w2 vt.ownBlock) {base : Nat} {v : Value} {R : List (List Int)} (ho : OwnsLL wx base v R) (u : Value) : OwnsLL (w2.setCell ⟨wg.heap.size, 1, none⟩ u) base v R := by
  have h2 : w2.heap[wg.heap.size]? = some (.cells #[vb, vt, vc] 39 (0, 0)) := (hg.block _ h.l.lt (fun e => h.l.t.not (T' := 39) (by decide) _ e.symm _ _ h.l.cell)).trans h.l.cell
  exact (ho.beside hg (h.l.t.not (by decide)) (h.l.t.not (by decide))).beside (set_grown w2 ⟨wg.heap.size, 1, none⟩ u) (lod_set h2 (by decide)) (lod_set h2 (by decide))
theorem PkW.rowsC (h : PkW wg wx N x sv bs ts cs vb vt vc) (hg : wx.grownBy w2 vc.ownBlock) {base : Nat} {v : Value} {R : List (List Int)} (ho : OwnsLL wx base v R) (u : Value) : OwnsLL (w2.setCell ⟨wg.heap.size, 2, none⟩ u) base v R := by
  have h2 : w2.heap[wg.heap.size]? = some (.cells #[vb, vt, vc] 39 (0, 0)) := (hg.block _ h.l.lt (fun e => h.l.c.not (T' := 39) (by decide) _ e.symm _ _ h.l.cell)).trans h.l.cell
  exact (ho.beside hg (h.l.c.not (by decide)) (h.l.c.not (by decide))).beside (set_grown w2 ⟨wg.heap.size, 2, none⟩ u) (lod_set h2 (by decide)) (lod_set h2 (by decide))
end
theorem own_lod3 {α : Type} {T : TypeId} {n : Nat} {cf : α × Value → List Value} {ids : α → List Int} {w : World} {base g : Nat} {v : Value} {xs : List α} {a b c a' b' c' : Value} (h : OwnsX T n cf ids w base v xs) (hT : T ≠ 39) (hg : w.heap[g]? = some (.cells #[a, b, c] 39 (0, 0))) :
    OwnsX T n cf ids (((w.setCell ⟨g, 0, none⟩ a').setCell ⟨g, 1, none⟩ b').setCell ⟨g, 2, none⟩ c') base v xs :=
  ((h.beside (set_grown w ⟨g, 0, none⟩ a') (lod_set hg hT) (lod_set hg (by decide))).beside (set_grown _ ⟨g, 1, none⟩ b') (lod_set (set3 hg).1 hT) (lod_set (set3 hg).1 (by decide))).beside (set_grown _ ⟨g, 2, none⟩ c') (lod_set (set3 (set3 hg).1).2.1 hT) (lod_set (set3 (set3 hg).1).2.1 (by decide))
end Go.Proofs.YtojedplbhialpaaGreatDoor

/-! TL -/
namespace Go.Proofs.YtojedplbhialpaaGreatDoor
open Go.RowKit Go.Sort
set_option linter.unusedVariables false
set_option maxRecDepth 100000
section
variable {α : Type} {n : Nat} {cf : α × Value → List Value} {ids : α → List Int} {w w' : World} {v : Value} {xs : List α}
theorem OwnsX.rd {T : TypeId} {base : Nat} (hf : ∀ p, (cf p).length = n) (h : OwnsX T n cf ids w base v xs) : RdX n cf ids w v xs := by
  obtain ⟨L, rfl, h1, h2⟩ := h
  rcases Joins.ownsRow_forms h2 with ⟨rfl, hp⟩ | ⟨g, cap, rfl⟩
  · exact ⟨none, 0, by rw [List.length_map, hp], fun h0 => by rw [List.length_map, hp] at h0; omega⟩
  · refine ⟨_, cap, by rw [List.length_map], fun h0 => ⟨g, 0, rfl, (h2.lt g rfl).2, fun i hi => ?_⟩⟩
    rw [List.length_map] at hi
    have hm : (L.map Prod.fst)[i]'(by rw [List.length_map]; exact hi) = L[i].1 := List.getElem_map _
    rw [hm]
    refine ⟨L[i].2, (h1 _ (List.getElem_mem hi)).rd, fun j u hj => ?_⟩
    have hjn : j < n := by
      rw [← hf (L[i].1, L[i].2)]
      exact (List.getElem?_eq_some_iff.1 hj).1
    have hlt : i * n + j < L.length * n := by
      have : (i + 1) * n ≤ L.length * n := Nat.mul_le_mul_right _ hi
      rw [Nat.add_mul] at this
      omega
    rw [Nat.zero_add, h2.cellAt _ hlt, flat_at hf L i j hi hjn]
    exact hj
end
end Go.Proofs.YtojedplbhialpaaGreatDoor

/-! TM -/
namespace Go.Proofs.YtojedplbhialpaaGreatDoor
open Go.RowKit Go.Sort
set_option linter.unusedVariables false
set_option maxRecDepth 100000
structure RdLod (w : World) (vb vt vc : Value) (l : Lod) : Prop where
  b : RdX 4 bunCell (fun b : Bun => b.ids) w vb l.buns
  t : RdX 3 traCell (fun t : Tra => t.bs) w vt l.tras
  c : RdX 2 conCell (fun c : Con => c.ts) w vc l.cons
theorem RdLod.below {w w' : World} {vb vt vc : Value} {l : Lod} (h : RdLod w vb vt vc l) (hb : Below w.heap.size w w') : RdLod w' vb vt vc l := ⟨h.b.below hb, h.t.below hb, h.c.below hb⟩
structure SmallL (l : Lod) : Prop where
  b : l.buns.length ≤ 100000
  t : l.tras.length ≤ 100000
  c : l.cons.length ≤ 100000
  bi : (l.buns.flatMap (fun b => b.ids)).length ≤ 100000
  ti : (l.tras.flatMap (fun t => t.bs)).length ≤ 100000
  ci : (l.cons.flatMap (fun c => c.ts)).length ≤ 100000
theorem part_le {α : Type} {f : α → List Int} {L : List α} {n : Nat} (h : (L.flatMap f).length ≤ n) : ∀ x ∈ L, (f x).length ≤ n := fun x hx => by
  obtain ⟨A, B, rfl⟩ := List.append_of_mem hx
  rw [List.flatMap_append, List.flatMap_cons, List.length_append, List.length_append] at h
  omega
end Go.Proofs.YtojedplbhialpaaGreatDoor

/-! TR -/
namespace Go.Proofs.YtojedplbhialpaaGreatDoor
open Go.RowKit Go.Sort
set_option linter.unusedVariables false
set_option maxRecDepth 100000
theorem buns_at {k : Pck} {ps : List Pce} {zs : List Int} {ns : List ByteArray} {bs : List Bun} (h : BunsOk k ps zs ns bs) {q p : Nat} (hq : q < bs.length) (hp : p < bs[q].ids.length) :
    ∃ j : Nat, j < ps.length ∧ (pcAt ps (j : Int)).id = bs[q].ids[p] ∧ bs[q].ids[p] ∉ (bs.take q).flatMap (fun b => b.ids) ++ bs[q].ids.take p ∧ zs.getD j (-1) = bs[q].lvl ∧ ns.getD j noB = bs[q].grp := by
  obtain ⟨I, h1, h2, _⟩ := h.good _ (List.getElem_mem hq)
  have hpI : p < I.length := by
    have := congrArg List.length h2
    rw [List.length_map] at this
    omega
  obtain ⟨a1, a2, a3, a4⟩ := h1 _ (List.getElem_mem hpI)
  have he : bs[q].ids[p] = (pcAt ps I[p]).id := by
    have h3 : bs[q].ids[p]? = (I.map (fun i => (pcAt ps i).id))[p]? := by rw [← h2]
    rw [List.getElem?_eq_getElem hp, List.getElem?_map, List.getElem?_eq_getElem hpI] at h3
    exact Option.some.inj h3
  refine ⟨(I[p]).toNat, a2, by rw [Int.toNat_of_nonneg a1, he], ?_, a3, a4⟩
  intro hc
  have hN := h.once
  have hfs := flat_split (ls := bs.map (fun b => b.ids)) (q := q) (p := p) (by rw [List.length_map]; exact hq) (by rw [List.getElem_map]; exact hp)
  rw [flat_bs] at hfs
  have hmt : ((bs.map (fun b => b.ids)).take q).flatten = (bs.take q).flatMap (fun b => b.ids) := by rw [← List.map_take, flat_bs]
  simp only [List.getElem_map, hmt] at hfs
  rw [hfs, ← List.append_assoc, List.nodup_append] at hN
  exact hN.2.2 _ hc _ List.mem_cons_self rfl
theorem buns_sum {k : Pck} {ps : List Pce} {zs : List Int} {ns : List ByteArray} (hu : IdsUp ps) {b : Bun} (h : BunGood k ps zs ns b) {I : List Int} (hI : ∀ i ∈ I, 0 ≤ i ∧ i.toNat < ps.length) (he : b.ids = I.map (fun i => (pcAt ps i).id)) : gramsOf ps I = b.grams ∧ b.grams ≤ k.grams := by
  obtain ⟨I', h1, h2, h3, _, _, h6⟩ := h
  have : I = I' := by
    have hl : I.length = I'.length := by
      have e1 := congrArg List.length he
      have e2 := congrArg List.length h2
      rw [List.length_map] at e1 e2
      omega
    refine List.ext_getElem hl (fun i hi hi' => ?_)
    have e1 : (I.map (fun i => (pcAt ps i).id))[i]? = (I'.map (fun i => (pcAt ps i).id))[i]? := by rw [← he, ← h2]
    rw [List.getElem?_map, List.getElem?_map, List.getElem?_eq_getElem hi, List.getElem?_eq_getElem hi'] at e1
    have e2 := Option.some.inj e1
    exact ids_inj hu (hI _ (List.getElem_mem hi)) ⟨(h1 _ (List.getElem_mem hi')).1, (h1 _ (List.getElem_mem hi')).2.1⟩ e2
  subst this
  exact ⟨h3, h6⟩
theorem grams_max {ps : List Pce} {M : Int} (h : ∀ p ∈ ps, 0 ≤ p.grams ∧ p.grams ≤ M) : ∀ I : List Int, (∀ i ∈ I, 0 ≤ i ∧ i.toNat < ps.length) → 0 ≤ gramsOf ps I ∧ gramsOf ps I ≤ M * I.length
  | [], _ => by unfold gramsOf; simp
  | i :: r, hI => by
    have ih := grams_max h r (fun j hj => hI j (List.mem_cons_of_mem _ hj))
    have hi := h _ (pcAt_mem (hI i List.mem_cons_self)).2
    have e : gramsOf ps (i :: r) = (pcAt ps i).grams + gramsOf ps r := by unfold gramsOf; simp
    rw [e, List.length_cons]
    have : M * ((r.length + 1 : Nat) : Int) = M * r.length + M := by
      rw [Int.natCast_add, Int.mul_add]; simp
    omega
theorem OwnsII.pos {w : World} {B n c : Nat} {f : Int → Option Int} (h : OwnsII w B n f c) {x y : Int} (hx : f x = some y) : 1 ≤ c := by
  obtain ⟨D, hD, hc, hf⟩ := h
  have := Maps.size_del (hD.tidy keyed_int) (k := Lit.int .i64 x)
  rw [((hf x).2 y hx).1, if_pos rfl, hc] at this
  omega
theorem OwnsII.ne {w : World} {B n c : Nat} {f : Int → Option Int} (h : OwnsII w B n f c) {N : Nat} {cs : Array Value} {t : TypeId} {fr : Nat × Nat} (hN : w.heap[N]? = some (.cells cs t fr)) : N ≠ B := fun e => by
  obtain ⟨D, ⟨es, cl, hb, _⟩, _⟩ := h
  rw [e, hb] at hN
  injection hN with hN
  cases hN
theorem run_makeMapH (n : Int) (w : World) : (Instr.makeMap 231 (some (.int .i64 n))).run Tryz.prog w = .ok (.map (some w.heap.size)) (w.alloc (.map #[] 0)) := by
  simp only [Instr.makeMap, Sem.run_bind, run_underlying Tryz.underlying231, Result.andThen]
  rfl
set_option maxHeartbeats 32000000 in
theorem bundlesRight_any (k : Pck) (l : Lod) (m : Mai) (zs : List Int) (ns : List ByteArray) (vp vz vn vb vt vc : Value) (w : World) (hrp : RdPces w vp m.ps) (hz : RdInts w vz zs) (hn : ReadsT w vn ns) (hr : RdLod w vb vt vc l) (hs : SmallL l)
    (hu : IdsUp m.ps) (hpl : m.ps.length ≤ 2000) (hzl : zs.length = m.ps.length) (hnl : ns.length = m.ps.length) (hg : ∀ p ∈ m.ps, 0 ≤ p.grams ∧ p.grams ≤ 50000 ∧ 0 ≤ p.id ∧ p.id ≤ 999999) (hid : ∀ b ∈ l.buns, ∀ i ∈ b.ids, 0 ≤ i ∧ i ≤ 999999) :
    Calls Tryz.prog 105 #[maiV m vp, vz, vn, pckV k, lodV vb vt vc] w fun e w' => ∃ v, e = .returned v ∧ Below w.heap.size w w' ∧ IsB v (BunsOk k m.ps zs ns l.buns) := by
  obtain ⟨ab, cb, hvb, hcb⟩ := hr.b
  obtain ⟨at', ct, hvt, _⟩ := hr.t
  obtain ⟨ac, cc, hvc, _⟩ := hr.c
  subst hvb hvt hvc
  obtain ⟨av, cv, rfl, hpc⟩ := hrp
  obtain ⟨az, cz, rfl, hzc⟩ := hz
  obtain ⟨an, cn, rfl, hnc⟩ := hn
  have hnb := hs.b
  have hbi := hs.bi
  have hpl2 := fun x hx => part_le (f := fun t : Bun => t.ids) hs.bi x hx
  unfold lodV pckV maiV
  have HSU := Lib.hid (fun b (h : BunGood k m.ps zs ns b) I hI he => buns_sum hu h (I := I) hI he)
  have HAT := Lib.hid (fun (h : BunsOk k m.ps zs ns l.buns) q p hq hp => buns_at h (q := q) (p := p) hq hp)
  have HGD := Lib.hid (fun (h : BunsOk k m.ps zs ns l.buns) => h.good)
  have HALL := Lib.hid (fun (h : BunsOk k m.ps zs ns l.buns) => h.all)
  have HMK := Lib.hid (fun h1 h2 h3 => (⟨h1, h2, h3⟩ : BunsOk k m.ps zs ns l.buns))
  obtain ⟨OK, hOK⟩ : ∃ P, P = BunsOk k m.ps zs ns l.buns := ⟨_, rfl⟩
  rw [← hOK] at HAT HGD HALL HMK ⊢
  have hGOOD : ∀ b, BunGood k m.ps zs ns b ↔ ∃ I : List Int, (∀ i ∈ I, 0 ≤ i ∧ i.toNat < m.ps.length ∧ zs.getD i.toNat (-1) = b.lvl ∧ ns.getD i.toNat noB = b.grp) ∧ b.ids = I.map (fun i => (pcAt m.ps i).id) ∧ gramsOf m.ps I = b.grams ∧ 1 ≤ I.length ∧ (I.length : Int) ≤ k.pieces ∧ b.grams ≤ k.grams := fun b => Iff.rfl
  obtain ⟨GD, hGD⟩ : ∃ f : Bun → Prop, f = BunGood k m.ps zs ns := ⟨_, rfl⟩
  rw [← hGD] at HSU HGD HMK
  have HGI := Lib.hid (fun b => by rw [hGD]; exact hGOOD b : ∀ b, GD b ↔ ∃ I : List Int, (∀ i ∈ I, 0 ≤ i ∧ i.toNat < m.ps.length ∧ zs.getD i.toNat (-1) = b.lvl ∧ ns.getD i.toNat noB = b.grp) ∧ b.ids = I.map (fun i => (pcAt m.ps i).id) ∧ gramsOf m.ps I = b.grams ∧ 1 ≤ I.length ∧ (I.length : Int) ≤ k.pieces ∧ b.grams ≤ k.grams)
  obtain ⟨kp, kg, kb, kt⟩ := k
  obtain ⟨bs, ts, cs⟩ := l
  obtain ⟨cls, ctr, org, ps⟩ := m
  dsimp only at *
  obtain ⟨w3, hw3⟩ : ∃ w3, w3 = ((w.alloc (.cells #[.int .u8 cls, .int .u8 ctr, .string org, .slice av ps.length cv] 29)).alloc (.cells #[.int .i64 kp, .int .i64 kg, .int .i64 kb, .int .i64 kt] 32)).alloc (.cells #[.slice ab bs.length cb, .slice at' ts.length ct, .slice ac cs.length cc] 39) := ⟨_, rfl⟩
  obtain ⟨g1, g2, g3⟩ := boxes3 hw3
  have hz3 : w3.heap.size = w.heap.size + 1 + 1 + 1 := by rw [hw3, World.size_alloc, World.size_alloc, World.size_alloc]
  have hb3 : Below w.heap.size w w3 := by
    rw [hw3]
    exact (((Below.refl _ w).alloc (Nat.le_refl _) _).alloc (by simp) _).alloc (by simp; omega) _
  have HBX := Lib.hid (fun (W : World) (hB : Below w3.heap.size w3 W) => And.intro (cells4 ((hB.block _ (by omega)).trans g1)) (And.intro (cells4 ((hB.block _ (by omega)).trans g2)) (cells3 ((hB.block _ (by omega)).trans g3))))
  have HW3 := Lib.hid hw3
  have HB3 := Lib.hid hb3
  have HPC := Lib.hid hpc
  have HZC := Lib.hid hzc
  have HNC := Lib.hid hnc
  have HCB := Lib.hid hcb
  have HG := Lib.hid hg
  have HID := Lib.hid hid
  have HPL2 := Lib.hid hpl2
  have HU := Lib.hid hu
  have HZL := Lib.hid hzl
  have HNL := Lib.hid hnl
  have HGM := Lib.hid (fun I hI => grams_max (M := 50000) (fun p hp => ⟨(hg p hp).1, (hg p hp).2.1⟩) I hI)
  clear hw3 hb3 hz3 g1 g2 g3 hpc hzc hnc hcb hg hid hpl2 hr hs hu hGOOD hGD hOK hzl hnl
  obtain ⟨⟨x0, x1, x2, x3⟩, ⟨y0, y1, y2, y3⟩, u0, u1, u2⟩ := HBX.out w3 (Below.refl _ _)
  have hmm := run_makeMapH
  go_enter Tryz.func105, Tryz.ntmps105
  go_upto_region 1 with fail
  rw [← HW3.out]
  obtain ⟨w4, hw4⟩ : ∃ w4, w4 = w3.alloc (.map #[] 0) := ⟨_, rfl⟩
  have hb4 : Below w3.heap.size w3 w4 := by rw [hw4]; exact (Below.refl _ _).alloc (Nat.le_refl _) _
  have hI4 : OwnsII w4 w3.heap.size 0 (idxP ps 0 []) 0 := by
    have h := OwnsII.made w3
    rw [← hw4] at h
    have e : (fun _ => none : Int → Option Int) = idxP ps 0 [] := funext (fun u => (idxP_none (fun j hj _ => absurd hj (Nat.not_lt_zero _))).symm)
    rw [e] at h
    exact h
  obtain ⟨⟨p0, p1, p2, p3⟩, ⟨q0, q1, q2, q3⟩, r0, r1, r2⟩ := HBX.out w4 hb4
  have HW4 := Lib.hid hw4
  have HB4 := Lib.hid hb4
  have HI4 := Lib.hid hI4
  clear hw4 hb4 hI4
  go_upto_region 2 with fail
  rw [← HW4.out]
  clear hmm x0 x1 x2 x3 y0 y1 y2 y3 u0 u1 u2
  go_wp2_with fail
  go_loopw [28] (fun i wx => ∃ j : Nat, j ≤ ps.length ∧ i = .int .i64 j ∧ Below w3.heap.size w3 wx ∧ OwnsII wx w3.heap.size j (idxP ps j []) j) (fun i _ => ps.length - (intOf i).toNat)
  case atStart => exact ⟨0, Nat.zero_le _, rfl, HB4.out, HI4.out⟩
  case round =>
    clear p0 p1 p2 p3 q0 q1 q2 q3 r0 r1 r2
    obtain ⟨j, hj, rfl, hB, hI⟩ := hrel
    have HB := Lib.hid hB
    by_cases hlt : j < ps.length
    · obtain ⟨g, off, rfl, hg, hat⟩ := HPC.out (by omega)
      have hp := ((hat j hlt).below HB3.out hg).below hB (Nat.lt_of_lt_of_le hg HB3.out.size)
      have hgj := HG.out _ (List.getElem_mem hlt)
      have hpe : pcAt ps (j : Int) = ps[j] := (pcAt_mem ⟨by omega, by rw [Int.toNat_natCast]; exact hlt⟩).1
      have hsucc := idxP_succ HU.out hlt
      have hnone : idxP ps j [] ps[j].id = none := idxP_none (fun i hi he => by
        have := HU.out i j hi hlt
        rw [hpe] at this
        omega)
      rw [hpe] at hsucc
      obtain ⟨p, hpp⟩ : ∃ p, p = ps[j] := ⟨_, rfl⟩
      rw [← hpp] at hp hgj hsucc hnone
      obtain ⟨id, pt, cd, gr, br⟩ := p
      obtain ⟨p0, p1, p2, p3, p4⟩ := hp
      dsimp only at p0 p1 p2 p3 p4 hgj hsucc hnone
      have HI := Lib.hid (hI.below ((Below.refl wr.heap.size wr).alloc (Nat.le_refl _) (.cells #[.int .i64 id, .int .i64 pt, .string cd, .int .i64 gr, .bool br] 90)))
      have HSU2 := Lib.hid hsucc
      have HNN := Lib.hid hnone
      clear hpe hpp hat hB hI hsucc hnone
      go_wp2_with (refine wpList_update_II _ rfl _ _ _ _ rfl Tryz.underlying231 w3.heap.size j j (idxP ps j []) rfl HI.out (by unfold maxLen; omega) id (j : Int) (WalkArith.wf_i64 (by omega)) (WalkArith.wf_i64 (by omega)) HNN.out rfl rfl ?_; intro w5 hown5 hg5)
      go_roundw
      case rel =>
        refine ⟨j + 1, by omega, by go_num, (HB.out.alloc HB.out.size _).grown hg5 (by have := HB.out.size; simp; omega) (fun r e => by rw [← Option.some.inj e]; exact Nat.le_refl _), ?_⟩
        rw [← HSU2.out]
        exact hown5
      case measure => simp [intOf]; omega
    · obtain rfl : j = ps.length := by omega
      obtain ⟨_, ⟨q0, q1, q2, q3⟩, r0, r1, r2⟩ := HBX.out wr hB
      have HI := Lib.hid hI
      clear hB hI hj hlt
      go_wp2_with fail
      go_loopw [41] (fun i wx => ∃ (q c : Nat), q ≤ bs.length ∧ i = .int .i64 q ∧ Below w3.heap.size w3 wx ∧ OwnsII wx w3.heap.size ps.length (idxP ps ps.length ((bs.take q).flatMap (fun b => b.ids))) c ∧ c + ((bs.take q).flatMap (fun b => b.ids)).length = ps.length ∧ (∀ b ∈ bs.take q, GD b) ∧ ((bs.take q).flatMap (fun b => b.ids)).Nodup) (fun i _ => bs.length - (intOf i).toNat)
      case atStart => exact ⟨0, ps.length, Nat.zero_le _, rfl, HB.out, HI.out, by simp, by simp, by simp⟩
      case round =>
        clear q0 q1 q2 q3 r0 r1 r2
        obtain ⟨wo, hwo⟩ : ∃ x, x = wr := ⟨_, rfl⟩
        subst hwo
        obtain ⟨q, c, hq, rfl, hB, hI, hc, hgd, hnd⟩ := hrel
        have HB2 := Lib.hid hB
        have HGDS := Lib.hid hgd
        have HND := Lib.hid hnd
        have HC := Lib.hid hc
        clear hgd hnd hc
        by_cases hlt : q < bs.length
        · obtain ⟨g, off, rfl, hg, hcc⟩ := HCB.out (by omega)
          obtain ⟨s, hs, hcell⟩ := hcc q hlt
          have hbw : Below w.heap.size w wo := HB3.out.trans (hB.mono HB3.out.size)
          have hmb := List.getElem_mem hlt
          have htk : bs.take (q + 1) = bs.take q ++ [bs[q]] := List.take_succ_eq_append_getElem hlt
          have hpre : (bs.take (q + 1)).flatMap (fun b => b.ids) = (bs.take q).flatMap (fun b => b.ids) ++ bs[q].ids := by rw [htk, List.flatMap_append]; simp
          have hlen := HPL2.out _ hmb
          have hid2 := HID.out _ hmb
          have hat := fun (h : OK) p hp => HAT.out h q p hlt hp
          have hgdq := fun (h : OK) => HGD.out h _ hmb
          obtain ⟨b, hb⟩ : ∃ b, b = bs[q] := ⟨_, rfl⟩
          rw [← hb] at hs hcell htk hpre hlen hid2 hat hgdq
          have f0 : wo.cell? ⟨g, off + q * 4, none⟩ = some (.int .i64 b.lvl) := (hbw.cell (p := ⟨g, off + q * 4, none⟩) hg).trans (hcell 0 _ rfl)
          have f1 : wo.cell? ⟨g, off + q * 4 + 1, none⟩ = some (.string b.grp) := (hbw.cell (p := ⟨g, off + q * 4 + 1, none⟩) hg).trans (hcell 1 _ rfl)
          have f2 : wo.cell? ⟨g, off + q * 4 + 2, none⟩ = some s := (hbw.cell (p := ⟨g, off + q * 4 + 2, none⟩) hg).trans (hcell 2 _ rfl)
          have f3 : wo.cell? ⟨g, off + q * 4 + 3, none⟩ = some (.int .i64 b.grams) := (hbw.cell (p := ⟨g, off + q * 4 + 3, none⟩) hg).trans (hcell 3 _ rfl)
          obtain ⟨as1, cs', rfl, hsc⟩ := hs
          obtain ⟨pre, hpr⟩ : ∃ l, l = (bs.take q).flatMap (fun b => b.ids) := ⟨_, rfl⟩
          rw [← hpr] at hI hpre hat
          have HND' : Hid pre.Nodup := by rw [hpr]; exact HND
          have HC' : Hid (c + pre.length = ps.length) := by rw [hpr]; exact HC
          obtain ⟨Wt, hWt⟩ : ∃ W, W = wo.alloc (.cells #[.int .i64 b.lvl, .string b.grp, .slice as1 b.ids.length cs', .int .i64 b.grams] 53) := ⟨_, rfl⟩
          have hn := alloc_new wo (.cells #[.int .i64 b.lvl, .string b.grp, .slice as1 b.ids.length cs', .int .i64 b.grams] 53)
          have hbt : Below wo.heap.size wo Wt := by rw [hWt]; exact (Below.refl _ _).alloc (Nat.le_refl _) _
          rw [← hWt] at hn
          have HWT := Lib.hid hWt
          have HN := Lib.hid hn
          have HTK := Lib.hid htk
          have HPRE := Lib.hid hpre
          have HID2 := Lib.hid hid2
          have HAT2 := Lib.hid hat
          have HGDQ := Lib.hid hgdq
          have HSC := Lib.hid hsc
          have HIT := Lib.hid (hI.below hbt)
          have HB3T := Lib.hid (hB.trans (hbt.mono hB.size))
          have HGB := HGI.out b
          have HGBH := Lib.hid HGB
          obtain ⟨n0, n1, n2, n3⟩ := cells4 hn
          obtain ⟨_, ⟨q0, q1, q2, q3⟩, _⟩ := HBX.out Wt (hB.trans (hbt.mono hB.size))
          clear hb hcell hcc hWt hn htk hpre hid2 hat hgdq hsc hbw hbt hmb hB hI hpr HGB HND HC
          go_upto_region 10 with fail
          rw [← HWT.out]
          by_cases l1 : b.ids.length < 1
          · have hr : ¬ OK := fun h => by
              obtain ⟨I, _, e, _, e1, _⟩ := HGBH.out.1 (HGDQ.out h)
              have := congrArg List.length e
              rw [List.length_map] at this
              omega
            have HR := Lib.hid hr
            clear hr
            go_wp2_with fail
            go_ret
            exact ⟨_, rfl, HB3.out.trans (HB3T.out.mono HB3.out.size), IsB.no HR.out⟩
          · by_cases l2 : (b.ids.length : Int) > kp
            · have hr : ¬ OK := fun h => by
                obtain ⟨I, _, e, _, _, e1, _⟩ := HGBH.out.1 (HGDQ.out h)
                have := congrArg List.length e
                rw [List.length_map] at this
                omega
              have HR := Lib.hid hr
              clear hr
              go_wp2_with fail
              go_ret
              exact ⟨_, rfl, HB3.out.trans (HB3T.out.mono HB3.out.size), IsB.no HR.out⟩
            · go_wp2_with fail
              go_loopw [16, 60] (fun gr i wx => ∃ (p c' : Nat) (I : List Int), p ≤ b.ids.length ∧ i = .int .i64 p ∧ gr = .int .i64 (gramsOf ps I) ∧ I.length = p ∧ b.ids.take p = I.map (fun i => (pcAt ps i).id) ∧ (∀ i ∈ I, 0 ≤ i ∧ i.toNat < ps.length ∧ zs.getD i.toNat (-1) = b.lvl ∧ ns.getD i.toNat noB = b.grp) ∧ Below w3.heap.size w3 wx ∧ wx.heap[wo.heap.size]? = some (.cells #[.int .i64 b.lvl, .string b.grp, .slice as1 b.ids.length cs', .int .i64 b.grams] 53 (0, 0)) ∧ OwnsII wx w3.heap.size ps.length (idxP ps ps.length (pre ++ b.ids.take p)) c' ∧ c' + pre.length + p = ps.length ∧ (pre ++ b.ids.take p).Nodup) (fun _ i _ => b.ids.length - (intOf i).toNat)
              case atStart => exact ⟨0, c, [], Nat.zero_le _, rfl, rfl, rfl, by simp, by simp, HB3T.out, HN.out, by rw [List.take_zero, List.append_nil]; exact HIT.out, by have := HC'.out; omega, by rw [List.take_zero, List.append_nil]; exact HND'.out⟩
              case round =>
                clear n0 n1 n2 n3 f0 f1 f2 f3 q0 q1 q2 q3
                obtain ⟨wi, hwi⟩ : ∃ x, x = wr := ⟨_, rfl⟩
                subst hwi
                obtain ⟨p, c', I, hp, rfl, rfl, hIl, hIe, hIo, hB, hNb, hM, hcp, hnd⟩ := hrel
                have HBI := Lib.hid hB
                have HNB := Lib.hid hNb
                have HIL := Lib.hid hIl
                have HIE := Lib.hid hIe
                have HIO := Lib.hid hIo
                have HCP := Lib.hid hcp
                have HNDI := Lib.hid hnd
                have HM := Lib.hid hM
                have hgm := HGM.out I (fun i hi => ⟨(hIo i hi).1, (hIo i hi).2.1⟩)
                rw [hIl] at hgm
                obtain ⟨gr, hgr⟩ : ∃ x, x = gramsOf ps I := ⟨_, rfl⟩
                have HGR := Lib.hid hgr
                rw [← hgr] at hgm ⊢
                obtain ⟨n0, n1, n2, n3⟩ := cells4 hNb
                obtain ⟨⟨x0, x1, x2, x3⟩, ⟨y0, y1, y2, y3⟩, _⟩ := HBX.out wi hB
                clear hIl hIe hIo hcp hnd hNb hgr
                by_cases hlp : p < b.ids.length
                · obtain ⟨gs, os, rfl, hgs, hcs⟩ := HSC.out (by omega)
                  have hbw : Below w.heap.size w wi := HB3.out.trans (hB.mono HB3.out.size)
                  have e1 := (hbw.cell (p := ⟨gs, os + p, none⟩) hgs).trans (hcs p hlp)
                  have hidp := HID2.out _ (List.getElem_mem hlp)
                  have hat := fun h => HAT2.out h p hlp
                  have htk2 : b.ids.take (p + 1) = b.ids.take p ++ [b.ids[p]] := List.take_succ_eq_append_getElem hlp
                  obtain ⟨x, hx⟩ : ∃ x, x = b.ids[p] := ⟨_, rfl⟩
                  rw [← hx] at e1 hidp hat htk2
                  obtain ⟨P, hP⟩ : ∃ P, P = pre ++ b.ids.take p := ⟨_, rfl⟩
                  rw [← hP] at hat hM HM HNDI
                  have hpx : pre ++ b.ids.take (p + 1) = P ++ [x] := by rw [htk2, hP, List.append_assoc]
                  have HTK2 := Lib.hid htk2
                  have HPX := Lib.hid hpx
                  have HAT3 := Lib.hid hat
                  have HXI := Lib.hid hidp
                  have hpos := fun y => hM.pos (x := x) (y := y)
                  have HPOS := Lib.hid hpos
                  clear htk2 hpx hx hcs hP hpos
                  rcases idxP_cases HU.out (Nat.le_refl ps.length) P x with hno | ⟨j, hj, hje, hjp, hjs⟩
                  · have hr : ¬ OK := fun h => by
                      obtain ⟨j, a1, a2, a3, _⟩ := hat h
                      have := idxP_some HU.out (Nat.le_refl _) a1 (pre := P) (by rw [a2]; exact a3)
                      rw [a2, hno] at this
                      cases this
                    have HR := Lib.hid hr
                    have HNO := Lib.hid hno
                    clear hr hno hat hB hM
                    go_wp2_with (refine wpList_look_II _ rfl _ _ _ rfl Tryz.underlying231 w3.heap.size ps.length c' (idxP ps ps.length P) rfl HM.out x (WalkArith.wf_i64 (by omega)) rfl none HNO.out ?_)
                    go_quiet (fail)
                    go_wp2_with fail
                    go_ret
                    exact ⟨_, rfl, by first | exact below_drewN (HB3.out.trans (HBI.out.mono HB3.out.size)) _ | exact (HB3.out.trans (HBI.out.mono HB3.out.size)).drew, IsB.no HR.out⟩
                  · have hjz : j < zs.length := by rw [HZL.out]; exact hj
                    have hjn : j < ns.length := by rw [HNL.out]; exact hj
                    obtain ⟨gz, oz, rfl, hgz, hcz⟩ := HZC.out (by omega)
                    obtain ⟨gn, on', rfl, hgn, hcn⟩ := HNC.out (by omega)
                    obtain ⟨gp, op, rfl, hgp, hcp⟩ := HPC.out (by omega)
                    have e2 := (hbw.cell (p := ⟨gz, oz + j, none⟩) hgz).trans (hcz j hjz)
                    have e3 := (hbw.cell (p := ⟨gn, on' + j, none⟩) hgn).trans (hcn j hjn)
                    have hpe : pcAt ps (j : Int) = ps[j] := (pcAt_mem ⟨by omega, by rw [Int.toNat_natCast]; exact hj⟩).1
                    have hpg := HG.out _ (List.getElem_mem hj)
                    obtain ⟨_, _, _, e5, _⟩ := hcp j hj
                    have hzd : zs.getD j (-1) = zs[j] := by rw [List.getD_eq_getElem?_getD, List.getElem?_eq_getElem hjz]; rfl
                    have hnd : ns.getD j noB = ns[j] := by rw [List.getD_eq_getElem?_getD, List.getElem?_eq_getElem hjn]; rfl
                    have hsame : OK → zs.getD j (-1) = b.lvl ∧ ns.getD j noB = b.grp := fun h => by
                      obtain ⟨j', a1, a2, a3, a4⟩ := hat h
                      have h1 := idxP_some HU.out (Nat.le_refl _) a1 (pre := P) (by rw [a2]; exact a3)
                      rw [a2, hjs] at h1
                      have h2 : (j : Int) = (j' : Int) := Option.some.inj h1
                      obtain rfl : j = j' := by omega
                      exact a4
                    obtain ⟨z, hze⟩ : ∃ z, z = zs[j] := ⟨_, rfl⟩
                    obtain ⟨nm, hnme⟩ : ∃ z, z = ns[j] := ⟨_, rfl⟩
                    obtain ⟨pc, hpce⟩ : ∃ z, z = ps[j] := ⟨_, rfl⟩
                    rw [hzd, hnd, ← hze, ← hnme] at hsame
                    rw [← hze] at e2 hzd
                    rw [← hnme] at e3 hnd
                    rw [← hpce] at hpe hpg e5
                    have HSAME := Lib.hid hsame
                    have HZD := Lib.hid hzd
                    have HNDD := Lib.hid hnd
                    have HPE := Lib.hid hpe
                    have HJS := Lib.hid hjs
                    have HJP := Lib.hid hjp
                    have HJE := Lib.hid hje
                    have hc1 := HPOS.out _ hjs
                    obtain ⟨c2, rfl⟩ : ∃ c2, c' = c2 + 1 := ⟨c' - 1, by omega⟩
                    have HPC5 := Lib.hid (fun (W : World) (hW : Below w3.heap.size w3 W) => ((HB3.out.trans (hW.mono HB3.out.size)).cell (p := ⟨gp, op + j * 5 + 3, none⟩) hgp).trans e5)
                    clear hcz hcn hcp hpe hzd hnd hsame hze hnme hpce hjs hjp hje hat hc1 hbw hM e5
                    by_cases q1 : z = b.lvl
                    · have hbq : (z != b.lvl) = false := by simp [q1]
                      by_cases q2 : nm = b.grp
                      · have hbs : (nm.toList == b.grp.toList) = true := by rw [ba_eq]; exact decide_eq_true q2
                        have Q := Lib.hid (And.intro q1 q2)
                        clear q1 q2 hB
                        go_wp2_with (refine wpList_look_II _ rfl _ _ _ rfl Tryz.underlying231 w3.heap.size ps.length (c2 + 1) (idxP ps ps.length P) rfl HM.out x (WalkArith.wf_i64 (by omega)) rfl (some (j : Int)) HJS.out ?_)
                        go_quiet (fail)
                        obtain ⟨wd, hwd⟩ : ∃ wd, wd = wi.drewN nq := ⟨_, rfl⟩
                        rw [← hwd]
                        have hbd : Below wi.heap.size wi wd := by rw [hwd]; exact below_drewN (Below.refl _ _) _
                        have HMD := Lib.hid (HM.out.below hbd)
                        have HBD := Lib.hid (HBI.out.trans (hbd.mono HBI.out.size))
                        have HNBD := Lib.hid ((hbd.block _ (Array.getElem?_eq_some_iff.1 HNB.out).1).trans HNB.out)
                        clear hwd hbd n0 n1 n2 n3 x0 x1 x2 x3 y0 y1 y2 y3 e1 e2 e3
                        go_wp2_with (refine wpList_drop_II _ rfl _ _ _ rfl Tryz.underlying231 w3.heap.size ps.length c2 (idxP ps ps.length P) rfl HMD.out x (j : Int) (WalkArith.wf_i64 (by omega)) HJS.out rfl ?_; intro w5 hown5 hg5; have hb5 := HBD.out.grown hg5 HBD.out.size (fun r e => by rw [← Option.some.inj e]; exact Nat.le_refl _); obtain ⟨⟨x0, x1, x2, x3⟩, _, _⟩ := HBX.out w5 hb5; have e5 := HPC5.out w5 hb5)
                        go_roundw
                        case rel =>
                          have hc := HCP.out
                          have hil := HIL.out
                          refine ⟨p + 1, c2, I ++ [(j : Int)], by omega, by go_num, ?_, by rw [List.length_append, hil]; rfl, ?_, ?_, hb5, ?_, ?_, by omega, ?_⟩
                          · rw [gramsOf_snoc, HPE.out, ← HGR.out]
                          · rw [HTK2.out, HIE.out, List.map_append, List.map_cons, List.map_nil, HJE.out]
                          · intro i hi
                            rcases List.mem_append.1 hi with hi | hi
                            · exact HIO.out i hi
                            · rw [List.mem_singleton.1 hi, Int.toNat_natCast]
                              exact ⟨by omega, hj, by rw [HZD.out]; exact Q.out.1, by rw [HNDD.out]; exact Q.out.2⟩
                          · exact (hg5.block _ (Array.getElem?_eq_some_iff.1 HNBD.out).1 (fun e => HMD.out.ne HNBD.out (Option.some.inj e))).trans HNBD.out
                          · rw [HPX.out, ← idxP_drop HU.out (Nat.le_refl _)]
                            exact hown5
                          · rw [HPX.out]
                            exact nodup_snoc HNDI.out HJP.out
                        case measure => simp [intOf]; omega
                      · have hbs : (nm.toList == b.grp.toList) = false := by rw [ba_eq]; exact decide_eq_false q2
                        have hr : ¬ OK := fun h => q2 (HSAME.out h).2
                        have HR := Lib.hid hr
                        clear hr q1 q2 hB
                        go_wp2_with (refine wpList_look_II _ rfl _ _ _ rfl Tryz.underlying231 w3.heap.size ps.length (c2 + 1) (idxP ps ps.length P) rfl HM.out x (WalkArith.wf_i64 (by omega)) rfl (some (j : Int)) HJS.out ?_)
                        go_quiet (fail)
                        go_wp2_with fail
                        go_ret
                        exact ⟨_, rfl, by first | exact below_drewN (HB3.out.trans (HBI.out.mono HB3.out.size)) _ | exact (HB3.out.trans (HBI.out.mono HB3.out.size)).drew, IsB.no HR.out⟩
                    · have hbq : (z != b.lvl) = true := by simp [q1]
                      have hr : ¬ OK := fun h => q1 (HSAME.out h).1
                      have HR := Lib.hid hr
                      clear hr q1 hB
                      go_wp2_with (refine wpList_look_II _ rfl _ _ _ rfl Tryz.underlying231 w3.heap.size ps.length (c2 + 1) (idxP ps ps.length P) rfl HM.out x (WalkArith.wf_i64 (by omega)) rfl (some (j : Int)) HJS.out ?_)
                      go_quiet (fail)
                      go_wp2_with fail
                      go_ret
                      exact ⟨_, rfl, by first | exact below_drewN (HB3.out.trans (HBI.out.mono HB3.out.size)) _ | exact (HB3.out.trans (HBI.out.mono HB3.out.size)).drew, IsB.no HR.out⟩
                · obtain rfl : p = b.ids.length := by omega
                  rw [List.take_length] at HIE HM HNDI
                  have hsum := fun (h : OK) => HSU.out b (HGDQ.out h) I (fun i hi => ⟨(HIO.out i hi).1, (HIO.out i hi).2.1⟩) HIE.out
                  rw [← HGR.out] at hsum
                  have HSUM := Lib.hid hsum
                  clear hsum hM hB
                  by_cases q1 : gr = b.grams
                  · have hbq : (gr != b.grams) = false := by simp [q1]
                    by_cases q2 : gr > kg
                    · have hr : ¬ OK := fun h => by have := HSUM.out h; omega
                      have HR := Lib.hid hr
                      clear hr q1
                      go_wp2_with fail
                      go_ret
                      exact ⟨_, rfl, HB3.out.trans (HBI.out.mono HB3.out.size), IsB.no HR.out⟩
                    · have hgood : GD b := HGBH.out.2 ⟨I, HIO.out, HIE.out, by rw [← HGR.out]; exact q1, by have := HIL.out; omega, by have := HIL.out; omega, by omega⟩
                      have HGOOD := Lib.hid hgood
                      clear hgood q1
                      go_wp2_with fail
                      go_roundw
                      case rel =>
                        refine ⟨q + 1, c', by omega, by go_num, HBI.out, by rw [HPRE.out]; exact HM.out, by rw [HPRE.out, List.length_append]; have := HCP.out; omega, ?_, by rw [HPRE.out]; exact HNDI.out⟩
                        rw [HTK.out]
                        intro y hy
                        rcases List.mem_append.1 hy with hy | hy
                        · exact HGDS.out y hy
                        · rw [List.mem_singleton.1 hy]; exact HGOOD.out
                      case measure => simp [intOf]; omega
                  · have hbq : (gr != b.grams) = true := by simp [q1]
                    have hr : ¬ OK := fun h => q1 (HSUM.out h).1
                    have HR := Lib.hid hr
                    clear hr q1
                    go_wp2_with fail
                    go_ret
                    exact ⟨_, rfl, HB3.out.trans (HBI.out.mono HB3.out.size), IsB.no HR.out⟩
        · obtain rfl : q = bs.length := by omega
          rw [List.take_length] at HC HGDS HND
          have hok : c = 0 ↔ OK := by
            constructor
            · intro e
              exact HMK.out HGDS.out HND.out (by have := HC.out; omega)
            · intro h
              have h1 := HALL.out h
              have h2 := HC.out
              omega
          have HOK := Lib.hid hok
          have HI2 := Lib.hid hI
          clear hI hB hok
          go_wp2_with (refine wpList_len_II _ rfl _ _ rfl Tryz.underlying231 w3.heap.size ps.length c _ rfl HI2.out ?_)
          go_ret
          refine ⟨_, rfl, HB3.out.trans (HB2.out.mono HB3.out.size), IsB.of ?_⟩
          rw [← HOK.out]
          simp
          try omega
end Go.Proofs.YtojedplbhialpaaGreatDoor

/-! TO -/
namespace Go.Proofs.YtojedplbhialpaaGreatDoor
open Go.RowKit Go.Sort
set_option linter.unusedVariables false
set_option maxRecDepth 100000
def OwnsRL (w wx : World) (base : Nat) (v : Value) (ts : List (List Int)) : Prop :=
  ∃ L : List (List Int × Value), L.map Prod.fst = ts ∧ (∀ p ∈ L, RdInts w p.2 p.1) ∧ wx.ownsRow base 30 1 v L.length (L.map Prod.snd)
theorem OwnsRL.rd {w wx : World} {base : Nat} {v : Value} {ts : List (List Int)} (h : OwnsRL w wx base v ts) (hb : Below w.heap.size w wx) : RdLL wx v ts := by
  obtain ⟨L, rfl, h1, h2⟩ := h
  rcases Joins.ownsRow_forms h2 with ⟨rfl, hp⟩ | ⟨g, cap, rfl⟩
  · exact ⟨none, 0, by rw [List.length_map, hp], fun h0 => by rw [List.length_map, hp] at h0; omega⟩
  · refine ⟨_, cap, by rw [List.length_map], fun h0 => ⟨g, 0, rfl, (h2.lt g rfl).2, fun i hi => ?_⟩⟩
    rw [List.length_map] at hi
    have hc := h2.cellAt i (by rw [Nat.mul_one]; exact hi)
    rw [List.getElem?_map, List.getElem?_eq_getElem hi] at hc
    refine ⟨_, by rw [Nat.zero_add]; exact hc, ?_⟩
    rw [List.getElem_map]
    exact (h1 _ (List.getElem_mem hi)).below hb
theorem OwnsRL.form {w wx : World} {base : Nat} {v : Value} {ts : List (List Int)} (h : OwnsRL w wx base v ts) : ∃ a cap, v = .slice a ts.length cap := by
  obtain ⟨L, rfl, _, h2⟩ := h
  rw [List.length_map]
  exact own_form h2
set_option maxHeartbeats 16000000 in
theorem traysRight_any (k : Pck) (l : Lod) (vb vt vc : Value) (w : World) (hr : RdLod w vb vt vc l) (hs : SmallL l) :
    Calls Tryz.prog 106 #[pckV k, lodV vb vt vc] w fun e w' => ∃ v, e = .returned v ∧ Below w.heap.size w w' ∧ IsB v (TrasOk k l) := by
  obtain ⟨i0, hi⟩ := info_parts Tryz.infoSlT
  have HI := Lib.hid hi
  obtain ⟨ab, cb, hvb, hcb⟩ := hr.b
  obtain ⟨at', ct, hvt, hct⟩ := hr.t
  obtain ⟨ac, cc, hvc, _⟩ := hr.c
  subst hvb hvt hvc
  have hnb := hs.b
  have hnt := hs.t
  have hti := hs.ti
  have hpl := fun x hx => part_le (f := fun t : Tra => t.bs) hs.ti x hx
  have HON := Lib.hid (fun W v (hb : RdLL W v (l.tras.map (fun t => t.bs))) => once_any (l.tras.map (fun t => t.bs)) l.buns.length k.bundles v W hb (by omega) (by rw [flat_bs]; omega) (by rw [List.length_map]; omega))
  have hOK := fun (h : OnceOk (l.tras.map (fun t => t.bs)) l.buns.length k.bundles) (h2 : ∀ t ∈ l.tras, ∀ i ∈ t.bs, ∃ b, l.buns[i.toNat]? = some b ∧ b.lvl = t.lvl ∧ b.grp = t.grp) => (⟨h, h2⟩ : TrasOk k l)
  have hNO := fun (h : TrasOk k l) => h
  unfold lodV pckV
  obtain ⟨kp, kg, kb, kt⟩ := k
  obtain ⟨bs, ts, cs⟩ := l
  dsimp only at *
  obtain ⟨w2, hw2⟩ : ∃ w2, w2 = (w.alloc (.cells #[.int .i64 kp, .int .i64 kg, .int .i64 kb, .int .i64 kt] 32)).alloc (.cells #[.slice ab bs.length cb, .slice at' ts.length ct, .slice ac cs.length cc] 39) := ⟨_, rfl⟩
  obtain ⟨g1, g2, z2, b2⟩ := boxes2 hw2
  obtain ⟨x0, x1, x2⟩ := cells3 g2
  have HW2 := Lib.hid hw2
  have HB2 := Lib.hid b2
  have HL := Lib.hid (fun (W : World) (hB : Below w2.heap.size w2 W) => And.intro (cells4 ((hB.block _ (by omega)).trans g1)) (cells3 ((hB.block _ (by omega)).trans g2)))
  have HCB := Lib.hid hcb
  have HCT := Lib.hid hct
  have HOK := Lib.hid hOK
  have HPL := Lib.hid hpl
  clear hw2 g1 g2 z2 b2 hcb hct hr hs hOK hNO hi hpl
  go_enter Tryz.func106, Tryz.ntmps106
  go_upto_region 1 with fail
  rw [← HW2.out]
  go_wp2_with (at_make; refine wpList_make_own _ rfl _ _ 116 rfl w2.heap.size 30 i0 (.slice none 0 0) 1 Tryz.underlying116 HI.out.1 HI.out.2.1 HI.out.2.2.1 _ _ _ ts.length rfl (by first | rfl | simp) rfl (by rw [HI.out.2.2.2]; omega) (by unfold maxLen; omega) (Nat.le_refl _) ?_; intro w3 hown hgrow; have hb3 : Below w2.heap.size w2 w3 := (Below.refl _ _).grown hgrow (Nat.le_refl _) (fun _ e => by cases e); have HB3 := Lib.hid hb3; have HO3 := Lib.hid hown; clear hgrow hown; obtain ⟨⟨u0, u1, u2, u3⟩, v0, v1, v2⟩ := HL.out w3 hb3)
  go_loopw [5, 19] (fun lv i wx => ∃ q : Nat, q ≤ ts.length ∧ i = .int .i64 q ∧ Below w2.heap.size w2 wx ∧ OwnsRL w wx w2.heap.size lv ((ts.take q).map (fun t => t.bs))) (fun _ i _ => ts.length - (intOf i).toNat)
  case atStart => exact ⟨0, Nat.zero_le _, rfl, HB3.out, ⟨[], by simp, by simp, HO3.out⟩⟩
  case round =>
    clear u0 u1 u2 u3 v0 v1 v2 hb3 x0 x1 x2
    obtain ⟨q, hq, rfl, hB, hO⟩ := hrel
    have HBB := Lib.hid hB
    by_cases hlt : q < ts.length
    · obtain ⟨g, off, rfl, hg, hcc⟩ := HCT.out (by omega)
      obtain ⟨s, hs, hcell⟩ := hcc q hlt
      have htk : (ts.take (q + 1)).map (fun t => t.bs) = (ts.take q).map (fun t => t.bs) ++ [ts[q].bs] := by rw [List.take_succ_eq_append_getElem hlt, List.map_append]; rfl
      obtain ⟨t, ht⟩ : ∃ t, t = ts[q] := ⟨_, rfl⟩
      rw [← ht] at hs hcell htk
      have hbw : Below w.heap.size w wr := HB2.out.trans (hB.mono HB2.out.size)
      have f0 : wr.cell? ⟨g, off + q * 3, none⟩ = some (.int .i64 t.lvl) := (hbw.cell (p := ⟨g, off + q * 3, none⟩) hg).trans (hcell 0 _ rfl)
      have f1 : wr.cell? ⟨g, off + q * 3 + 1, none⟩ = some (.string t.grp) := (hbw.cell (p := ⟨g, off + q * 3 + 1, none⟩) hg).trans (hcell 1 _ rfl)
      have f2 : wr.cell? ⟨g, off + q * 3 + 2, none⟩ = some s := (hbw.cell (p := ⟨g, off + q * 3 + 2, none⟩) hg).trans (hcell 2 _ rfl)
      have HS := Lib.hid hs
      obtain ⟨as1, cs', rfl, _⟩ := hs
      have HTK := Lib.hid htk
      obtain ⟨av, cv, hlv⟩ := hO.form
      have hle : ((ts.take q).map (fun t => t.bs)).length = q := by rw [List.length_map, List.length_take]; omega
      rw [hle] at hlv
      subst hlv
      obtain ⟨L, hL, hLr, hLo⟩ := hO
      have hLl : L.length = q := by rw [← hle, ← hL, List.length_map]
      subst hLl
      have HL0 := Lib.hid hL
      have HLR := Lib.hid hLr
      have hLo2 := (hLo.alloc (.cells #[.int .i64 t.lvl, .string t.grp, .slice as1 t.bs.length cs'] 55)).alloc (.cells #[.slice as1 t.bs.length cs'] 30)
      have HLO := Lib.hid hLo2
      have HLT := Lib.hid (fun r e => (hLo.lt r e).1)
      clear ht hcell hcc hbw htk hL hLr hLo hLo2 hle hB
      go_wp2_with (at_builtin; refine wpList_append_own _ rfl _ _ 116 rfl w2.heap.size 30 i0 (.slice none 0 0) 1 24 Tryz.underlying116 HI.out.1 HI.out.2.1 HI.out.2.2.1 HI.out.2.2.2 rfl (by decide) _ L.length _ rfl HLO.out ⟨wr.heap.size + 1, 0, none⟩ 1 1 [.slice as1 t.bs.length cs'] rfl (by simp) (by simpa using cell_one_new (wr.alloc (.cells #[.int .i64 t.lvl, .string t.grp, .slice as1 t.bs.length cs'] 55)) (.slice as1 t.bs.length cs') 30) (by simp [Value.oneCell']) (by unfold maxLen; omega) (by omega) (by have := HBB.out.size; simp; omega) ?_; intro v' w5 hown' hgrow _)
      go_roundw
      case rel =>
        refine ⟨L.length + 1, by omega, by go_num, ((HBB.out.alloc HBB.out.size _).alloc (by have := HBB.out.size; simp; omega) _).grown hgrow (by have := HBB.out.size; simp; omega) (fun r e => HLT.out r e), L ++ [(t.bs, .slice as1 t.bs.length cs')], ?_, ?_, ?_⟩
        · rw [HTK.out, List.map_append, HL0.out]; rfl
        · intro p hp
          rcases List.mem_append.1 hp with hp | hp
          · exact HLR.out p hp
          · rw [List.mem_singleton.1 hp]; exact HS.out
        · rw [List.length_append, List.map_append]
          exact hown'
      case measure => simp [intOf]; omega
    · obtain rfl : q = ts.length := by omega
      rw [List.take_length] at hO
      have hbw : Below w.heap.size w wr := HB2.out.trans (hB.mono HB2.out.size)
      have HR := Lib.hid (hO.rd hbw)
      obtain ⟨av, cv, hlv⟩ := hO.form
      rw [List.length_map] at hlv
      subst hlv
      have HBW := Lib.hid hbw
      obtain ⟨⟨u0, u1, u2, u3⟩, v0, v1, v2⟩ := HL.out wr hB
      clear hO hbw hB
      go_upto_region 7 with fail
      go_cut [36] from 29 to 36 (fun b wx => ∃ c : Bool, b = .bool (!c) ∧ (c = true ↔ OnceOk (ts.map (fun t => t.bs)) bs.length kb) ∧ Below wr.heap.size wr wx)
      case first =>
        go_wp2_with (go_at_call 176; refine (HON.out wr _ HR.out).mono ?_; rintro e w6 ⟨vv, rfl, hb6, r, rfl, hr⟩)
        go_meet
        exact ⟨r, rfl, hr, hb6⟩
      case rest =>
        clear u0 u1 u2 u3 v0 v1 v2
        obtain ⟨wp, hwp⟩ : ∃ x, x = wc := ⟨_, rfl⟩
        subst hwp
        obtain ⟨c, rfl, hc, hbc⟩ := hcut
        have HB6 := Lib.hid (HBB.out.trans (hbc.mono HBB.out.size))
        have HC := Lib.hid hc
        clear hbc hc
        cases c
        · have hr : ¬ TrasOk ⟨kp, kg, kb, kt⟩ ⟨bs, ts, cs⟩ := fun h => by have := HC.out.2 h.once; cases this
          have HRR := Lib.hid hr
          clear hr
          go_wp2_with fail
          go_ret
          exact ⟨_, rfl, HB2.out.trans (HB6.out.mono HB2.out.size), IsB.no HRR.out⟩
        · have hon := HC.out.1 rfl
          have hin := fun t (ht : t ∈ ts) i (hi : i ∈ t.bs) => hon.ins i (by rw [flat_bs]; exact List.mem_flatMap.2 ⟨t, ht, hi⟩)
          have HON2 := Lib.hid hon
          have HIN := Lib.hid hin
          obtain ⟨⟨u0, u1, u2, u3⟩, v0, v1, v2⟩ := HL.out wp HB6.out
          clear hon hin
          go_wp2_with fail
          go_loopw [40] (fun i wx => ∃ q : Nat, q ≤ ts.length ∧ i = .int .i64 q ∧ Below w2.heap.size w2 wx ∧ ∀ t ∈ ts.take q, ∀ i ∈ t.bs, ∃ b, bs[i.toNat]? = some b ∧ b.lvl = t.lvl ∧ b.grp = t.grp) (fun i _ => ts.length - (intOf i).toNat)
          case atStart => exact ⟨0, Nat.zero_le _, rfl, HB6.out, by simp⟩
          case round =>
            clear u0 u1 u2 u3 v0 v1 v2
            obtain ⟨wo, hwo⟩ : ∃ x, x = wr := ⟨_, rfl⟩
            subst hwo
            obtain ⟨q, hq, rfl, hB, hal⟩ := hrel
            have HB := Lib.hid hB
            have HAL := Lib.hid hal
            clear hal
            by_cases hlt : q < ts.length
            · obtain ⟨g, off, rfl, hg, hcc⟩ := HCT.out (by omega)
              obtain ⟨s, hs, hcell⟩ := hcc q hlt
              have hbw : Below w.heap.size w wo := HB2.out.trans (hB.mono HB2.out.size)
              have hmt := List.getElem_mem hlt
              have htk : ts.take (q + 1) = ts.take q ++ [ts[q]] := List.take_succ_eq_append_getElem hlt
              have hlen := HPL.out _ hmt
              have hin := HIN.out _ hmt
              have hno : TrasOk ⟨kp, kg, kb, kt⟩ ⟨bs, ts, cs⟩ → ∀ i ∈ ts[q].bs, ∃ b, bs[i.toNat]? = some b ∧ b.lvl = ts[q].lvl ∧ b.grp = ts[q].grp := fun h => h.grp _ hmt
              obtain ⟨t, ht⟩ : ∃ t, t = ts[q] := ⟨_, rfl⟩
              rw [← ht] at hs hcell htk hlen hin hno
              have f0 : wo.cell? ⟨g, off + q * 3, none⟩ = some (.int .i64 t.lvl) := (hbw.cell (p := ⟨g, off + q * 3, none⟩) hg).trans (hcell 0 _ rfl)
              have f1 : wo.cell? ⟨g, off + q * 3 + 1, none⟩ = some (.string t.grp) := (hbw.cell (p := ⟨g, off + q * 3 + 1, none⟩) hg).trans (hcell 1 _ rfl)
              have f2 : wo.cell? ⟨g, off + q * 3 + 2, none⟩ = some s := (hbw.cell (p := ⟨g, off + q * 3 + 2, none⟩) hg).trans (hcell 2 _ rfl)
              obtain ⟨as1, cs', rfl, hsc⟩ := hs
              obtain ⟨Wt, hWt⟩ : ∃ W, W = wo.alloc (.cells #[.int .i64 t.lvl, .string t.grp, .slice as1 t.bs.length cs'] 55) := ⟨_, rfl⟩
              have hn := alloc_new wo (.cells #[.int .i64 t.lvl, .string t.grp, .slice as1 t.bs.length cs'] 55)
              have hbt : Below wo.heap.size wo Wt := by rw [hWt]; exact (Below.refl _ _).alloc (Nat.le_refl _) _
              have hNl : wo.heap.size < Wt.heap.size := by rw [hWt, World.size_alloc]; exact Nat.lt_succ_self _
              rw [← hWt] at hn
              have HWT := Lib.hid hWt
              have HN := Lib.hid hn
              have HNL := Lib.hid hNl
              have HTK := Lib.hid htk
              have HIN2 := Lib.hid hin
              have HNO := Lib.hid hno
              have HSC := Lib.hid hsc
              have HBT := Lib.hid (HB.out.trans (hbt.mono HB.out.size))
              have HBWT := Lib.hid (hbw.trans (hbt.mono hbw.size))
              obtain ⟨n0, n1, n2⟩ := cells3 hn
              clear ht hcell hcc hWt hn hNl htk hin hno hsc hbw hbt hmt hB
              go_upto_region 12 with fail
              rw [← HWT.out]
              go_wp2_with fail
              go_loopw [47] (fun i wx => ∃ p : Nat, p ≤ t.bs.length ∧ i = .int .i64 p ∧ Below Wt.heap.size Wt wx ∧ ∀ i ∈ t.bs.take p, ∃ b, bs[i.toNat]? = some b ∧ b.lvl = t.lvl ∧ b.grp = t.grp) (fun i _ => t.bs.length - (intOf i).toNat)
              case atStart => exact ⟨0, Nat.zero_le _, rfl, Below.refl _ _, by simp⟩
              case round =>
                clear n0 n1 n2 f0 f1 f2
                obtain ⟨wi, hwi⟩ : ∃ x, x = wr := ⟨_, rfl⟩
                subst hwi
                obtain ⟨p, hp, rfl, hB, hal2⟩ := hrel
                have HB3 := Lib.hid hB
                have HAL2 := Lib.hid hal2
                clear hal2
                by_cases hlp : p < t.bs.length
                · obtain ⟨gs, os, rfl, hgs, hcs⟩ := HSC.out (by omega)
                  have hbw : Below w.heap.size w wi := HBWT.out.trans (hB.mono HBWT.out.size)
                  have e1 := (hbw.cell (p := ⟨gs, os + p, none⟩) hgs).trans (hcs p hlp)
                  obtain ⟨i0', i1'⟩ := HIN2.out _ (List.getElem_mem hlp)
                  have hno := fun h => HNO.out h _ (List.getElem_mem hlp)
                  have htk2 : t.bs.take (p + 1) = t.bs.take p ++ [t.bs[p]] := List.take_succ_eq_append_getElem hlp
                  obtain ⟨x, hx⟩ : ∃ x, x = t.bs[p] := ⟨_, rfl⟩
                  rw [← hx] at e1 i0' i1' hno htk2
                  obtain ⟨j, rfl⟩ : ∃ j : Nat, x = (j : Int) := ⟨x.toNat, by omega⟩
                  have hj : j < bs.length := by omega
                  rw [Int.toNat_natCast, List.getElem?_eq_getElem hj] at hno
                  obtain ⟨gb, ob, rfl, hgb, hcb⟩ := HCB.out (by omega)
                  obtain ⟨sb, _, hcell⟩ := hcb j hj
                  have hbj : bs[j]? = some bs[j] := List.getElem?_eq_getElem hj
                  obtain ⟨b, hbe⟩ : ∃ b, b = bs[j] := ⟨_, rfl⟩
                  rw [← hbe] at hcell hno hbj
                  have b0 : wi.cell? ⟨gb, ob + j * 4, none⟩ = some (.int .i64 b.lvl) := (hbw.cell (p := ⟨gb, ob + j * 4, none⟩) hgb).trans (hcell 0 _ rfl)
                  have b1 : wi.cell? ⟨gb, ob + j * 4 + 1, none⟩ = some (.string b.grp) := (hbw.cell (p := ⟨gb, ob + j * 4 + 1, none⟩) hgb).trans (hcell 1 _ rfl)
                  obtain ⟨⟨u0, u1, u2, u3⟩, v0, v1, v2⟩ := HL.out wi (HBT.out.trans (hB.mono HBT.out.size))
                  obtain ⟨n0, n1, n2⟩ := cells3 ((hB.block _ HNL.out).trans HN.out)
                  have HNO2 := Lib.hid hno
                  have HTK2 := Lib.hid htk2
                  have HBJ := Lib.hid hbj
                  clear hcell hcb hbe hno htk2 hbj hx hcs hbw hB i0' i1'
                  by_cases q1 : b.lvl = t.lvl
                  · have hbq : (b.lvl != t.lvl) = false := by simp [q1]
                    by_cases q2 : b.grp = t.grp
                    · have hbs : (b.grp.toList == t.grp.toList) = true := by rw [ba_eq]; exact decide_eq_true q2
                      have Q := Lib.hid (And.intro q1 q2)
                      clear q1 q2
                      go_wp2_with fail
                      go_quiet (fail)
                      go_wp2_with fail
                      go_roundw
                      case rel =>
                        refine ⟨p + 1, by omega, by go_num, (by first | exact below_drewN HB3.out _ | exact HB3.out.drew), ?_⟩
                        rw [HTK2.out]
                        intro y hy
                        rcases List.mem_append.1 hy with hy | hy
                        · exact HAL2.out y hy
                        · rw [List.mem_singleton.1 hy, Int.toNat_natCast]
                          exact ⟨b, HBJ.out, Q.out.1, Q.out.2⟩
                      case measure => simp [intOf]; omega
                    · have hbs : (b.grp.toList == t.grp.toList) = false := by rw [ba_eq]; exact decide_eq_false q2
                      have hr : ¬ TrasOk ⟨kp, kg, kb, kt⟩ ⟨bs, ts, cs⟩ := fun h => by
                        obtain ⟨b', h1, h2, h3⟩ := HNO2.out h
                        obtain rfl := Option.some.inj h1
                        exact q2 h3
                      have HRR := Lib.hid hr
                      clear hr q1 q2
                      go_wp2_with fail
                      go_quiet (fail)
                      go_wp2_with fail
                      go_ret
                      exact ⟨_, rfl, by first | exact below_drewN (HBWT.out.trans (HB3.out.mono HBWT.out.size)) _ | exact (HBWT.out.trans (HB3.out.mono HBWT.out.size)).drew, IsB.no HRR.out⟩
                  · have hbq : (b.lvl != t.lvl) = true := by simp [q1]
                    have hr : ¬ TrasOk ⟨kp, kg, kb, kt⟩ ⟨bs, ts, cs⟩ := fun h => by
                      obtain ⟨b', h1, h2, h3⟩ := HNO2.out h
                      obtain rfl := Option.some.inj h1
                      exact q1 h2
                    have HRR := Lib.hid hr
                    clear hr q1
                    go_wp2_with fail
                    go_quiet (fail)
                    go_wp2_with fail
                    go_ret
                    exact ⟨_, rfl, by first | exact below_drewN (HBWT.out.trans (HB3.out.mono HBWT.out.size)) _ | exact (HBWT.out.trans (HB3.out.mono HBWT.out.size)).drew, IsB.no HRR.out⟩
                · obtain rfl : p = t.bs.length := by omega
                  rw [List.take_length] at HAL2
                  clear hB
                  go_wp2_with fail
                  go_roundw
                  case rel =>
                    refine ⟨q + 1, by omega, by go_num, HBT.out.trans (HB3.out.mono HBT.out.size), ?_⟩
                    rw [HTK.out]
                    intro y hy
                    rcases List.mem_append.1 hy with hy | hy
                    · exact HAL.out y hy
                    · rw [List.mem_singleton.1 hy]
                      exact HAL2.out
                  case measure => simp [intOf]; omega
            · obtain rfl : q = ts.length := by omega
              have hal := HAL.out
              rw [List.take_length] at hal
              have HRR := Lib.hid (HOK.out HON2.out hal)
              clear hal hB
              go_wp2_with fail
              go_ret
              exact ⟨_, rfl, HB2.out.trans (HB.out.mono HB2.out.size), IsB.yes HRR.out⟩
end Go.Proofs.YtojedplbhialpaaGreatDoor
