/-
  The reference of layer 23: nested.
-/
import Derived.Test.YtdahgfopighhlaaU2
import Derived.Test.YtdahgfopighhlaaSC
namespace Go.Proofs.Ytdahgfopighhlaa
open Go.RowKit Go.Sort
set_option linter.unusedVariables false
set_option maxRecDepth 100000
def boxO (l : Lev) (v : Value) : Obj := .cells #[.string l.name, .int .i64 l.pre, v, .int .i64 l.min, .int .i64 l.cents] 45
theorem boxO_at (w : World) (l : Lev) (v : Value) : (w.alloc (boxO l v)).cell? ⟨w.heap.size, 0, none⟩ = some (.string l.name) ∧ (w.alloc (boxO l v)).cell? ⟨w.heap.size, 1, none⟩ = some (.int .i64 l.pre) ∧ (w.alloc (boxO l v)).cell? ⟨w.heap.size, 2, none⟩ = some v ∧
    (w.alloc (boxO l v)).cell? ⟨w.heap.size, 3, none⟩ = some (.int .i64 l.min) ∧ (w.alloc (boxO l v)).cell? ⟨w.heap.size, 4, none⟩ = some (.int .i64 l.cents) := by
  unfold boxO
  refine ⟨?_, ?_, ?_, ?_, ?_⟩ <;> (rw [World.cell?_alloc_new]; rfl)
/-- Two boxed levels, one behind the other. -/
structure Boxes (B : Nat) (l next : Lev) (v u : Value) (W : World) : Prop where
  l0 : W.cell? ⟨B, 0, none⟩ = some (.string l.name)
  l1 : W.cell? ⟨B, 1, none⟩ = some (.int .i64 l.pre)
  l2 : W.cell? ⟨B, 2, none⟩ = some v
  l3 : W.cell? ⟨B, 3, none⟩ = some (.int .i64 l.min)
  l4 : W.cell? ⟨B, 4, none⟩ = some (.int .i64 l.cents)
  n0 : W.cell? ⟨B + 1, 0, none⟩ = some (.string next.name)
  n1 : W.cell? ⟨B + 1, 1, none⟩ = some (.int .i64 next.pre)
  n2 : W.cell? ⟨B + 1, 2, none⟩ = some u
  n3 : W.cell? ⟨B + 1, 3, none⟩ = some (.int .i64 next.min)
  n4 : W.cell? ⟨B + 1, 4, none⟩ = some (.int .i64 next.cents)
theorem boxes_new (w : World) (l next : Lev) (v u : Value) : Boxes w.heap.size l next v u ((w.alloc (boxO l v)).alloc (boxO next u)) := by
  obtain ⟨a0, a1, a2, a3, a4⟩ := boxO_at w l v
  obtain ⟨b0, b1, b2, b3, b4⟩ := boxO_at (w.alloc (boxO l v)) next u
  have hz : (w.alloc (boxO l v)).heap.size = w.heap.size + 1 := by simp
  rw [hz] at b0 b1 b2 b3 b4
  have hlt : w.heap.size < (w.alloc (boxO l v)).heap.size := by omega
  exact ⟨(cell_alloc_old _ hlt).trans a0, (cell_alloc_old _ hlt).trans a1, (cell_alloc_old _ hlt).trans a2, (cell_alloc_old _ hlt).trans a3, (cell_alloc_old _ hlt).trans a4, b0, b1, b2, b3, b4⟩
theorem Boxes.below {B : Nat} {l next : Lev} {v u : Value} {W W' : World} (h : Boxes B l next v u W) (hb : Below (B + 2) W W') : Boxes B l next v u W' := by
  have c0 : ∀ o, W'.cell? ⟨B, o, none⟩ = W.cell? ⟨B, o, none⟩ := fun o => hb.cell (p := ⟨B, o, none⟩) (by show B < B + 2; omega)
  have c1 : ∀ o, W'.cell? ⟨B + 1, o, none⟩ = W.cell? ⟨B + 1, o, none⟩ := fun o => hb.cell (p := ⟨B + 1, o, none⟩) (by show B + 1 < B + 2; omega)
  exact ⟨(c0 _).trans h.l0, (c0 _).trans h.l1, (c0 _).trans h.l2, (c0 _).trans h.l3, (c0 _).trans h.l4, (c1 _).trans h.n0, (c1 _).trans h.n1, (c1 _).trans h.n2, (c1 _).trans h.n3, (c1 _).trans h.n4⟩
theorem allTo_size {l : Lev} (hp : ∀ x ∈ l.labs, (x.pre.size : Int) = l.pre) : ∀ a ∈ allL l, (a.size : Int) = l.pre := fun a ha => by
  obtain ⟨x, hx, rfl | ⟨hs, rfl⟩⟩ := mem_allL.1 ha
  · exact hp x hx
  · unfold selfB at hs
    simp at hs
    exact hs.1
theorem nestR_step {l next : Lev} {i : Nat} (h : nestR l next i) (h2 : ∀ k, k < i → fitR l next ((allL l).getD i ⟨#[]⟩) ((allL l).getD k ⟨#[]⟩)) : nestR l next (i + 1) := fun j k hk hj => by
  by_cases e : j = i
  · subst e; exact h2 k hk
  · exact h j k hk (by omega)
set_option maxHeartbeats 16000000 in
theorem rNested_any (l next : Lev) (v u : Value) (w : World) (hfl : LevFits l) (hfn : LevFits next) (hv : RdLabs w v l.labs) (hu : RdLabs w u next.labs) (hsort : sortedB l.labs) (hpre : ∀ x ∈ l.labs, (x.pre.size : Int) = l.pre)
    (h0 : 0 ≤ next.pre) (hle : next.pre ≤ l.pre) (h10 : l.pre ≤ 10) :
    Calls Try.prog 54 #[lvA l v, lvA next u] w fun e w' => e = .returned (.bool (nestedB l next)) ∧ Below w.heap.size w w' := by
  obtain ⟨i0, hi⟩ := info_parts Try.infoS
  have HI := Lib.hid hi
  clear hi
  have HAS := Lib.hid (allTo_size hpre)
  have hal : (allL l).length ≤ 200000 := by have := allTo_len l l.labs.length; have := hfl.2.1; unfold allL; omega
  have HYES : Hid (nestR l next (allL l).length → nestedB l next = true) := fun h => nestedB_iff.2 ((nest_ref hsort).1 h)
  have HNO : Hid (¬ nestR l next (allL l).length → nestedB l next = false) := fun h => nestedB_false (fun h' => h ((nest_ref hsort).2 h'))
  have HGL : Hid (∀ W p, Below w.heap.size w W → Calls Try.prog 51 #[lvA l v, .string p] W fun e w' => e = .returned (.string (refGrp l p)) ∧ Below W.heap.size W w') := fun W p hB => rGroup_any l v p W hfl.2.1 (hv.below hB)
  have HGN : Hid (∀ W p, Below w.heap.size w W → Calls Try.prog 51 #[lvA next u, .string p] W fun e w' => e = .returned (.string (refGrp next p)) ∧ Below W.heap.size W w') := fun W p hB => rGroup_any next u p W hfn.2.1 (hu.below hB)
  obtain ⟨np, hnp⟩ : ∃ np : Nat, next.pre = np := ⟨next.pre.toNat, by omega⟩
  have hbox := boxes_new w l next v u
  have HZ : Hid (((w.alloc (boxO l v)).alloc (boxO next u)).heap.size = w.heap.size + 2) := by show _ = _; simp
  have HB0 : Hid (Below w.heap.size w ((w.alloc (boxO l v)).alloc (boxO next u))) := ((Below.refl _ w).alloc (Nat.le_refl _) _).alloc (by simp) _
  have HXS := Lib.hid hfl.2.2
  have hl5 := hfl.2.1
  obtain ⟨a, cap, rfl, hc⟩ := hv
  have HC := Lib.hid hc
  unfold lvA at HGL HGN ⊢
  have HNP := Lib.hid hnp
  have HLE := Lib.hid hle
  have HPOS := Lib.hid h10
  clear hu hfl hfn hsort hpre hc h0 hnp hle h10
  obtain ⟨w2, hw2⟩ : ∃ w2 : World, (w.alloc (boxO l (.slice a l.labs.length cap))).alloc (boxO next u) = w2 := ⟨_, rfl⟩
  rw [hw2] at hbox HZ HB0
  unfold boxO at hw2
  have HBX := Lib.hid hbox
  clear hbox
  go_enter Try.func54, Try.ntmps54
  go_wp2_with fail
  try rw [hw2]
  clear hw2
  go_loopw [5, 6] (fun x i wr => ∃ k : Nat, k ≤ l.labs.length ∧ i = .int .i64 k ∧ OwnsT wr (w.heap.size + 2) x (allTo l k) ∧ Below (w.heap.size + 2) w2 wr) (fun _ i _ => l.labs.length - (intOf i).toNat)
  case atStart => exact ⟨0, Nat.zero_le _, rfl, OwnsT.nil _ _, Below.refl _ _⟩
  case round =>
    obtain ⟨k, hk, rfl, hown, hB⟩ := hrel
    have hbw := HBX.out.below hB
    have hwz : w.heap.size + 2 ≤ wr.heap.size := by have := hB.size; have := HZ.out; omega
    by_cases hlt : k < l.labs.length
    · obtain ⟨g, off, rfl, hg, hcc⟩ := HC.out (by omega)
      have hend : Below w.heap.size w wr := HB0.out.trans (hB.mono (by omega))
      have cl : ∀ o, wr.cell? ⟨g, o, none⟩ = w.cell? ⟨g, o, none⟩ := fun o => hend.cell (p := ⟨g, o, none⟩) hg
      have c1 : wr.cell? ⟨g, off + k * 2, none⟩ = some (.string l.labs[k].pre) := (cl _).trans (hcc k hlt).1
      have c2 : wr.cell? ⟨g, off + k * 2 + 1, none⟩ = some (.string l.labs[k].grp) := (cl _).trans (hcc k hlt).2
      have hgr : g < wr.heap.size := by omega
      have x2 := (HXS.out _ (List.getElem_mem hlt)).2
      have hal5 := allTo_len l k
      have HALL : Hid (allTo l (k + 1) = (allTo l k ++ [l.labs[k].pre]) ++ if selfB l l.labs[k] then [l.labs[k].grp] else []) := by
        show allTo l (k + 1) = _
        rw [allTo_succ l k hlt]; unfold allL1; simp
      have HSF : Hid (selfB l l.labs[k] = (decide ((l.labs[k].grp.size : Int) = l.pre) && plainB l.labs[k].grp)) := rfl
      have hl1 := hbw.l1
      have hl2 := hbw.l2
      clear cl hcc HC hbw HNO HYES HGL HGN HAS HXS
      generalize selfB l l.labs[k] = sf at HALL HSF
      generalize l.labs[k].pre = xp at c1 HALL
      generalize l.labs[k].grp = xg at c2 x2 HALL HSF
      generalize allTo l k = acc at hown HALL hal5
      have hd : decide ((k : Int) < (l.labs.length : Int)) = true := decide_eq_true (by omega)
      have STEP : Hid (∀ v4 w4, w4.ownsRow (w.heap.size + 2) 9 1 v4 (acc.length + 1) (acc.map Value.string ++ [.string xp]) → (wr.alloc (.cells #[.string xp] 9)).grownBy w4 u5.ownBlock →
          Hid (OwnsT w4 (w.heap.size + 2) v4 (acc ++ [xp])) ∧ Hid (Below (w.heap.size + 2) w2 w4) ∧ w4.cell? ⟨w.heap.size, 1, none⟩ = some (.int .i64 l.pre) ∧ w4.cell? ⟨w.heap.size, 2, none⟩ = some (.slice (some ⟨g, off, none⟩) l.labs.length cap) ∧ w4.cell? ⟨g, off + k * 2 + 1, none⟩ = some (.string xg) ∧ w.heap.size + 2 ≤ w4.heap.size) := fun v4 w4 ho hg4 => by
        have hb4 : Below (w.heap.size + 2) w2 w4 := (hB.alloc hwz _).grown hg4 (by simp; omega) (fun r e => (hown.lt r e).1)
        have hbw4 := HBX.out.below hb4
        have hend4 : Below w.heap.size w w4 := HB0.out.trans (hb4.mono (by omega))
        refine ⟨?_, hb4, hbw4.l1, hbw4.l2, ?_, by have := hb4.size; have := HZ.out; omega⟩
        · show w4.ownsRow _ _ _ _ _ _
          rw [List.length_append, List.map_append, List.length_singleton, List.map_singleton]
          exact ho
        · exact (hend4.cell (p := ⟨g, off + k * 2 + 1, none⟩) hg).trans ((hend.cell (p := ⟨g, off + k * 2 + 1, none⟩) hg).symm.trans c2)
      have hal7 : acc.length + 2 ≤ 300000 := by omega
      unfold OwnsT at hown
      clear hend hB hal
      cases hsz : ((xg.size : Int) == l.pre)
      · have hsf : sf = false := by rw [HSF.out, show decide ((xg.size : Int) = l.pre) = false by simpa using hsz]; rfl
        subst hsf
        have HA2 : Hid (allTo l (k + 1) = acc ++ [xp]) := by show _ = _; rw [HALL.out]; simp
        clear HALL HSF
        go_wp2_with (at_builtin; refine wpList_append_own _ rfl _ _ 27 rfl (w.heap.size + 2) 9 i0 (.string ⟨#[]⟩) 1 16 Try.underlying27 HI.out.1 HI.out.2.1 HI.out.2.2.1 HI.out.2.2.2 rfl (by decide) _ _ _ rfl (hown.alloc _) ⟨wr.heap.size, 0, none⟩ 1 1 [.string xp] rfl rfl (by have := cell_one_new wr (.string xp) 9; simpa using this) (by simp [Value.oneCell']) (by unfold maxLen; omega) (by omega) (by simp; omega) ?_; intro v4 w4 hown4 hgrow4 _; obtain ⟨HOWN4, HB4, hk1, hk2, c4, hwz4⟩ := STEP.out v4 w4 hown4 hgrow4; clear hown4 hgrow4 hown c1 c2 hl1 hl2)
        go_roundw
        case rel => exact ⟨k + 1, by omega, by go_num, by rw [HA2.out]; exact HOWN4.out, HB4.out⟩
        case measure => simp [intOf]; omega
      · have CP := Lib.hid (fun W => rPlain_any xg W x2)
        have hsf : sf = plainB xg := by rw [HSF.out, show decide ((xg.size : Int) = l.pre) = true by simpa using hsz]; rfl
        rw [← hsf] at CP
        clear hsf HSF
        cases sf
        · have HA2 : Hid (allTo l (k + 1) = acc ++ [xp]) := by show _ = _; rw [HALL.out]; simp
          clear HALL
          go_wp2_with (first | (at_builtin; refine wpList_append_own _ rfl _ _ 27 rfl (w.heap.size + 2) 9 i0 (.string ⟨#[]⟩) 1 16 Try.underlying27 HI.out.1 HI.out.2.1 HI.out.2.2.1 HI.out.2.2.2 rfl (by decide) _ _ _ rfl (hown.alloc _) ⟨wr.heap.size, 0, none⟩ 1 1 [.string xp] rfl rfl (by have := cell_one_new wr (.string xp) 9; simpa using this) (by simp [Value.oneCell']) (by unfold maxLen; omega) (by omega) (by simp; omega) ?_; intro v4 w4 hown4 hgrow4 _; obtain ⟨HOWN4, HB4, hk1, hk2, c4, hwz4⟩ := STEP.out v4 w4 hown4 hgrow4; clear hown4 hgrow4 hown c1 c2 hl1 hl2) | (go_at_call 52; refine (CP.out _).mono ?_; rintro e w5 ⟨rfl, rfl⟩))
          go_roundw
          case rel => exact ⟨k + 1, by omega, by go_num, by rw [HA2.out]; exact HOWN4.out, HB4.out⟩
          case measure => simp [intOf]; omega
        · have HA2 : Hid (allTo l (k + 1) = (acc ++ [xp]) ++ [xg]) := by show _ = _; rw [HALL.out]; simp
          clear HALL
          go_wp2_with (first | (at_builtin; refine wpList_append_own _ rfl _ _ 27 rfl (w.heap.size + 2) 9 i0 (.string ⟨#[]⟩) 1 16 Try.underlying27 HI.out.1 HI.out.2.1 HI.out.2.2.1 HI.out.2.2.2 rfl (by decide) _ _ _ rfl (hown.alloc _) ⟨wr.heap.size, 0, none⟩ 1 1 [.string xp] rfl rfl (by have := cell_one_new wr (.string xp) 9; simpa using this) (by simp [Value.oneCell']) (by unfold maxLen; omega) (by omega) (by simp; omega) ?_; intro v4 w4 hown4 hgrow4 _; obtain ⟨HOWN4, HB4, hk1, hk2, c4, hwz4⟩ := STEP.out v4 w4 hown4 hgrow4; clear hown4 hgrow4 hown c1 c2 hl1 hl2) | (go_at_call 52; refine (CP.out _).mono ?_; rintro e w5 ⟨rfl, rfl⟩) | (at_builtin; refine wpList_append_own _ rfl _ _ 27 rfl (w.heap.size + 2) 9 i0 (.string ⟨#[]⟩) 1 16 Try.underlying27 HI.out.1 HI.out.2.1 HI.out.2.2.1 HI.out.2.2.2 rfl (by decide) _ _ _ rfl ((show w4.ownsRow (w.heap.size + 2) 9 1 v4 _ _ from HOWN4.out).alloc _) ⟨w4.heap.size, 0, none⟩ 1 1 [.string xg] rfl rfl (by have := cell_one_new w4 (.string xg) 9; simpa using this) (by simp [Value.oneCell']) (by unfold maxLen; simp; omega) (by simp; omega) (by simp; omega) ?_; intro v6 w6 hown6 hgrow6 _))
          have hb6 : Below (w.heap.size + 2) w2 w6 := (HB4.out.alloc hwz4 _).grown hgrow6 (by simp; omega) (fun r e => (World.ownsRow.lt HOWN4.out r e).1)
          have HOWN6 : Hid (OwnsT w6 (w.heap.size + 2) v6 (allTo l (k + 1))) := by
            show w6.ownsRow _ _ _ _ _ _
            rw [HA2.out, List.length_append, List.map_append, List.length_singleton, List.map_singleton]
            exact hown6
          have HB6 := Lib.hid hb6
          clear hgrow6 hown6 hb6
          go_roundw
          case rel => exact ⟨k + 1, by omega, by go_num, HOWN6.out, HB6.out⟩
          case measure => simp [intOf]; omega
    · obtain rfl : k = l.labs.length := by omega
      obtain ⟨va, vcap, rfl, hread⟩ := ReadsT.of_row hown
      have hread0 : 0 < (allTo l l.labs.length).length → ∃ g off, va = some ⟨g, off, none⟩ ∧ g < wr.heap.size ∧ ∀ i (h : i < (allTo l l.labs.length).length), wr.cell? ⟨g, off + i, none⟩ = some (.string (allTo l l.labs.length)[i]) := hread
      have HRA : Hid (0 < (allL l).length → ∃ g off, va = some ⟨g, off, none⟩ ∧ g < wr.heap.size ∧ ∀ i (h : i < (allL l).length), wr.cell? ⟨g, off + i, none⟩ = some (.string ((allL l).getD i ⟨#[]⟩))) := fun h0 => by
        obtain ⟨g, off, e1, e2, e3⟩ := hread0 h0
        exact ⟨g, off, e1, e2, fun i hi => by rw [List.getD_eq_getElem?_getD, List.getElem?_eq_getElem hi]; exact e3 i hi⟩
      have hlen : (allTo l l.labs.length).length = (allL l).length := rfl
      rw [hlen]
      have HASZ : Hid (∀ i, i < (allL l).length → (((allL l).getD i ⟨#[]⟩).size : Int) = l.pre) := fun i hi => HAS.out _ (getD_mem hi)
      have HNF : Hid (∀ i k, k < i → i < (allL l).length → ¬ fitR l next ((allL l).getD i ⟨#[]⟩) ((allL l).getD k ⟨#[]⟩) → nestedB l next = false) := fun i k hk hi hn => HNO.out (fun h => hn (h i k hk hi))
      obtain ⟨N, hN⟩ : ∃ N, (allL l).length = N := ⟨_, rfl⟩
      rw [hN] at HRA HASZ HNF HYES hal ⊢
      obtain ⟨w3, rfl⟩ : ∃ w3 : World, w3 = wr := ⟨_, rfl⟩
      have HB3 := Lib.hid hB
      have HN1 : Hid (next.pre.toNat = np) := by have := HNP.out; show next.pre.toNat = np; omega
      rw [HNP.out] at HGN

      have hl2 := hbw.l2
      clear hread hread0 hown hbw hwz hlen hN HAS HNO HC hB HXS hk hlt
      go_wp2_with fail
      go_loopw [8] (fun x wr => ∃ i : Nat, i ≤ N ∧ x = .int .i64 i ∧ Hid (nestR l next i) ∧ Hid (Below w3.heap.size w3 wr)) (fun x _ => N - (intOf x).toNat)
      case atStart => exact ⟨0, Nat.zero_le _, rfl, fun i k hk hi => by omega, Below.refl _ _⟩
      case round =>
        obtain ⟨i, hi, rfl, hni, HBY⟩ := hrel
        by_cases hlt : i < N
        · have hd : decide ((i : Int) < (N : Int)) = true := decide_eq_true (by omega)
          obtain ⟨g3, off3, rfl, hg3, hcell⟩ := HRA.out (by omega)
          have HCE := Lib.hid hcell
          clear hcell HRA
          go_wp2_with fail
          go_loopw [9] (fun x wr => ∃ k : Nat, k ≤ i ∧ x = .int .i64 k ∧ Hid (∀ j, j < k → fitR l next ((allL l).getD i ⟨#[]⟩) ((allL l).getD j ⟨#[]⟩)) ∧ Hid (Below w3.heap.size w3 wr)) (fun x _ => i - (intOf x).toNat)
          case atStart => exact ⟨0, Nat.zero_le _, rfl, fun j h => by omega, HBY.out⟩
          case round =>
            obtain ⟨k, hk, rfl, hfk, HBZ⟩ := hrel
            clear HBY
            by_cases hlk : k < i
            · have hdk : decide ((k : Int) < (i : Int)) = true := decide_eq_true (by omega)
              have c1 := cells_in ((HBZ.out.cell (p := ⟨g3, off3 + i, none⟩) hg3).trans (HCE.out i (by omega)))
              have c2 := cells_in ((HBZ.out.cell (p := ⟨g3, off3 + k, none⟩) hg3).trans (HCE.out k (by omega)))
              have hsa := HASZ.out i (by omega)
              have hsb := HASZ.out k (by omega)
              have HFIT : Hid (fitR l next ((allL l).getD i ⟨#[]⟩) ((allL l).getD k ⟨#[]⟩) → ∀ j, j < k + 1 → fitR l next ((allL l).getD i ⟨#[]⟩) ((allL l).getD j ⟨#[]⟩)) := fun h => upto_succ hfk.out h
              have HBAD := Lib.hid (HNF.out i k hlk (by omega))
              have hwr : Below w.heap.size w wr := HB0.out.trans ((HB3.out.mono (by omega)).trans (HBZ.out.mono (by have := HB3.out.size; have := HZ.out; omega)))
              have HWR := Lib.hid hwr
              have hbz : Below (w.heap.size + 2) w2 wr := HB3.out.trans (HBZ.out.mono (by have := HB3.out.size; have := HZ.out; omega))
              have hbx := HBX.out.below hbz
              have l0 := cells_in hbx.l0
              have l1 := cells_in hbx.l1
              have l2 := cells_in hbx.l2
              have l3 := cells_in hbx.l3
              have l4 := cells_in hbx.l4
              have n0 := cells_in hbx.n0
              have n1 := hbx.n1
              rw [HNP.out] at n1
              have n1 := cells_in n1
              have n2 := cells_in hbx.n2
              have n3 := cells_in hbx.n3
              have n4 := cells_in hbx.n4
              clear hbx hbz hwr hfk HNF
              have HFE : Hid (∀ a b, fitR l next a b ↔ (refGrp l a = refGrp l b → refGrp next (a.extract 0 np) = refGrp next (b.extract 0 np))) := fun a b => by unfold fitR; rw [HN1.out]
              generalize (allL l).getD i ⟨#[]⟩ = ai at c1 hsa HFIT HBAD
              generalize (allL l).getD k ⟨#[]⟩ = ak at c2 hsb HFIT HBAD
              rw [HFE.out] at HFIT HBAD
              have hna : (np : Int) ≤ (ai.size : Int) := by rw [hsa, ← HNP.out]; exact HLE.out
              have hnb : (np : Int) ≤ (ak.size : Int) := by rw [hsb, ← HNP.out]; exact HLE.out
              have hna' : np ≤ ai.size := by omega
              have hnb' : np ≤ ak.size := by omega
              have C1 : Hid (∀ W, Below wr.heap.size wr W → Calls Try.prog 51 #[.agg #[.string l.name, .int .i64 l.pre, .slice a l.labs.length cap, .int .i64 l.min, .int .i64 l.cents], .string ai] W fun e w' => e = .returned (.string (refGrp l ai)) ∧ Below W.heap.size W w') := fun W hW => HGL.out W ai (HWR.out.trans (hW.mono HWR.out.size))
              have C2 : Hid (∀ W, Below wr.heap.size wr W → Calls Try.prog 51 #[.agg #[.string l.name, .int .i64 l.pre, .slice a l.labs.length cap, .int .i64 l.min, .int .i64 l.cents], .string ak] W fun e w' => e = .returned (.string (refGrp l ak)) ∧ Below W.heap.size W w') := fun W hW => HGL.out W ak (HWR.out.trans (hW.mono HWR.out.size))
              have C3 : Hid (∀ W, Below wr.heap.size wr W → Calls Try.prog 51 #[.agg #[.string next.name, .int .i64 (np : Nat), u, .int .i64 next.min, .int .i64 next.cents], .string (ai.extract 0 np)] W fun e w' => e = .returned (.string (refGrp next (ai.extract 0 np))) ∧ Below W.heap.size W w') := fun W hW => HGN.out W _ (HWR.out.trans (hW.mono HWR.out.size))
              have C4 : Hid (∀ W, Below wr.heap.size wr W → Calls Try.prog 51 #[.agg #[.string next.name, .int .i64 (np : Nat), u, .int .i64 next.min, .int .i64 next.cents], .string (ak.extract 0 np)] W fun e w' => e = .returned (.string (refGrp next (ak.extract 0 np))) ∧ Below W.heap.size W w') := fun W hW => HGN.out W _ (HWR.out.trans (hW.mono HWR.out.size))
              generalize refGrp l ai = ga at C1 HFIT HBAD
              generalize refGrp l ak = gb at C2 HFIT HBAD
              generalize refGrp next (ai.extract 0 np) = gc at C3 HFIT HBAD
              generalize refGrp next (ak.extract 0 np) = gd at C4 HFIT HBAD
              clear HGL HGN HFE hsa hsb HASZ HCE
              have hb1 := ba_eq ga gb
              have hb2 := ba_eq gc gd
              have HNEXT : Hid (∀ pp : Regrown, Below w3.heap.size w3 (grow (redrawn wr pp.d) pp.os)) := fun pp => HBZ.out.trans ((below_in wr pp).mono HBZ.out.size)
              have HENDS : Hid (∀ pp : Regrown, Below w.heap.size w (grow (redrawn wr pp.d) pp.os)) := fun pp => HWR.out.trans ((below_in wr pp).mono HWR.out.size)
              by_cases e1 : ga = gb
              · rw [decide_eq_true e1] at hb1
                by_cases e2 : gc = gd
                · rw [decide_eq_true e2] at hb2
                  have HFN := Lib.hid (HFIT.out (fun _ => e2))
                  clear HFIT HBAD e1 e2
                  go_wp2_with fail
                  refine wp_region_quiet_below (by kernel_rfl) (by kernel_rfl) ?_
                  repeat (go_big_quiet_step ((first | (with_reducible exact regrown_in C1.out _) | (with_reducible exact regrown_in C2.out _) | (with_reducible exact regrown_in C3.out _) | (with_reducible exact regrown_in C4.out _))))
                  refine wpQuiet_nil ?_
                  intro _ hw'
                  obtain ⟨pp, hw''⟩ := hw'
                  subst hw''
                  go_wp2_with fail
                  go_roundw
                  case rel => exact ⟨k + 1, by omega, by go_num, HFN.out, HNEXT.out pp⟩
                  case measure => simp [intOf]; omega
                · rw [decide_eq_false e2] at hb2
                  have HR := Lib.hid (HBAD.out (fun h => e2 (h e1)))
                  clear HFIT HBAD e1 e2
                  go_wp2_with fail
                  refine wp_region_quiet_below (by kernel_rfl) (by kernel_rfl) ?_
                  repeat (go_big_quiet_step ((first | (with_reducible exact regrown_in C1.out _) | (with_reducible exact regrown_in C2.out _) | (with_reducible exact regrown_in C3.out _) | (with_reducible exact regrown_in C4.out _))))
                  refine wpQuiet_nil ?_
                  intro _ hw'
                  obtain ⟨pp, hw''⟩ := hw'
                  subst hw''
                  go_wp2_with fail
                  go_ret
                  exact ⟨ret_bool HR.out.symm, HENDS.out pp⟩
              · rw [decide_eq_false e1] at hb1
                have HFN := Lib.hid (HFIT.out (fun h => absurd h e1))
                clear HFIT HBAD e1
                go_wp2_with fail
                refine wp_region_quiet_below (by kernel_rfl) (by kernel_rfl) ?_
                repeat (go_big_quiet_step ((first | (with_reducible exact regrown_in C1.out _) | (with_reducible exact regrown_in C2.out _) | (with_reducible exact regrown_in C3.out _) | (with_reducible exact regrown_in C4.out _))))
                refine wpQuiet_nil ?_
                intro _ hw'
                obtain ⟨pp, hw''⟩ := hw'
                subst hw''
                go_wp2_with fail
                go_roundw
                case rel => exact ⟨k + 1, by omega, by go_num, HFN.out, HNEXT.out pp⟩
                case measure => simp [intOf]; omega
            · obtain rfl : k = i := by omega
              have hdk : decide ((k : Int) < (k : Int)) = false := decide_eq_false (by omega)
              have HNX := Lib.hid (nestR_step hni hfk.out)
              go_wp2_with fail
              go_roundw
              case rel => exact ⟨k + 1, by omega, by go_num, HNX.out, HBZ.out⟩
              case measure => simp [intOf]; omega
        · obtain rfl : i = N := by omega
          have HR := Lib.hid (HYES.out hni.out)
          have HE : Hid (Below w.heap.size w wr) := HB0.out.trans ((HB3.out.mono (by omega)).trans (HBY.out.mono (by have := HB3.out.size; have := HZ.out; omega)))
          go_wp2_with fail
          go_ret
          exact ⟨ret_bool HR.out.symm, HE.out⟩
end Go.Proofs.Ytdahgfopighhlaa
