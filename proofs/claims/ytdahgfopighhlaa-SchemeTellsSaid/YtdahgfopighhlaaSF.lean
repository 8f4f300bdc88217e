/-
  Contract of Groups: the walk.
-/
import Derived.Test.YtdahgfopighhlaaSE
namespace Go.Proofs.Ytdahgfopighhlaa
open Go.RowKit
set_option linter.unusedVariables false
set_option maxRecDepth 100000
def GroupsPost (ls : List Lev) (cs : List ByteArray) (w : World) (gs : List Grp) (err : Int) (e : Ending) (w' : World) : Prop :=
  ∃ v, e = .returned (.tuple #[v, .int .i64 err]) ∧ Below w.heap.size w w' ∧ OwnsG w' w.heap.size v gs
theorem OwnsT.form {w : World} {base : Nat} {v : Value} {l : List ByteArray} (h : OwnsT w base v l) : ∃ a cap, v = .slice a l.length cap := by
  rcases Joins.ownsRow_forms h with ⟨rfl, hp⟩ | ⟨g, cap, rfl⟩
  · exact ⟨none, 0, by rw [hp]⟩
  · exact ⟨_, cap, rfl⟩
theorem OwnsT.at {w : World} {base : Nat} {a : Option Addr} {n cap : Nat} {l : List ByteArray} (h : OwnsT w base (.slice a n cap) l) {j : Nat} (hj : j < l.length) : ∃ g, a = some ⟨g, 0, none⟩ ∧ g < w.heap.size ∧ w.cell? ⟨g, j, none⟩ = some (.string l[j]) ∧ n = l.length := by
  rcases Joins.ownsRow_forms h with ⟨_, hp⟩ | ⟨g, cap', e⟩
  · omega
  · injection e with e1 e2 e3
    subst e1 e2 e3
    exact ⟨g, rfl, (h.lt g rfl).2, owns_cell h hj, rfl⟩
theorem sorted_call2 {W2 : World} {o : Obj} {base B n : Nat} {G : ByteArray → List Int} (h : GrpsF W2 base B n G) (hn : n ≤ 100000) :
    Calls Try.prog 31 #[.func (.func 48) #[] #[.pointer (some ⟨W2.heap.size + 1, 0, none⟩)]] ((W2.alloc o).alloc (.cells #[.map (some B)] 65)) fun e w' => ∃ v names, e = .returned v ∧ KeysAre G names ∧ names.length ≤ n ∧ (∀ s ∈ names, s.size ≤ maxLen) ∧ OwnsT w' (W2.heap.size + 2) v names ∧ Below (W2.alloc o).heap.size (W2.alloc o) w' := by
  have := sorted_call (w := W2.alloc o) (h.below ((Below.refl _ W2).alloc (Nat.le_refl _) _)) hn
  have e : (W2.alloc o).heap.size = W2.heap.size + 1 := by simp
  rw [e] at this
  rw [e]
  exact this
set_option maxHeartbeats 16000000 in
theorem groups_main (ls : List Lev) (v vc : Value) (cs : List ByteArray) (w : World) (hr : RdLevs w v ls) (hf : ∀ l ∈ ls, LevFits l) (hri : rightB ls = true) (hrc : ReadsT w vc cs) (hc2 : cs.length ≤ 2000) (hcode : ∀ c ∈ cs, codeB c = true) (hpre : ∀ c ∈ cs, ∀ h : 0 < ls.length, ls[0].pre ≤ c.size) :
    Calls Try.prog 14 #[v, vc] w (GroupsPost ls cs w (gTo ls cs ls.length).1 0) := by
  obtain ⟨hl1, hl6⟩ := right_len hri
  have hmm := @run_makeMap Try.prog
  have HR := Lib.hid (fun W (h : Below w.heap.size w W) => right_any ls v W (hr.below h) hf (by unfold maxLen; omega))
  have HC1 : Hid (∀ W, Below w.heap.size w W → Calls Try.prog 26 #[vc, .func (.func 27) #[] #[]] W fun e w' => e = .returned (.bool false) ∧ Below W.heap.size W w') := fun W hW => by
    refine (contains1_any cs vc (fun c => !codeB c) W (hrc.below hW) (by omega) (fun W' _ s hs => groups1_any s W' (by have := codeB_size (hcode s hs); unfold maxLen; omega))).mono ?_
    rintro e w' ⟨rfl, hb⟩
    refine ⟨ret_bool ?_, hb⟩
    rw [List.any_eq_false]
    intro c hc
    rw [hcode c hc]; simp
  obtain ⟨a, cap, rfl, hc⟩ := hr
  obtain ⟨g, off, rfl, hg, hcc⟩ := hc (by omega)
  have HCC := Lib.hid hcc
  have HF := Lib.hid hf
  obtain ⟨sv0, _, hat0⟩ := hcc 0 (by omega)
  have hp0 : w.cell? ⟨g, off + 1, none⟩ = some (.int .i64 (ls[0]'(by omega)).pre) := by simpa using hat0.2.1
  have HC2 : Hid (∀ W, Below w.heap.size w W → W.cell? ⟨w.heap.size, 0, none⟩ = some (.slice (some ⟨g, off, none⟩) ls.length cap) → w.heap.size < W.heap.size → Calls Try.prog 26 #[vc, .func (.func 29) #[] #[.pointer (some ⟨w.heap.size, 0, none⟩)]] W fun e w' => e = .returned (.bool false) ∧ Below W.heap.size W w') := fun W hW hx hz => by
    refine (contains2_any cs vc w.heap.size (fun c => decide ((c.size : Int) < (ls[0]'(by omega)).pre)) W (hrc.below hW) (by omega) (fun W' hW' s hs => ?_)).mono ?_
    · refine (groups2_any s g off ls.length cap w.heap.size (ls[0]'(by omega)).pre W' ((hW'.cell (p := ⟨w.heap.size, 0, none⟩) hz).trans hx) (by omega) (by omega) (((hW'.cell (p := ⟨g, off + 1, none⟩) (by have := hW.size; show g < _; omega)).trans (hW.cell (p := ⟨g, off + 1, none⟩) hg)).trans hp0) (by have := codeB_size (hcode s hs); unfold maxLen; omega)).mono ?_
      rintro e w' ⟨rfl, rfl⟩
      exact ⟨rfl, Below.refl _ _⟩
    · rintro e w' ⟨rfl, hb⟩
      refine ⟨ret_bool ?_, hb⟩
      rw [List.any_eq_false]
      intro c hc
      have := hpre c hc (by omega)
      simp
      omega
  obtain ⟨ac, capc, rfl, hcx⟩ := hrc
  have HX := Lib.hid hcx
  have HCO := Lib.hid hcode
  have HPR := Lib.hid hpre
  have HLV := Lib.hid (right_level hri)
  have HMO := Lib.hid (right_mono hri)
  rw [hri] at HR
  obtain ⟨i0, hi⟩ := info_parts Try.infoG
  have HI := Lib.hid hi
  obtain ⟨j0, hj⟩ := info_parts Try.infoI
  have HJ := Lib.hid hj
  clear hi hj hcx hcode hpre hri hc hcc hat0 hf hp0
  go_enter Try.func14, Try.ntmps14
  go_wp2_with (first
    | (go_at_call 13; refine (HR.out _ ((Below.refl _ w).alloc (Nat.le_refl _) _)).mono ?_; rintro e w1 ⟨rfl, hb1⟩; have hB1 := below_ac (Below.refl _ w) (Nat.le_refl _) hb1; have hx1 : w1.cell? ⟨w.heap.size, 0, none⟩ = some (.slice (some ⟨g, off, none⟩) ls.length cap) := (hb1.cell (p := ⟨w.heap.size, 0, none⟩) (by simp)).trans (by simp [go_sem]); have hz1 : w.heap.size < w1.heap.size := Nat.lt_of_lt_of_le (by simp) hb1.size; clear hb1)
    | (go_at_call 26; refine (HC1.out _ hB1).mono ?_; rintro e w2 ⟨rfl, hb2⟩; replace hx1 := (hb2.cell (p := ⟨w.heap.size, 0, none⟩) hz1).trans hx1; replace hB1 := below_c hB1 hB1.size hb2; replace hz1 := Nat.lt_of_lt_of_le hz1 hb2.size; clear hb2 HC1)
    | (go_at_call 26; refine (HC2.out _ hB1 hx1 hz1).mono ?_; rintro e w3 ⟨rfl, hb3⟩; replace hx1 := (hb3.cell (p := ⟨w.heap.size, 0, none⟩) hz1).trans hx1; replace hB1 := below_c hB1 hB1.size hb3; clear hb3))
  go_loopw [6, 7, 34] (fun v b i wr => ∃ k : Nat, k ≤ ls.length ∧ i = .int .i64 k ∧ b = .int .i64 ((gTo ls cs k).2.1 : Nat) ∧ Below w.heap.size w wr ∧ OwnsG wr w.heap.size v (gTo ls cs k).1) (fun _ _ i _ => ls.length - (intOf i).toNat)
  case atStart => exact ⟨0, Nat.zero_le _, rfl, rfl, hB1, OwnsG.nil _ _⟩
  case round =>
    clear hB1 hx1 hz1
    obtain ⟨k, hk, rfl, rfl, hB, hG⟩ := hrel
    by_cases hlt : k < ls.length
    · obtain ⟨ga, gcap, rfl⟩ := hG.len
      obtain ⟨wo, hwo⟩ : ∃ wo : World, wo = wr := ⟨_, rfl⟩
      rw [← hwo] at hB hG ⊢
      clear hwo
      obtain ⟨sv, hlab, hat⟩ := HCC.out k hlt
      obtain ⟨r1, r2, r3, r4⟩ := HLV.out k hlt
      have HGR : Hid (∀ W, Below w.heap.size w W → ∀ c ∈ cs, Calls Try.prog 30 #[lvA ls[k] sv, .string c] W fun e w' => e = .returned (.string (grpOf ls[k] c)) ∧ Below W.heap.size W w') := fun W hW c hc =>
        group_any ls[k] c sv W (HF.out _ (List.getElem_mem hlt)) (hlab.below hW) r1 r3 (by have := HMO.out k hlt; have := HPR.out c hc (by omega); omega) (by have := codeB_size (HCO.out c hc); unfold maxLen; omega)
      have HSZ : Hid (∀ c ∈ cs, (grpOf ls[k] c).size ≤ maxLen) := fun c hc => grp_size (HF.out _ (List.getElem_mem hlt)) (by have := codeB_size (HCO.out c hc); unfold maxLen; omega)
      have HGT := Lib.hid (gTo_succ ls cs k hlt)
      have HIX := Lib.hid (gTo_idx ls cs k hk)
      obtain ⟨hln1, hln2⟩ := gTo_len ls cs k hk
      have HIT := Lib.hid (gTo_items ls cs k hk)
      obtain ⟨st, hst⟩ : ∃ st, gTo ls cs k = st := ⟨_, rfl⟩
      rw [hst] at hG HGT HIX hln1 hln2 HIT ⊢
      clear hst
      have hgsl : st.1.length ≤ 12000 := Nat.le_trans hln1 (Nat.le_trans (Nat.mul_le_mul (show k ≤ 6 by omega) hc2) (by decide))
      clear hln1
      obtain ⟨la, lc, rfl, _⟩ := hlab
      have hgr : g < wo.heap.size := Nat.lt_of_lt_of_le hg hB.size
      obtain ⟨t0, t1, t2, t3, t4⟩ := hat.below hB hg
      clear hat r1 r2 r3 r4
      unfold lvA at HGR
      generalize ls[k] = l at t0 t1 t2 t3 t4 HGR HSZ HGT
      have hwo := hB.size
      go_wp2_with fail
      go_loopw [42] (fun i w2 => ∃ j : Nat, j ≤ cs.length ∧ i = .int .i64 j ∧ R2 wo l (.slice la l.labs.length lc) cs j w2) (fun i _ => cs.length - (intOf i).toNat)
      case atStart => exact ⟨0, Nat.zero_le _, rfl, R2_start wo l _ cs⟩
      case round =>
        clear t0 t1 t2 t3 t4
        obtain ⟨j, hj, rfl, hR2⟩ := hrel
        by_cases hjl : j < cs.length
        · clear hmm
          obtain ⟨gc, oc, rfl, hgc, hccx⟩ := HX.out (by omega)
          have hR2' := hR2
          obtain ⟨q1, q2, q3⟩ := hR2'
          have bw : Below w.heap.size w wr := hB.trans (q1.mono hB.size)
          have cj : wr.cell? ⟨gc, oc + j, none⟩ = some (.string cs[j]) := (bw.cell (p := ⟨gc, oc + j, none⟩) hgc).trans (hccx j hjl)
          obtain ⟨x0, x1, x2, x3, x4⟩ := box_of q2
          have hgd : cs.getD j ⟨#[]⟩ = cs[j] := by rw [List.getD_eq_getElem?_getD, List.getElem?_eq_getElem hjl]; rfl
          have HGD := Lib.hid hgd
          have H1 := Lib.hid (HGR.out wr bw cs[j] (List.getElem_mem hjl))
          have hsz := HSZ.out cs[j] (List.getElem_mem hjl)
          have HR2 := Lib.hid hR2
          have HQ3 := Lib.hid q3
          clear hR2 q2 hgd HX hccx q3
          generalize cs[j] = c at cj HGD H1 hsz
          have hwq := q1.size
          have HQ1 := Lib.hid q1
          clear q1
          go_wp2_with (first
            | (go_at_call 30; refine H1.out.mono ?_; rintro e w3 ⟨rfl, hb3⟩; obtain ⟨v3, hrun, hoi, hlen, hback⟩ := (HQ3.out.below hb3).at (by unfold maxLen; omega) hsz; have HBK := Lib.hid hback; have hz3 := hb3.size; clear hback)
            | (at_builtin; refine wpList_append_own_at _ rfl _ _ 34 rfl (wo.heap.size + 2) 3 j0 (.int .i64 0) 1 8 Try.underlying34 HJ.out.1 HJ.out.2.1 HJ.out.2.2.1 HJ.out.2.2.2 rfl (by decide) _ _ _ rfl (hoi.1.alloc _) ⟨w3.heap.size, 0, none⟩ 1 1 [.int .i64 (j : Int)] rfl rfl (cell_one_new _ _ _) (by simp [Value.oneCell']) (by unfold maxLen; omega) (by omega) (by have := HQ3.out.lt; simp; omega) ?_; intro v' w4 hown' hgrow hnil hloc; obtain ⟨w5, hrun5, ho5, hg5⟩ := HBK.out w4 v' j ((World.grownBy_alloc _ _ _).trans hgrow) (hoi.appended hown' (WalkArith.wf_i64 (by omega))) (hloc.imp id (fun h => ⟨_, h, by simp⟩))))
          go_roundw
          case rel => exact ⟨j + 1, by omega, by go_num, R2_next HGD.out HR2.out hb3 hoi ((World.grownBy_alloc _ _ _).trans hgrow) hg5 ho5⟩
          case measure => simp [intOf]; omega
        · obtain ⟨W2, hW2⟩ : ∃ W2 : World, W2 = wr := ⟨_, rfl⟩
          rw [← hW2] at hR2 ⊢
          clear hW2
          have hje : j = cs.length := by omega
          have hR2 : R2 wo l (.slice la l.labs.length lc) cs cs.length W2 := hje ▸ hR2
          have HR2 := Lib.hid hR2
          have q3 := hR2.2.2
          clear hR2
          go_wp2_with (first
            | (go_at_call 32; refine (keys_call _ _).mono ?_; rintro e w' ⟨rfl, rfl⟩)
            | (go_at_call 31; refine (sorted_call2 q3 (by omega)).mono ?_; rintro e w3 ⟨vn, names, rfl, hky, hnl, hns, hot, hb3⟩; obtain ⟨an, capn, rfl⟩ := OwnsT.form hot))
          clear q3
          have hstr := hky.1
          have HNM := Lib.hid (keys_names hky)
          have HR3 := Lib.hid (R3_start (k := k) hB hG HR2.out hb3 hky hns hot)
          have HNS := Lib.hid hns
          have HSTR := Lib.hid hstr
          clear hky hns hot hb3 hstr hmm
          go_loopw [6, 66] (fun v i w3 => ∃ j : Nat, j ≤ names.length ∧ i = .int .i64 j ∧ R3 w W2 wo.heap.size W2.heap.size k l (.slice la l.labs.length lc) cs names st.1 (.slice an names.length capn) j v w3) (fun _ i _ => names.length - (intOf i).toNat)
          case atStart => exact ⟨0, Nat.zero_le _, rfl, HR3.out⟩
          case round =>
            clear HR3
            obtain ⟨j, hj3, rfl, hR3⟩ := hrel
            by_cases hjn : j < names.length
            · have hG3 := hR3.2.2.2.2.2.2.1
              obtain ⟨a3, cap3, hv3⟩ := hG3.len
              have hl3 : (st.1 ++ (names.take j).map (mkG k l cs)).length = st.1.length + j := by simp; omega
              rw [hl3] at hv3
              subst hv3
              clear hl3 hG3
              obtain ⟨gn, hgn, hgn2, cn, _⟩ := OwnsT.at hR3.2.2.2.2.2.1 hjn
              subst hgn
              have hnz := HNS.out _ (List.getElem_mem hjn)
              obtain ⟨nm, hnm⟩ : ∃ nm, names[j] = nm := ⟨_, rfl⟩
              rw [hnm] at cn hnz
              have HNJ := Lib.hid hnm
              clear hnm
              have h7 := hR3.2.2.2.2.2.2.2.1
              have HR3 := Lib.hid hR3
              have hw3 := hR3.1.size
              clear hR3
              go_wp2_with (first
                | (at_mapUpdate; refine wpList_update_F intLaw _ rfl _ _ _ 67 rfl Try.underlying67 W2.heap.size j _ rfl h7 (by unfold maxLen; omega) nm hnz rfl _ (WalkArith.wf_i64 (by omega)) rfl ?_; intro w4 ho4 hg4; obtain ⟨gi, ci, hrun, hrow, hM, L, hL, hLr, hLl, hLo⟩ := R3_mid HR3.out hjn HNJ.out HSTR.out hg4 (by first | rfl | simp) ho4; have HM := Lib.hid hM; have HL := Lib.hid hL; have HLR := Lib.hid hLr; have HROW := Lib.hid hrow; have HLL := Lib.hid hLl; have hw4 := hM.1.size; clear hM hL hLr hrow hLl ho4 hg4 h7)
                | (at_builtin; refine wpList_append_own _ rfl _ _ 30 rfl w.heap.size 36 i0 (.agg #[.int .i64 0, .string ⟨#[]⟩, .int .i64 0, .slice none 0 0]) 4 56 Try.underlying30 HI.out.1 HI.out.2.1 HI.out.2.2.1 HI.out.2.2.2 rfl (by decide) _ _ _ rfl (hLo.alloc _) ⟨w4.heap.size, 0, none⟩ 1 1 (gCell (mkG k l cs nm, .slice (some ⟨gi, 0, none⟩) (itemsTo l cs cs.length nm).length ci)) rfl rfl (cells_new _ _ _) (by simp [Value.oneCell', gCell]) (by unfold maxLen; omega) (by omega) (by simp; omega) ?_; intro v' w5 hown' hgrow _))
              go_roundw
              case rel => exact ⟨j + 1, by omega, by go_num, R3_last hjn HNJ.out HM.out HL.out HLR.out HLL.out hLo HROW.out hgrow hown'⟩
              case measure => simp [intOf]; omega
            · have hR4 : R4 w wo.heap.size W2.heap.size k l (.slice la l.labs.length lc) cs names st.1 st.2.1 st.2.1 _ wr := R4_start hR3 (by omega)
              clear hR3
              go_wp2_with fail
              go_loopw [18] (fun i w4 => ∃ j : Nat, st.2.1 ≤ j ∧ j ≤ st.1.length ∧ i = .int .i64 j ∧ R4 w wo.heap.size W2.heap.size k l (.slice la l.labs.length lc) cs names st.1 st.2.1 j u6 w4) (fun i _ => st.1.length - (intOf i).toNat)
              case atStart => exact ⟨st.2.1, Nat.le_refl _, hln2, rfl, hR4⟩
              case round =>
                clear hR4
                obtain ⟨j, hj1, hj2, rfl, hR4⟩ := hrel
                by_cases hjs : j < st.1.length
                · obtain ⟨g4, cap4, gi, ci, i, n, up, hv, hil, hhd, hn0, hnl, c3, ci0, c2, fz, hg4, hgi⟩ := R4_open hR4 hjs (HIT.out _ (List.getElem_mem hjs))
                  subst hv
                  obtain ⟨gc, oc, rfl, hgc, hccx⟩ := HX.out (by omega)
                  have cj : wr.cell? ⟨gc, oc + i, none⟩ = some (.string cs[i]) := (hR4.1.cell (p := ⟨gc, oc + i, none⟩) hgc).trans (hccx i hil)
                  obtain ⟨x0, x1, x2, x3, x4⟩ := box_of hR4.2.1
                  have hww := hR4.1.size
                  have HCL : Hid (∀ W, Below wr.heap.size wr W → Calls Try.prog 30 #[.agg #[.string l.name, .int .i64 l.pre, .slice la l.labs.length lc, .int .i64 l.min, .int .i64 l.cents], .string cs[i]] W fun e w5 => ∃ nm y, e = .returned (.string nm) ∧ (Instr.lookup 67 (.map (some W2.heap.size)) (.string nm) false).run Try.prog w5 = .ok (.int .i64 y) w5 ∧
                      R4 w wo.heap.size W2.heap.size k l (.slice la l.labs.length lc) cs names st.1 st.2.1 (j + 1) (.slice (some ⟨g4, 0, none⟩) (st.1.length + names.length) cap4) (w5.setCell ⟨g4, j * 4 + 2, none⟩ (.int .i64 y)) ∧ w5.cell? ⟨g4, j * 4 + 2, none⟩ = some (.int .i64 up) ∧ w5.frozen? ⟨g4, j * 4 + 2, none⟩ = false) := fun W hW => by
                    refine (HGR.out W (below_c hR4.1 hR4.1.size hW) cs[i] (List.getElem_mem hil)).mono ?_
                    rintro e w5 ⟨rfl, hb5⟩
                    have hb := below_c hW hW.size hb5
                    obtain ⟨y, hy1, hy2⟩ := R4_close hR4 hb hjs hj1 hil hhd HNM.out rfl (HSZ.out _ (List.getElem_mem hil))
                    exact ⟨_, y, rfl, hy1, hy2, (hb.cell (p := ⟨g4, _, none⟩) hg4).trans c2, (hb.frozen (p := ⟨g4, _, none⟩) hg4).trans fz⟩
                  clear HGR HSZ HX hccx hR4 hhd hnl
                  generalize cs[i] = c at cj HCL
                  go_wp2_with fail
                  go_region_with (go_at_call 30; refine (HCL.out _ (Below.refl _ wr).drew).mono ?_; rintro e w5 ⟨nm, y, rfl, hlk5, hR5, d2, dz⟩; have HR5 := Lib.hid hR5; clear hR5)
                  all_goals
                    go_wp2_with fail
                    go_roundw
                    case rel => exact ⟨j + 1, by omega, by omega, by go_num, HR5.out⟩
                    case measure => simp [intOf]; omega
                · have HOW : Hid (OwnsG wr w.heap.size u6 (gTo ls cs (k + 1)).1) := by
                    rw [HGT.out]
                    obtain rfl : j = st.1.length := by omega
                    exact R4_done hR4 HNM.out rfl hln2 HIX.out
                  have HBE : Hid (Value.int .i64 (st.1.length : Int) = .int .i64 ((gTo ls cs (k + 1)).2.1 : Nat)) := by rw [HGT.out]; exact rfl
                  have hBB := hR4.1
                  clear hR4
                  go_wp2_with fail
                  go_roundw
                  case rel => exact ⟨k + 1, by omega, by go_num, HBE.out, hBB, HOW.out⟩
                  case measure => simp [intOf]; omega
    · have HE : Hid (OwnsG wr w.heap.size u6 (gTo ls cs ls.length).1) := by
        have e : k = ls.length := by omega
        rw [e] at hG
        exact hG
      clear hG
      go_wp2_with fail
      go_ret2
      exact ⟨_, rfl, hB, HE.out⟩
end Go.Proofs.Ytdahgfopighhlaa
