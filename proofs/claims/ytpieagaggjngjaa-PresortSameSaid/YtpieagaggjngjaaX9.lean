/-
  PresortSame: the walk.
-/
import Derived.Test.YtpieagaggjngjaaX8
import Derived.Test.YtpieagaggjngjaaP28
import Derived.BigRegion
namespace Go.Proofs.Ytpieagaggjngjaa
open Go.RowKit Go.Sort
set_option linter.unusedVariables false
set_option maxRecDepth 100000
set_option maxHeartbeats 16000000 in
theorem same_walk (n : Int) (vl vc vs : Value) (x : Int) (ls : List Lev) (cs : List ByteArray) (w : World) (hx : 0 ≤ x ∧ x ≤ 65535) (hcl : cs.length ≤ 120) (h : HasPlan ls (mail25 cs)) (hM : MadeC #[.int .u32 n, vl, vc, vs, .int .i64 120] ls cs w) :
    Calls Try.prog 7 #[.int .u32 n, vl, vc, vs, .int .u16 x] w fun e w' => e = .returned (.bool true) ∧ Below w.heap.size w w' := by
  have HAW := Lib.hid (fun W => awake_any W)
  have HMD : Hid (MadeC #[.int .u32 n, vl, vc, vs, .int .i64 120] ls cs w) := hM
  have hlm : (mail25 cs).ps.length = cs.length := mailTo_len _ _
  have hpl := planM_len ls (mail25 cs)
  rw [hlm] at hpl
  obtain ⟨a, ha⟩ : ∃ a : Int, x.tmod 255 = a := ⟨_, rfl⟩
  obtain ⟨b, hb⟩ : ∃ a : Int, x.tmod 3 = a := ⟨_, rfl⟩
  have ha2 : 0 ≤ a ∧ a ≤ 254 := by rw [Int.tmod_eq_emod_of_nonneg hx.1] at ha; omega
  have hb2 : 0 ≤ b ∧ b ≤ 2 := by rw [Int.tmod_eq_emod_of_nonneg hx.1] at hb; omega
  have ha3 : IntKind.u8.wrap (1 + a) = 1 + a := by unfold IntKind.wrap; simp [IntKind.bits, IntKind.signed]; omega
  have hb3 : IntKind.u8.wrap (1 + b) = 1 + b := by unfold IntKind.wrap; simp [IntKind.bits, IntKind.signed]; omega
  have ha4 : IntKind.u16.wrap (1 + a) = 1 + a := by unfold IntKind.wrap; simp [IntKind.bits, IntKind.signed]; omega
  have hb4 : IntKind.u16.wrap (1 + b) = 1 + b := by unfold IntKind.wrap; simp [IntKind.bits, IntKind.signed]; omega
  obtain ⟨zs, hzs⟩ : ∃ zs, zs = planM ls (mail25 cs) := ⟨_, rfl⟩
  obtain ⟨ps, hps⟩ : ∃ ps, ps = (mail25 cs).ps := ⟨_, rfl⟩
  have HPL : Hid (∀ W al cl ap cp, RdLevs W (.slice al ls.length cl) ls → RdPces W (.slice ap cs.length cp) ps → Calls Try.prog 16 #[.slice al ls.length cl, .agg #[.int .u8 1, .int .u8 1, .string ⟨#[49, 48, 48, 48, 48]⟩, .slice ap cs.length cp]] W fun e w' => ∃ g, e = .returned (.tuple #[.slice (some ⟨g, 0, none⟩) cs.length cs.length, .int .i64 0]) ∧ Below W.heap.size W w' ∧ W.heap.size ≤ g ∧ IntsAt w' g zs) := fun W al cl ap cp hr hrp => by
    rw [hps] at hrp
    have := plan_of h hr hrp
    rw [hlm, ← hzs] at this
    exact this
  have HPO : Hid (∀ ps', OthTo x cs.length ps ps' → ∀ W al cl ap cp, RdLevs W (.slice al ls.length cl) ls → RdPces W (.slice ap cs.length cp) ps' → Calls Try.prog 16 #[.slice al ls.length cl, .agg #[.int .u8 (1 + a), .int .u8 (1 + b), .string ⟨#[90, 57]⟩, .slice ap cs.length cp]] W fun e w' => ∃ g, e = .returned (.tuple #[.slice (some ⟨g, 0, none⟩) cs.length cs.length, .int .i64 0]) ∧ Below W.heap.size W w' ∧ W.heap.size ≤ g ∧ IntsAt w' g zs) := fun ps' ho W al cl ap cp hr hrp => by
    have hol := ho.len
    rw [hps, ← hlm] at ho
    have := plan_of (oth_has hx (a := 1 + a) (b := 1 + b) (by omega) (by omega) h ho) hr hrp
    rw [oth_plan ho] at this
    dsimp only at this
    rw [hol, hps, hlm, ← hzs] at this
    exact this
  have hlp : ps.length = cs.length := by rw [hps]; exact hlm
  have hzl : zs.length = cs.length := by rw [hzs]; exact hpl
  have hpid : ∀ i (hi : i < ps.length), 0 ≤ ps[i].id ∧ ps[i].id ≤ 2000 := fun i hi => by
    have e : ps[i] = mailP i (cs.getD i ⟨#[]⟩) := by
      simp only [hps]
      unfold mail25 mailTo
      simp
    rw [e]
    have : i < cs.length := by omega
    constructor
    · show (0 : Int) ≤ 1 + (i : Int); omega
    · show 1 + (i : Int) ≤ 2000; omega
  have HPI := Lib.hid hpid
  have HZL := Lib.hid hzl
  have HLP := Lib.hid hlp
  unfold MadeC at HMD
  rw [← hps] at HMD
  clear hzs hps h hM hlm hpl hzl hlp hpid
  go_enter Try.func7, Try.ntmps7
  go_wp2_with (first
    | (go_at_call 10; refine (HAW.out _).mono ?_; rintro e w1 ⟨rfl, hb1⟩)
    | (go_at_call 11; refine (HMD.out _ hb1).mono ?_; rintro e w2 ⟨al, cl, ap, cp, rfl, hb2, hr2, hp2⟩; have hB2 : Below w.heap.size w w2 := hb1.trans (hb2.mono hb1.size); (have hA2 : Below w2.heap.size w2 (w2.alloc (.cells #[.int .u8 1, .int .u8 1, .string ⟨#[49, 48, 48, 48, 48]⟩, .slice ap cs.length cp] 28)) := (Below.refl _ w2).alloc (Nat.le_refl _) _))
    | (go_at_call 19; refine (copyMailing_any (RdPces.below hp2 hA2) (by have := HLP.out; omega)).mono ?_; rintro e w3 ⟨vo, rfl, hb3, ho3⟩; obtain ⟨a3, c3, hvo⟩ := ho3.form; rw [HLP.out] at hvo; subst hvo; (have hz3 : w2.heap.size < w3.heap.size := by have := hb3.size; simp at this; omega); (have hn3 := (hb3.block w2.heap.size (by simp)).trans (alloc_new w2 _)); (have hA3 : Below w2.heap.size w2 w3 := hA2.trans (hb3.mono hA2.size))))
  obtain ⟨w4, hw4⟩ : ∃ w4, w4 = w3.alloc (.cells #[.int .u8 (1 + a), .int .u8 (1 + b), .string ⟨#[90, 57]⟩, .slice a3 cs.length c3] 28) := ⟨_, rfl⟩
  have ho4 : OwnsP w4 (w2.heap.size + 1) (.slice a3 cs.length c3) ps := by
    have := World.ownsRow.mono (row_below6 ho3 ((Below.refl _ w3).alloc (Nat.le_refl _) (.cells #[.int .u8 (1 + a), .int .u8 (1 + b), .string ⟨#[90, 57]⟩, .slice a3 cs.length c3] 28))) (show w2.heap.size + 1 ≤ _ by rw [World.size_alloc]; exact Nat.le_refl _)
    rw [hw4]; exact this
  have hm4 : w4.heap[w3.heap.size]? = some (.cells #[.int .u8 (1 + a), .int .u8 (1 + b), .string ⟨#[90, 57]⟩, .slice a3 cs.length c3] 28 (0, 0)) := by rw [hw4]; exact alloc_new _ _
  have hn4 : w4.heap[w2.heap.size]? = some (.cells #[.int .u8 1, .int .u8 1, .string ⟨#[49, 48, 48, 48, 48]⟩, .slice ap cs.length cp] 28 (0, 0)) := by rw [hw4]; exact (Below.heap_alloc _ _ _ hz3).trans hn3
  have hA4 : Below w2.heap.size w2 w4 := by rw [hw4]; exact hA3.alloc hA3.size _
  have hz4 : w3.heap.size < w4.heap.size := by rw [hw4, World.size_alloc]; omega
  rw [← hw4]
  have HB2 := Lib.hid hB2
  have HR2 := Lib.hid hr2
  have HP2 := Lib.hid hp2
  have HA4 := Lib.hid hA4
  have HN4 := Lib.hid hn4
  clear hw4 hb1 hB2 hb2 hr2 hp2 hA2 hb3 ho3 hn3 hA3 hA4 hn4 HAW HMD
  go_loopw [46] (fun i wx => ∃ (k : Nat) (ps' : List Pce), k ≤ cs.length ∧ i = .int .i64 k ∧ wx.heap[w3.heap.size]? = some (.cells #[.int .u8 (1 + a), .int .u8 (1 + b), .string ⟨#[90, 57]⟩, .slice a3 cs.length c3] 28 (0, 0)) ∧ Below (w2.heap.size + 1) w4 wx ∧ OwnsP wx (w2.heap.size + 1) (.slice a3 cs.length c3) ps' ∧ OthTo x k ps ps') (fun i _ => cs.length - (intOf i).toNat)
  case atStart => exact ⟨0, ps, Nat.zero_le _, rfl, hm4, Below.refl _ _, ho4, OthTo.zero _ _⟩
  case round =>
    clear hm4 ho4
    obtain ⟨wo, hwo⟩ : ∃ x, x = wr := ⟨_, rfl⟩
    subst hwo
    obtain ⟨k, ps', hk, rfl, hm, hB, hO, hoth⟩ := hrel
    have hol := hoth.len
    have HM := Lib.hid hm
    have HO := Lib.hid hO
    have HB := Lib.hid hB
    have HOT := Lib.hid hoth
    have HOL := Lib.hid hol
    have c3' := cell_of_row _ _ 3 _ _ _ hm
    simp only [List.getElem?_toArray, List.getElem?_cons_succ, List.getElem?_cons_zero] at c3'
    by_cases hlt : k < cs.length
    · have hkp : k < ps.length := by rw [HLP.out]; exact hlt
      have hkp' : k < ps'.length := by omega
      have hol5 := hoth.old k hkp hkp' (Nat.le_refl _)
      rcases Joins.ownsRow_forms hO with ⟨hv, hpn⟩ | ⟨g, cap, hv⟩
      · injection hv with _ hv2 _
        omega
      · injection hv with hv1 hv2 hv3
        subst hv1
        subst hv3
        clear hv2
        have hO' : wo.ownsRow (w2.heap.size + 1) 57 5 (.slice (some ⟨g, 0, none⟩) cs.length c3) cs.length (ps'.flatMap pceC) := by
          have h := hO
          unfold OwnsP at h
          rw [hol, HLP.out] at h
          exact h
        have hgl := hO'.lt g rfl
        have cj : ∀ j, j < 5 → wo.cell? ⟨g, k * 5 + j, none⟩ = (pceC ps'[k])[j]? := fun j hj => by rw [hO'.cellAt (k * 5 + j) (by omega), flat_pce ps' k j hkp' hj]
        have d0 := cj 0 (by omega)
        have d1 := cj 1 (by omega)
        have d3 := cj 3 (by omega)
        have d4 := cj 4 (by omega)
        rw [hol5] at d0 d1 d3 d4
        simp only [pceC, Nat.add_zero, List.getElem?_cons_zero, List.getElem?_cons_succ] at d0 d1 d3 d4
        have y0 := hO'.frozenAt (k * 5)
        have y1 := hO'.frozenAt (k * 5 + 1)
        have y3 := hO'.frozenAt (k * 5 + 3)
        have y4 := hO'.frozenAt (k * 5 + 4)
        obtain ⟨i0, i1⟩ := HPI.out k hkp
        obtain ⟨id, hid⟩ : ∃ id, id = ps[k].id := ⟨_, rfl⟩
        rw [← hid] at d0 i0 i1
        have HID := Lib.hid hid
        have hkx : 0 ≤ (k : Int) * x ∧ (k : Int) * x ≤ 120 * 65535 := ⟨Int.mul_nonneg (Int.natCast_nonneg _) hx.1, Int.mul_le_mul (by omega) hx.2 hx.1 (by decide)⟩
        obtain ⟨kx, ekx⟩ : ∃ kx, (k : Int) * x = kx := ⟨_, rfl⟩
        rw [ekx] at hkx
        obtain ⟨gr, egr⟩ : ∃ gr, kx.tmod 50000 = gr := ⟨_, rfl⟩
        have hgr : 0 ≤ gr ∧ gr < 50000 := by rw [Int.tmod_eq_emod_of_nonneg hkx.1] at egr; omega
        obtain ⟨r16, er⟩ : ∃ r, (k : Int).tmod 16 = r := ⟨_, rfl⟩
        have hr16 : 0 ≤ r16 ∧ r16 < 16 := by rw [Int.tmod_eq_emod_of_nonneg (Int.natCast_nonneg _)] at er; omega
        have hr16n : ¬ r16 < 0 := by omega
        have hne : w3.heap.size ≠ g := fun e => own_not hO' (T := 28) (by decide) g rfl _ _ (by rw [← e]; exact hm)
        have HO5 := Lib.hid hol5
        have HKP := Lib.hid hkp'
        clear cj hO hO' hm hB hoth hol5 hid
        go_wp2_with fail
        go_region
        go_wp2_with fail
        go_roundw
        case rel =>
          refine ⟨k + 1, ps'.set k ⟨3 * id + x, x, ps[k].code, 1 + gr, decide (0 < bits .and .u16 (x / 2 ^ r16.toNat) 1)⟩, by omega, by go_num, ?_, ?_, ?_, ?_⟩
          · exact (Below.heap_setCell _ _ _ _ hne).trans ((Below.heap_setCell _ _ _ _ hne).trans ((Below.heap_setCell _ _ _ _ hne).trans ((Below.heap_setCell _ _ _ _ hne).trans HM.out)))
          · exact ((((HB.out.setCell (p := ⟨g, _, none⟩) hgl.1 _).setCell (p := ⟨g, _, none⟩) hgl.1 _).setCell (p := ⟨g, _, none⟩) hgl.1 _).setCell (p := ⟨g, _, none⟩) hgl.1 _).drew
          · have := OwnsP.put4 HO.out k HKP.out (3 * id + x) x (1 + gr) (decide (0 < bits .and .u16 (x / 2 ^ r16.toNat) 1))
            rw [HO5.out] at this
            exact this
          · rw [HID.out]
            exact HOT.out.step hkp _ (by omega)
        case measure => simp [intOf]; omega
    · obtain rfl : k = cs.length := by omega
      have hA : Below w2.heap.size w2 wo := HA4.out.trans (hB.mono (Nat.le_succ _))
      obtain ⟨m0, m1, m2, m3⟩ := cells4b ((hB.block _ (Nat.lt_succ_self _)).trans HN4.out)
      have hzo : w3.heap.size < wo.heap.size := (Array.getElem?_eq_some_iff.1 hm).1
      have hrp := RdPces.of_owns hO
      have HRP := Lib.hid hrp
      have HA := Lib.hid hA
      clear hrp hA hO hoth hol c3'
      go_wp2_with (first
        | (go_at_call 16; refine (HPO.out ps' HOT.out _ al cl a3 c3 (RdLevs.below HR2.out (HA.out.trans (hb6.mono HA.out.size))) (RdPces.below HRP.out hb6)).mono ?_; rintro e w7 ⟨g7, rfl, hb7, hg7, hi7⟩)
        | (go_at_call 16; refine (HPL.out _ al cl ap cp (RdLevs.below HR2.out HA.out) (RdPces.below HP2.out HA.out)).mono ?_; rintro e w6 ⟨g6, rfl, hb6, hg6, hi6⟩; obtain ⟨o0, o1, o2, o3⟩ := cells4b ((hb6.block _ hzo).trans HM.out))
        | (go_at_call 20; refine (sameInts_true zs _ _ _ ((rd_plan hi6 HZL.out).below hb7) (rd_plan hi7 HZL.out) (by have := HZL.out; omega)).mono ?_; rintro e w8 ⟨rfl, hb8⟩; (have A6 := HA.out.trans (hb6.mono HA.out.size)); (have A7 := A6.trans (hb7.mono A6.size)); (have A8 := A7.trans (hb8.mono A7.size)); (have HBE : Hid (Below w.heap.size w w8) := HB2.out.trans (A8.mono HB2.out.size)); clear A6 A7 A8))
      go_ret
      exact ⟨by simp, HBE.out⟩
theorem presortSame_walk (n x : Int) (least cents l : List UInt8) (vl vc vs : Value) (w : World) (hn0 : 0 ≤ n) (hn1 : n < 4294967296) (hx0 : 0 ≤ x) (hx1 : x < 65536) (hrl : RdBytes w vl least) (hrc : RdBytes w vc cents) (hrs : RdBytesC w vs l)
    (hll : least.length ≤ maxLen) (hcl : cents.length ≤ maxLen) (hsl : l.length ≤ maxLen) :
    Calls Try.prog 7 #[.int .u32 n, vl, vc, vs, .int .u16 x] w fun e w' => e = .returned (.bool true) ∧ Below w.heap.size w w' :=
  same_walk n vl vc vs x _ _ w ⟨hx0, by omega⟩ (codesOf_len l 120) (made_has _ _ _ _) (made_c hn0 hn1 hrl hrc hrs hll hcl hsl (by decide))
end Go.Proofs.Ytpieagaggjngjaa
