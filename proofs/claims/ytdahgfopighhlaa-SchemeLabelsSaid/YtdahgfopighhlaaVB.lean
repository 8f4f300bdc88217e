/-
  The walk of letterbaglaw23.SchemeLabels.
-/
import Derived.Test.YtdahgfopighhlaaVA
namespace Go.Proofs.Ytdahgfopighhlaa
open Go.RowKit
set_option linter.unusedVariables false
set_option maxRecDepth 100000
/-- Two codes of five digits, of two numbers; where they lie. -/
theorem codes2b (a b : UInt8) (w W : World) (hw : Below w.heap.size w W) : Calls Try.prog 12 #[.slice (some ⟨W.heap.size, 0, none⟩) 2 2] (W.alloc (.cells #[.int .u8 (a.toNat : Int), .int .u8 (b.toNat : Int)] 5)) fun e w' => ∃ g cap, e = .returned (.slice (some ⟨g, 0, none⟩) 2 cap) ∧ Below w.heap.size w w' ∧ Below W.heap.size W w' ∧ W.heap.size < g ∧ g < w'.heap.size ∧ w'.cell? ⟨g, 0, none⟩ = some (.string (code5 a)) ∧ w'.cell? ⟨g, 1, none⟩ = some (.string (code5 b)) := by
  refine (codes_any [a, b] _ _ (rd_bytes (T := 5) [a, b] (alloc_new W _)) (by show 2 ≤ maxLen; decide)).mono ?_
  rintro e w' ⟨v, rfl, hb, ho⟩
  have ho' : OwnsT w' (W.alloc (.cells #[.int .u8 (a.toNat : Int), .int .u8 (b.toNat : Int)] 5)).heap.size v [code5 a, code5 b] := ho
  obtain ⟨g, cap, rfl⟩ := Joins.ownsRow_form ho' (by show 0 < 2; decide)
  have h := ho'.lt g rfl
  exact ⟨g, cap, rfl, below_ac hw hw.size hb, below_ac (Below.refl _ W) (Nat.le_refl _) hb, by have := h.1; simp at this; omega, h.2, owns_cell ho' (k := 0) (by show 0 < 2; decide), owns_cell ho' (k := 1) (by show 1 < 2; decide)⟩
theorem OwnsLv.at {w : World} {base g cap n : Nat} {ls : List Lev} (h : OwnsLv w base (.slice (some ⟨g, 0, none⟩) n cap) ls) {i : Nat} (hi : i < ls.length) : ∃ a c, RdLabs w (.slice a ls[i].labs.length c) ls[i].labs ∧ LevAt w g (i * 5) ls[i] (.slice a ls[i].labs.length c) := by
  obtain ⟨a, cap', hv, hc⟩ := h.reads
  obtain ⟨g', off, ha, _, hcc⟩ := hc (by omega)
  obtain ⟨sv, h1, h2⟩ := hcc i hi
  injection hv with hv1 _ _
  rw [ha] at hv1
  injection hv1 with hv1
  injection hv1 with hv1 hv2 _
  subst hv1
  rw [← hv2, Nat.zero_add] at h2
  obtain ⟨a, c, rfl, h3⟩ := h1
  exact ⟨a, c, ⟨a, c, rfl, h3⟩, h2⟩
theorem updTo_skip (p : ByteArray) (ls : List Lev) (i : Nat) (h : i < ls.length) (h3 : ls[i].pre ≠ 3) : updTo p ls (i + 1) = updTo p ls i := by
  rw [updTo_succ p ls i h]
  have e : updL p ls[i] = ls[i] := by unfold updL; rw [if_neg h3]
  have e2 := updTo_get p ls i h
  rw [e, ← e2, List.set_getElem_self]
theorem updTo_put (p : ByteArray) (ls : List Lev) (i : Nat) (h : i < ls.length) (h3 : ls[i].pre = 3) : updTo p ls (i + 1) = (updTo p ls i).set i { ls[i] with labs := insL p ls[i].labs } := by
  rw [updTo_succ p ls i h]
  congr 1
  unfold updL
  rw [if_pos h3]
/-- The last of labels of the call's own. -/
theorem lab_last {w : World} {base : Nat} {a : Option Addr} {n cap : Nat} {st : List Lab} (h : OwnsLab w base (.slice a n cap) st) (h0 : 0 < st.length) : ∃ g x, a = some ⟨g, 0, none⟩ ∧ st.getLast? = some x ∧ g < w.heap.size ∧ w.cell? ⟨g, (st.length - 1) * 2, none⟩ = some (.string x.pre) := by
  obtain ⟨a', cap', hv, hc⟩ := RdLabs.of_owns h
  rcases Joins.ownsRow_forms h with ⟨e, _⟩ | ⟨g, cap2, e⟩
  · injection e with e1 e2 e3
    obtain ⟨g, off, rfl, _⟩ := hc h0
    injection hv with hv1
    rw [e1] at hv1
    cases hv1
  · injection e with e1 e2 e3
    subst e1
    obtain ⟨g', off, ha, hg, hcc⟩ := hc h0
    injection hv with hv1
    rw [ha] at hv1
    injection hv1 with hv1
    injection hv1 with hv1 hv2
    subst hv1
    subst hv2
    have h1 := (hcc (st.length - 1) (by omega)).1
    rw [Nat.zero_add] at h1
    exact ⟨g, st[st.length - 1]'(by omega), rfl, by rw [List.getLast?_eq_getElem?, List.getElem?_eq_getElem (by omega)], hg, h1⟩
theorem endB_some {p : ByteArray} {st : List Lab} {x : Lab} (h : st.getLast? = some x) : endB p st = ltB x.pre p := by unfold endB; rw [h]
theorem updL_pre (p : ByteArray) (l : Lev) : (updL p l).pre = l.pre := by unfold updL; split <;> rfl
theorem path_upd (ls : List Lev) (p : ByteArray) (v : Value) (c : ByteArray) (w W : World) (hr : RdLevs W v (ls.map (updL p))) (h : rightB (ls.map (updL p)) = true) (hc : codeB c = true) (hp : ∀ l ∈ ls, l.pre ≤ c.size) (hw : Below w.heap.size w W) :
    Calls Try.prog 17 #[v, .string c] W fun e w' => ∃ g cap, e = .returned (.tuple #[.slice (some ⟨g, 0, none⟩) ls.length cap, .int .i64 0]) ∧ Below w.heap.size w w' ∧ Below W.heap.size W w' ∧ g < w'.heap.size ∧ ∀ i (hi : i < ls.length), w'.cell? ⟨g, i, none⟩ = some (.string (grpOf (updL p ls[i]) c)) := by
  refine (path_ok (ls.map (updL p)) v c w W hr h hc (fun l hl => ?_) hw).mono ?_
  · obtain ⟨x, hx, rfl⟩ := List.mem_map.1 hl
    rw [updL_pre]; exact hp x hx
  · rintro e w' ⟨g, cap, rfl, h1, h2, h3, h4⟩
    rw [List.length_map]
    exact ⟨g, cap, rfl, h1, h2, h3, fun i hi => by have := h4 i (by rw [List.length_map]; exact hi); rwa [List.getElem_map] at this⟩
/-- The box of a label is kept while labels grow. -/
theorem box_kept {wo wr w2 : World} {a : Option Addr} {n cap : Nat} {st : List Lab} {x y : ByteArray} {o2 : Obj} {T : TypeId} (hown : OwnsLab wr wo.heap.size (.slice a n cap) st) (hb : Below wo.heap.size wo wr) (hg : ((wr.alloc (.cells #[.string x, .string y] T)).alloc o2).grownBy w2 (Value.slice a n cap).ownBlock) :
    w2.cell? ⟨wr.heap.size, 0, none⟩ = some (.string x) ∧ w2.cell? ⟨wr.heap.size, 1, none⟩ = some (.string y) ∧ wr.heap.size + 1 < w2.heap.size ∧ wo.heap.size ≤ w2.heap.size ∧ Below wo.heap.size wo w2 := by
  have h1 : ((wr.alloc (.cells #[.string x, .string y] T)).alloc o2).heap[wr.heap.size]? = some (.cells #[.string x, .string y] T (0, 0)) := by
    have hb1 : Below (wr.alloc (.cells #[.string x, .string y] T)).heap.size (wr.alloc (.cells #[.string x, .string y] T)) ((wr.alloc (.cells #[.string x, .string y] T)).alloc o2) := (Below.refl _ _).alloc (Nat.le_refl _) _
    exact (hb1.block _ (by simp)).trans (alloc_new wr _)
  have h2 : w2.heap[wr.heap.size]? = some (.cells #[.string x, .string y] T (0, 0)) := by
    rw [← h1]
    refine hg.block _ (by simp; omega) (fun e => ?_)
    have := (hown.lt _ e.symm).2
    omega
  have h3 := hg.size
  simp at h3
  have h4 := hb.size
  exact ⟨cell_of_row _ _ 0 _ _ _ h2, cell_of_row _ _ 1 _ _ _ h2, by omega, by omega, ((hb.alloc hb.size _).alloc (by simp; omega) _).grown hg (by simp; omega) (fun r e => (hown.lt r e).1)⟩
theorem lab_below {wo w2 w3 : World} {v : Value} {n : Nat} {xs : List Value} {o : Obj} (hb : Below wo.heap.size wo w2) (hown : w2.ownsRow wo.heap.size 47 2 v n xs) (hg : (w2.alloc o).grownBy w3 v.ownBlock) : Below wo.heap.size wo w3 :=
  (hb.alloc hb.size _).grown hg (by have := hb.size; simp; omega) (fun r e => (hown.lt r e).1)
theorem lab_below2 {wo wr w2 : World} {v : Value} {n : Nat} {xs : List Value} {o o2 : Obj} (hb : Below wo.heap.size wo wr) (hown : wr.ownsRow wo.heap.size 47 2 v n xs) (hg : ((wr.alloc o).alloc o2).grownBy w2 v.ownBlock) : Below wo.heap.size wo w2 :=
  ((hb.alloc hb.size _).alloc (by have := hb.size; simp; omega) _).grown hg (by have := hb.size; simp; omega) (fun r e => (hown.lt r e).1)
/-- What stands behind the store of the labels. -/
theorem put_facts {w W2 wo w2 : World} {p cb : ByteArray} {ls : List Lev} {k gy gc ycap n2 : Nat} {v u0 : Value} {st : List Lab} {l : Lev} (hB : Below w.heap.size w wo) (hb2 : Below W2.heap.size W2 wo) (hwW : w.heap.size ≤ W2.heap.size) (hoy : OwnsLv wo W2.heap.size (.slice (some ⟨gy, 0, none⟩) ls.length ycap) (updTo p ls k)) (hput : updTo p ls (k + 1) = (updTo p ls k).set k { l with labs := insL p l.labs }) (hlt : k < ls.length) (hget : (updTo p ls k)[k]'(by rw [updTo_len]; exact hlt) = l)
    (hgy : gy < wo.heap.size) (hyc : ¬ gc = gy) (hc : wo.cell? ⟨gc, 1, none⟩ = some (.string cb)) (hgc : gc < wo.heap.size) (t2 : wo.cell? ⟨gy, k * 5 + 2, none⟩ = some u0) (hb : Below wo.heap.size wo w2) (hown : w2.ownsRow wo.heap.size 47 2 v n2 (st.flatMap labCell)) (hn2 : n2 = st.length) (heq : insL p l.labs = st) :
    w2.cell? ⟨gy, k * 5 + 2, none⟩ = some u0 ∧ w2.frozen? ⟨gy, k * 5 + 2, none⟩ = false ∧ gy < w2.heap.size ∧
    Hid (Below w.heap.size w (w2.setCell ⟨gy, k * 5 + 2, none⟩ v) ∧ Below W2.heap.size W2 (w2.setCell ⟨gy, k * 5 + 2, none⟩ v) ∧ OwnsLv (w2.setCell ⟨gy, k * 5 + 2, none⟩ v) W2.heap.size (.slice (some ⟨gy, 0, none⟩) ls.length ycap) (updTo p ls (k + 1)) ∧ (w2.setCell ⟨gy, k * 5 + 2, none⟩ v).cell? ⟨gc, 1, none⟩ = some (.string cb) ∧ gc < (w2.setCell ⟨gy, k * 5 + 2, none⟩ v).heap.size ∧ gy < (w2.setCell ⟨gy, k * 5 + 2, none⟩ v).heap.size) := by
  subst hn2
  have h2 := hoy.below hb
  have hs := hb.size
  have hs2 := hb2.size
  obtain ⟨z1, _, z3, z4, z5⟩ := h2.put k 2 (by rw [updTo_len]; exact hlt) (by decide) { l with labs := insL p l.labs } v (.inr ⟨rfl, by dsimp only; rw [heq]; exact owns_base hown hs2, fun sv => by rw [hget]; rfl⟩)
  have hsz : (w2.setCell ⟨gy, k * 5 + 2, none⟩ v).heap.size = w2.heap.size := by simp
  refine ⟨(hb.cell (p := ⟨gy, k * 5 + 2, none⟩) hgy).trans t2, z3, z5, ?_, ?_, ?_, ?_, ?_, ?_⟩
  · exact (below_c hB hB.size hb).setCell (p := ⟨gy, k * 5 + 2, none⟩) (by show w.heap.size ≤ gy; omega) v
  · exact (below_c hb2 hb2.size hb).setCell (p := ⟨gy, k * 5 + 2, none⟩) z4 v
  · rw [hput]; exact z1
  · rw [World.cell?_setCell_other _ _ _ _ (by intro h; simp only [Addr.mk.injEq] at h; omega)]
    exact (hb.cell (p := ⟨gc, 1, none⟩) hgc).trans hc
  · rw [hsz]; omega
  · rw [hsz]; omega
set_option maxHeartbeats 16000000 in
theorem schemeLabels_walk (n : Int) (a b : UInt8) (w : World) (hn0 : 0 ≤ n) (hn1 : n < 4294967296) :
    Calls Try.prog 5 #[.int .u32 n, .int .u8 (a.toNat : Int), .int .u8 (b.toNat : Int)] w fun e w' => e = .returned (.bool true) ∧ Below w.heap.size w w' := by
  have HRT := Lib.hid (made_right (bitsOf n) [] [])
  have HPR := Lib.hid (made_pre (bitsOf n) [] [])
  have HUP := Lib.hid (fun h => @upd_right (bitsOf n) ((code5 a).extract 0 3) (pre_27 a) h)
  have HMD := Lib.hid (fun W (h : Below w.heap.size w W) => bytes_made w W hn0 hn1 h)
  have HL6 : Hid (∀ l ∈ madeR (bitsOf n) [] [], l.labs.length ≤ 200) := fun l hl => by
    obtain ⟨i, hi, rfl⟩ := List.mem_iff_getElem.1 hl
    obtain ⟨_, _, ⟨hs, _, _, _⟩, _⟩ := rightB_iff.1 (made_right (bitsOf n) [] [])
    have h1 := sumTo_succ (madeR (bitsOf n) [] []) i hi
    have h2 := sumTo_mono (madeR (bitsOf n) [] []) (show i + 1 ≤ (madeR (bitsOf n) [] []).length from hi)
    omega
  generalize madeR (bitsOf n) [] [] = ls at HRT HPR HMD HUP HL6
  obtain ⟨hl1, hl6⟩ := right_len HRT.out
  have HCB := Lib.hid (code5_ok b)
  have HPB : Hid (∀ l ∈ ls, l.pre ≤ (code5 b).size) := fun l hl => by rw [code5_size]; exact HPR.out l hl
  have HC2 := Lib.hid (fun W (h : Below w.heap.size w W) => codes2b a b w W h)
  have hsa := code5_size a
  have hsb := code5_size b
  have hps : ((code5 a).extract 0 3).size = 3 := by rw [ByteArray.size_extract, code5_size]; rfl
  generalize code5 a = ca at HC2 HUP hsa hps
  generalize code5 b = cb at HC2 HCB HPB hsb
  have hsa3 : (3 : Int) ≤ (ca.size : Int) := by omega
  have hsb3 : (3 : Int) ≤ (cb.size : Int) := by omega
  have hsa4 : 3 ≤ ca.size := by omega
  have hsb4 : 3 ≤ cb.size := by omega
  have hsb5 : cb.size ≤ 5 := by omega
  clear hsa hsb
  obtain ⟨iB, hiB⟩ := info_parts Try.infoB
  have HIB := Lib.hid hiB
  clear hiB
  go_enter Try.func5, Try.ntmps5
  go_wp2_with fail
  refine (awake_any _).mono ?_
  rintro e W1 ⟨rfl, hB1⟩
  go_wp2_with fail
  refine (HMD.out _ hB1).mono ?_
  rintro e W2 ⟨vx, rfl, hB2, _, hownx⟩
  have HX := Lib.hid hownx.reads
  have hwW2 := hB2.size
  clear hB1 hownx
  go_wp2_with fail
  refine (HMD.out _ hB2).mono ?_
  rintro e W3 ⟨vy, rfl, hB3, hb3, howny⟩
  obtain ⟨gy, ycap, rfl, hy1, hy2, hy3⟩ := made_lies howny (by omega)
  have HY := Lib.hid howny
  have hgy2 : W2.heap.size ≤ gy := by
    obtain ⟨L, _, _, hLo⟩ := howny
    exact (hLo.lt gy rfl).1
  have Hb3 := Lib.hid hb3
  clear hB2 howny HMD hb3
  go_wp2_with fail
  refine (HC2.out _ hB3).mono ?_
  rintro e W4 ⟨gc, cc, rfl, hB4, hb4, hgc1, hgc2, hc0, hc1⟩
  have HY4 := Lib.hid (HY.out.below hb4)
  have Hb4 := Lib.hid (below_c Hb3.out Hb3.out.size hb4)
  have hcy : ¬ gc = gy := by omega
  have hyc : ¬ gy = gc := by omega
  have hgy4 : gy < W4.heap.size := by have := hb4.size; omega
  clear hB3 hb4 HC2 HY Hb3 hy1 hy2 hy3
  go_wp2_with fail
  generalize ca.extract 0 3 = p at HUP hps ⊢
  have hst : OwnsLv W4 W2.heap.size (.slice (some ⟨gy, 0, none⟩) ls.length ycap) (updTo p ls 0) := HY4.out
  clear HY4 hc0
  go_loopw [37] (fun i wr => ∃ k : Nat, k ≤ ls.length ∧ i = .int .i64 k ∧ Below w.heap.size w wr ∧ Below W2.heap.size W2 wr ∧ OwnsLv wr W2.heap.size (.slice (some ⟨gy, 0, none⟩) ls.length ycap) (updTo p ls k) ∧ wr.cell? ⟨gc, 1, none⟩ = some (.string cb) ∧ gc < wr.heap.size ∧ gy < wr.heap.size ∧ Hid (∀ j (hj : j < ls.length), j < k → ls[j].pre = 3 → ∀ o ∈ ls[j].labs, o.pre ≠ p)) (fun i _ => ls.length - (intOf i).toNat)
  case atStart => exact ⟨0, Nat.zero_le _, rfl, hB4, Hb4.out, hst, hc1, hgc2, hgy4, fun j hj h => by omega⟩
  case round =>
    clear hst hc1 hgc2 hgy4 hB4 Hb4
    obtain ⟨k, hk, rfl, hB, hb2, hoy, hc1, hgc, hgy, HNP⟩ := hrel
    by_cases hlt : k < ls.length
    · have hlt' : k < (updTo p ls k).length := by rw [updTo_len]; exact hlt
      obtain ⟨la, lc, hrl, hat⟩ := hoy.at hlt'
      rw [updTo_get p ls k hlt] at hrl hat
      obtain ⟨t0, t1, t2, t3, t4⟩ := hat
      have hl200 := HL6.out _ (List.getElem_mem hlt)
      by_cases h3 : ls[k].pre = 3
      · have hd : (ls[k].pre != 3) = false := by simp [h3]
        have HPUT := Lib.hid (updTo_put p ls k hlt h3)
        have HGET := Lib.hid (updTo_get p ls k hlt)
        have HOY := Lib.hid hoy
        have HRL := Lib.hid hrl
        have hlq : ∀ o ∈ ls[k].labs, o.pre ≠ p → True := fun _ _ _ => trivial
        clear h3 hrl hoy hlq t0 t3 t4 HL6
        have HN2 : Hid ((∀ o ∈ ls[k].labs, o.pre ≠ p) → ∀ j (hj : j < ls.length), j < k + 1 → ls[j].pre = 3 → ∀ o ∈ ls[j].labs, o.pre ≠ p) := fun h j hj hjk => by
          by_cases e : j = k
          · subst e; exact fun _ => h
          · exact HNP.out j hj (by omega)
        generalize ls[k] = l at hd HPUT HGET HRL t1 t2 hl200 HN2
        obtain ⟨wo, hwo⟩ : ∃ wo : World, wo = wr := ⟨_, rfl⟩
        subst hwo
        go_wp2_with fail
        go_loopw [12, 52] (fun v j wi => ∃ m : Nat, m ≤ l.labs.length ∧ j = .int .i64 m ∧ OwnsLab wi wo.heap.size v (insTo p l.labs m) ∧ Below wo.heap.size wo wi ∧ Hid (∀ o ∈ l.labs.take m, o.pre ≠ p)) (fun _ j _ => l.labs.length - (intOf j).toNat)
        case atStart => exact ⟨0, Nat.zero_le _, rfl, OwnsLab.nil _ _, Below.refl _ _, fun o h => by simp at h⟩
        case round =>
          obtain ⟨m, hm, rfl, hown, hbi, HNM⟩ := hrel
          have hil := insTo_len p l.labs m hm
          by_cases hml : m < l.labs.length
          · obtain ⟨_, _, hv, hcl⟩ := HRL.out
            injection hv with hv _ _
            obtain ⟨gl, ol, hla, hgl, hcc⟩ := hcl (by omega)
            rw [hla] at hv
            subst hv
            obtain ⟨u0, u1⟩ := hcc m hml
            have v0 : wr.cell? ⟨gl, ol + m * 2, none⟩ = some (.string l.labs[m].pre) := (hbi.cell (p := ⟨gl, ol + m * 2, none⟩) hgl).trans u0
            have v1 : wr.cell? ⟨gl, ol + m * 2 + 1, none⟩ = some (.string l.labs[m].grp) := (hbi.cell (p := ⟨gl, ol + m * 2 + 1, none⟩) hgl).trans u1
            have HSU := Lib.hid (insTo_succ p l.labs m hml)
            have HNS : Hid (l.labs[m].pre ≠ p → ∀ o ∈ l.labs.take (m + 1), o.pre ≠ p) := fun h o ho => by
              rw [List.take_succ_eq_append_getElem hml] at ho
              rcases List.mem_append.1 ho with ho | ho
              · exact HNM.out o ho
              · rw [List.mem_singleton.1 ho]; exact h
            have hwsz : wo.heap.size ≤ wr.heap.size := hbi.size
            clear hcc hcl u0 u1 hla HNM HRL
            obtain ⟨va, vcap, hform⟩ := OwnsLab.form hown
            rw [hform] at hown ⊢
            clear hform
            have HINS : Hid (∀ st o, insA p st o = if ltB p o.pre && endB p st then st ++ [⟨p, ownG⟩] else st) := fun st o => rfl
            generalize l.labs[m] = o at v0 v1 HSU HNS
            generalize insTo p l.labs m = st at hown HSU hil
            have hbe := ba_eq o.pre p
            by_cases heq : o.pre = p
            · rw [decide_eq_true heq] at hbe
              clear HSU HNS heq HINS
              go_wp2_with fail
              go_ret
              exact ⟨rfl, below_c hB hB.size (hbi.alloc hbi.size _)⟩
            · rw [decide_eq_false heq] at hbe
              have HNT := Lib.hid (HNS.out heq)
              clear HNS
              have hls := less_eq o.pre p
              cases hlt2 : ltB o.pre p
              · rw [hlt2] at hls
                have hgt : ltB p o.pre = true := by
                  rcases ltB_tri o.pre p with h | h | h
                  · rw [hlt2] at h; cases h
                  · exact absurd h heq
                  · exact h
                by_cases hs0 : st.length = 0
                · have hs1 : ((st.length : Int) == 0) = true := beq_iff_eq.2 (by omega)
                  have hst0 : st = [] := List.length_eq_zero_iff.1 hs0
                  have HE : Hid (insTo p l.labs (m + 1) = st ++ [⟨p, ownG⟩] ++ [o]) := by rw [HSU.out, HINS.out, hgt, hst0]; rfl
                  clear HSU HINS hgt hlt2 heq hs0 hst0
                  go_wp2_with (first | (at_builtin; refine wpList_append_own _ rfl (.tmp 80) (.tmp 83) 43 rfl wo.heap.size 47 iB (.agg #[.string ⟨#[]⟩, .string ⟨#[]⟩]) 2 32 Try.underlying43 HIB.out.1 HIB.out.2.1 HIB.out.2.2.1 HIB.out.2.2.2 rfl (by decide) _ _ _ rfl ((hown.alloc _).alloc _) ⟨wr.heap.size + 1, 0, none⟩ 1 1 (labCell ⟨p, ownG⟩) rfl rfl (cells_newN _ _ (by simp) _ _) (by simp [Value.oneCell', labCell]) (by unfold maxLen; omega) (by omega) (by simp; omega) ?_; intro v' w2 hown2 hgrow _; obtain ⟨q0, q1, q2, q3, q4⟩ := box_kept hown hbi hgrow; obtain ⟨a2, c2, rfl⟩ := Joins.ownsRow_form hown2 (by omega); have HQ4 := Lib.hid q4; clear q4 hgrow) | (at_builtin; refine wpList_append_own _ rfl (.tmp 85) (.tmp 87) 43 rfl wo.heap.size 47 iB (.agg #[.string ⟨#[]⟩, .string ⟨#[]⟩]) 2 32 Try.underlying43 HIB.out.1 HIB.out.2.1 HIB.out.2.2.1 HIB.out.2.2.2 rfl (by decide) _ _ _ rfl (hown2.alloc _) ⟨w2.heap.size, 0, none⟩ 1 1 (labCell o) rfl rfl (cells_new _ _ _) (by simp [Value.oneCell', labCell]) (by unfold maxLen; omega) (by omega) (by simp; omega) ?_; intro v3 w3 hown3 hgrow3 _))
                  go_roundw
                  case rel => first | exact ⟨m + 1, by omega, by go_num, by rw [HE.out]; unfold OwnsLab; rw [List.flatMap_append, List.length_append, List.flatMap_append, List.length_append]; exact hown3, lab_below HQ4.out hown2 hgrow3, HNT⟩ | ((repeat apply Exists.intro); first | (refine ⟨?_, rfl⟩; exact ⟨m + 1, by omega, by go_num, by rw [HE.out]; unfold OwnsLab; rw [List.flatMap_append, List.length_append, List.flatMap_append, List.length_append]; exact hown3, lab_below HQ4.out hown2 hgrow3, HNT⟩) | (refine ⟨?_, rfl, rfl⟩; exact ⟨m + 1, by omega, by go_num, by rw [HE.out]; unfold OwnsLab; rw [List.flatMap_append, List.length_append, List.flatMap_append, List.length_append]; exact hown3, lab_below HQ4.out hown2 hgrow3, HNT⟩) | (refine ⟨?_, rfl, rfl, rfl⟩; exact ⟨m + 1, by omega, by go_num, by rw [HE.out]; unfold OwnsLab; rw [List.flatMap_append, List.length_append, List.flatMap_append, List.length_append]; exact hown3, lab_below HQ4.out hown2 hgrow3, HNT⟩) | (refine ⟨?_, rfl, rfl, rfl, rfl⟩; exact ⟨m + 1, by omega, by go_num, by rw [HE.out]; unfold OwnsLab; rw [List.flatMap_append, List.length_append, List.flatMap_append, List.length_append]; exact hown3, lab_below HQ4.out hown2 hgrow3, HNT⟩) | (refine ⟨?_, rfl, rfl, rfl, rfl, rfl⟩; exact ⟨m + 1, by omega, by go_num, by rw [HE.out]; unfold OwnsLab; rw [List.flatMap_append, List.length_append, List.flatMap_append, List.length_append]; exact hown3, lab_below HQ4.out hown2 hgrow3, HNT⟩) | (refine ⟨?_, rfl, rfl, rfl, rfl, rfl, rfl⟩; exact ⟨m + 1, by omega, by go_num, by rw [HE.out]; unfold OwnsLab; rw [List.flatMap_append, List.length_append, List.flatMap_append, List.length_append]; exact hown3, lab_below HQ4.out hown2 hgrow3, HNT⟩) | (refine ⟨?_, rfl, rfl, rfl, rfl, rfl, rfl, rfl⟩; exact ⟨m + 1, by omega, by go_num, by rw [HE.out]; unfold OwnsLab; rw [List.flatMap_append, List.length_append, List.flatMap_append, List.length_append]; exact hown3, lab_below HQ4.out hown2 hgrow3, HNT⟩) | (refine ⟨?_, rfl, rfl, rfl, rfl, rfl, rfl, rfl, rfl⟩; exact ⟨m + 1, by omega, by go_num, by rw [HE.out]; unfold OwnsLab; rw [List.flatMap_append, List.length_append, List.flatMap_append, List.length_append]; exact hown3, lab_below HQ4.out hown2 hgrow3, HNT⟩) | (refine ⟨?_, rfl, rfl, rfl, rfl, rfl, rfl, rfl, rfl, rfl⟩; exact ⟨m + 1, by omega, by go_num, by rw [HE.out]; unfold OwnsLab; rw [List.flatMap_append, List.length_append, List.flatMap_append, List.length_append]; exact hown3, lab_below HQ4.out hown2 hgrow3, HNT⟩) | (refine ⟨?_, rfl, rfl, rfl, rfl, rfl, rfl, rfl, rfl, rfl, rfl⟩; exact ⟨m + 1, by omega, by go_num, by rw [HE.out]; unfold OwnsLab; rw [List.flatMap_append, List.length_append, List.flatMap_append, List.length_append]; exact hown3, lab_below HQ4.out hown2 hgrow3, HNT⟩) | (refine ⟨?_, rfl, rfl, rfl, rfl, rfl, rfl, rfl, rfl, rfl, rfl, rfl⟩; exact ⟨m + 1, by omega, by go_num, by rw [HE.out]; unfold OwnsLab; rw [List.flatMap_append, List.length_append, List.flatMap_append, List.length_append]; exact hown3, lab_below HQ4.out hown2 hgrow3, HNT⟩) | (refine ⟨?_, rfl, rfl, rfl, rfl, rfl, rfl, rfl, rfl, rfl, rfl, rfl, rfl⟩; exact ⟨m + 1, by omega, by go_num, by rw [HE.out]; unfold OwnsLab; rw [List.flatMap_append, List.length_append, List.flatMap_append, List.length_append]; exact hown3, lab_below HQ4.out hown2 hgrow3, HNT⟩))
                  case measure => simp [intOf]; omega
                · obtain ⟨g9, x9, rfl, hx9, hg9, hc9⟩ := lab_last hown (by omega)
                  have hs1 : ((st.length : Int) == 0) = false := beq_eq_false_iff_ne.2 (by omega)
                  have hw1 : IntKind.i64.wrap ((st.length : Int) - 1) = (st.length : Int) - 1 := IntWalk.i64_in _ (by omega)
                  have hw2 : 0 ≤ (st.length : Int) - 1 := by omega
                  have hw3 : ((st.length : Int) - 1).toNat = st.length - 1 := by omega
                  have hw4 : (st.length : Int) - 1 < (st.length : Int) := by omega
                  have hw5 : 1 ≤ (st.length : Int) := by omega
                  have hw6 : st.length - 1 < st.length := by omega
                  have hl9 := less_eq x9.pre p
                  cases hlt9 : ltB x9.pre p
                  · rw [hlt9] at hl9
                    have HE : Hid (insTo p l.labs (m + 1) = st ++ [o]) := by rw [HSU.out, HINS.out, hgt]; rw [endB_some hx9, hlt9]; rfl
                    clear HSU HINS hgt hlt2 heq hs0 hx9 hlt9
                    go_wp2_with (at_builtin; refine wpList_append_own _ rfl (.tmp 85) (.tmp 87) 43 rfl wo.heap.size 47 iB (.agg #[.string ⟨#[]⟩, .string ⟨#[]⟩]) 2 32 Try.underlying43 HIB.out.1 HIB.out.2.1 HIB.out.2.2.1 HIB.out.2.2.2 rfl (by decide) _ _ _ rfl ((hown.alloc _).alloc _) ⟨wr.heap.size + 1, 0, none⟩ 1 1 (labCell o) rfl rfl (cells_newN _ _ (by simp) _ _) (by simp [Value.oneCell', labCell]) (by unfold maxLen; omega) (by omega) (by simp; omega) ?_; intro v' w2 hown2 hgrow _)
                    go_roundw
                    case rel => first | exact ⟨m + 1, by omega, by go_num, by rw [HE.out]; unfold OwnsLab; rw [List.flatMap_append, List.length_append]; exact hown2, lab_below2 hbi hown hgrow, HNT⟩ | ((repeat apply Exists.intro); first | (refine ⟨?_, rfl⟩; exact ⟨m + 1, by omega, by go_num, by rw [HE.out]; unfold OwnsLab; rw [List.flatMap_append, List.length_append]; exact hown2, lab_below2 hbi hown hgrow, HNT⟩) | (refine ⟨?_, rfl, rfl⟩; exact ⟨m + 1, by omega, by go_num, by rw [HE.out]; unfold OwnsLab; rw [List.flatMap_append, List.length_append]; exact hown2, lab_below2 hbi hown hgrow, HNT⟩) | (refine ⟨?_, rfl, rfl, rfl⟩; exact ⟨m + 1, by omega, by go_num, by rw [HE.out]; unfold OwnsLab; rw [List.flatMap_append, List.length_append]; exact hown2, lab_below2 hbi hown hgrow, HNT⟩) | (refine ⟨?_, rfl, rfl, rfl, rfl⟩; exact ⟨m + 1, by omega, by go_num, by rw [HE.out]; unfold OwnsLab; rw [List.flatMap_append, List.length_append]; exact hown2, lab_below2 hbi hown hgrow, HNT⟩) | (refine ⟨?_, rfl, rfl, rfl, rfl, rfl⟩; exact ⟨m + 1, by omega, by go_num, by rw [HE.out]; unfold OwnsLab; rw [List.flatMap_append, List.length_append]; exact hown2, lab_below2 hbi hown hgrow, HNT⟩) | (refine ⟨?_, rfl, rfl, rfl, rfl, rfl, rfl⟩; exact ⟨m + 1, by omega, by go_num, by rw [HE.out]; unfold OwnsLab; rw [List.flatMap_append, List.length_append]; exact hown2, lab_below2 hbi hown hgrow, HNT⟩) | (refine ⟨?_, rfl, rfl, rfl, rfl, rfl, rfl, rfl⟩; exact ⟨m + 1, by omega, by go_num, by rw [HE.out]; unfold OwnsLab; rw [List.flatMap_append, List.length_append]; exact hown2, lab_below2 hbi hown hgrow, HNT⟩) | (refine ⟨?_, rfl, rfl, rfl, rfl, rfl, rfl, rfl, rfl⟩; exact ⟨m + 1, by omega, by go_num, by rw [HE.out]; unfold OwnsLab; rw [List.flatMap_append, List.length_append]; exact hown2, lab_below2 hbi hown hgrow, HNT⟩) | (refine ⟨?_, rfl, rfl, rfl, rfl, rfl, rfl, rfl, rfl, rfl⟩; exact ⟨m + 1, by omega, by go_num, by rw [HE.out]; unfold OwnsLab; rw [List.flatMap_append, List.length_append]; exact hown2, lab_below2 hbi hown hgrow, HNT⟩) | (refine ⟨?_, rfl, rfl, rfl, rfl, rfl, rfl, rfl, rfl, rfl, rfl⟩; exact ⟨m + 1, by omega, by go_num, by rw [HE.out]; unfold OwnsLab; rw [List.flatMap_append, List.length_append]; exact hown2, lab_below2 hbi hown hgrow, HNT⟩) | (refine ⟨?_, rfl, rfl, rfl, rfl, rfl, rfl, rfl, rfl, rfl, rfl, rfl⟩; exact ⟨m + 1, by omega, by go_num, by rw [HE.out]; unfold OwnsLab; rw [List.flatMap_append, List.length_append]; exact hown2, lab_below2 hbi hown hgrow, HNT⟩) | (refine ⟨?_, rfl, rfl, rfl, rfl, rfl, rfl, rfl, rfl, rfl, rfl, rfl, rfl⟩; exact ⟨m + 1, by omega, by go_num, by rw [HE.out]; unfold OwnsLab; rw [List.flatMap_append, List.length_append]; exact hown2, lab_below2 hbi hown hgrow, HNT⟩))
                    case measure => simp [intOf]; omega
                  · rw [hlt9] at hl9
                    have HE : Hid (insTo p l.labs (m + 1) = st ++ [⟨p, ownG⟩] ++ [o]) := by rw [HSU.out, HINS.out, hgt]; rw [endB_some hx9, hlt9]; rfl
                    clear HSU HINS hgt hlt2 heq hs0 hx9 hlt9
                    go_wp2_with (first | (at_builtin; refine wpList_append_own _ rfl (.tmp 80) (.tmp 83) 43 rfl wo.heap.size 47 iB (.agg #[.string ⟨#[]⟩, .string ⟨#[]⟩]) 2 32 Try.underlying43 HIB.out.1 HIB.out.2.1 HIB.out.2.2.1 HIB.out.2.2.2 rfl (by decide) _ _ _ rfl ((hown.alloc _).alloc _) ⟨wr.heap.size + 1, 0, none⟩ 1 1 (labCell ⟨p, ownG⟩) rfl rfl (cells_newN _ _ (by simp) _ _) (by simp [Value.oneCell', labCell]) (by unfold maxLen; omega) (by omega) (by simp; omega) ?_; intro v' w2 hown2 hgrow _; obtain ⟨q0, q1, q2, q3, q4⟩ := box_kept hown hbi hgrow; obtain ⟨a2, c2, rfl⟩ := Joins.ownsRow_form hown2 (by omega); have HQ4 := Lib.hid q4; clear q4 hgrow) | (at_builtin; refine wpList_append_own _ rfl (.tmp 85) (.tmp 87) 43 rfl wo.heap.size 47 iB (.agg #[.string ⟨#[]⟩, .string ⟨#[]⟩]) 2 32 Try.underlying43 HIB.out.1 HIB.out.2.1 HIB.out.2.2.1 HIB.out.2.2.2 rfl (by decide) _ _ _ rfl (hown2.alloc _) ⟨w2.heap.size, 0, none⟩ 1 1 (labCell o) rfl rfl (cells_new _ _ _) (by simp [Value.oneCell', labCell]) (by unfold maxLen; omega) (by omega) (by simp; omega) ?_; intro v3 w3 hown3 hgrow3 _))
                    go_roundw
                    case rel => first | exact ⟨m + 1, by omega, by go_num, by rw [HE.out]; unfold OwnsLab; rw [List.flatMap_append, List.length_append, List.flatMap_append, List.length_append]; exact hown3, lab_below HQ4.out hown2 hgrow3, HNT⟩ | ((repeat apply Exists.intro); first | (refine ⟨?_, rfl⟩; exact ⟨m + 1, by omega, by go_num, by rw [HE.out]; unfold OwnsLab; rw [List.flatMap_append, List.length_append, List.flatMap_append, List.length_append]; exact hown3, lab_below HQ4.out hown2 hgrow3, HNT⟩) | (refine ⟨?_, rfl, rfl⟩; exact ⟨m + 1, by omega, by go_num, by rw [HE.out]; unfold OwnsLab; rw [List.flatMap_append, List.length_append, List.flatMap_append, List.length_append]; exact hown3, lab_below HQ4.out hown2 hgrow3, HNT⟩) | (refine ⟨?_, rfl, rfl, rfl⟩; exact ⟨m + 1, by omega, by go_num, by rw [HE.out]; unfold OwnsLab; rw [List.flatMap_append, List.length_append, List.flatMap_append, List.length_append]; exact hown3, lab_below HQ4.out hown2 hgrow3, HNT⟩) | (refine ⟨?_, rfl, rfl, rfl, rfl⟩; exact ⟨m + 1, by omega, by go_num, by rw [HE.out]; unfold OwnsLab; rw [List.flatMap_append, List.length_append, List.flatMap_append, List.length_append]; exact hown3, lab_below HQ4.out hown2 hgrow3, HNT⟩) | (refine ⟨?_, rfl, rfl, rfl, rfl, rfl⟩; exact ⟨m + 1, by omega, by go_num, by rw [HE.out]; unfold OwnsLab; rw [List.flatMap_append, List.length_append, List.flatMap_append, List.length_append]; exact hown3, lab_below HQ4.out hown2 hgrow3, HNT⟩) | (refine ⟨?_, rfl, rfl, rfl, rfl, rfl, rfl⟩; exact ⟨m + 1, by omega, by go_num, by rw [HE.out]; unfold OwnsLab; rw [List.flatMap_append, List.length_append, List.flatMap_append, List.length_append]; exact hown3, lab_below HQ4.out hown2 hgrow3, HNT⟩) | (refine ⟨?_, rfl, rfl, rfl, rfl, rfl, rfl, rfl⟩; exact ⟨m + 1, by omega, by go_num, by rw [HE.out]; unfold OwnsLab; rw [List.flatMap_append, List.length_append, List.flatMap_append, List.length_append]; exact hown3, lab_below HQ4.out hown2 hgrow3, HNT⟩) | (refine ⟨?_, rfl, rfl, rfl, rfl, rfl, rfl, rfl, rfl⟩; exact ⟨m + 1, by omega, by go_num, by rw [HE.out]; unfold OwnsLab; rw [List.flatMap_append, List.length_append, List.flatMap_append, List.length_append]; exact hown3, lab_below HQ4.out hown2 hgrow3, HNT⟩) | (refine ⟨?_, rfl, rfl, rfl, rfl, rfl, rfl, rfl, rfl, rfl⟩; exact ⟨m + 1, by omega, by go_num, by rw [HE.out]; unfold OwnsLab; rw [List.flatMap_append, List.length_append, List.flatMap_append, List.length_append]; exact hown3, lab_below HQ4.out hown2 hgrow3, HNT⟩) | (refine ⟨?_, rfl, rfl, rfl, rfl, rfl, rfl, rfl, rfl, rfl, rfl⟩; exact ⟨m + 1, by omega, by go_num, by rw [HE.out]; unfold OwnsLab; rw [List.flatMap_append, List.length_append, List.flatMap_append, List.length_append]; exact hown3, lab_below HQ4.out hown2 hgrow3, HNT⟩) | (refine ⟨?_, rfl, rfl, rfl, rfl, rfl, rfl, rfl, rfl, rfl, rfl, rfl⟩; exact ⟨m + 1, by omega, by go_num, by rw [HE.out]; unfold OwnsLab; rw [List.flatMap_append, List.length_append, List.flatMap_append, List.length_append]; exact hown3, lab_below HQ4.out hown2 hgrow3, HNT⟩) | (refine ⟨?_, rfl, rfl, rfl, rfl, rfl, rfl, rfl, rfl, rfl, rfl, rfl, rfl⟩; exact ⟨m + 1, by omega, by go_num, by rw [HE.out]; unfold OwnsLab; rw [List.flatMap_append, List.length_append, List.flatMap_append, List.length_append]; exact hown3, lab_below HQ4.out hown2 hgrow3, HNT⟩))
                    case measure => simp [intOf]; omega
              · rw [hlt2] at hls
                have HE : Hid (insTo p l.labs (m + 1) = st ++ [o]) := by rw [HSU.out, HINS.out, ltB_asymm hlt2]; rfl
                clear HSU HINS hlt2 heq
                go_wp2_with (at_builtin; refine wpList_append_own _ rfl (.tmp 85) (.tmp 87) 43 rfl wo.heap.size 47 iB (.agg #[.string ⟨#[]⟩, .string ⟨#[]⟩]) 2 32 Try.underlying43 HIB.out.1 HIB.out.2.1 HIB.out.2.2.1 HIB.out.2.2.2 rfl (by decide) _ _ _ rfl ((hown.alloc _).alloc _) ⟨wr.heap.size + 1, 0, none⟩ 1 1 (labCell o) rfl rfl (cells_newN _ _ (by simp) _ _) (by simp [Value.oneCell', labCell]) (by unfold maxLen; omega) (by omega) (by simp; omega) ?_; intro v' w2 hown2 hgrow _)
                go_roundw
                case rel => first | exact ⟨m + 1, by omega, by go_num, by rw [HE.out]; unfold OwnsLab; rw [List.flatMap_append, List.length_append]; exact hown2, lab_below2 hbi hown hgrow, HNT⟩ | ((repeat apply Exists.intro); first | (refine ⟨?_, rfl⟩; exact ⟨m + 1, by omega, by go_num, by rw [HE.out]; unfold OwnsLab; rw [List.flatMap_append, List.length_append]; exact hown2, lab_below2 hbi hown hgrow, HNT⟩) | (refine ⟨?_, rfl, rfl⟩; exact ⟨m + 1, by omega, by go_num, by rw [HE.out]; unfold OwnsLab; rw [List.flatMap_append, List.length_append]; exact hown2, lab_below2 hbi hown hgrow, HNT⟩) | (refine ⟨?_, rfl, rfl, rfl⟩; exact ⟨m + 1, by omega, by go_num, by rw [HE.out]; unfold OwnsLab; rw [List.flatMap_append, List.length_append]; exact hown2, lab_below2 hbi hown hgrow, HNT⟩) | (refine ⟨?_, rfl, rfl, rfl, rfl⟩; exact ⟨m + 1, by omega, by go_num, by rw [HE.out]; unfold OwnsLab; rw [List.flatMap_append, List.length_append]; exact hown2, lab_below2 hbi hown hgrow, HNT⟩) | (refine ⟨?_, rfl, rfl, rfl, rfl, rfl⟩; exact ⟨m + 1, by omega, by go_num, by rw [HE.out]; unfold OwnsLab; rw [List.flatMap_append, List.length_append]; exact hown2, lab_below2 hbi hown hgrow, HNT⟩) | (refine ⟨?_, rfl, rfl, rfl, rfl, rfl, rfl⟩; exact ⟨m + 1, by omega, by go_num, by rw [HE.out]; unfold OwnsLab; rw [List.flatMap_append, List.length_append]; exact hown2, lab_below2 hbi hown hgrow, HNT⟩) | (refine ⟨?_, rfl, rfl, rfl, rfl, rfl, rfl, rfl⟩; exact ⟨m + 1, by omega, by go_num, by rw [HE.out]; unfold OwnsLab; rw [List.flatMap_append, List.length_append]; exact hown2, lab_below2 hbi hown hgrow, HNT⟩) | (refine ⟨?_, rfl, rfl, rfl, rfl, rfl, rfl, rfl, rfl⟩; exact ⟨m + 1, by omega, by go_num, by rw [HE.out]; unfold OwnsLab; rw [List.flatMap_append, List.length_append]; exact hown2, lab_below2 hbi hown hgrow, HNT⟩) | (refine ⟨?_, rfl, rfl, rfl, rfl, rfl, rfl, rfl, rfl, rfl⟩; exact ⟨m + 1, by omega, by go_num, by rw [HE.out]; unfold OwnsLab; rw [List.flatMap_append, List.length_append]; exact hown2, lab_below2 hbi hown hgrow, HNT⟩) | (refine ⟨?_, rfl, rfl, rfl, rfl, rfl, rfl, rfl, rfl, rfl, rfl⟩; exact ⟨m + 1, by omega, by go_num, by rw [HE.out]; unfold OwnsLab; rw [List.flatMap_append, List.length_append]; exact hown2, lab_below2 hbi hown hgrow, HNT⟩) | (refine ⟨?_, rfl, rfl, rfl, rfl, rfl, rfl, rfl, rfl, rfl, rfl, rfl⟩; exact ⟨m + 1, by omega, by go_num, by rw [HE.out]; unfold OwnsLab; rw [List.flatMap_append, List.length_append]; exact hown2, lab_below2 hbi hown hgrow, HNT⟩) | (refine ⟨?_, rfl, rfl, rfl, rfl, rfl, rfl, rfl, rfl, rfl, rfl, rfl, rfl⟩; exact ⟨m + 1, by omega, by go_num, by rw [HE.out]; unfold OwnsLab; rw [List.flatMap_append, List.length_append]; exact hown2, lab_below2 hbi hown hgrow, HNT⟩))
                case measure => simp [intOf]; omega
          · obtain rfl : m = l.labs.length := by omega
            have HNA : Hid (∀ o ∈ l.labs, o.pre ≠ p) := by have := HNM.out; rwa [List.take_of_length_le (Nat.le_refl _)] at this
            have HN3 := Lib.hid (HN2.out HNA.out)
            have hwsz : wo.heap.size ≤ wr.heap.size := hbi.size
            clear HNM HNA HN2 HRL
            obtain ⟨va, vcap, hform⟩ := OwnsLab.form hown
            rw [hform] at hown ⊢
            clear hform
            have HINS : Hid (insL p l.labs = if endB p (insTo p l.labs l.labs.length) then insTo p l.labs l.labs.length ++ [⟨p, ownG⟩] else insTo p l.labs l.labs.length) := Lib.hid rfl
            generalize insTo p l.labs l.labs.length = st at hown HINS hil
            by_cases hs0 : st.length = 0
            · have hs1 : ((st.length : Int) == 0) = true := beq_iff_eq.2 (by omega)
              have hst0 : st = [] := List.length_eq_zero_iff.1 hs0
              have HEQ : Hid (insL p l.labs = st ++ [⟨p, ownG⟩]) := by rw [HINS.out, hst0]; rfl
              clear HINS hs0 hst0
              go_wp2_with (at_builtin; refine wpList_append_own _ rfl (.tmp 104) (.tmp 107) 43 rfl wo.heap.size 47 iB (.agg #[.string ⟨#[]⟩, .string ⟨#[]⟩]) 2 32 Try.underlying43 HIB.out.1 HIB.out.2.1 HIB.out.2.2.1 HIB.out.2.2.2 rfl (by decide) _ _ _ rfl (hown.alloc _) ⟨wr.heap.size, 0, none⟩ 1 1 (labCell ⟨p, ownG⟩) rfl rfl (cells_new _ _ _) (by simp [Value.oneCell', labCell]) (by unfold maxLen; omega) (by omega) (by simp; omega) ?_; intro v' w2 hown2 hgrow _; obtain ⟨g2, c2, rfl⟩ := Joins.ownsRow_form hown2 (by omega); obtain ⟨z1, z2, z3, z4⟩ := put_facts (n2 := _) hB hb2 hwW2 HOY.out HPUT.out hlt HGET.out hgy hcy hc1 hgc t2 (lab_below hbi hown hgrow) (st := st ++ [⟨p, ownG⟩]) (by rw [List.flatMap_append]; exact hown2) (by simp) HEQ.out; clear hgrow hown2)
              go_roundw
              case rel => first | exact ⟨k + 1, by omega, by go_num, z4.out.1, z4.out.2.1, z4.out.2.2.1, z4.out.2.2.2.1, z4.out.2.2.2.2.1, z4.out.2.2.2.2.2, HN3⟩ | ((repeat apply Exists.intro); first | (refine ⟨?_, rfl⟩; exact ⟨k + 1, by omega, by go_num, z4.out.1, z4.out.2.1, z4.out.2.2.1, z4.out.2.2.2.1, z4.out.2.2.2.2.1, z4.out.2.2.2.2.2, HN3⟩) | (refine ⟨?_, rfl, rfl⟩; exact ⟨k + 1, by omega, by go_num, z4.out.1, z4.out.2.1, z4.out.2.2.1, z4.out.2.2.2.1, z4.out.2.2.2.2.1, z4.out.2.2.2.2.2, HN3⟩) | (refine ⟨?_, rfl, rfl, rfl⟩; exact ⟨k + 1, by omega, by go_num, z4.out.1, z4.out.2.1, z4.out.2.2.1, z4.out.2.2.2.1, z4.out.2.2.2.2.1, z4.out.2.2.2.2.2, HN3⟩) | (refine ⟨?_, rfl, rfl, rfl, rfl⟩; exact ⟨k + 1, by omega, by go_num, z4.out.1, z4.out.2.1, z4.out.2.2.1, z4.out.2.2.2.1, z4.out.2.2.2.2.1, z4.out.2.2.2.2.2, HN3⟩) | (refine ⟨?_, rfl, rfl, rfl, rfl, rfl⟩; exact ⟨k + 1, by omega, by go_num, z4.out.1, z4.out.2.1, z4.out.2.2.1, z4.out.2.2.2.1, z4.out.2.2.2.2.1, z4.out.2.2.2.2.2, HN3⟩) | (refine ⟨?_, rfl, rfl, rfl, rfl, rfl, rfl⟩; exact ⟨k + 1, by omega, by go_num, z4.out.1, z4.out.2.1, z4.out.2.2.1, z4.out.2.2.2.1, z4.out.2.2.2.2.1, z4.out.2.2.2.2.2, HN3⟩) | (refine ⟨?_, rfl, rfl, rfl, rfl, rfl, rfl, rfl⟩; exact ⟨k + 1, by omega, by go_num, z4.out.1, z4.out.2.1, z4.out.2.2.1, z4.out.2.2.2.1, z4.out.2.2.2.2.1, z4.out.2.2.2.2.2, HN3⟩) | (refine ⟨?_, rfl, rfl, rfl, rfl, rfl, rfl, rfl, rfl⟩; exact ⟨k + 1, by omega, by go_num, z4.out.1, z4.out.2.1, z4.out.2.2.1, z4.out.2.2.2.1, z4.out.2.2.2.2.1, z4.out.2.2.2.2.2, HN3⟩) | (refine ⟨?_, rfl, rfl, rfl, rfl, rfl, rfl, rfl, rfl, rfl⟩; exact ⟨k + 1, by omega, by go_num, z4.out.1, z4.out.2.1, z4.out.2.2.1, z4.out.2.2.2.1, z4.out.2.2.2.2.1, z4.out.2.2.2.2.2, HN3⟩) | (refine ⟨?_, rfl, rfl, rfl, rfl, rfl, rfl, rfl, rfl, rfl, rfl⟩; exact ⟨k + 1, by omega, by go_num, z4.out.1, z4.out.2.1, z4.out.2.2.1, z4.out.2.2.2.1, z4.out.2.2.2.2.1, z4.out.2.2.2.2.2, HN3⟩) | (refine ⟨?_, rfl, rfl, rfl, rfl, rfl, rfl, rfl, rfl, rfl, rfl, rfl⟩; exact ⟨k + 1, by omega, by go_num, z4.out.1, z4.out.2.1, z4.out.2.2.1, z4.out.2.2.2.1, z4.out.2.2.2.2.1, z4.out.2.2.2.2.2, HN3⟩) | (refine ⟨?_, rfl, rfl, rfl, rfl, rfl, rfl, rfl, rfl, rfl, rfl, rfl, rfl⟩; exact ⟨k + 1, by omega, by go_num, z4.out.1, z4.out.2.1, z4.out.2.2.1, z4.out.2.2.2.1, z4.out.2.2.2.2.1, z4.out.2.2.2.2.2, HN3⟩))
              case measure => simp [intOf]; omega
            · obtain ⟨g9, x9, rfl, hx9, hg9, hc9⟩ := lab_last hown (by omega)
              have hs1 : ((st.length : Int) == 0) = false := beq_eq_false_iff_ne.2 (by omega)
              have hw1 : IntKind.i64.wrap ((st.length : Int) - 1) = (st.length : Int) - 1 := IntWalk.i64_in _ (by omega)
              have hw2 : 0 ≤ (st.length : Int) - 1 := by omega
              have hw3 : ((st.length : Int) - 1).toNat = st.length - 1 := by omega
              have hw4 : (st.length : Int) - 1 < (st.length : Int) := by omega
              have hw5 : 1 ≤ (st.length : Int) := by omega
              have hw6 : st.length - 1 < st.length := by omega
              have hl9 := less_eq x9.pre p
              cases hlt9 : ltB x9.pre p
              · rw [hlt9] at hl9
                have HEQ : Hid (insL p l.labs = st) := by rw [HINS.out]; rw [endB_some hx9, hlt9]; rfl
                clear HINS hs0 hx9 hlt9
                obtain ⟨z1, z2, z3, z4⟩ := put_facts hB hb2 hwW2 HOY.out HPUT.out hlt HGET.out hgy hcy hc1 hgc t2 hbi hown rfl HEQ.out
                clear hown
                go_wp2_with fail
                go_roundw
                case rel => first | exact ⟨k + 1, by omega, by go_num, z4.out.1, z4.out.2.1, z4.out.2.2.1, z4.out.2.2.2.1, z4.out.2.2.2.2.1, z4.out.2.2.2.2.2, HN3⟩ | ((repeat apply Exists.intro); first | (refine ⟨?_, rfl⟩; exact ⟨k + 1, by omega, by go_num, z4.out.1, z4.out.2.1, z4.out.2.2.1, z4.out.2.2.2.1, z4.out.2.2.2.2.1, z4.out.2.2.2.2.2, HN3⟩) | (refine ⟨?_, rfl, rfl⟩; exact ⟨k + 1, by omega, by go_num, z4.out.1, z4.out.2.1, z4.out.2.2.1, z4.out.2.2.2.1, z4.out.2.2.2.2.1, z4.out.2.2.2.2.2, HN3⟩) | (refine ⟨?_, rfl, rfl, rfl⟩; exact ⟨k + 1, by omega, by go_num, z4.out.1, z4.out.2.1, z4.out.2.2.1, z4.out.2.2.2.1, z4.out.2.2.2.2.1, z4.out.2.2.2.2.2, HN3⟩) | (refine ⟨?_, rfl, rfl, rfl, rfl⟩; exact ⟨k + 1, by omega, by go_num, z4.out.1, z4.out.2.1, z4.out.2.2.1, z4.out.2.2.2.1, z4.out.2.2.2.2.1, z4.out.2.2.2.2.2, HN3⟩) | (refine ⟨?_, rfl, rfl, rfl, rfl, rfl⟩; exact ⟨k + 1, by omega, by go_num, z4.out.1, z4.out.2.1, z4.out.2.2.1, z4.out.2.2.2.1, z4.out.2.2.2.2.1, z4.out.2.2.2.2.2, HN3⟩) | (refine ⟨?_, rfl, rfl, rfl, rfl, rfl, rfl⟩; exact ⟨k + 1, by omega, by go_num, z4.out.1, z4.out.2.1, z4.out.2.2.1, z4.out.2.2.2.1, z4.out.2.2.2.2.1, z4.out.2.2.2.2.2, HN3⟩) | (refine ⟨?_, rfl, rfl, rfl, rfl, rfl, rfl, rfl⟩; exact ⟨k + 1, by omega, by go_num, z4.out.1, z4.out.2.1, z4.out.2.2.1, z4.out.2.2.2.1, z4.out.2.2.2.2.1, z4.out.2.2.2.2.2, HN3⟩) | (refine ⟨?_, rfl, rfl, rfl, rfl, rfl, rfl, rfl, rfl⟩; exact ⟨k + 1, by omega, by go_num, z4.out.1, z4.out.2.1, z4.out.2.2.1, z4.out.2.2.2.1, z4.out.2.2.2.2.1, z4.out.2.2.2.2.2, HN3⟩) | (refine ⟨?_, rfl, rfl, rfl, rfl, rfl, rfl, rfl, rfl, rfl⟩; exact ⟨k + 1, by omega, by go_num, z4.out.1, z4.out.2.1, z4.out.2.2.1, z4.out.2.2.2.1, z4.out.2.2.2.2.1, z4.out.2.2.2.2.2, HN3⟩) | (refine ⟨?_, rfl, rfl, rfl, rfl, rfl, rfl, rfl, rfl, rfl, rfl⟩; exact ⟨k + 1, by omega, by go_num, z4.out.1, z4.out.2.1, z4.out.2.2.1, z4.out.2.2.2.1, z4.out.2.2.2.2.1, z4.out.2.2.2.2.2, HN3⟩) | (refine ⟨?_, rfl, rfl, rfl, rfl, rfl, rfl, rfl, rfl, rfl, rfl, rfl⟩; exact ⟨k + 1, by omega, by go_num, z4.out.1, z4.out.2.1, z4.out.2.2.1, z4.out.2.2.2.1, z4.out.2.2.2.2.1, z4.out.2.2.2.2.2, HN3⟩) | (refine ⟨?_, rfl, rfl, rfl, rfl, rfl, rfl, rfl, rfl, rfl, rfl, rfl, rfl⟩; exact ⟨k + 1, by omega, by go_num, z4.out.1, z4.out.2.1, z4.out.2.2.1, z4.out.2.2.2.1, z4.out.2.2.2.2.1, z4.out.2.2.2.2.2, HN3⟩))
                case measure => simp [intOf]; omega
              · rw [hlt9] at hl9
                have HEQ : Hid (insL p l.labs = st ++ [⟨p, ownG⟩]) := by rw [HINS.out]; rw [endB_some hx9, hlt9]; rfl
                clear HINS hs0 hx9 hlt9
                go_wp2_with (at_builtin; refine wpList_append_own _ rfl (.tmp 104) (.tmp 107) 43 rfl wo.heap.size 47 iB (.agg #[.string ⟨#[]⟩, .string ⟨#[]⟩]) 2 32 Try.underlying43 HIB.out.1 HIB.out.2.1 HIB.out.2.2.1 HIB.out.2.2.2 rfl (by decide) _ _ _ rfl (hown.alloc _) ⟨wr.heap.size, 0, none⟩ 1 1 (labCell ⟨p, ownG⟩) rfl rfl (cells_new _ _ _) (by simp [Value.oneCell', labCell]) (by unfold maxLen; omega) (by omega) (by simp; omega) ?_; intro v' w2 hown2 hgrow _; obtain ⟨g2, c2, rfl⟩ := Joins.ownsRow_form hown2 (by omega); obtain ⟨z1, z2, z3, z4⟩ := put_facts (n2 := _) hB hb2 hwW2 HOY.out HPUT.out hlt HGET.out hgy hcy hc1 hgc t2 (lab_below hbi hown hgrow) (st := st ++ [⟨p, ownG⟩]) (by rw [List.flatMap_append]; exact hown2) (by simp) HEQ.out; clear hgrow hown2)
                go_roundw
                case rel => first | exact ⟨k + 1, by omega, by go_num, z4.out.1, z4.out.2.1, z4.out.2.2.1, z4.out.2.2.2.1, z4.out.2.2.2.2.1, z4.out.2.2.2.2.2, HN3⟩ | ((repeat apply Exists.intro); first | (refine ⟨?_, rfl⟩; exact ⟨k + 1, by omega, by go_num, z4.out.1, z4.out.2.1, z4.out.2.2.1, z4.out.2.2.2.1, z4.out.2.2.2.2.1, z4.out.2.2.2.2.2, HN3⟩) | (refine ⟨?_, rfl, rfl⟩; exact ⟨k + 1, by omega, by go_num, z4.out.1, z4.out.2.1, z4.out.2.2.1, z4.out.2.2.2.1, z4.out.2.2.2.2.1, z4.out.2.2.2.2.2, HN3⟩) | (refine ⟨?_, rfl, rfl, rfl⟩; exact ⟨k + 1, by omega, by go_num, z4.out.1, z4.out.2.1, z4.out.2.2.1, z4.out.2.2.2.1, z4.out.2.2.2.2.1, z4.out.2.2.2.2.2, HN3⟩) | (refine ⟨?_, rfl, rfl, rfl, rfl⟩; exact ⟨k + 1, by omega, by go_num, z4.out.1, z4.out.2.1, z4.out.2.2.1, z4.out.2.2.2.1, z4.out.2.2.2.2.1, z4.out.2.2.2.2.2, HN3⟩) | (refine ⟨?_, rfl, rfl, rfl, rfl, rfl⟩; exact ⟨k + 1, by omega, by go_num, z4.out.1, z4.out.2.1, z4.out.2.2.1, z4.out.2.2.2.1, z4.out.2.2.2.2.1, z4.out.2.2.2.2.2, HN3⟩) | (refine ⟨?_, rfl, rfl, rfl, rfl, rfl, rfl⟩; exact ⟨k + 1, by omega, by go_num, z4.out.1, z4.out.2.1, z4.out.2.2.1, z4.out.2.2.2.1, z4.out.2.2.2.2.1, z4.out.2.2.2.2.2, HN3⟩) | (refine ⟨?_, rfl, rfl, rfl, rfl, rfl, rfl, rfl⟩; exact ⟨k + 1, by omega, by go_num, z4.out.1, z4.out.2.1, z4.out.2.2.1, z4.out.2.2.2.1, z4.out.2.2.2.2.1, z4.out.2.2.2.2.2, HN3⟩) | (refine ⟨?_, rfl, rfl, rfl, rfl, rfl, rfl, rfl, rfl⟩; exact ⟨k + 1, by omega, by go_num, z4.out.1, z4.out.2.1, z4.out.2.2.1, z4.out.2.2.2.1, z4.out.2.2.2.2.1, z4.out.2.2.2.2.2, HN3⟩) | (refine ⟨?_, rfl, rfl, rfl, rfl, rfl, rfl, rfl, rfl, rfl⟩; exact ⟨k + 1, by omega, by go_num, z4.out.1, z4.out.2.1, z4.out.2.2.1, z4.out.2.2.2.1, z4.out.2.2.2.2.1, z4.out.2.2.2.2.2, HN3⟩) | (refine ⟨?_, rfl, rfl, rfl, rfl, rfl, rfl, rfl, rfl, rfl, rfl⟩; exact ⟨k + 1, by omega, by go_num, z4.out.1, z4.out.2.1, z4.out.2.2.1, z4.out.2.2.2.1, z4.out.2.2.2.2.1, z4.out.2.2.2.2.2, HN3⟩) | (refine ⟨?_, rfl, rfl, rfl, rfl, rfl, rfl, rfl, rfl, rfl, rfl, rfl⟩; exact ⟨k + 1, by omega, by go_num, z4.out.1, z4.out.2.1, z4.out.2.2.1, z4.out.2.2.2.1, z4.out.2.2.2.2.1, z4.out.2.2.2.2.2, HN3⟩) | (refine ⟨?_, rfl, rfl, rfl, rfl, rfl, rfl, rfl, rfl, rfl, rfl, rfl, rfl⟩; exact ⟨k + 1, by omega, by go_num, z4.out.1, z4.out.2.1, z4.out.2.2.1, z4.out.2.2.2.1, z4.out.2.2.2.2.1, z4.out.2.2.2.2.2, HN3⟩))
                case measure => simp [intOf]; omega
      · have HS := Lib.hid (updTo_skip p ls k hlt h3)
        have hoy' : OwnsLv wr W2.heap.size (.slice (some ⟨gy, 0, none⟩) ls.length ycap) (updTo p ls (k + 1)) := by rw [HS.out]; exact hoy
        have HOY := Lib.hid hoy'
        have HN2 : Hid (∀ j (hj : j < ls.length), j < k + 1 → ls[j].pre = 3 → ∀ o ∈ ls[j].labs, o.pre ≠ p) := fun j hj hjk => by
          by_cases e : j = k
          · subst e; exact fun h => absurd h h3
          · exact HNP.out j hj (by omega)
        have hd : (ls[k].pre != 3) = true := by simpa using h3
        clear HS hoy hoy' h3 hrl t0 t2 t3 t4
        go_wp2_with fail
        go_roundw
        case rel => exact ⟨k + 1, by omega, by go_num, hB, hb2, HOY.out, hc1, hgc, hgy, HN2⟩
        case measure => simp [intOf]; omega
    · obtain rfl : k = ls.length := by omega
      obtain ⟨hrt2, how⟩ := HUP.out (fun l hl => by
        obtain ⟨j, hj, rfl⟩ := List.mem_iff_getElem.1 hl
        exact HNP.out j hj hj)
      rw [updTo_end] at hoy
      have HR2 := Lib.hid hrt2
      have HOW := Lib.hid how
      have HYR := Lib.hid hoy.reads
      have HXR := Lib.hid (HX.out.below hb2)
      have HPRE : Hid (∀ W, Below wr.heap.size wr W → ∀ i (hi : i < ls.length), W.cell? ⟨gy, i * 5 + 1, none⟩ = some (.int .i64 ls[i].pre)) := fun W hW i hi => by
        obtain ⟨_, _, _, h2⟩ := hoy.at (i := i) (by rw [List.length_map]; exact hi)
        have h3 := (h2.below hW hgy).2.1
        rw [List.getElem_map, updL_pre] at h3
        exact h3
      clear hrt2 how hoy HX hb2 HNP HUP HL6 HIB
      go_wp2_with fail
      refine (path_ok ls vx cb w wr HXR.out HRT.out HCB.out HPB.out hB).mono ?_
      rintro e W5 ⟨gp, cp, rfl, hB5, hb5, hgp, hp⟩
      have HYR5 := Lib.hid (HYR.out.below hb5)
      have d1 : W5.cell? ⟨gc, 1, none⟩ = _ := (hb5.cell (p := ⟨gc, 1, none⟩) hgc).trans hc1
      have hgc5 : gc < W5.heap.size := by have := hb5.size; omega
      have HP := Lib.hid hp
      have Hb5 := Lib.hid hb5
      clear hb5 hp HXR HYR
      go_wp2_with fail
      refine (path_upd ls p _ cb w W5 HYR5.out HR2.out HCB.out HPB.out hB5).mono ?_
      rintro e W6 ⟨gq, cq, rfl, hB6, hb6, hgq, hq⟩
      have HYR6 := Lib.hid (HYR5.out.below hb6)
      have e1 : W6.cell? ⟨gc, 1, none⟩ = _ := (hb6.cell (p := ⟨gc, 1, none⟩) hgc5).trans d1
      have hgc6 : gc < W6.heap.size := by have := hb6.size; omega
      have hgp6 : gp < W6.heap.size := by have := hb6.size; omega
      have HP6 : Hid (∀ i (hi : i < ls.length), W6.cell? ⟨gp, i, none⟩ = some (.string (grpOf ls[i] cb))) := fun i hi => (hb6.cell (p := ⟨gp, i, none⟩) hgp).trans (HP.out i hi)
      have HQ := Lib.hid hq
      have Hb6 := Lib.hid (below_c Hb5.out Hb5.out.size hb6)
      clear hb6 hq HP HYR5 Hb5 d1 hgc5 hgp hB5
      go_wp2_with fail
      refine (right_ok (ls.map (updL p)) _ w W6 HYR6.out HR2.out hB6).mono ?_
      rintro e W7 ⟨rfl, hB7, hb7⟩
      have f1 : W7.cell? ⟨gc, 1, none⟩ = _ := (hb7.cell (p := ⟨gc, 1, none⟩) hgc6).trans e1
      have HP7 : Hid (∀ i (hi : i < ls.length), W7.cell? ⟨gp, i, none⟩ = some (.string (grpOf ls[i] cb))) := fun i hi => (hb7.cell (p := ⟨gp, i, none⟩) hgp6).trans (HP6.out i hi)
      have HQ7 : Hid (∀ i (hi : i < ls.length), W7.cell? ⟨gq, i, none⟩ = some (.string (grpOf (updL p ls[i]) cb))) := fun i hi => (hb7.cell (p := ⟨gq, i, none⟩) hgq).trans (HQ.out i hi)
      have HPRE7 := Lib.hid (HPRE.out W7 (below_c Hb6.out Hb6.out.size hb7))
      have hne : ((ls.length : Int) != (ls.length : Int)) = false := by simp
      clear hb7 HP6 HQ HPRE Hb6 HYR6 e1 hgc6 hgp6 hB6 hgq hc1 hgc hgy hB
      go_wp2_with fail
      clear hne
      go_loop [149] (fun i => ∃ k : Nat, k ≤ ls.length ∧ i = .int .i64 k) (fun i => ls.length - (intOf i).toNat)
      case atStart => exact ⟨0, Nat.zero_le _, rfl⟩
      case round =>
        obtain ⟨k, hk, rfl⟩ := hrel
        by_cases hlt : k < ls.length
        · have c1 := HP7.out k hlt
          have c2 := HQ7.out k hlt
          have c3 := HPRE7.out k hlt
          have hug := upd_grp (l := ls[k]) (p := p) (c := cb) (HOW.out _ (List.getElem_mem hlt))
          rw [hug] at c2
          have hbe := ba_eq (cb.extract 0 3) p
          have hbo := ba_eq ownG ownG
          have hbx := ba_eq (grpOf ls[k] cb) (grpOf ls[k] cb)
          rw [decide_eq_true rfl] at hbo hbx
          unfold ownG at c2 hbo
          clear hug HP7 HQ7 HPRE7 HOW
          generalize grpOf ls[k] cb = gx at c1 c2 hbx
          generalize ls[k].pre = pr at c2 c3
          by_cases h3 : pr = 3
          · have h3b : (pr == 3) = true := by simp [h3]
            by_cases hcp : cb.extract 0 3 = p
            · rw [if_pos ⟨h3, hcp⟩] at c2
              rw [decide_eq_true hcp] at hbe
              clear h3 hcp
              go_wp2_with fail
              go_round
              case rel => exact ⟨k + 1, by omega, by go_num⟩
              case measure => simp [intOf]; omega
            · rw [if_neg (fun h => hcp h.2)] at c2
              rw [decide_eq_false hcp] at hbe
              clear h3 hcp
              go_wp2_with fail
              go_round
              case rel => exact ⟨k + 1, by omega, by go_num⟩
              case measure => simp [intOf]; omega
          · have h3b : (pr == 3) = false := by simpa using h3
            rw [if_neg (fun h => h3 h.1)] at c2
            clear h3
            go_wp2_with fail
            go_round
            case rel => exact ⟨k + 1, by omega, by go_num⟩
            case measure => simp [intOf]; omega
        · go_wp2_with fail
          go_ret
          exact ⟨rfl, hB7⟩
end Go.Proofs.Ytdahgfopighhlaa
