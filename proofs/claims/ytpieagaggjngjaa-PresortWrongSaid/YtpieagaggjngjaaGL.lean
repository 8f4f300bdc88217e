import Derived.Test.YtpieagaggjngjaaGG
import Derived.Test.YtpieagaggjngjaaGD
import Derived.Test.YtpieagaggjngjaaGI
import Derived.Test.YtpieagaggjngjaaGC
/-! P19 -/
namespace Go.Proofs.Ytpieagaggjngjaa
open Go.RowKit
set_option linter.unusedVariables false
theorem few_min {a rest : List Int} {fits : Int → Int → Bool} {i : Nat} (h : i < fewR a rest fits) : hitR a rest fits i = false := by
  unfold fewR at h
  cases hf : (List.range a.length).find? (fun i => decide (a.getD i (-1) ≠ -1) && (List.range rest.length).any (fun j => decide (rest.getD j (-1) ≠ -1) && fits (i + j : Nat) (a.getD i (-1) + rest.getD j (-1)))) with
  | none =>
    rw [hf] at h
    have h' : i < a.length - 1 := h
    have := List.find?_eq_none.1 hf i (List.mem_range.2 (by omega))
    exact Bool.not_eq_true _ ▸ this
  | some x =>
    rw [hf] at h
    have h' : i < x := h
    rw [List.find?_eq_some_iff_getElem] at hf
    obtain ⟨_, n, hn, he, hbefore⟩ := hf
    rw [List.getElem_range] at he
    subst he
    have hb := hbefore i h'
    rw [List.getElem_range] at hb
    exact (Bool.not_eq_true' _) ▸ hb
theorem div_sum (mn cents P most : Int) (ts : List (List Int)) : ∀ k, (divTo mn cents P most ts k).1 = ((List.range k).map (divP mn cents P most ts)).sum ∧ (divTo mn cents P most ts k).2.1 = ((List.range k).map (fun t => ent (tabAt ts t) (divP mn cents P most ts t))).sum
  | 0 => ⟨rfl, rfl⟩
  | k + 1 => by
    obtain ⟨a, b⟩ := div_sum mn cents P most ts k
    rw [div_succ]
    dsimp only
    rw [List.range_succ, List.map_append, List.sum_append, List.map_append, List.sum_append, a, b]
    simp
theorem sE_sS (ts : List (List Int)) (q : Nat → Nat) : ∀ k, sE ts q k = sS (fun t => ent (tabAt ts t) (q t)) ts.length k
  | 0 => rfl
  | k + 1 => by unfold sE sS; rw [sE_sS ts q k]
theorem sQ_congr {N : Nat} {q q' : Nat → Nat} : ∀ k, k ≤ N → (∀ t, t < N → N - k ≤ t → q t = q' t) → sQ N q k = sQ N q' k
  | 0, _, _ => rfl
  | k + 1, hk, h => by
    unfold sQ
    rw [sQ_congr k (by omega) (fun t h1 h2 => h t h1 (by omega)), h (N - 1 - k) (by omega) (by omega)]
theorem sS_congr {N : Nat} {s s' : Nat → Int} : ∀ k, k ≤ N → (∀ t, t < N → N - k ≤ t → s t = s' t) → sS s N k = sS s' N k
  | 0, _, _ => rfl
  | k + 1, hk, h => by
    unfold sS
    rw [sS_congr k (by omega) (fun t h1 h2 => h t h1 (by omega)), h (N - 1 - k) (by omega) (by omega)]
theorem poss_of {ts : List (List Int)} {q : Nat → Nat} (h : ∀ t, t < ts.length → ent (tabAt ts t) (q t) ≠ -1) {k : Nat} (hk : k ≤ ts.length) : Poss ts q k := fun j hj => ⟨ent_lt (h _ (by omega)), h _ (by omega)⟩
/-- The numbers of a division up to the k-th are the least ones: if the k-th is less, and all in all no more can be saved, less is saved. -/
theorem div_least {mn cents P most : Int} {ts : List (List Int)} (hts : TabsOk ts) {k : Nat} (hk : k < ts.length) {q : Nat → Nat} (hq : ∀ t, t < k → q t = divP mn cents P most ts t) (hqk : q k < divP mn cents P most ts k)
    (hposs : ∀ t, t < ts.length → ent (tabAt ts t) (q t) ≠ -1) (hown : saverR mn cents P ((((List.range ts.length).map q).sum : Nat) : Int) ≠ -1)
    (hmost : ∀ q', (∀ t, t < ts.length → ent (tabAt ts t) (q' t) ≠ -1) → ((List.range ts.length).map q').sum = ((List.range ts.length).map q).sum → ((List.range ts.length).map (fun t => ent (tabAt ts t) (q' t))).sum + saverR mn cents P ((((List.range ts.length).map q).sum : Nat) : Int) ≤ most) :
    ((List.range ts.length).map (fun t => ent (tabAt ts t) (q t))).sum + saverR mn cents P ((((List.range ts.length).map q).sum : Nat) : Int) < most := by
  obtain ⟨N, hN⟩ : ∃ N, N = ts.length := ⟨_, rfl⟩
  obtain ⟨K, hK⟩ : ∃ K, K = ts.length - 1 - k := ⟨_, rfl⟩
  have hKN : K ≤ ts.length := by omega
  have hNK : ts.length - K = k + 1 := by omega
  have s1 := sQ_sum ts.length q K hKN
  have s2 := sS_sum ts.length (fun t => ent (tabAt ts t) (q t)) K hKN
  rw [hNK] at s1 s2
  obtain ⟨d1, d2⟩ := div_sum mn cents P most ts k
  have c1 : (List.range k).map q = (List.range k).map (divP mn cents P most ts) := List.map_congr_left (fun t ht => hq t (List.mem_range.1 ht))
  have c2 : (List.range k).map (fun t => ent (tabAt ts t) (q t)) = (List.range k).map (fun t => ent (tabAt ts t) (divP mn cents P most ts t)) := List.map_congr_left (fun t ht => by rw [hq t (List.mem_range.1 ht)])
  have t1 : ((List.range (k + 1)).map q).sum = (divTo mn cents P most ts k).1 + q k := by rw [List.range_succ, List.map_append, List.sum_append, c1, d1]; simp
  have t2 : ((List.range (k + 1)).map (fun t => ent (tabAt ts t) (q t))).sum = (divTo mn cents P most ts k).2.1 + ent (tabAt ts k) (q k) := by rw [List.range_succ, List.map_append, List.sum_append, c2, d2]; simp
  obtain ⟨u0, u1⟩ := merged_up hts q K hKN (poss_of hposs hKN)
  obtain ⟨r, hr⟩ : ∃ r, r = sQ ts.length q K := ⟨_, rfl⟩
  rw [← hr] at u1 s1
  have hne : ent (mergedTo ts K) r ≠ -1 := by omega
  obtain ⟨q2, p2, n2, e2⟩ := merged_at hts K hKN r hne
  have hq' := hmost (fun t => if t ≤ k then q t else q2 t) (fun t ht => by
    show ent (tabAt ts t) (if t ≤ k then q t else q2 t) ≠ -1
    by_cases h : t ≤ k
    · rw [if_pos h]; exact hposs t ht
    · rw [if_neg h]
      have := (p2 (ts.length - 1 - t) (by omega)).2
      rwa [show ts.length - 1 - (ts.length - 1 - t) = t by omega] at this) (by
    have s3 := sQ_sum ts.length (fun t => if t ≤ k then q t else q2 t) K hKN
    rw [hNK] at s3
    rw [sQ_congr (q' := q2) K hKN (fun t h1 h2 => by show (if t ≤ k then q t else q2 t) = q2 t; rw [if_neg (by omega)]), n2] at s3
    have c3 : (List.range (k + 1)).map (fun t => if t ≤ k then q t else q2 t) = (List.range (k + 1)).map q := List.map_congr_left (fun t ht => if_pos (by have := List.mem_range.1 ht; omega))
    rw [c3] at s3
    rw [← s3, s1])
  have s4 := sS_sum ts.length (fun t => ent (tabAt ts t) (if t ≤ k then q t else q2 t)) K hKN
  rw [hNK] at s4
  rw [sS_congr (s' := fun t => ent (tabAt ts t) (q2 t)) K hKN (fun t h1 h2 => by show ent (tabAt ts t) (if t ≤ k then q t else q2 t) = ent (tabAt ts t) (q2 t); rw [if_neg (by omega)]), ← sE_sS, e2] at s4
  have c4 : (List.range (k + 1)).map (fun t => ent (tabAt ts t) (if t ≤ k then q t else q2 t)) = (List.range (k + 1)).map (fun t => ent (tabAt ts t) (q t)) := List.map_congr_left (fun t ht => by rw [if_pos (by have := List.mem_range.1 ht; omega)])
  rw [c4] at s4
  rw [sE_sS] at u1
  have hmin := few_min (show q k < fewR (tabAt ts k) (mergedTo ts K) (fitR mn cents P most (divTo mn cents P most ts k).1 (divTo mn cents P most ts k).2.1) by rw [hK]; exact hqk)
  refine Int.lt_of_not_ge (fun hge => ?_)
  have hfit : fitR mn cents P most (divTo mn cents P most ts k).1 (divTo mn cents P most ts k).2.1 ((q k + r : Nat) : Int) (ent (tabAt ts k) (q k) + ent (mergedTo ts K) r) = true := by
    have hsum : ((divTo mn cents P most ts k).1 : Int) + ((q k + r : Nat) : Int) = ((((List.range ts.length).map q).sum : Nat) : Int) := by omega
    unfold fitR
    rw [hsum, Bool.and_eq_true, decide_eq_true_eq, decide_eq_true_eq]
    refine ⟨hown, ?_⟩
    omega
  rw [hit_yes (hposs k hk) (ent_lt hne) hne hfit] at hmin
  cases hmin
end Go.Proofs.Ytpieagaggjngjaa

/-! P20 -/
namespace Go.Proofs.Ytpieagaggjngjaa
open Go.RowKit
set_option linter.unusedVariables false
variable {ls : List (Int × Int)} {gs : List PGrp} {n : Nat}
theorem count_change {l : List Int} (hn : l.Nodup) {i : Int} (hi : i ∈ l) {f f' : Int → Bool} (hf : f i = true) (hf' : f' i = false) (h : ∀ j, j ≠ i → f j = f' j) : l.countP f = l.countP f' + 1 := by
  induction l with
  | nil => cases hi
  | cons x r ih =>
    obtain ⟨h1, h2⟩ := List.nodup_cons.1 hn
    rw [List.countP_cons, List.countP_cons]
    rcases List.mem_cons.1 hi with rfl | hi
    · have : r.countP f = r.countP f' := List.countP_congr (fun j hj => by rw [h j (fun e => h1 (e ▸ hj))])
      rw [this, hf, hf']
      simp
    · have hne : x ≠ i := fun e => h1 (e ▸ hi)
      rw [ih h2 hi, h x hne]
      omega
theorem count_same {l : List Int} {i : Int} (hi : i ∉ l) {f f' : Int → Bool} (h : ∀ j, j ≠ i → f j = f' j) : l.countP f = l.countP f' :=
  List.countP_congr (fun j hj => by rw [h j (fun e => hi (e ▸ hj))])
theorem sum_change {l : List Int} (hn : l.Nodup) {i : Int} (hi : i ∈ l) {f f' : Int → Int} (h : ∀ j, j ≠ i → f j = f' j) : (l.map f').sum = (l.map f).sum + (f' i - f i) := by
  induction l with
  | nil => cases hi
  | cons x r ih =>
    obtain ⟨h1, h2⟩ := List.nodup_cons.1 hn
    simp only [List.map_cons, List.sum_cons]
    rcases List.mem_cons.1 hi with rfl | hi
    · have : r.map f = r.map f' := List.map_congr_left (fun j hj => h j (fun e => h1 (e ▸ hj)))
      rw [this]
      omega
    · have hne : x ≠ i := fun e => h1 (e ▸ hi)
      rw [ih h2 hi, h x hne]
      omega
/-- At each level a piece has its group. -/
theorem group_at (hF : Forest3 ls gs n) {i : Int} (h0 : 0 ≤ i) (hn : i < (n : Int)) : ∀ d : Nat, (d : Int) < (ls.length : Int) → ∃ g, g < gs.length ∧ (gsAt gs g).lvl = (ls.length : Int) - 1 - d ∧ i ∈ (gsAt gs g).items
  | 0, _ => by
    obtain ⟨g, a, b, c⟩ := hF.cover i h0 hn
    exact ⟨g, a, by omega, c⟩
  | d + 1, hd => by
    obtain ⟨g, a, b, c⟩ := group_at hF h0 hn d (by omega)
    obtain ⟨hperm, _⟩ := hF.parts g a (by omega)
    obtain ⟨h, hh, hi⟩ := List.mem_flatMap.1 (hperm.mem_iff.2 c)
    have hs := hF.sub g a h hh
    have hb := hF.below g a h hh
    exact ⟨h, by omega, by omega, hi⟩
def upP (p : Int → Int) (i : Int) : Int → Int := fun j => if j = i then p i - 1 else p j
theorem upP_at (p : Int → Int) (i : Int) : upP p i i = p i - 1 := if_pos rfl
theorem upP_ne (p : Int → Int) (i : Int) {j : Int} (h : j ≠ i) : upP p i j = p j := if_neg h
theorem plan_few (hF : Forest3 ls gs n) {i : Int} (h0 : 0 ≤ i) (hn : i < (n : Int)) (hp : 0 < planP ls gs n i) (hok : PlanOk ls gs (upP (planP ls gs n) i)) :
    totalI ls (upP (planP ls gs n) i) n < totalI ls (planP ls gs n) n := by
  have hPO := all_pass hF
  have hpl := planP_ok hF
  obtain ⟨gt, t1, t2, t3⟩ := hF.cover i h0 hn
  have hlt := (hpl.num gt t1 i t3).2
  obtain ⟨g, hg, hgl, hgi⟩ := group_at hF h0 hn (ls.length - 1 - (planP ls gs n i).toNat) (by omega)
  have hgl' : (gsAt gs g).lvl = planP ls gs n i := by omega
  have hpos : 0 < (gsAt gs g).lvl := by omega
  obtain ⟨hperm, hne⟩ := hF.parts g hg hpos
  obtain ⟨h, hh, hhi⟩ := List.mem_flatMap.1 (hperm.mem_iff.2 hgi)
  have hsub := hF.sub g hg h hh
  have hbel := hF.below g hg h hh
  obtain ⟨k, hk, hkh⟩ := List.mem_iff_getElem.1 hh
  obtain ⟨p, hpd⟩ : ∃ p, p = planP ls gs n := ⟨_, rfl⟩
  have hnum := fun g hg i hi => hpl.num g hg i hi
  rw [← hpd] at hgl' hok hp hnum ⊢
  -- numbers at the group
  have hpassg : passN (upP p i) (gsAt gs g) = passN p (gsAt gs g) := by
    unfold passN
    refine List.countP_congr (fun j hj => ?_)
    by_cases e : j = i
    · subst e; rw [upP_at]; simp; omega
    · rw [upP_ne p i e]
  have htakeg : takeN p (gsAt gs g) = takeN (upP p i) (gsAt gs g) + 1 := by
    unfold takeN
    exact count_change (hF.nodup g hg) hgi (by simp; omega) (by rw [upP_at]; simp; omega) (fun j hj => by rw [upP_ne p i hj])
  have hsaveg : saveI ls (upP p i) (gsAt gs g) = saveI ls p (gsAt gs g) + (centI ls (p i - 1) - centI ls (p i)) := by
    unfold saveI
    rw [sum_change (hF.nodup g hg) hgi (f := fun j => if p j ≤ (gsAt gs g).lvl then centI ls (p j) else 0) (f' := fun j => if upP p i j ≤ (gsAt gs g).lvl then centI ls (upP p i j) else 0) (fun j hj => by rw [upP_ne p i hj])]
    rw [upP_at, if_pos (by omega), if_pos (by omega)]
  have htot : totalI ls (upP p i) n = totalI ls p n + (centI ls (p i - 1) - centI ls (p i)) := by
    unfold totalI
    rw [sum_change (i := i) ?_ ?_ (f := fun j => centI ls (p j)) (f' := fun j => centI ls (upP p i j)) (fun j hj => by rw [upP_ne p i hj])]
    · rw [upP_at]
    · exact List.Pairwise.map _ (fun a b (h : a ≠ b) e => h (Int.ofNat.inj e)) List.nodup_range
    · exact List.mem_map.2 ⟨i.toNat, List.mem_range.2 (by omega), by show ((i.toNat : Nat) : Int) = i; omega⟩
  rw [htot]
  -- the subgroups
  have hl : (subTabs ls gs g).length = (belowR gs g).length := by unfold subTabs; rw [List.length_map]
  have hce : comeOf ls gs g = mergedTo (subTabs ls gs g) (subTabs ls gs g).length := by
    unfold comeOf comeR
    rw [if_neg (by omega), if_neg (by rw [hl]; exact fun h => hne (List.length_eq_zero_iff.1 h))]
  have hmem : ∀ t, t < (belowR gs g).length → (belowR gs g).getD t 0 ∈ belowR gs g := fun t ht => by
    rw [List.getD_eq_getElem?_getD, List.getElem?_eq_getElem ht]; exact List.getElem_mem ht
  have hgk : (belowR gs g).getD k 0 = h := by rw [List.getD_eq_getElem?_getD, List.getElem?_eq_getElem hk]; exact hkh
  have htab : ∀ t, t < (belowR gs g).length → tabAt (subTabs ls gs g) t = tabOf ls gs ((belowR gs g).getD t 0) := fun t ht => by
    unfold tabAt subTabs
    rw [List.getD_eq_getElem?_getD, List.getElem?_map, List.getD_eq_getElem?_getD, List.getElem?_eq_getElem ht]; rfl
  have hbnd : ∀ t, t < (belowR gs g).length → saveI ls (upP p i) (gsAt gs ((belowR gs g).getD t 0)) ≤ ent (tabAt (subTabs ls gs g) t) (passN (upP p i) (gsAt gs ((belowR gs g).getD t 0))) := fun t ht => by
    have hb := hF.below g hg _ (hmem t ht)
    rw [htab t ht]
    exact plan_bound hF.toForest hok _ (by omega)
  have hposs : ∀ t, t < (subTabs ls gs g).length → ent (tabAt (subTabs ls gs g) t) (passN (upP p i) (gsAt gs ((belowR gs g).getD t 0))) ≠ -1 := fun t ht => by
    rw [hl] at ht
    have h1 := hbnd t ht
    have h2 := save_nonneg hF.toForest (upP p i) (gsAt gs ((belowR gs g).getD t 0))
    omega
  -- what the division says
  have hnn := (hPO g hg).nn
  have hdiv : ∀ t, t < (belowR gs g).length → pN ls gs ((belowR gs g).getD t 0) = divP (lvOf ls gs g).1 (lvOf ls gs g).2 (passF ls gs g) (ent (tabOf ls gs g) (pN ls gs g)) (subTabs ls gs g) t := fun t ht => by
    have e := pass_sub hF.toForest hg ht
    have e2 : outOf ls gs (tabsTo ls gs gs.length) g (passF ls gs g) = divTo (lvOf ls gs g).1 (lvOf ls gs g).2 (passF ls gs g) (ent (tabOf ls gs g) (pN ls gs g)) (subTabs ls gs g) (belowR gs g).length := rfl
    rw [e2, div_get _ _ _ _ _ t _ ht] at e
    unfold pN
    rw [e]
    rfl
  have hsame : ∀ t, t < (belowR gs g).length → t ≠ k → passN (upP p i) (gsAt gs ((belowR gs g).getD t 0)) = pN ls gs ((belowR gs g).getD t 0) := fun t ht htk => by
    have hb := hF.below g hg _ (hmem t ht)
    have hs := hF.sub g hg _ (hmem t ht)
    rw [← (plan_counts hF.toForest2 hPO (g := (belowR gs g).getD t 0) (by omega)).2, ← hpd]
    unfold passN
    refine count_same (i := i) (fun hi => htk ?_) (fun j hj => by rw [upP_ne p i hj])
    have e := hF.alone _ (by omega) h (by omega) (by omega) i hi hhi
    have hnd := below_nodup gs g
    rw [List.getD_eq_getElem?_getD, List.getElem?_eq_getElem ht] at e
    have e' : (belowR gs g)[t] = (belowR gs g)[k] := by rw [hkh]; exact e
    rcases Nat.lt_trichotomy t k with h1 | h1 | h1
    · exact absurd e' (List.pairwise_iff_getElem.1 hnd t k ht hk h1)
    · exact h1
    · exact absurd e'.symm (List.pairwise_iff_getElem.1 hnd k t hk ht h1)
  have hless : passN (upP p i) (gsAt gs ((belowR gs g).getD k 0)) < pN ls gs ((belowR gs g).getD k 0) := by
    rw [hgk, ← (plan_counts hF.toForest2 hPO (g := h) (by omega)).2, ← hpd]
    unfold passN
    rw [count_change (hF.nodup h (by omega)) hhi (f := fun j => decide ((gsAt gs h).lvl < p j)) (f' := fun j => decide ((gsAt gs h).lvl < upP p i j)) (by simp; omega) (by rw [upP_at]; simp; omega) (fun j hj => by rw [upP_ne p i hj])]
    omega
  -- sums
  have hcnt : (gsAt gs g).items.countP (fun j => decide ((gsAt gs g).lvl - 1 < upP p i j)) = takeN (upP p i) (gsAt gs g) + passN (upP p i) (gsAt gs g) := count_split _ _ _
  have hsplit : saveI ls (upP p i) (gsAt gs g) = ((gsAt gs g).items.map (fun j => if upP p i j ≤ (gsAt gs g).lvl - 1 then centI ls (upP p i j) else 0)).sum + (takeN (upP p i) (gsAt gs g) : Int) * (lvOf ls gs g).2 := by
    unfold saveI takeN; rw [lv_cent]; exact save_split ls _ _ _
  have hQs : ((List.range (subTabs ls gs g).length).map (fun t => passN (upP p i) (gsAt gs ((belowR gs g).getD t 0)))).sum = takeN (upP p i) (gsAt gs g) + passN (upP p i) (gsAt gs g) := by
    rw [hl, range_getD_map (belowR gs g) (fun h => passN (upP p i) (gsAt gs h)), ← hcnt, ← hperm.countP_eq, flatMap_count]
    congr 1
    refine List.map_congr_left (fun h hh => ?_)
    unfold passN
    have := hF.sub g hg h hh
    rw [show (gsAt gs g).lvl - 1 = (gsAt gs h).lvl by omega]
  have hSs : ((gsAt gs g).items.map (fun j => if upP p i j ≤ (gsAt gs g).lvl - 1 then centI ls (upP p i j) else 0)).sum = ((List.range (subTabs ls gs g).length).map (fun t => saveI ls (upP p i) (gsAt gs ((belowR gs g).getD t 0)))).sum := by
    rw [hl, range_getD_map (belowR gs g) (fun h => saveI ls (upP p i) (gsAt gs h)), ← perm_sum (hperm.map _), flatMap_sum]
    congr 1
    refine List.map_congr_left (fun h hh => ?_)
    unfold saveI
    have := hF.sub g hg h hh
    rw [show (gsAt gs g).lvl - 1 = (gsAt gs h).lvl by omega]
  have hle : ((List.range (subTabs ls gs g).length).map (fun t => saveI ls (upP p i) (gsAt gs ((belowR gs g).getD t 0)))).sum ≤ ((List.range (subTabs ls gs g).length).map (fun t => ent (tabAt (subTabs ls gs g) t) (passN (upP p i) (gsAt gs ((belowR gs g).getD t 0))))).sum := by
    have : ∀ m, m ≤ (belowR gs g).length → ((List.range m).map (fun t => saveI ls (upP p i) (gsAt gs ((belowR gs g).getD t 0)))).sum ≤ ((List.range m).map (fun t => ent (tabAt (subTabs ls gs g) t) (passN (upP p i) (gsAt gs ((belowR gs g).getD t 0))))).sum := fun m => by
      induction m with
      | zero => intro _; exact Int.le_refl _
      | succ m ih =>
        intro hm
        have h1 := ih (by omega)
        have h2 := hbnd m (by omega)
        rw [List.range_succ, List.map_append, List.sum_append, List.map_append, List.sum_append]
        simp only [List.map_cons, List.map_nil, List.sum_cons, List.sum_nil]
        omega
    exact this _ (by rw [hl]; exact Nat.le_refl _)
  have hpass : passN p (gsAt gs g) = pN ls gs g := by rw [hpd]; exact (plan_counts hF.toForest2 hPO hg).2
  have hPg : (passF ls gs g) = ((pN ls gs g : Nat) : Int) := by unfold pN; omega
  have henough := hok.enough g hg
  have hown : saverR (lvOf ls gs g).1 (lvOf ls gs g).2 (passF ls gs g) ((((List.range (subTabs ls gs g).length).map (fun t => passN (upP p i) (gsAt gs ((belowR gs g).getD t 0)))).sum : Nat) : Int) = (takeN (upP p i) (gsAt gs g) : Int) * (lvOf ls gs g).2 := by
    rw [hQs, hPg, hpassg, hpass]
    unfold saverR
    rw [if_neg (by omega)]
    congr 1
    omega
  have hc0 := lvOf_cents hF.toForest hg
  have hgood := come_ok hF.toForest hg (subs_good hF.toForest hg)
  have hlast : decide ((gsAt gs g).lvl = (ls.length : Int) - 1) = true → (takeN (upP p i) (gsAt gs g) + passN (upP p i) (gsAt gs g)) - takeN (upP p i) (gsAt gs g) = 0 := fun hd => by
    have hl : (gsAt gs g).lvl = (ls.length : Int) - 1 := of_decide_eq_true hd
    have : passN (upP p i) (gsAt gs g) = 0 := by
      unfold passN
      rw [List.countP_eq_zero]
      intro j hj
      have := (hok.num g hg j hj).2
      simp; omega
    omega
  have hmain := div_least (subs_good hF.toForest hg) (k := k) (by rw [hl]; exact hk) (mn := (lvOf ls gs g).1) (cents := (lvOf ls gs g).2) (P := passF ls gs g) (most := ent (tabOf ls gs g) (pN ls gs g)) (q := fun t => passN (upP p i) (gsAt gs ((belowR gs g).getD t 0)))
    (fun t ht => by rw [hsame t (by omega) (by omega), hdiv t (by omega)]) (by rw [← hdiv k hk]; exact hless) hposs
    (by
      rw [hown]
      have : 0 ≤ (takeN (upP p i) (gsAt gs g) : Int) * (lvOf ls gs g).2 := Int.mul_nonneg (Int.natCast_nonneg _) hc0
      omega)
    (fun q' hq' hsum => by
      rw [hown]
      obtain ⟨b1, b2⟩ := merged_up (subs_good hF.toForest hg) q' _ (Nat.le_refl _) (poss_of hq' (Nat.le_refl _))
      have q1 := sQ_sum (subTabs ls gs g).length q' _ (Nat.le_refl _)
      have s1 := sS_sum (subTabs ls gs g).length (fun t => ent (tabAt (subTabs ls gs g) t) (q' t)) _ (Nat.le_refl _)
      rw [Nat.sub_self] at q1 s1
      simp only [List.range_zero, List.map_nil, List.sum_nil, Nat.add_zero, Int.add_zero] at q1 s1
      rw [q1, hsum, hQs] at b2
      rw [sE_sS, s1] at b1 b2
      rw [← hce] at b2
      have hb := tab_bound (comeOf ls gs g) (decide ((gsAt gs g).lvl = (ls.length : Int) - 1)) (lvOf ls gs g).1 (lvOf ls gs g).2 hc0 hgood.1 b2 b1 (t := takeN (upP p i) (gsAt gs g)) (by omega) henough hlast
      rw [tabOf_eq hF.toForest hg]
      rwa [Nat.add_sub_cancel_left, hpassg, hpass] at hb)
  have hsv := plan_saves hF.toForest2 hPO g hg
  rw [← hpd] at hsv
  rw [hown] at hmain
  omega
end Go.Proofs.Ytpieagaggjngjaa

/-! P21 -/
namespace Go.Proofs.Ytpieagaggjngjaa
open Go.RowKit
set_option linter.unusedVariables false
set_option maxRecDepth 100000
theorem PlanOk.congr {L : List (Int × Int)} {gs : List PGrp} {n : Nat} {p p' : Int → Int} (hF : Forest2 L gs n) (h : ∀ i : Int, 0 ≤ i → i < (n : Int) → p i = p' i) (ho : PlanOk L gs p) : PlanOk L gs p' := by
  have hr : ∀ g, g < gs.length → ∀ i ∈ (gsAt gs g).items, p i = p' i := fun g hg i hi => h i (hF.range g hg i hi).1 (hF.range g hg i hi).2
  refine ⟨fun g hg i hi => by rw [← hr g hg i hi]; exact ho.num g hg i hi, fun g hg => ?_⟩
  have e : takeN p' (gsAt gs g) = takeN p (gsAt gs g) := by
    unfold takeN
    exact List.countP_congr (fun i hi => by rw [hr g hg i hi])
  rw [e]
  exact ho.enough g hg
theorem total_congr {L : List (Int × Int)} {n : Nat} {p p' : Int → Int} (h : ∀ i : Int, 0 ≤ i → i < (n : Int) → p i = p' i) : totalI L p n = totalI L p' n := by
  unfold totalI
  congr 1
  refine List.map_congr_left (fun i hi => ?_)
  obtain ⟨j, hj, rfl⟩ := List.mem_map.1 hi
  have := List.mem_range.1 hj
  rw [h (Int.ofNat j) (Int.natCast_nonneg _) (by show (j : Int) < n; omega)]
variable {ls : List Lev} {cs : List ByteArray}
theorem pf_set {zs : List Int} {i : Nat} (hi : i < zs.length) : ∀ j : Int, 0 ≤ j → j < (zs.length : Int) → pf (zs.set i (zs[i] - 1)) j = upP (pf zs) (i : Int) j := by
  intro j h0 h1
  obtain ⟨k, rfl⟩ : ∃ k : Nat, j = (k : Int) := ⟨j.toNat, by omega⟩
  have hk : k < zs.length := by omega
  rw [pf_get (by simpa using hk), List.getElem_set]
  by_cases e : i = k
  · subst e; rw [if_pos rfl, upP_at, pf_get hk]
  · rw [if_neg e, upP_ne _ _ (by omega), pf_get hk]
theorem set_nums {n : Nat} {zs : List Int} (h : numsB n zs = true) {i : Nat} (hi : i < zs.length) (h0 : 0 < zs[i]) : numsB n (zs.set i (zs[i] - 1)) = true := by
  refine nums_true (fun k hk => ?_)
  have hk' : k < zs.length := by simpa using hk
  rw [List.getElem_set]
  have := nums_at h k hk'
  have := nums_at h i hi
  split <;> omega
theorem planC_few (h : rightB ls = true) (hc : ∀ c ∈ cs, codeB c = true) (hp : ∀ l ∈ ls, ∀ c ∈ cs, l.pre ≤ c.size) {i : Nat} (hi : i < (planC ls cs).length) (h0 : 0 < (planC ls cs)[i]) (ho : grpsOkB ls ((planC ls cs).set i ((planC ls cs)[i] - 1)) (gAll ls cs ls.length) = true) :
    savesTo ls ((planC ls cs).set i ((planC ls cs)[i] - 1)) cs.length < savesTo ls (planC ls cs) cs.length := by
  have hF := forest3 h hc hp
  have hlen := planC_len ls cs
  have hz : ((planC ls cs).set i ((planC ls cs)[i] - 1)).length = cs.length := by rw [List.length_set, hlen]
  have hn := planC_nums h hc hp
  have h1 := (valid_iff h hc hp hz (set_nums hn hi h0)).1 ho
  have hcg := pf_set hi
  rw [hlen] at hcg
  have h2 := PlanOk.congr hF.toForest2 hcg h1
  have hi' : i < cs.length := by rw [hlen] at hi; exact hi
  have h3 := plan_few hF (i := (i : Int)) (by omega) (by omega) (by rw [← planC_pf, pf_get hi]; exact h0) (by rw [← planC_pf]; exact h2)
  have s1 := saves_total ls (planC ls cs)
  have s2 := saves_total ls ((planC ls cs).set i ((planC ls cs)[i] - 1))
  rw [hlen] at s1
  rw [hz] at s2
  rw [s1, s2, total_congr hcg, planC_pf]
  exact h3
end Go.Proofs.Ytpieagaggjngjaa

/-! P22 -/
namespace Go.Proofs.Ytpieagaggjngjaa
open Go.RowKit
set_option linter.unusedVariables false
set_option maxRecDepth 100000
variable {ls : List Lev} {cs : List ByteArray}
theorem getD_any {zs : List Int} {i : Int} (h : i.toNat < zs.length) (a b : Int) : zs.getD i.toNat a = zs.getD i.toNat b := by
  rw [List.getD_eq_getElem?_getD, List.getD_eq_getElem?_getD, List.getElem?_eq_getElem h]; rfl
def comeG (zs : List Int) (x : Grp) (p : Nat) : List Int := (x.items.take p).filter (fun i => decide (zs.getD i.toNat (-1) = x.lvl))
theorem comeG_succ (zs : List Int) (x : Grp) {p : Nat} (h : p < x.items.length) : comeG zs x (p + 1) = if zs.getD x.items[p].toNat (-1) = x.lvl then comeG zs x p ++ [x.items[p]] else comeG zs x p := by
  unfold comeG
  rw [List.take_succ_eq_append_getElem h, List.filter_append]
  by_cases e : zs.getD x.items[p].toNat (-1) = x.lvl
  · rw [if_pos e, List.filter_cons_of_pos (by simpa using e), List.filter_nil]
  · rw [if_neg e, List.filter_cons_of_neg (by simpa using e), List.filter_nil, List.append_nil]
theorem comeG_len (zs : List Int) (x : Grp) (p : Nat) : (comeG zs x p).length = takesTo zs x p := by
  unfold comeG takesTo
  rw [List.countP_eq_length_filter]
theorem mem_comeG {zs : List Int} {x : Grp} {i : Int} : i ∈ comeG zs x x.items.length ↔ i ∈ x.items ∧ zs.getD i.toNat (-1) = x.lvl := by
  unfold comeG
  rw [List.mem_filter, List.take_of_length_le (Nat.le_refl _), decide_eq_true_eq]
def bump (zs : List Int) (lvl : Int) (l : List Int) : List Int := l.foldl (fun q i => q.set i.toNat (lvl + 1)) zs
theorem bump_snoc (zs : List Int) (lvl : Int) (l : List Int) (i : Int) : bump zs lvl (l ++ [i]) = (bump zs lvl l).set i.toNat (lvl + 1) := by
  unfold bump
  rw [List.foldl_append]; rfl
theorem bump_len (zs : List Int) (lvl : Int) (l : List Int) : (bump zs lvl l).length = zs.length := fold_len _ _ _
structure GrOk (ls : List Lev) (cs : List ByteArray) (zs : List Int) (k : Nat) : Prop where
  len : zs.length = cs.length
  num : numsB ls.length zs = true
  ok : ∀ j, j < k → ∀ (hj : j < (gAll ls cs ls.length).length), grpOkB ls zs (gAll ls cs ls.length)[j] = true
theorem gr_init (h : rightB ls = true) : GrOk ls cs (List.replicate cs.length 0) 0 := by
  have hlen := right_len h
  refine ⟨by simp, nums_true (fun k hk => ?_), fun j hj => absurd hj (Nat.not_lt_zero _)⟩
  rw [List.getElem_replicate]
  omega
theorem gAll_items' {x : Grp} (hx : x ∈ gAll ls cs ls.length) : x.items.length ≤ cs.length ∧ ∀ i ∈ x.items, ∃ q : Nat, q < cs.length ∧ i = (q : Int) := by
  obtain ⟨mm, n, hmm, _, rfl⟩ := mem_gAll.1 hx
  refine ⟨itm_len ls _ mm n, fun i hi => ?_⟩
  obtain ⟨q, hq, _, rfl⟩ := mem_itm.1 hi
  exact ⟨q, hq, rfl⟩
theorem items_in {j : Nat} (hj : j < (gAll ls cs ls.length).length) {i : Int} (hi : i ∈ (gAll ls cs ls.length)[j].items) : 0 ≤ i ∧ i.toNat < cs.length := by
  obtain ⟨q, hq, rfl⟩ := (gAll_items' (List.getElem_mem hj)).2 i hi
  omega
theorem gr_step (h : rightB ls = true) (hc : ∀ c ∈ cs, codeB c = true) (hp : ∀ l ∈ ls, ∀ c ∈ cs, l.pre ≤ c.size) {zs : List Int} {k : Nat} (hk : k < (gAll ls cs ls.length).length) (ho : GrOk ls cs zs k) :
    if ((comeG zs (gAll ls cs ls.length)[k] (gAll ls cs ls.length)[k].items.length).length : Int) < minAt ls (gAll ls cs ls.length)[k].lvl then GrOk ls cs (bump zs (gAll ls cs ls.length)[k].lvl (comeG zs (gAll ls cs ls.length)[k] (gAll ls cs ls.length)[k].items.length)) (k + 1) else GrOk ls cs zs (k + 1) := by
  have hF := forest3 h hc hp
  have hglen : (pG ls cs).length = (gAll ls cs ls.length).length := by unfold pG; exact pOfs_len _
  obtain ⟨x, hx⟩ : ∃ x, x = (gAll ls cs ls.length)[k] := ⟨_, rfl⟩
  rw [← hx]
  have hxp : gsAt (pG ls cs) k = pOf x := by rw [hx]; exact pG_pOf hk
  have hlv := hF.lvl k (by omega)
  rw [hxp, plsOf_len] at hlv
  have hlv0 : 0 ≤ x.lvl := hlv.1
  have hlv1 : x.lvl < (ls.length : Int) := hlv.2
  split
  · rename_i hlt
    obtain ⟨C, hC⟩ : ∃ C, C = comeG zs x x.items.length := ⟨_, rfl⟩
    rw [← hC] at hlt ⊢
    have hmem : ∀ i, i ∈ C ↔ i ∈ x.items ∧ zs.getD i.toNat (-1) = x.lvl := fun i => by rw [hC]; exact mem_comeG
    have hin : ∀ i ∈ x.items, 0 ≤ i ∧ i.toNat < cs.length := fun i hi => items_in hk (by rw [← hx]; exact hi)
    have hcin : ∀ i ∈ C, 0 ≤ i := fun i hi => (hin i ((hmem i).1 hi).1).1
    have hfold := fold_set (x.lvl + 1) C zs hcin
    have hget : ∀ i : Int, 0 ≤ i → i.toNat < cs.length → (bump zs x.lvl C).getD i.toNat (-1) = if i ∈ C then x.lvl + 1 else zs.getD i.toNat (-1) := fun i h0 h1 => by
      have hl : i.toNat < zs.length := by rw [ho.len]; exact h1
      rw [getD_any (by rw [bump_len]; exact hl) (-1) 0, getD_any hl (-1) 0]
      exact hfold.2 i h0 hl
    -- not the last level
    have hnl : x.lvl + 1 < (ls.length : Int) := by
      by_cases e : x.lvl + 1 = (ls.length : Int)
      · exfalso
        have := hF.last k (by omega) (by rw [hxp, plsOf_len]; show x.lvl = _; omega)
        unfold lvOf at this
        rw [hxp] at this
        have e2 : minAt ls x.lvl ≤ 0 := by rw [minAt_eq]; exact this
        omega
      · omega
    refine ⟨by rw [bump_len]; exact ho.len, nums_true (fun i hi => ?_), fun j hj hjl => ?_⟩
    · rw [bump_len] at hi
      have hil : ((i : Int)).toNat < cs.length := by rw [← ho.len]; omega
      have hg := hget (i : Int) (by omega) hil
      rw [Int.toNat_natCast, List.getD_eq_getElem?_getD, List.getElem?_eq_getElem (by rw [bump_len]; exact hi), List.getD_eq_getElem?_getD, List.getElem?_eq_getElem hi] at hg
      have hg' : (bump zs x.lvl C)[i]'(by rw [bump_len]; exact hi) = if (i : Int) ∈ C then x.lvl + 1 else zs[i] := hg
      rw [hg']
      have := nums_at ho.num i hi
      split <;> omega
    · by_cases e : j = k
      · subst e
        rw [← hx]
        unfold grpOkB
        have h0 : takesTo (bump zs x.lvl C) x x.items.length = 0 := by
          unfold takesTo
          rw [List.take_of_length_le (Nat.le_refl _), List.countP_eq_zero]
          intro i hi
          obtain ⟨a, b⟩ := hin i hi
          rw [hget i a b, decide_eq_true_eq]
          by_cases hic : i ∈ C
          · rw [if_pos hic]; omega
          · rw [if_neg hic]
            exact fun e => hic ((hmem i).2 ⟨hi, e⟩)
        rw [h0]
        simp
      · have hjk : j < k := by omega
        have h1 := ho.ok j hjk hjl
        obtain ⟨y, hy⟩ : ∃ y, y = (gAll ls cs ls.length)[j] := ⟨_, rfl⟩
        rw [← hy] at h1 ⊢
        have hyp : gsAt (pG ls cs) j = pOf y := by rw [hy]; exact pG_pOf hjl
        have hord := List.pairwise_iff_getElem.1 (gAll_order ls cs ls.length) j k hjl hk hjk
        rw [← hx, ← hy] at hord
        have hle : y.lvl ≤ x.lvl := by rcases hord with h | h <;> omega
        have ht : takesTo (bump zs x.lvl C) y y.items.length = takesTo zs y y.items.length := by
          unfold takesTo
          rw [List.take_of_length_le (Nat.le_refl _)]
          refine List.countP_congr (fun i hi => ?_)
          obtain ⟨a, b⟩ := items_in hjl (by rw [← hy]; exact hi)
          rw [hget i a b, decide_eq_true_eq, decide_eq_true_eq]
          by_cases hic : i ∈ C
          · rw [if_pos hic]
            obtain ⟨c1, c2⟩ := (hmem i).1 hic
            rw [c2]
            by_cases hl : y.lvl = x.lvl
            · exfalso
              have := hF.alone j (by omega) k (by omega) (by rw [hxp, hyp]; exact hl) i (by rw [hyp]; exact hi) (by rw [hxp]; exact c1)
              omega
            · constructor <;> intro <;> omega
          · rw [if_neg hic]
        unfold grpOkB at h1 ⊢
        rw [ht]
        exact h1
  · rename_i hge
    refine ⟨ho.len, ho.num, fun j hj hjl => ?_⟩
    by_cases e : j = k
    · subst e
      rw [← hx]
      rw [comeG_len] at hge
      unfold grpOkB
      rw [decide_eq_false hge]
      simp
    · exact ho.ok j (by omega) hjl
/-- The plan in which the last level has all. -/
theorem last_valid (h : rightB ls = true) (hc : ∀ c ∈ cs, codeB c = true) (hp : ∀ l ∈ ls, ∀ c ∈ cs, l.pre ≤ c.size) {zs : List Int} (hz : zs.length = cs.length) (ha : ∀ k, k < (gAll ls cs ls.length).length → ∀ (hk : k < (gAll ls cs ls.length).length), ∀ i ∈ (gAll ls cs ls.length)[k].items, zs.getD i.toNat (-1) = (ls.length : Int) - 1) :
    numsB ls.length zs = true ∧ grpsOkB ls zs (gAll ls cs ls.length) = true := by
  have hF := forest3 h hc hp
  have hlen := right_len h
  have hglen : (pG ls cs).length = (gAll ls cs ls.length).length := by unfold pG; exact pOfs_len _
  have hall : ∀ i (hi : i < zs.length), zs[i] = (ls.length : Int) - 1 := fun i hi => by
    obtain ⟨g, h1, _, h3⟩ := hF.cover (i : Int) (by omega) (by omega)
    rw [pG_pOf (by omega)] at h3
    have := ha g (by omega) (by omega) _ h3
    rw [Int.toNat_natCast, List.getD_eq_getElem?_getD, List.getElem?_eq_getElem hi] at this
    exact this
  have hn : numsB ls.length zs = true := nums_true (fun i hi => by rw [hall i hi]; omega)
  refine ⟨hn, (valid_iff h hc hp hz hn).2 ?_⟩
  refine PlanOk.congr hF.toForest2 (fun i h0 h1 => ?_) (last_ok hF)
  obtain ⟨j, rfl⟩ : ∃ j : Nat, i = (j : Int) := ⟨i.toNat, by omega⟩
  rw [pf_get (by omega), hall j (by omega), plsOf_len]
theorem gr_valid {zs : List Int} (ho : GrOk ls cs zs (gAll ls cs ls.length).length) : grpsOkB ls zs (gAll ls cs ls.length) = true := by
  unfold grpsOkB
  rw [List.all_eq_true]
  intro x hx
  obtain ⟨j, hj, rfl⟩ := List.mem_iff_getElem.1 hx
  exact ho.ok j hj hj
theorem comeG_nodup {zs : List Int} {x : Grp} (hx : x ∈ gAll ls cs ls.length) (p : Nat) : (comeG zs x p).Nodup := by
  obtain ⟨mm, n, hmm, _, rfl⟩ := mem_gAll.1 hx
  have h : (gAt ls cs ls.length mm n).items.Nodup := (itm_order ls cs mm n).imp (fun a e => by omega)
  unfold comeG
  exact List.Nodup.sublist (List.Sublist.trans List.filter_sublist (List.take_sublist _ _)) h
theorem bump_succ (zs : List Int) (lvl : Int) (C : List Int) {p : Nat} (h : p < C.length) : bump zs lvl (C.take (p + 1)) = (bump zs lvl (C.take p)).set C[p].toNat (lvl + 1) := by
  rw [List.take_succ_eq_append_getElem h, bump_snoc]
theorem bump_at {zs : List Int} {x : Grp} (hx : x ∈ gAll ls cs ls.length) (hz : zs.length = cs.length) {p : Nat} (hp : p < (comeG zs x x.items.length).length) :
    ∃ q : Nat, q < cs.length ∧ (comeG zs x x.items.length)[p] = (q : Int) ∧ (bump zs x.lvl ((comeG zs x x.items.length).take p)).getD q (-1) = x.lvl := by
  obtain ⟨h1, h2⟩ := mem_comeG.1 (List.getElem_mem hp)
  obtain ⟨q, hq, he⟩ := (gAll_items' hx).2 _ h1
  refine ⟨q, hq, he, ?_⟩
  have hpos : ∀ i ∈ (comeG zs x x.items.length).take p, 0 ≤ i := fun i hi => by
    obtain ⟨a, _⟩ := mem_comeG.1 (List.mem_of_mem_take hi)
    obtain ⟨q', _, rfl⟩ := (gAll_items' hx).2 _ a
    omega
  have hf := (fold_set (x.lvl + 1) ((comeG zs x x.items.length).take p) zs hpos).2 (q : Int) (by omega) (by rw [Int.toNat_natCast, hz]; exact hq)
  have hql : q < zs.length := by omega
  have e1 : (bump zs x.lvl ((comeG zs x x.items.length).take p)).getD q (-1) = (bump zs x.lvl ((comeG zs x x.items.length).take p)).getD q 0 := by
    have := getD_any (zs := bump zs x.lvl ((comeG zs x x.items.length).take p)) (i := (q : Int)) (by rw [bump_len]; omega) (-1) 0
    rwa [Int.toNat_natCast] at this
  rw [e1]
  rw [Int.toNat_natCast] at hf
  have hnot : (q : Int) ∉ (comeG zs x x.items.length).take p := fun hm => by
    obtain ⟨r, hr, hre⟩ := List.mem_iff_getElem.1 hm
    rw [List.getElem_take] at hre
    rw [List.length_take] at hr
    have := List.pairwise_iff_getElem.1 (comeG_nodup (zs := zs) hx x.items.length) r p (by omega) hp (by omega)
    exact this (hre.trans he.symm)
  show (List.foldl (fun q i => q.set i.toNat (x.lvl + 1)) zs ((comeG zs x x.items.length).take p)).getD q 0 = x.lvl
  rw [hf, if_neg hnot]
  rw [he, Int.toNat_natCast] at h2
  have := getD_any (zs := zs) (i := (q : Int)) (by rw [Int.toNat_natCast]; exact hql) 0 (-1)
  rw [Int.toNat_natCast] at this
  rw [this, h2]
end Go.Proofs.Ytpieagaggjngjaa

/-! P23 -/
namespace Go.Proofs.Ytpieagaggjngjaa
open Go.RowKit
set_option linter.unusedVariables false
set_option maxRecDepth 100000
/-- How many pieces of a group a plan takes. -/
def takM (l : Lev) (cs : List ByteArray) (zs : List Int) (m : Nat) (u : ByteArray) (k : Nat) : Nat :=
  (List.range k).countP (fun i => decide (grpOf l (cs.getD i ⟨#[]⟩) = u) && decide (zs.getD i (-1) = (m : Int)))
theorem items_count (l : Lev) (cs : List ByteArray) (zs : List Int) (m : Nat) (u : ByteArray) (k : Nat) : (itemsTo l cs k u).countP (fun i => decide (zs.getD i.toNat (-1) = (m : Int))) = takM l cs zs m u k := by
  unfold itemsTo takM
  rw [List.countP_map, List.countP_filter]
  refine List.countP_congr (fun i _ => ?_)
  simp only [Function.comp, Int.ofNat_eq_natCast, Int.toNat_natCast, Bool.and_eq_true, decide_eq_true_eq]
  exact And.comm
def PlanV (ls : List Lev) (cs : List ByteArray) (zs : List Int) : Prop := ∀ m (hm : m < ls.length) (u : ByteArray), takM ls[m] cs zs m u cs.length = 0 ∨ ls[m].min ≤ (takM ls[m] cs zs m u cs.length : Int)
theorem planV_iff (ls : List Lev) (cs : List ByteArray) (zs : List Int) : grpsOkB ls zs (gAll ls cs ls.length) = true ↔ PlanV ls cs zs := by
  unfold grpsOkB
  rw [List.all_eq_true]
  have key : ∀ m (hm : m < ls.length) u, grpOkB ls zs (gAt ls cs ls.length m u) = true ↔ (takM ls[m] cs zs m u cs.length = 0 ∨ ls[m].min ≤ (takM ls[m] cs zs m u cs.length : Int)) := fun m hm u => by
    have e : takesTo zs (gAt ls cs ls.length m u) (gAt ls cs ls.length m u).items.length = takM ls[m] cs zs m u cs.length := by
      unfold takesTo
      rw [List.take_of_length_le (Nat.le_refl _)]
      show (itemsTo (lv ls m) cs cs.length u).countP (fun i => decide (zs.getD i.toNat (-1) = (m : Int))) = _
      rw [items_count, lv_get hm]
    unfold grpOkB
    rw [e]
    have e2 : minAt ls (gAt ls cs ls.length m u).lvl = ls[m].min := minAt_get hm
    rw [e2]
    simp only [Bool.not_eq_true', Bool.and_eq_false_iff, decide_eq_false_iff_not]
    omega
  constructor
  · intro h m hm u
    by_cases hu : u ∈ nm ls cs m
    · exact (key m hm u).1 (h _ (mem_gAll.2 ⟨m, u, hm, hu, rfl⟩))
    · left
      unfold takM
      rw [List.countP_eq_zero]
      intro i hi hh
      rw [Bool.and_eq_true, decide_eq_true_eq] at hh
      have hil := List.mem_range.1 hi
      refine hu ?_
      have := nm_of (ls := ls) (m := m) hil
      rw [List.getD_eq_getElem?_getD, List.getElem?_eq_getElem hil] at hh
      rw [lv_get hm] at this
      rw [← hh.1]
      exact this
  · intro h x hx
    obtain ⟨m, u, hm, _, rfl⟩ := mem_gAll.1 hx
    exact (key m hm u).2 (h m hm u)
end Go.Proofs.Ytpieagaggjngjaa

/-! P24 -/
namespace Go.Proofs.Ytpieagaggjngjaa
open Go.RowKit
set_option linter.unusedVariables false
set_option maxRecDepth 100000
/-- Two schemes that differ in their least numbers alone. -/
def strip (l : Lev) : Lev := ⟨l.name, l.pre, l.labs, 0, l.cents⟩
def Sib (ls ls' : List Lev) : Prop := ls.map strip = ls'.map strip
theorem Sib.len {ls ls' : List Lev} (h : Sib ls ls') : ls.length = ls'.length := by
  have := congrArg List.length h
  simpa using this
theorem Sib.at {ls ls' : List Lev} (h : Sib ls ls') {i : Nat} (hi : i < ls.length) (hi' : i < ls'.length) : ls[i].name = ls'[i].name ∧ ls[i].pre = ls'[i].pre ∧ ls[i].labs = ls'[i].labs ∧ ls[i].cents = ls'[i].cents := by
  have e : strip ls[i] = strip ls'[i] := by
    have h1 : (ls.map strip)[i]'(by simpa using hi) = (ls'.map strip)[i]'(by simpa using hi') := by
      have h2 := h
      unfold Sib at h2
      simp only [h2]
    rwa [List.getElem_map, List.getElem_map] at h1
  unfold strip at e
  injection e with e1 e2 e3 e4 e5
  exact ⟨e1, e2, e3, e5⟩
theorem grp_sib {l l' : Lev} (h1 : l.pre = l'.pre) (h2 : l.labs = l'.labs) (c : ByteArray) : grpOf l c = grpOf l' c := by
  unfold grpOf
  rw [h1, h2]
theorem sib_valid {ls ls' : List Lev} (h : Sib ls ls') (hm : ∀ i (hi : i < ls.length) (hi' : i < ls'.length), ls'[i].min ≤ ls[i].min) {cs : List ByteArray} {zs : List Int} (hv : PlanV ls cs zs) : PlanV ls' cs zs := by
  intro m hm' u
  have hl := h.len
  have hm1 : m < ls.length := by omega
  obtain ⟨_, e1, e2, _⟩ := h.at hm1 hm'
  have e : takM ls'[m] cs zs m u cs.length = takM ls[m] cs zs m u cs.length := by
    unfold takM
    exact List.countP_congr (fun i _ => by rw [grp_sib e1 e2])
  rw [e]
  have := hm m hm1 hm'
  rcases hv m hm1 u with h | h
  · exact .inl h
  · exact .inr (by omega)
theorem sib_cents {ls ls' : List Lev} (h : Sib ls ls') (z : Int) : centsAt ls z = centsAt ls' z := by
  unfold centsAt
  have hl := h.len
  by_cases hz : z.toNat < ls.length
  · obtain ⟨_, _, _, e⟩ := h.at hz (by omega)
    rw [List.getD_eq_getElem?_getD, List.getD_eq_getElem?_getD, List.getElem?_eq_getElem hz, List.getElem?_eq_getElem (by omega)]
    exact e
  · rw [List.getD_eq_getElem?_getD, List.getD_eq_getElem?_getD, List.getElem?_eq_none (by omega), List.getElem?_eq_none (by omega)]
theorem sib_saves {ls ls' : List Lev} (h : Sib ls ls') (zs : List Int) (k : Nat) : savesTo ls zs k = savesTo ls' zs k := by
  unfold savesTo
  congr 1
  exact List.map_congr_left (fun z _ => sib_cents h z)
variable {ls ls' : List Lev} {cs : List ByteArray}
/-- What a list of codes and a scheme must be for the laws of the plan. -/
structure Fit (ls : List Lev) (cs : List ByteArray) : Prop where
  right : rightB ls = true
  code : ∀ c ∈ cs, codeB c = true
  pre : ∀ l ∈ ls, ∀ c ∈ cs, l.pre ≤ c.size
def bestS (ls : List Lev) (cs : List ByteArray) : Int := savesTo ls (planC ls cs) cs.length
theorem best_ge (h : Fit ls cs) {zs : List Int} (hz : zs.length = cs.length) (hn : numsB ls.length zs = true) (hv : PlanV ls cs zs) : savesTo ls zs cs.length ≤ bestS ls cs :=
  planC_best h.right h.code h.pre hz hn ((planV_iff ls cs zs).2 hv)
theorem plan_v (h : Fit ls cs) : PlanV ls cs (planC ls cs) := (planV_iff ls cs _).1 (planC_ok h.right h.code h.pre)
theorem less_saves (h : Fit ls cs) (h' : Fit ls' cs) (hs : Sib ls ls') (hm : ∀ i (hi : i < ls.length) (hi' : i < ls'.length), ls'[i].min ≤ ls[i].min) : bestS ls cs ≤ bestS ls' cs := by
  have h1 := best_ge h' (planC_len ls cs) (by rw [← hs.len]; exact planC_nums h.right h.code h.pre) (sib_valid hs hm (plan_v h))
  unfold bestS at h1 ⊢
  rw [sib_saves hs]
  exact h1
theorem app_getD {α : Type} {a b : List α} {i : Nat} (h : i < a.length) {d : α} : (a ++ b).getD i d = a.getD i d := by
  rw [List.getD_eq_getElem?_getD, List.getD_eq_getElem?_getD, List.getElem?_append_left h]
theorem tak_snoc {l : Lev} {c : ByteArray} {zs : List Int} {z : Int} {m : Nat} {u : ByteArray} : ∀ k, k ≤ cs.length → k ≤ zs.length → takM l (cs ++ [c]) (zs ++ [z]) m u k = takM l cs zs m u k := fun k hk hz => by
  unfold takM
  refine List.countP_congr (fun i hi => ?_)
  have hik := List.mem_range.1 hi
  rw [app_getD (show i < cs.length by omega), app_getD (show i < zs.length by omega)]
theorem last_min (h : rightB ls = true) (hi : ls.length - 1 < ls.length) : ls[ls.length - 1].min = 0 := by
  obtain ⟨h1, _, ⟨_, hlv, _, _⟩, _⟩ := rightB_iff.1 h
  obtain ⟨_, hh⟩ := levelB_iff.1 (hlv _ hi hi)
  rw [decide_eq_true (by omega)] at hh
  exact hh.1
theorem mid_min (h : rightB ls = true) {i : Nat} (hi : i + 1 < ls.length) : 1 ≤ (ls[i]'(by omega)).min ∧ (ls[i]'(by omega)).min ≤ 2000 := by
  obtain ⟨h1, _, ⟨_, hlv, _, _⟩, _⟩ := rightB_iff.1 h
  obtain ⟨_, hh⟩ := levelB_iff.1 (hlv i (by omega) (by omega))
  rw [decide_eq_false (by omega)] at hh
  exact hh.1
theorem more_saves {c : ByteArray} (h : Fit ls cs) (h' : Fit ls (cs ++ [c])) : bestS ls cs ≤ bestS ls (cs ++ [c]) := by
  have hlen := right_len h.right
  have hpl := planC_len ls cs
  have hn := planC_nums h.right h.code h.pre
  have hn' : numsB ls.length (planC ls cs ++ [(ls.length : Int) - 1]) = true := by
    unfold numsB at hn ⊢
    rw [List.all_append, hn]
    simp
    omega
  have hv := plan_v h
  have h1 := best_ge h' (zs := planC ls cs ++ [(ls.length : Int) - 1]) (by simp [hpl]) hn' (fun m hm u => by
    rw [List.length_append]
    show takM ls[m] (cs ++ [c]) (planC ls cs ++ [(ls.length : Int) - 1]) m u (cs.length + 1) = 0 ∨ _
    by_cases hml : m = ls.length - 1
    · right
      subst hml
      rw [last_min h.right hm]
      exact Int.natCast_nonneg _
    · have e : takM ls[m] (cs ++ [c]) (planC ls cs ++ [(ls.length : Int) - 1]) m u (cs.length + 1) = takM ls[m] cs (planC ls cs) m u cs.length := by
        rw [← tak_snoc (c := c) (z := (ls.length : Int) - 1) cs.length (Nat.le_refl _) (by omega)]
        unfold takM
        rw [List.range_succ, List.countP_append, List.countP_singleton]
        have : (planC ls cs ++ [(ls.length : Int) - 1]).getD cs.length (-1) = (ls.length : Int) - 1 := by
          rw [List.getD_eq_getElem?_getD, ← hpl, List.getElem?_append_right (Nat.le_refl _), Nat.sub_self]; rfl
        rw [this, decide_eq_false (show ¬ ((ls.length : Int) - 1 = (m : Int)) by omega), Bool.and_false]
        simp
      have := hv m hm u
      rw [← e] at this
      exact this)
  unfold bestS at h1 ⊢
  rw [List.length_append] at h1 ⊢
  have h1' : savesTo ls (planC ls cs ++ [(ls.length : Int) - 1]) (cs.length + 1) ≤ savesTo ls (planC ls (cs ++ [c])) (cs.length + 1) := h1
  have e : savesTo ls (planC ls cs ++ [(ls.length : Int) - 1]) (cs.length + 1) = savesTo ls (planC ls cs) cs.length + centsAt ls ((ls.length : Int) - 1) := by
    rw [savesTo_succ _ _ _ (by simp [hpl])]
    have e1 : savesTo ls (planC ls cs ++ [(ls.length : Int) - 1]) cs.length = savesTo ls (planC ls cs) cs.length := by
      unfold savesTo
      rw [List.take_append_of_le_length (by omega)]
    rw [e1, List.getElem_append_right (by omega)]
    simp
  have := (cents_bound h.right (z := (ls.length : Int) - 1) (by omega) (by omega)).1
  show _ ≤ savesTo ls (planC ls (cs ++ [c])) (cs.length + 1)
  omega
/-- If every group may take any number, each piece gets the most. -/
theorem all_most (h : Fit ls cs) (hm : ∀ i (hi : i < ls.length), ls[i].min ≤ 1) {M : Int} {j : Nat} (hj : j < ls.length) (hM : ls[j].cents = M) (hle : ∀ i (hi : i < ls.length), ls[i].cents ≤ M) : bestS ls cs = M * cs.length := by
  have hcj : centsAt ls (j : Int) = M := by
    unfold centsAt
    rw [Int.toNat_natCast, List.getD_eq_getElem?_getD, List.getElem?_eq_getElem hj]
    exact hM
  have hup : ∀ (zs : List Int) k, k ≤ zs.length → numsB ls.length zs = true → savesTo ls zs k ≤ M * k := fun zs k => by
    induction k with
    | zero => intro _ _; simp [savesTo]
    | succ k ih =>
      intro hk hn
      have h1 := ih (by omega) hn
      obtain ⟨a, b⟩ := nums_at hn k (by omega)
      rw [savesTo_succ ls zs k (by omega)]
      have h2 : centsAt ls zs[k] ≤ M := by
        unfold centsAt
        rw [List.getD_eq_getElem?_getD, List.getElem?_eq_getElem (show zs[k].toNat < ls.length by omega)]
        exact hle _ (by omega)
      have e : M * ((k + 1 : Nat) : Int) = M * k + M := by rw [Int.natCast_add, Int.mul_add]; simp
      omega
  have heq : ∀ (n k : Nat), k ≤ n → savesTo ls (List.replicate n (j : Int)) k = M * k := fun n k => by
    induction k with
    | zero => intro _; simp [savesTo]
    | succ k ih =>
      intro hk
      rw [savesTo_succ ls _ k (by rw [List.length_replicate]; omega), ih (by omega), List.getElem_replicate, hcj]
      rw [Int.natCast_add, Int.mul_add]; simp
  refine Int.le_antisymm (hup _ _ (by rw [planC_len]; exact Nat.le_refl _) (planC_nums h.right h.code h.pre)) ?_
  have h1 := best_ge h (zs := List.replicate cs.length (j : Int)) (by simp) (nums_true (fun k hk => by rw [List.getElem_replicate]; omega)) (fun m hm' u => by
    have := hm m hm'
    omega)
  rw [heq _ _ (Nat.le_refl _)] at h1
  exact h1
/-- A scheme with half the least numbers. -/
def half (l : Lev) : Lev := ⟨l.name, l.pre, l.labs, (l.min + 1) / 2, l.cents⟩
theorem half_sib (ls : List Lev) : Sib ls (ls.map half) := by
  unfold Sib
  rw [List.map_map]
  rfl
theorem half_right (h : rightB ls = true) : rightB (ls.map half) = true := by
  have hh := rightB_iff.1 h
  obtain ⟨h1, h2, ⟨h3, h4, h5, h6⟩, h7⟩ := hh
  refine rightB_iff.2 ⟨by simpa using h1, by simpa using h2, ⟨?_, fun i hi hi' => ?_, fun i hi hi' j hj hj' => ?_, fun i hi hi' j hj hj' => ?_⟩, fun i hi => ?_⟩
  · have e : sumTo (ls.map half) (ls.map half).length = sumTo ls ls.length := by
      unfold sumTo
      rw [List.take_of_length_le (Nat.le_refl _), List.take_of_length_le (Nat.le_refl _), List.map_map]
      rfl
    rw [e]; exact h3
  · have hi2 : i < ls.length := by simpa using hi'
    have hl := levelB_iff.1 (h4 i hi2 hi2)
    have e0 : decide (i + 1 = (ls.map half).length) = decide (i + 1 = ls.length) := by rw [List.length_map]
    rw [List.getElem_map, e0]
    refine levelB_iff.2 ⟨?_, ?_⟩
    · have := hl.1
      unfold headB at this ⊢
      exact this
    · have := hl.2
      by_cases e : i + 1 = ls.length
      · rw [decide_eq_true e] at this ⊢
        simp only [if_true] at this ⊢
        exact ⟨by show (ls[i].min + 1) / 2 = 0; omega, this.2⟩
      · rw [decide_eq_false e] at this ⊢
        simp only [Bool.false_eq_true, if_false] at this ⊢
        exact ⟨⟨by show 1 ≤ (ls[i].min + 1) / 2; omega, by show (ls[i].min + 1) / 2 ≤ 2000; omega⟩, this.2⟩
  · rw [List.getElem_map, List.getElem_map]
    exact h5 i (by simpa using hi) (by simpa using hi') j hj (by simpa using hj')
  · rw [List.getElem_map, List.getElem_map]
    exact h6 i (by simpa using hi) (by simpa using hi') j hj (by simpa using hj')
  · rw [List.getElem_map, List.getElem_map]
    have := nestedB_iff.1 (h7 i (by simpa using hi))
    refine nestedB_iff.2 ?_
    exact this
theorem half_less (h : rightB ls = true) : ∀ i (hi : i < ls.length) (hi' : i < (ls.map half).length), (ls.map half)[i].min ≤ ls[i].min := fun i hi hi' => by
  rw [List.getElem_map]
  show (ls[i].min + 1) / 2 ≤ ls[i].min
  by_cases e : i + 1 = ls.length
  · have h1 := last_min h (by omega)
    have e2 : ls.length - 1 = i := by omega
    have : ls[i].min = 0 := by simpa [e2] using h1
    omega
  · have := (mid_min h (i := i) (by omega)).1
    omega
theorem made_sib (B : Bits) (low cents : List UInt8) : Sib (madeR B low cents) (madeR B [] cents) := by
  unfold Sib madeR mk3 mk2 mk1 addL
  cases B.f5 <;> cases B.f3 <;> cases B.f1 <;> simp [strip]
theorem made_one (B : Bits) (cents : List UInt8) : ∀ l ∈ madeR B [] cents, l.min ≤ 1 := by
  unfold madeR mk3 mk2 mk1 addL
  cases B.f5 <;> cases B.f3 <;> cases B.f1 <;> simp
end Go.Proofs.Ytpieagaggjngjaa
