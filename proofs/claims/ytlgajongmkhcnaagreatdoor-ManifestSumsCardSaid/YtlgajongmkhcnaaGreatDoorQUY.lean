import Derived.Test.YtlgajongmkhcnaaGreatDoorQUR
import Derived.Test.YtlgajongmkhcnaaGreatDoorQUX
import Derived.ChangeKeysEq
import Derived.Laws.StructEq
set_option maxRecDepth 100000
set_option linter.unusedVariables false
set_option linter.unusedSimpArgs false
set_option maxHeartbeats 32000000
namespace Go.Proofs.YtlgajongmkhcnaaGreatDoor
open Go.RowKit Go.Sort
def Zef (f : Nat -> Int) : Array Value := #[.int .i64 (f 0), .int .i64 (f 1), .int .i64 (f 2), .int .i64 (f 3), .int .i64 (f 4), .int .i64 (f 5), .int .i64 (f 6)]
theorem seven {j : Nat} (h : j < 7) : j = 0 \/ j = 1 \/ j = 2 \/ j = 3 \/ j = 4 \/ j = 5 \/ j = 6 := by omega
theorem Zit (f : Nat -> Int) {j : Nat} (h : j < 7) : (Zef f)[j]? = some (.int .i64 (f j)) := by
 rcases seven h with rfl | rfl | rfl | rfl | rfl | rfl | rfl <;> rfl
theorem ZiV (f : Nat -> Int) {j : Nat} (h : j < 7) (u : Int) : (Zef f).setIfInBounds j (.int .i64 u) = Zef (fun q => if q = j then u else f q) := by
 rcases seven h with rfl | rfl | rfl | rfl | rfl | rfl | rfl <;> rfl
def SevAt (W : World) (Z : Nat) (f : Nat -> Int) : Prop := W.1[Z]? = some (.cells (Zef f) 57 (0, 0))
section
variable {W W' : World} {Z : Nat} {f : Nat -> Int}
theorem SevAt.cell (h : SevAt W Z f) {j : Nat} (hj : j < 7) : W.cell? ⟨Z, j, none⟩ = some (.int .i64 (f j)) := (Kaa _ _ j _ _ _ h).trans (Zit f hj)
theorem SevAt.free (h : SevAt W Z f) (j : Nat) : W.frozen? ⟨Z, j, none⟩ = false := by
 unfold SevAt at h
 simp [World.frozen?, h]
theorem SevAt.set (h : SevAt W Z f) {j : Nat} (hj : j < 7) (u : Int) : SevAt (W.setCell ⟨Z, j, none⟩ (.int .i64 u)) Z (fun q => if q = j then u else f q) := by
 unfold SevAt
 rw [<- ZiV f hj]
 exact Zk6 h j _
theorem SevAt.from (h : SevAt W Z f) (e : W'.1[Z]? = W.1[Z]?) : SevAt W' Z f := e.trans h
theorem SevAt.to {g : Nat -> Int} (h : SevAt W Z f) (e : ∀ q, q < 7 -> f q = g q) : SevAt W Z g := by
 have : Zef f = Zef g := by
  unfold Zef
  rw [e 0 (by decide), e 1 (by decide), e 2 (by decide), e 3 (by decide), e 4 (by decide), e 5 (by decide), e 6 (by decide)]
 unfold SevAt
 rw [<- this]
 exact h
end
theorem Zjd (f : Nat -> Int) (w : World) : (binOp .neq 57 (.agg (Zef f)) (.agg (Zef f))).run Tryz.prog w = .ok (.bool false) w := by
 have u3 := Tryz.underlying3
 have a3 := Tryz.isAgg3
 have z3 := Tryz.sizeOf3
 rw [run_neq_struct, show (10000 : Nat) = 9998 + 1 + 1 from rfl, run_equalIn_array w (9998 + 1) _ _ Tryz.underlying57 (i := (Tryz.prog.info? 3).getD default) (by kernel_rfl), show Tryz.prog.cellsOf 3 = 1 by kernel_rfl, show List.range 7 = [0, 1, 2, 3, 4, 5, 6] from rfl]
 unfold Zef
 simp only [Op.eqItems, Sem.run_bind]
 go_simp
def Z6C (xs : List Ln) (k q : Nat) : Int := ((xs.take k).map (fun x => lnN x (q + 1))).sum
theorem ZeG (xs : List Ln) (q : Nat) : Z6C xs 0 q = 0 := rfl
theorem Z9M {xs : List Ln} {k : Nat} (hk : k < xs.length) (q : Nat) : Z6C xs (k + 1) q = Z6C xs k q + lnN xs[k] (q + 1) := by
 unfold Z6C
 rw [Z8 hk, ZD, Kbo]
 simp
theorem Z8U {xs : List Ln} {k : Nat} (hk : xs.length <= k) (q : Nat) : Z6C xs k q = (xs.map (fun x => lnN x (q + 1))).sum := by
 unfold Z6C
 rw [Kas hk]
theorem ZiD {m : Int} {x : Ln} (h : LnIn m x) {q : Nat} (hq : q < 7) : 0 <= lnN x (q + 1) /\ lnN x (q + 1) <= m := by
 rcases seven hq with rfl | rfl | rfl | rfl | rfl | rfl | rfl
 ·exact h.pieces
 ·exact h.barred
 ·exact h.grams
 ·exact h.base
 ·exact h.bar
 ·exact h.saved
 ·exact h.cents
theorem ZeH {m : Int} {xs : List Ln} (h : ∀ i (hi : i < xs.length), LnIn m xs[i]) {q : Nat} (hq : q < 7) : ∀ k, k <= xs.length -> 0 <= Z6C xs k q /\ Z6C xs k q <= k * m
 | 0, _ => by rw [ZeG]; simp
 | k + 1, hk => by
  have h1 := ZeH h hq k (by omega)
  have h2 := ZiD (h k (by omega)) hq
  have e : ((k + 1 : Nat) : Int) * m = k * m + m := by rw [Int.natCast_succ, Int.add_mul, Int.one_mul]
  rw [Z9M (by omega), e]
  omega
theorem Zks {q : Nat} (hq : q < 7) : Adds (fun x => lnN x (q + 1)) := by
 rcases seven hq with rfl | rfl | rfl | rfl | rfl | rfl | rfl
 ·exact ZaZ
 ·exact ZgL
 ·exact Z9A
 ·exact ZjL
 ·exact Zkt
 ·exact Zik
 ·exact Zdc
def Zed (xs : List Ln) (k j q : Nat) : Int := Z6C xs k q + if q < j then lnN (xs.getD k (Z1m 0)) (q + 1) else 0
theorem ZgK (xs : List Ln) (k q : Nat) : Zed xs k 0 q = Z6C xs k q := by unfold Zed; rw [if_neg (Ka2 _)]; omega
theorem Zec {xs : List Ln} {k : Nat} (hk : k < xs.length) {q : Nat} (hq : q < 7) : Zed xs k 7 q = Z6C xs (k + 1) q := by
 unfold Zed
 rw [if_pos hq, Z9M hk, Z2, Z3 hk]
 rfl
theorem ZjK (xs : List Ln) (k j : Nat) : Zed xs k j j = Z6C xs k j := by unfold Zed; rw [if_neg (Kdg _)]; omega
theorem Zii (xs : List Ln) (k j q : Nat) {v : Int} (hv : v = lnN (xs.getD k (Z1m 0)) (j + 1)) : (if q = j then Z6C xs k j + v else Zed xs k j q) = Zed xs k (j + 1) q := by
 by_cases e : q = j
 ·subst e
  unfold Zed
  rw [if_pos rfl, if_pos (Ka4 _), hv]
 ·rw [if_neg e]
  unfold Zed
  by_cases h : q < j
  ·rw [if_pos h, if_pos (by omega)]
  ·rw [if_neg h, if_neg (by omega)]
theorem ZjF {n : Nat} {ps : List UInt8} {ls : List Lev} {l : List UInt16} {zs : List Int} (h : Mk27 n ps ls l) (pA : zs.length = (Z04 l).ps.length) (hn : Z1j ls.length zs = true) {k : Pck} (hk : Z7K k = true) (pC : ∀ p ∈ (Z04 l).ps, p.grams <= k.grams) :
 ∀ b ∈ (ZbD ls l zs k).buns, (∃ z : Nat, z < ls.length /\ b.lvl = (z : Int)) /\ 0 <= b.grams /\ b.grams <= 1000000 := by
 intro b hb
 obtain ⟨I, hI, hid, pD, pE, pI, pJ⟩ := (Zcu h.hp pA hn hk pC).ok.buns.good b hb
 obtain ⟨i, hi⟩ : ∃ i, i ∈ I := List.exists_mem_of_length_pos pE
 obtain ⟨h0, h1, h2, _⟩ := hI i hi
 obtain ⟨z, hz, e⟩ := ZcM pA hn i.toNat h1
 refine ⟨⟨z, hz, by rw [<- h2, e]⟩, ?_, ?_⟩
 ·rw [<- pD]
  have key : ∀ J : List Int, (∀ i ∈ J, i.toNat < (Z04 l).ps.length) -> 0 <= Z0k (Z04 l).ps J := by
   intro J
   induction J with
   | nil => intro _; exact Kbi 0
   | cons i r ih =>
    intro hJ
    have h1 := ih (fun x hx => hJ x (Kaj _ hx))
    have h2 := hJ i Kaf
    have h3 : Z15 (Z04 l).ps i = (Z04 l).ps[i.toNat] := by unfold Z15; rw [Z2, Z3 h2]; rfl
    have h4 := Z2j l _ (Z4 h2)
    unfold Z0k at h1 ⊢
    rw [Kan, Ka7, h3]
    omega
  exact key I (fun i hi => (hI i hi).2.1)
 ·have h5 := (ZF _ _ ▸ hk : decide (1 <= k.pieces /\ k.pieces <= 2000 /\ 1 <= k.grams /\ k.grams <= 1000000) = true /\ _).1
  have h6 := of_decide_eq_true h5
  omega
theorem Zgv {bs : List Bun} (h : ∀ b ∈ bs, 0 <= b.grams /\ b.grams <= 1000000) (j : Int) : ∀ q, q <= bs.length -> 0 <= Z7A (bs.take q) j /\ Z7A (bs.take q) j <= q * 1000000
 | 0, _ => by simp [Z7A]
 | q + 1, hq => by
  have h1 := Zgv h j q (by omega)
  have h2 := h _ (Z4 (show q < bs.length by omega))
  rw [ZaS bs (by omega)]
  split <;> omega
theorem ZfE {W : World} {B A g cap : Nat} {X : Man} (h : ManS W B A g cap X) : ∀ j u, (X.lines.flatMap lnC)[j]? = some u -> W.cell? ((⟨g, 0, none⟩ : Addr).add j) = some u := by
 intro j u hj
 have pF : ∀ l : List Ln, (l.flatMap lnC).length = l.length * 8 := fun l => by
  induction l with
  | nil => rfl
  | cons x r ih => rw [Kao, ZC, ih, Ka9, Z5A]; omega
 have pK : j < X.lines.length * 8 := by rw [<- pF]; exact (Kam.1 hj).1
 have hi : j / 8 < X.lines.length := by omega
 have hm : j % 8 < 8 := Kcj _ (by decide)
 have e : j / 8 * 8 + j % 8 = j := by omega
 have h1 := Z3e Z5A X.lines (j / 8) (j % 8) hi hm
 rw [e, hj] at h1
 obtain ⟨_, ⟨c2, p2, hs, e2⟩, _⟩ := h
 have h2 := e2 (j / 8) hi (j % 8) u h1.symm
 rw [e] at h2
 have pG : (⟨g, 0, none⟩ : Addr).add j = ⟨g, j, none⟩ := by unfold Addr.add; split <;> simp_all
 rw [pG, Kaa _ _ _ _ _ _ p2]
 exact h2
theorem Zfp {w : World} {base g n cap : Nat} {l : List Ln} (h : OwnsLn w base (.slice (some ⟨g, 0, none⟩) n cap) l) (hn : n = l.length) : ∀ i (hi : i < l.length) j u, (lnC l[i])[j]? = some u -> w.cell? ⟨g, i * 8 + j, none⟩ = some u := fun i hi j u hj => by
 subst hn
 have pH : j < 8 := (Kam.1 hj).1
 rw [h.cellAt _ (by omega), Z3e Z5A l i j hi pH]
 exact hj
def ZgN (f : Nat -> Int) (i : Nat) : Int := ((List.range i).map f).sum
theorem ZeI (f : Nat -> Int) : ZgN f 0 = 0 := rfl
theorem Z6D (f : Nat -> Int) (i : Nat) : ZgN f (i + 1) = ZgN f i + f i := by
 unfold ZgN
 rw [Kaq, ZD, Kbo]
 simp
theorem Zb8 {f : Nat -> Int} {n : Nat} (h : ∀ i, i < n -> 0 <= f i /\ f i <= 1000) : ∀ i, i <= n -> 0 <= ZgN f i /\ ZgN f i <= i * 1000
 | 0, _ => by rw [ZeI]; simp
 | i + 1, hi => by
  have h1 := Zb8 h i (by omega)
  have h2 := h i (by omega)
  rw [Z6D]
  omega
theorem ZjE {W W' : World} {k : Nat} (h : W'.1[k]? = W.1[k]?) (o : Nat) : W'.cell? ⟨k, o, none⟩ = W.cell? ⟨k, o, none⟩ := Kak h
theorem Zib {W : World} {b o : Nat} {v : Value} (h : W.cell? ⟨b, o, none⟩ = some v) : b < W.1.size := by
 rcases Nat.lt_or_ge b W.1.size with h' | h'
 ·exact h'
 ·have : W.1[b]? = none := Kdi h'
  simp [World.cell?, this] at h
def Z3X (bs : List Bun) (K q : Nat) : List Int := (List.range K).map (fun (j : Nat) => Z7A (bs.take q) (j : Int))
theorem Z2W (bs : List Bun) (K q : Nat) : (Z3X bs K q).length = K := by unfold Z3X; simp
theorem ZdE (bs : List Bun) (K : Nat) : Z3X bs K 0 = List.replicate K 0 := by
 unfold Z3X
 refine Kcf (by simp) (fun i h1 h2 => ?_)
 simp [Z7A]
theorem ZcD (bs : List Bun) {K q j : Nat} (hj : j < K) (d : Int) : (Z3X bs K q).getD j d = Z7A (bs.take q) (j : Int) := by
 rw [Z2, Z3 (by rw [Z2W]; exact hj)]
 unfold Z3X
 simp
theorem ZdF {bs : List Bun} {K q z : Nat} (hq : q < bs.length) (hz : z < K) (e : bs[q].lvl = (z : Int)) : (Z3X bs K q).set z (Z7A (bs.take q) (z : Int) + bs[q].grams) = Z3X bs K (q + 1) := by
 refine List.ext_getElem? (fun i => ?_)
 by_cases hi : i < K
 ·have h : ∀ q, (Z3X bs K q)[i]? = some (Z7A (bs.take q) (i : Int)) := fun q => by
   unfold Z3X
   rw [Kal, Kb2 hi]
   rfl
  rw [h, ZaS bs hq, e]
  by_cases pB : z = i
  ·subst pB
   rw [Kcw (by rw [Z2W]; exact hz), if_pos rfl]
  ·rw [List.getElem?_set_ne pB, h, if_neg (by omega), Int.add_zero]
 ·rw [Kbx (by rw [Kb8, Z2W]; omega), Kbx (by rw [Z2W]; omega)]
end Go.Proofs.YtlgajongmkhcnaaGreatDoor
