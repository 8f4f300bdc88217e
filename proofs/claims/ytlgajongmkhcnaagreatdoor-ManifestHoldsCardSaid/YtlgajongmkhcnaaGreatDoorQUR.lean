import Derived.Test.YtlgajongmkhcnaaGreatDoorQUH
import Derived.Test.YtlgajongmkhcnaaGreatDoorQUP
import Derived.Test.YtlgajongmkhcnaaGreatDoorQUK
import Derived.Test.YtlgajongmkhcnaaGreatDoorQUN
set_option maxRecDepth 100000
set_option linter.unusedVariables false
set_option linter.unusedSimpArgs false
set_option maxHeartbeats 32000000
namespace Go.Proofs.YtlgajongmkhcnaaGreatDoor
section
open Go.RowKit
theorem ZcG {α : Type} : ∀ (A B : List α), A.Nodup -> (∀ x ∈ A, x ∈ B) -> A.length <= B.length
 | [], _, _, _ => ZE _
 | a :: r, B, hn, h => by
  obtain ⟨B1, B2, rfl⟩ := List.append_of_mem (h a Kaf)
  rw [List.nodup_cons] at hn
  have := ZcG r (B1 ++ B2) hn.2 (fun x hx => by
   have h1 := h x (Kaj _ hx)
   rcases ZG.1 h1 with h2 | h2
   ·exact Kcn _ h2
   ·rcases Kbf.1 h2 with rfl | h2
    ·exact absurd hx hn.1
    ·exact Kck _ h2)
  rw [ZC, Ka9]
  rw [ZC] at this
  rw [Ka9]
  omega
theorem Zfs {α : Type} {A B : List α} (hn : A.Nodup) (h : ∀ x ∈ A, x ∈ B) (hl : B.length <= A.length) : ∀ x ∈ B, x ∈ A := fun x hx => by
 refine Kb6 (fun pQ => ?_)
 have := ZcG (x :: A) B (List.nodup_cons.2 ⟨pQ, hn⟩) (fun y hy => by
  rcases Kbf.1 hy with rfl | hy
  ·exact hx
  ·exact h y hy)
 rw [Ka9] at this
 omega
structure Adds (f : Ln -> Int) : Prop where
 add : ∀ s x, f (Z33 s x) = f s + f x
 zero : ∀ lv, f (Z1m lv) = 0
theorem ZaY {f : Ln -> Int} (h : Adds f) : ∀ (l : List Ln) (s : Ln), f (l.foldl Z33 s) = f s + (l.map f).sum
 | [], s => by simp
 | x :: r, s => by rw [List.foldl_cons, ZaY h r, h.add, Kan, Ka7]; omega
theorem Z6v {f : Ln -> Int} (h : Adds f) (lv : Int) (l : List Ln) : f (Z1r lv l) = (l.map f).sum := by
 unfold Z1r
 rw [ZaY h, h.zero]; omega
theorem ZaZ : Adds Ln.pieces := ⟨fun _ _ => rfl, fun _ => rfl⟩
theorem ZgL : Adds Ln.barred := ⟨fun _ _ => rfl, fun _ => rfl⟩
theorem Z9A : Adds Ln.grams := ⟨fun _ _ => rfl, fun _ => rfl⟩
theorem ZjL : Adds Ln.base := ⟨fun _ _ => rfl, fun _ => rfl⟩
theorem Zkt : Adds Ln.bar := ⟨fun _ _ => rfl, fun _ => rfl⟩
theorem Zik : Adds Ln.saved := ⟨fun _ _ => rfl, fun _ => rfl⟩
theorem Zdc : Adds Ln.cents := ⟨fun _ _ => rfl, fun _ => rfl⟩
theorem ZeF {α : Type} (f g : α -> Int) : ∀ l : List α, (l.map (fun x => f x + g x)).sum = (l.map f).sum + (l.map g).sum
 | [] => rfl
 | x :: r => by rw [Kan, Kan, Kan, Ka7, Ka7, Ka7, ZeF f g r]; omega
theorem ZeE (c : Int) (z : Nat) : ∀ K, ((List.range K).map (fun j => if z = j then c else 0)).sum = if z < K then c else 0
 | 0 => rfl
 | K + 1 => by
  rw [Kaq, ZD, Kbo, ZeE c z K, Kan, Kbe, Ka7, List.sum_nil]
  by_cases h : z < K
  ·rw [if_pos h, if_neg (by omega), if_pos (by omega)]; omega
  ·by_cases h2 : z = K
   ·rw [if_neg h, if_pos h2, if_pos (by omega)]; omega
   ·rw [if_neg h, if_neg h2, if_neg (by omega)]; omega
theorem ZcB (zs : List Int) (pl : Nat -> Ln) (f : Ln -> Int) (K : Nat) : ∀ n, (∀ i, i < n -> ∃ z : Nat, z < K /\ zs.getD i (-1) = (z : Int)) ->
 ((List.range K).map (fun j => ((Z0p zs pl n j).map f).sum)).sum = ((List.range n).map (fun i => f (pl i))).sum
 | 0, _ => by
  have e : (fun j => ((Z0p zs pl 0 j).map f).sum) = fun _ => 0 := by
   funext j
   rfl
  rw [e]
  have : ∀ l : List Nat, (l.map (fun _ => (0 : Int))).sum = 0 := fun l => by
   induction l with
   | nil => rfl
   | cons x r ih => rw [Kan, Ka7, ih]; rfl
  rw [this]; rfl
 | n + 1, h => by
  obtain ⟨z, hz, e⟩ := h n (by omega)
  have hf : (fun j => ((Z0p zs pl (n + 1) j).map f).sum) = fun j => ((Z0p zs pl n j).map f).sum + (if z = j then f (pl n) else 0) := by
   funext j
   by_cases hj : z = j
   ·subst hj
    rw [Zab zs pl e, ZD, Kbo, if_pos rfl, Kan, Kbe, Ka7, List.sum_nil]; omega
   ·rw [Za9 zs pl (by rw [e]; omega), if_neg hj]; omega
  rw [hf, ZeF, ZcB zs pl f K n (fun i hi => h i (by omega)), ZeE, if_pos hz, Kaq, ZD, Kbo, Kan, Kbe, Ka7, List.sum_nil]; omega
theorem Z6y {f : Ln -> Int} (h : Adds f) {zs : List Int} (pl : Nat -> Ln) {n K : Nat} (b t c : Nat) (hz : ∀ i, i < n -> ∃ z : Nat, z < K /\ zs.getD i (-1) = (z : Int)) : f (Z5x zs pl n K b t c).total = ((List.range n).map (fun i => f (pl i))).sum := by
 unfold Z5x
 dsimp only
 rw [Z6v h, Kdd, <- ZcB zs pl f K n hz]
 congr 1
 refine Kbg (fun j _ => ?_)
 show f (Z1r _ _) = _
 rw [Z6v h]
theorem Z9L {bar : Int} (lv : Int) {l : List Ln} (h : ∀ x ∈ l, LnK bar x) : LnK bar (Z1r lv l) := by
 have key : ∀ (l : List Ln) (s : Ln), LnK bar s -> (∀ x ∈ l, LnK bar x) -> LnK bar (l.foldl Z33 s) := fun l => by
  induction l with
  | nil => exact fun s hs _ => hs
  | cons x r ih =>
   intro s hs hx
   have h1 := hx x Kaf
   refine ih (Z33 s x) ?_ (fun y hy => hx y (Kaj _ hy))
   obtain ⟨a1, a2, a3⟩ := hs
   obtain ⟨b1, b2, b3⟩ := h1
   refine ⟨?_, ?_, ?_⟩
   ·unfold Z33; dsimp only; omega
   ·unfold Z33; dsimp only; omega
   ·unfold Z33; dsimp only; rw [Int.add_mul]; omega
 exact key l _ ⟨by unfold Z1m; dsimp only; omega, by unfold Z1m; dsimp only; omega, by unfold Z1m; dsimp only; omega⟩ h
theorem ZeD {c : Int} (lv : Int) {l : List Ln} (h : ∀ x ∈ l, x.saved = c /\ x.pieces = 1) : (Z1r lv l).saved = (Z1r lv l).pieces * c := by
 have key : ∀ (l : List Ln) (s : Ln), s.saved = s.pieces * c -> (∀ x ∈ l, x.saved = c /\ x.pieces = 1) -> (l.foldl Z33 s).saved = (l.foldl Z33 s).pieces * c := fun l => by
  induction l with
  | nil => exact fun s hs _ => hs
  | cons x r ih =>
   intro s hs hx
   have h1 := hx x Kaf
   refine ih (Z33 s x) ?_ (fun y hy => hx y (Kaj _ hy))
   unfold Z33; dsimp only; rw [Int.add_mul, h1.1, h1.2]; omega
 exact key l _ (by unfold Z1m; dsimp only; omega) h
theorem Zh1 {α : Type} (f : α -> Int) {l r : List α} (h : l.Perm r) : (l.map f).sum = (r.map f).sum := by
 induction h with
 | nil => rfl
 | cons x _ ih => rw [Kan, Kan, Ka7, Ka7, ih]
 | swap x y l => simp only [Kan, Ka7]; omega
 | trans _ _ ih1 ih2 => exact ih1.trans ih2
def Z7A (bs : List Bun) (j : Int) : Int := ((bs.filter (fun b => decide (b.lvl = j))).map (fun b => b.grams)).sum
theorem ZaR {k : Pck} {ps : List Pce} {zs : List Int} {ns : List ByteArray} : ∀ bs : List Bun, (∀ b ∈ bs, Z5N k ps zs ns b) ->
 ∃ J : List Int, bs.flatMap (fun b => b.ids) = J.map (fun i => (Z15 ps i).id) /\ (∀ i ∈ J, 0 <= i /\ i.toNat < ps.length) /\ ∀ j, Z7A bs j = ((J.filter (fun i => decide (zs.getD i.toNat (-1) = j))).map (fun i => (Z15 ps i).grams)).sum
 | [], _ => ⟨[], rfl, (fun i hi => by cases hi), fun j => rfl⟩
 | b :: r, h => by
  obtain ⟨J, h1, h2, h3⟩ := ZaR r (fun x hx => h x (Kaj _ hx))
  obtain ⟨I, hI, hid, pR, _⟩ := h b Kaf
  refine ⟨I ++ J, by rw [Kao, h1, hid, ZD], fun i hi => ?_, fun j => ?_⟩
  ·rcases ZG.1 hi with hi | hi
   ·exact ⟨(hI i hi).1, (hI i hi).2.1⟩
   ·exact h2 i hi
  ·rw [Kb0, ZD, Kbo, <- h3 j]
   unfold Z7A
   by_cases e : b.lvl = j
   ·have e1 : I.filter (fun i => decide (zs.getD i.toNat (-1) = j)) = I := List.filter_eq_self.2 (fun i hi => by rw [(hI i hi).2.2.1]; simpa using e)
    rw [Kby (by simpa using e), Kan, Ka7, <- pR, e1]
    rfl
   ·have e1 : I.filter (fun i => decide (zs.getD i.toNat (-1) = j)) = [] := List.filter_eq_nil_iff.2 (fun i hi => by rw [(hI i hi).2.2.1]; simpa using e)
    rw [Kbz (by simpa using e), e1]
    simp
theorem Zgt {k : Pck} {ps : List Pce} {zs : List Int} {ns : List ByteArray} {bs : List Bun} (h : BunsOk k ps zs ns bs) (j : Int) : Z7A bs j = (((List.range ps.length).filter (fun i => decide (zs.getD i (-1) = j))).map (fun i => (ps.getD i ⟨0, 0, ⟨#[]⟩, 0, false⟩).grams)).sum := by
 obtain ⟨J, h1, h2, h3⟩ := ZaR bs h.good
 have hn : (J.map (fun i => (Z15 ps i).id)).Nodup := by rw [<- h1]; exact h.once
 have hl : J.length = ps.length := by rw [<- h.all, h1, Z7]
 have hJ : J.Nodup := by
  rw [List.Nodup, Kbt] at hn
  exact List.Pairwise.imp (fun pS e => pS (by rw [e])) hn
 have hp : J.Perm (Z0W 0 ps.length) := by
  obtain ⟨k1, k2, k3⟩ := Z0J ps.length
  have pM : ∀ x ∈ J, x ∈ Z0W 0 ps.length := fun i hi => by
   obtain ⟨a, b⟩ := h2 i hi
   exact Kae.2 ⟨i.toNat, Ka8.2 (by omega), by omega⟩
  exact (Kch hJ k1).2 (fun x => ⟨pM x, Zfs hJ pM (by rw [k2, hl]; exact Z1 _) x⟩)
 rw [h3 j, Zh1 _ (hp.filter _)]
 have e : Z0W 0 ps.length = (List.range ps.length).map (fun (i : Nat) => (i : Int)) := by
  unfold Z0W
  simp
 rw [e, List.filter_map, Kdd]
 rfl
end
section
open Go.RowKit Go.Sort
def lnN (x : Ln) : Nat -> Int
 | 0 => x.level
 | 1 => x.pieces
 | 2 => x.barred
 | 3 => x.grams
 | 4 => x.base
 | 5 => x.bar
 | 6 => x.saved
 | _ => x.cents
def ZkW (x : Ln) (j : Nat) (u : Int) : Ln :=
 match j with
 | 0 => { x with level := u }
 | 1 => { x with pieces := u }
 | 2 => { x with barred := u }
 | 3 => { x with grams := u }
 | 4 => { x with base := u }
 | 5 => { x with bar := u }
 | 6 => { x with saved := u }
 | _ => { x with cents := u }
def Man.put (X : Man) (i : Option Nat) (j : Nat) (u : Int) : Man :=
 match i with
 | none => { X with total := ZkW X.total j u }
 | some i => { X with lines := X.lines.set i (ZkW (X.lines.getD i X.total) j u) }
structure ManS (W : World) (B A g cap : Nat) (X : Man) : Prop where
 box : ∃ cur : Array Value, W.1[A]? = some (.cells cur 44 (0, 0)) /\ cur.toList = .slice (some ⟨g, 0, none⟩) X.lines.length cap :: (lnC X.total ++ [.int .i64 X.buns, .int .i64 X.tras, .int .i64 X.cons])
 row : ∃ cur : Array Value, W.1[g]? = some (.cells cur 42 (0, 0)) /\ X.lines.length * 8 <= cur.size /\ ∀ i (h : i < X.lines.length) j u, (lnC X.lines[i])[j]? = some u -> cur[i * 8 + j]? = some u
 lt : B <= g /\ g < A
theorem ManS.below {W W' : World} {B A g cap : Nat} {X : Man} (h : ManS W B A g cap X) (hb : Below W.1.size W W') : ManS W' B A g cap X := by
 obtain ⟨⟨c1, h1, e1⟩, ⟨c2, h2, e2⟩, h3⟩ := h
 exact ⟨⟨c1, (hb.block A (Z5.1 h1).1).trans h1, e1⟩, ⟨c2, (hb.block g (Z5.1 h2).1).trans h2, e2⟩, h3⟩
theorem ManS.from {W W' : World} {B A g cap : Nat} {X : Man} (h : ManS W B A g cap X) (h1 : W'.1[A]? = W.1[A]?) (h2 : W'.1[g]? = W.1[g]?) : ManS W' B A g cap X := by
 obtain ⟨⟨c1, p1, e1⟩, ⟨c2, p2, e2⟩, h3⟩ := h
 exact ⟨⟨c1, h1.trans p1, e1⟩, ⟨c2, h2.trans p2, e2⟩, h3⟩
theorem ManS.cells {W : World} {B A g cap : Nat} {X : Man} (h : ManS W B A g cap X) :
 W.1[A]? = some (.cells #[.slice (some ⟨g, 0, none⟩) X.lines.length cap, .int .i64 X.total.level, .int .i64 X.total.pieces, .int .i64 X.total.barred, .int .i64 X.total.grams, .int .i64 X.total.base, .int .i64 X.total.bar, .int .i64 X.total.saved, .int .i64 X.total.cents, .int .i64 X.buns, .int .i64 X.tras, .int .i64 X.cons] 44 (0, 0)) := by
 obtain ⟨⟨c1, p1, e1⟩, _, _⟩ := h
 rw [p1]
 have : c1 = (Value.slice (some ⟨g, 0, none⟩) X.lines.length cap :: (lnC X.total ++ [.int .i64 X.buns, .int .i64 X.tras, .int .i64 X.cons])).toArray := by rw [<- e1]
 rw [this]; rfl
theorem ManS.rd {W : World} {B A g cap : Nat} {X : Man} (h : ManS W B A g cap X) : RdLns W (.slice (some ⟨g, 0, none⟩) X.lines.length cap) X.lines := by
 obtain ⟨_, ⟨c2, p2, hs, e2⟩, _⟩ := h
 refine ⟨_, cap, rfl, fun h0 => ⟨g, 0, rfl, (Z5.1 p2).1, fun i hi j u hj => ?_⟩⟩
 rw [Ka0, Kaa _ _ _ _ _ _ p2]
 exact e2 i hi j u hj
theorem ZcJ {W W' : World} {B cap n : Nat} {a : Option Addr} {X : Man} (h : OwnsLn W B (.slice a n cap) X.lines) (hn : n = X.lines.length) (h0 : 0 < X.lines.length)
 (hW : W' = W.alloc (.cells #[.slice a n cap, .int .i64 X.total.level, .int .i64 X.total.pieces, .int .i64 X.total.barred, .int .i64 X.total.grams, .int .i64 X.total.base, .int .i64 X.total.bar, .int .i64 X.total.saved, .int .i64 X.total.cents, .int .i64 X.buns, .int .i64 X.tras, .int .i64 X.cons] 44)) :
 ∃ g, a = some ⟨g, 0, none⟩ /\ ManS W' B W.1.size g cap X /\ Below W.1.size W W' /\ W'.1.size = W.1.size + 1 := by
 subst hn
 have hb : Below W.1.size W W' := by rw [hW]; exact (Z9 _ W).alloc (Z1 _) _
 have hs : W'.1.size = W.1.size + 1 := by rw [hW]; simp
 obtain ⟨h3, ⟨_, h4⟩ | ⟨g, cap', cur, hv, pT, hg, pE, pU, pF, pG⟩⟩ := h
 ·omega
 injection hv with e1 e2 e3
 subst e1
 subst e3
 have pN := (Z5.1 hg).1
 have pH : X.lines.length * 8 <= cur.size := by rw [pF]; exact Kcm _ pE
 refine ⟨g, rfl, ⟨⟨_, by rw [hW]; exact Z02 W _, rfl⟩, ⟨cur, (hb.block g pN).trans hg, pH, fun i hi j u hj => ?_⟩, ⟨pT, pN⟩⟩, hb, hs⟩
 have pI : j < 8 := (Kam.1 hj).1
 have h5 := Z3e Z5A X.lines i j hi pI
 rw [hj, <- pG] at h5
 have pJ : i * 8 + j < X.lines.length * 8 := by omega
 rw [Kcd pJ, Kb9] at h5
 exact h5
theorem Zk6 {w : World} {g : Nat} {cs : Array Value} {t : TypeId} {fr : Nat × Nat} (h : w.1[g]? = some (.cells cs t fr)) (j : Nat) (u : Value) : (w.setCell ⟨g, j, none⟩ u).1[g]? = some (.cells (cs.setIfInBounds j u) t fr) := by
 simp [World.setCell, Kap, h]
theorem ZeU {w : World} {g k j : Nat} (h : k ≠ g) (u : Value) : (w.setCell ⟨g, j, none⟩ u).1[k]? = w.1[k]? := ZA _ _ _ _ h
theorem RowJ.fromO {w w' : World} {base : Nat} {v : Value} {zs : List Int} (h : RowJ w base v zs) (he : ∀ k, base <= k -> k < w.1.size -> w'.1[k]? = w.1[k]?) : RowJ w' base v zs := by
 obtain ⟨a, cap, hv, hc⟩ := h
 refine ⟨a, cap, hv, fun h0 => ?_⟩
 obtain ⟨g, off, cur, ha, hb, hh, pV⟩ := hc h0
 exact ⟨g, off, cur, ha, hb, (he g hb (Z5.1 hh).1).trans hh, pV⟩
theorem OwnsX.fromO {α : Type} {T : TypeId} {n : Nat} {cf : α × Value -> List Value} {ids : α -> List Int} {w w' : World} {base : Nat} {v : Value} {xs : List α} (h : OwnsX T n cf ids w base v xs) (he : ∀ k, base <= k -> k < w.1.size -> w'.1[k]? = w.1[k]?) : OwnsX T n cf ids w' base v xs := by
 obtain ⟨L, hL, h1, h2, h3⟩ := h
 refine ⟨L, hL, fun p hp => (h1 p hp).fromO he, h2, ?_⟩
 rcases h3 with h3 | ⟨g, cap, cur, hv, hb, hg, hr⟩
 ·exact .inl h3
 ·exact .inr ⟨g, cap, cur, hv, hb, (he g hb (Z5.1 hg).1).trans hg, hr⟩
structure LodS (W : World) (B G : Nat) (vb vt vc : Value) (L : Lod) : Prop where
 box : W.1[G]? = some (.cells #[vb, vt, vc] 52 (0, 0))
 b : OwnsX 67 4 Z0T (fun b => b.ids) W B vb L.buns
 t : OwnsX 112 3 Z34 (fun t => t.bs) W B vt L.tras
 c : OwnsX 114 2 Z3h (fun c => c.ts) W B vc L.cons
 lt : B <= G
section
variable {W W' : World} {B G : Nat} {vb vt vc : Value} {L : Lod}
theorem LodS.from (h : LodS W B G vb vt vc L) (he : ∀ k, B <= k -> k < W.1.size -> W'.1[k]? = W.1[k]?) : LodS W' B G vb vt vc L :=
 ⟨(he G h.lt (Z5.1 h.box).1).trans h.box, h.b.fromO he, h.t.fromO he, h.c.fromO he, h.lt⟩
theorem LodS.below (h : LodS W B G vb vt vc L) (hb : Below W.1.size W W') : LodS W' B G vb vt vc L := h.from (fun k _ hk => hb.block k hk)
theorem LodS.set (h : LodS W B G vb vt vc L) {g o : Nat} (hg : g < B) (u : Value) : LodS (W.setCell ⟨g, o, none⟩ u) B G vb vt vc L := h.from (fun k hk _ => ZeU (by omega) u)
theorem ZhO {B : Nat} (hb : OwnsX 67 4 Z0T (fun b => b.ids) W B vb L.buns) (ht : OwnsX 112 3 Z34 (fun t => t.bs) W B vt L.tras) (hc : OwnsX 114 2 Z3h (fun c => c.ts) W B vc L.cons) (hB : B <= W.1.size) (hW : W' = W.alloc (.cells #[vb, vt, vc] 52)) :
 LodS W' B W.1.size vb vt vc L /\ Below W.1.size W W' /\ W'.1.size = W.1.size + 1 := by
 have pD : Below W.1.size W W' := by rw [hW]; exact (Z9 _ W).alloc (Z1 _) _
 exact ⟨⟨by rw [hW]; exact Z02 W _, hb.below pD, ht.below pD, hc.below pD, hB⟩, pD, by rw [hW]; simp⟩
end
theorem Zd7 {w : World} {base m cap : Nat} {a : Option Addr} {xs : List Bun} (h : OwnsX 67 4 Z0T (fun b => b.ids) w base (.slice a m cap) xs) (h0 : 0 < xs.length) :
 ∃ (g : Nat) (s : Nat -> Value) (cur : Array Value), a = some ⟨g, 0, none⟩ /\ base <= g /\ w.1[g]? = some (.cells cur 67 (0, 0)) /\ xs.length * 4 <= cur.size /\ (∀ i (hi : i < xs.length) j u, (Z0T (xs[i], s i))[j]? = some u -> cur[i * 4 + j]? = some u) /\ ∀ i (hi : i < xs.length), RowJ w base (s i) xs[i].ids := by
 obtain ⟨L, rfl, h1, h2⟩ := h
 rw [Z7] at h0
 obtain ⟨h3, ⟨_, h4⟩ | ⟨g, cap', cur, hv, hb, hg, pE, pU, pF, pG⟩⟩ := h2
 ·omega
 injection hv with e1 e2 e3
 have pH : L.length * 4 <= cur.size := by rw [pF]; exact Kcm _ pE
 refine ⟨g, fun i => (L.getD i (L[0]'h0)).2, cur, e1, hb, hg, by rw [Z7]; exact pH, fun i hi j u hj => ?_, fun i hi => ?_⟩
 ·rw [Z7] at hi
  have hd : L.getD i (L[0]'h0) = L[i] := by rw [Z2, Z3 hi]; rfl
  replace hj : (Z0T ((L.map Prod.fst)[i]'(by rw [Z7]; exact hi), L[i].2))[j]? = some u := by rw [<- hd]; exact hj
  rw [Kba] at hj
  have pI : j < 4 := (Kam.1 hj).1
  have h5 := Z3e (f := Z0T) (n := 4) (fun _ => rfl) L i j hi pI
  rw [show (L[i].1, L[i].2) = L[i] from rfl] at hj
  rw [hj, <- pG] at h5
  have pJ : i * 4 + j < L.length * 4 := by omega
  rw [Kcd pJ, Kb9] at h5
  exact h5
 ·rw [Z7] at hi
  have hd : L.getD i (L[0]'h0) = L[i] := by rw [Z2, Z3 hi]; rfl
  show RowJ w base (L.getD i (L[0]'h0)).2 _
  rw [hd, Kba]
  exact h1 _ (Z4 hi)
section
variable {n : Nat} {ps : List UInt8} {ls : List Lev} {l : List UInt16} {zs : List Int} {k : Pck}
def Zkv (ls : List Lev) (l : List UInt16) (zs : List Int) (k : Pck) (L : Lod) : Prop :=
 ∀ W v vp vz, RdLevs W v ls -> RdPces W vp (Z04 l).ps -> RdInts W vz zs -> Calls Tryz.prog 12 #[v, ZdO vp, vz, ZkX k] W fun e w' => ∃ ab cb at' ct ac cc, e = .returned (.tuple #[.agg #[.slice ab L.buns.length cb, .slice at' L.tras.length ct, .slice ac L.cons.length cc], .int .i64 0]) /\ Below W.1.size W w' /\
  OwnsX 67 4 Z0T (fun b => b.ids) w' W.1.size (.slice ab L.buns.length cb) L.buns /\ OwnsX 112 3 Z34 (fun t => t.bs) w' W.1.size (.slice at' L.tras.length ct) L.tras /\ OwnsX 114 2 Z3h (fun c => c.ts) w' W.1.size (.slice ac L.cons.length cc) L.cons
theorem Zkc (h : Mk27 n ps ls l) (pA : zs.length = (Z04 l).ps.length) (hn : Z1j ls.length zs = true) (hA : Zb3 ls (Z04 l) zs k = 0) (hk : Z7K k = true) (pK : ∀ p ∈ (Z04 l).ps, p.grams <= k.grams) : Zkv ls l zs k (ZbD ls l zs k) := by
 intro W v vp vz h1 h2 h3
 refine (Zfm h.hp v vp vz zs k W h1 h2 h3 pA hn hA hk pK).mono ?_
 rintro e w' ⟨vb, vt, vc, rfl, hb, o1, o2, o3⟩
 obtain ⟨ab, cb, rfl⟩ := o1.form
 obtain ⟨at', ct, rfl⟩ := o2.form
 obtain ⟨ac, cc, rfl⟩ := o3.form
 exact ⟨ab, cb, at', ct, ac, cc, rfl, hb, o1, o2, o3⟩
theorem ZcK (n : Nat) (ps : List UInt8) (ls : List Lev) (l : List UInt16) (zs : List Int) (L : Lod) : (Z5y n ps ls l zs L).lines.length = ls.length := by unfold Z5y Z5x; simp
end
theorem Z6Y {zs : List Int} {pl : Nat -> Ln} {k j : Nat} {x : Ln} (h : x ∈ Z0p zs pl k j) : ∃ i, i < k /\ zs.getD i (-1) = (j : Int) /\ x = pl i := by
 unfold Z0p at h
 obtain ⟨i, hi, rfl⟩ := Kae.1 h
 obtain ⟨h1, h2⟩ := Kbh.1 hi
 exact ⟨i, Ka8.1 h1, of_decide_eq_true h2, rfl⟩
theorem Zfh (zs : List Int) (pl : Nat -> Ln) (k j : Nat) : (Z0p zs pl k j).length <= k := by
 unfold Z0p
 rw [Z7]
 exact Kaw (Kbw _ _) (by rw [Kay]; exact Z1 _)
section
variable {n : Nat} {ps : List UInt8} {ls : List Lev} {l : List UInt16} {zs : List Int}
structure SumLn (n : Nat) (ls : List Lev) (i : Nat) (y : Ln) : Prop where
 lev : y.level = (i : Int)
 kn : LnK (Z2M n : Nat) y
 inn : LnIn 100000000 y
 sav : ∀ (h : i < ls.length), y.saved = y.pieces * ls[i].cents
theorem Z9K (h : Mk27 n ps ls l) (pA : zs.length = (Z04 l).ps.length) (hn : Z1j ls.length zs = true) (L : Lod) : ∀ i (hi : i < ((Z5y n ps ls l zs L).lines ++ [(Z5y n ps ls l zs L).total]).length), SumLn n ls i (((Z5y n ps ls l zs L).lines ++ [(Z5y n ps ls l zs L).total])[i]) := by
 have pY := h.hp.few
 have pZ := Z0y h.hp.right
 have pB : (Z5y n ps ls l zs L).lines.length = ls.length := by unfold Z5y Z5x; simp
 have pL : ∀ j : Nat, LnK (Z2M n : Nat) (Z1r (j : Int) (Z0p zs (plN n ps ls (Z04 l) zs) (Z04 l).ps.length j)) /\ LnIn 2000000 (Z1r (j : Int) (Z0p zs (plN n ps ls (Z04 l) zs) (Z04 l).ps.length j)) := by
  intro j
  refine ⟨Z9L _ (fun x hx => ?_), Z9d (Z6e (m := 1000) _ (fun x hx => ?_)) ?_⟩
  ·obtain ⟨i, hi, _, rfl⟩ := Z6Y hx
   exact (Za7 (Z2j l) h.ct hi).2
  ·obtain ⟨i, hi, _, rfl⟩ := Z6Y hx
   exact (Za7 (Z2j l) h.ct hi).1
  ·have := Zfh zs (plN n ps ls (Z04 l) zs) (Z04 l).ps.length j
   omega
 have pO : (Z5y n ps ls l zs L).lines = (List.range ls.length).map (fun (j : Nat) => Z1r (j : Int) (Z0p zs (plN n ps ls (Z04 l) zs) (Z04 l).ps.length j)) := rfl
 have pW : (Z5y n ps ls l zs L).total = Z1r (ls.length : Int) (Z5y n ps ls l zs L).lines := rfl
 intro i hi
 rw [ZC, List.length_singleton, pB] at hi
 by_cases pX : i < ls.length
 ·have e : ((Z5y n ps ls l zs L).lines ++ [(Z5y n ps ls l zs L).total])[i]'(by rw [ZC, pB]; simp; omega) = Z1r (i : Int) (Z0p zs (plN n ps ls (Z04 l) zs) (Z04 l).ps.length i) := by
   rw [Kbl (by rw [pB]; exact pX)]
   simp only [pO, Kba, Kbv]
  rw [e]
  refine ⟨Z44 _ _, (pL i).1, Z9d (pL i).2 (show (2000000 : Int) <= 100000000 by decide), fun pC => ZeD _ (fun x hx => ?_)⟩
  obtain ⟨q, hq, hz, rfl⟩ := Z6Y hx
  refine ⟨?_, rfl⟩
  show Z5I ls (zs.getD q (-1)) = _
  rw [hz]
  unfold Z5I
  simp [Z3 pC]
 ·obtain rfl : i = ls.length := by omega
  have e : ((Z5y n ps ls l zs L).lines ++ [(Z5y n ps ls l zs L).total])[ls.length]'(by rw [ZC, pB]; simp) = (Z5y n ps ls l zs L).total := by
   rw [Kb7 (by rw [pB]; exact Z1 _)]
   simp
  have pP : ∀ x ∈ (Z5y n ps ls l zs L).lines, LnK (Z2M n : Nat) x /\ LnIn 2000000 x := fun x hx => by
   rw [pO] at hx
   obtain ⟨j, _, rfl⟩ := Kae.1 hx
   exact pL j
  rw [e, pW]
  refine ⟨Z44 _ _, Z9L _ (fun x hx => (pP x hx).1), Z9d (Z6e _ (fun x hx => (pP x hx).2)) ?_, fun pC => absurd pC (Kdg _)⟩
  rw [pB]
  omega
theorem ZgY {f : Ln -> Int} (hf : Adds f) (L : Lod) : f (Z5y n ps ls l zs L).total = ((Z5y n ps ls l zs L).lines.map f).sum := Z6v hf _ _
theorem ZcM (pA : zs.length = (Z04 l).ps.length) (hn : Z1j ls.length zs = true) : ∀ i, i < (Z04 l).ps.length -> ∃ z : Nat, z < ls.length /\ zs.getD i (-1) = (z : Int) := fun i hi => by
 have pC : i < zs.length := by omega
 have h2 := Z72 hn i pC
 refine ⟨zs[i].toNat, by omega, ?_⟩
 rw [Z2, Z3 pC]
 show zs[i] = _
 omega
theorem Zh0 (pA : zs.length = (Z04 l).ps.length) (hn : Z1j ls.length zs = true) (L : Lod) :
 (Z5y n ps ls l zs L).total.cents = ((List.range (Z04 l).ps.length).map (fun i => (plN n ps ls (Z04 l) zs i).cents)).sum /\
 (Z5y n ps ls l zs L).total.grams = ((List.range (Z04 l).ps.length).map (fun i => ((Z04 l).ps.getD i ⟨0, 0, ⟨#[]⟩, 0, false⟩).grams)).sum /\
 (Z5y n ps ls l zs L).total.pieces = ((Z04 l).ps.length : Int) := by
 refine ⟨Z6y Zdc _ _ _ _ (ZcM pA hn), Z6y Z9A _ _ _ _ (ZcM pA hn), ?_⟩
 refine (Z6y ZaZ _ _ _ _ (ZcM pA hn)).trans ?_
 have : ∀ q : List Nat, (q.map (fun i => (plN n ps ls (Z04 l) zs i).pieces)).sum = (q.length : Int) := fun q => by
  induction q with
  | nil => rfl
  | cons x r ih =>
   rw [Kan, Ka7, ih, Ka9]
   show (1 : Int) + _ = _
   omega
 rw [this, Kay]
theorem ZgZ (h : Mk27 n ps ls l) (pA : zs.length = (Z04 l).ps.length) (hn : Z1j ls.length zs = true) {k : Pck} (hk : Z7K k = true) (pK : ∀ p ∈ (Z04 l).ps, p.grams <= k.grams) (L : Lod) (j : Nat) (hj : j < ls.length) :
 ∃ y, (Z5y n ps ls l zs L).lines[j]? = some y /\ y.grams = Z7A (ZbD ls l zs k).buns j := by
 refine ⟨Z1r (j : Int) (Z0p zs (plN n ps ls (Z04 l) zs) (Z04 l).ps.length j), ?_, ?_⟩
 ·show ((List.range ls.length).map (fun (j : Nat) => Z1r (j : Int) (Z0p zs (plN n ps ls (Z04 l) zs) (Z04 l).ps.length j)))[j]? = _
  rw [Kal, Kb2 hj]
  rfl
 ·unfold ZbD
  rw [Z6v Z9A, Zgt (Zcu h.hp pA hn hk pK).ok.buns]
  unfold Z0p
  rw [Kdd]
  rfl
theorem ZaS (bs : List Bun) {q : Nat} (hq : q < bs.length) (j : Int) : Z7A (bs.take (q + 1)) j = Z7A (bs.take q) j + if bs[q].lvl = j then bs[q].grams else 0 := by
 unfold Z7A
 rw [Z8 hq, Kb0, ZD, Kbo]
 by_cases e : bs[q].lvl = j
 ·rw [if_pos e, Kby (by simpa using e), Kbq]; simp
 ·rw [if_neg e, Kbz (by simpa using e), Kbq]; simp
end
end
end Go.Proofs.YtlgajongmkhcnaaGreatDoor
