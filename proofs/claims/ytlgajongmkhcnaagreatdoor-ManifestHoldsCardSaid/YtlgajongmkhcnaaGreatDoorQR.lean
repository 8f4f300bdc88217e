import Derived.Test.YtlgajongmkhcnaaGreatDoorQZ
import Derived.Test.YtlgajongmkhcnaaGreatDoorQP
import Derived.Test.YtlgajongmkhcnaaGreatDoorQX
import Derived.Test.YtlgajongmkhcnaaGreatDoorQN
set_option linter.unusedVariables false
set_option linter.unusedSimpArgs false
set_option maxHeartbeats 32000000
namespace Go.Proofs.YtlgajongmkhcnaaGreatDoor
open Go.RowKit Go.Sort
set_option maxRecDepth 100000
def lnN (x : Ln) : Nat -> Int
 | 0 => x.level
 | 1 => x.pieces
 | 2 => x.barred
 | 3 => x.grams
 | 4 => x.base
 | 5 => x.bar
 | 6 => x.saved
 | _ => x.cents
def Zg6 (x : Ln) (j : Nat) (u : Int) : Ln :=
 match j with
 | 0 => { x with level := u }
 | 1 => { x with pieces := u }
 | 2 => { x with barred := u }
 | 3 => { x with grams := u }
 | 4 => { x with base := u }
 | 5 => { x with bar := u }
 | 6 => { x with saved := u }
 | _ => { x with cents := u }
theorem eight {j : Nat} (h : j < 8) : j = 0 \/ j = 1 \/ j = 2 \/ j = 3 \/ j = 4 \/ j = 5 \/ j = 6 \/ j = 7 := by omega
theorem Zhj (x : Ln) {j : Nat} (h : j < 8) : (lnC x)[j]? = some (.int .i64 (lnN x j)) := by
 rcases eight h with rfl | rfl | rfl | rfl | rfl | rfl | rfl | rfl <;> rfl
theorem ZeI (x : Ln) {j : Nat} (h : j < 8) (u : Int) : lnC (Zg6 x j u) = (lnC x).set j (.int .i64 u) := by
 rcases eight h with rfl | rfl | rfl | rfl | rfl | rfl | rfl | rfl <;> rfl
theorem ZbN (x : Ln) {j : Nat} (h : j < 8) (u : Int) : lnN (Zg6 x j u) j = u := by
 rcases eight h with rfl | rfl | rfl | rfl | rfl | rfl | rfl | rfl <;> rfl
def Man.lin (X : Man) : Option Nat -> Ln
 | none => X.total
 | some i => X.lines.getD i X.total
def Man.put (X : Man) (i : Option Nat) (j : Nat) (u : Int) : Man :=
 match i with
 | none => { X with total := Zg6 X.total j u }
 | some i => { X with lines := X.lines.set i (Zg6 (X.lines.getD i X.total) j u) }
theorem Zau (X : Man) (i : Option Nat) (j : Nat) (u : Int) : (X.put i j u).lines.length = X.lines.length := by
 cases i with
 | none => rfl
 | some i => exact List.length_set
theorem ZcN (X : Man) (i : Option Nat) (j : Nat) (u : Int) : (X.put i j u).buns = X.buns /\ (X.put i j u).tras = X.tras /\ (X.put i j u).cons = X.cons := by
 cases i <;> exact ⟨rfl, rfl, rfl⟩
theorem ZiM (X : Man) (i : Option Nat) (hi : ∀ q, i = some q -> q < X.lines.length) {j : Nat} (hj : j < 8) {u : Int} (hu : u ≠ lnN (X.lin i) j) : (decide (X.total = (X.put i j u).total) && decide (X.lines = (X.put i j u).lines)) = false := by
 rw [Bool.and_eq_false_iff, decide_eq_false_iff_not, decide_eq_false_iff_not]
 cases i with
 | none =>
  refine .inl (fun e => hu ?_)
  have e2 : X.total = Zg6 X.total j u := e
  show u = lnN X.total j
  rw [e2, ZbN _ hj]
 | some q =>
  refine .inr (fun e => hu ?_)
  have hq := hi q rfl
  have e2 : X.lines[q]? = (X.lines.set q (Zg6 (X.lines.getD q X.total) j u))[q]? := by rw [<- show X.lines = X.lines.set q (Zg6 (X.lines.getD q X.total) j u) from e]
  rw [List.getElem?_set_self hq, Z3 hq] at e2
  injection e2 with e2
  show u = lnN (X.lines.getD q X.total) j
  have e3 : X.lines.getD q X.total = X.lines[q] := by rw [Z2, Z3 hq]; rfl
  rw [e3] at e2 ⊢
  rw [e2, ZbN _ hj]
def Z6y (A g : Nat) : Option Nat -> Nat × Nat
 | none => (A, 1)
 | some i => (g, i * 8)
structure ManS (W : World) (B A g cap : Nat) (X : Man) : Prop where
 box : ∃ cur : Array Value, W.1[A]? = some (.cells cur 44 (0, 0)) /\ cur.toList = .slice (some ⟨g, 0, none⟩) X.lines.length cap :: (lnC X.total ++ [.int .i64 X.buns, .int .i64 X.tras, .int .i64 X.cons])
 row : ∃ cur : Array Value, W.1[g]? = some (.cells cur 42 (0, 0)) /\ X.lines.length * 8 <= cur.size /\ ∀ i (h : i < X.lines.length) j u, (lnC X.lines[i])[j]? = some u -> cur[i * 8 + j]? = some u
 lt : B <= g /\ g < A
theorem ManS.below {W W' : World} {B A g cap : Nat} {X : Man} (h : ManS W B A g cap X) (hb : Below W.1.size W W') : ManS W' B A g cap X := by
 obtain ⟨⟨c1, h1, e1⟩, ⟨c2, h2, e2⟩, h3⟩ := h
 exact ⟨⟨c1, (hb.block A (Z5.1 h1).1).trans h1, e1⟩, ⟨c2, (hb.block g (Z5.1 h2).1).trans h2, e2⟩, h3⟩
theorem ManS.from {W W' : World} {B A g cap : Nat} {X : Man} (h : ManS W B A g cap X) (h1 : W'.1[A]? = W.1[A]?) (h2 : W'.1[g]? = W.1[g]?) : ManS W' B A g cap X := by
 obtain ⟨⟨c1, p1, e1⟩, ⟨c2, p2, e2⟩, h3⟩ := h
 exact ⟨⟨c1, h1.trans p1, e1⟩, ⟨c2, h2.trans p2, e2⟩, h3⟩
theorem ManS.cells {W : World} {B A g cap : Nat} {X : Man} (h : ManS W B A g cap X) :
 W.1[A]? = some (.cells #[.slice (some ⟨g, 0, none⟩) X.lines.length cap, .int .i64 X.total.level, .int .i64 X.total.pieces, .int .i64 X.total.barred, .int .i64 X.total.grams, .int .i64 X.total.base, .int .i64 X.total.bar, .int .i64 X.total.saved, .int .i64 X.total.cents, .int .i64 X.buns, .int .i64 X.tras, .int .i64 X.cons] 44 (0, 0)) := by
 obtain ⟨⟨c1, p1, e1⟩, _, _⟩ := h
 rw [p1]
 have : c1 = (Value.slice (some ⟨g, 0, none⟩) X.lines.length cap :: (lnC X.total ++ [.int .i64 X.buns, .int .i64 X.tras, .int .i64 X.cons])).toArray := by rw [<- e1]
 rw [this]; rfl
theorem ManS.rd {W : World} {B A g cap : Nat} {X : Man} (h : ManS W B A g cap X) : RdLns W (.slice (some ⟨g, 0, none⟩) X.lines.length cap) X.lines := by
 obtain ⟨_, ⟨c2, p2, hs, e2⟩, _⟩ := h
 refine ⟨_, cap, rfl, fun h0 => ⟨g, 0, rfl, (Z5.1 p2).1, fun i hi j u hj => ?_⟩⟩
 rw [Nat.zero_add, cell_of_row _ _ _ _ _ _ p2]
 exact e2 i hi j u hj
theorem Zgu {W W' : World} {B cap n : Nat} {a : Option Addr} {X : Man} (h : OwnsLn W B (.slice a n cap) X.lines) (hn : n = X.lines.length) (h0 : 0 < X.lines.length)
 (hW : W' = W.alloc (.cells #[.slice a n cap, .int .i64 X.total.level, .int .i64 X.total.pieces, .int .i64 X.total.barred, .int .i64 X.total.grams, .int .i64 X.total.base, .int .i64 X.total.bar, .int .i64 X.total.saved, .int .i64 X.total.cents, .int .i64 X.buns, .int .i64 X.tras, .int .i64 X.cons] 44)) :
 ∃ g, a = some ⟨g, 0, none⟩ /\ ManS W' B W.1.size g cap X /\ Below W.1.size W W' /\ W'.1.size = W.1.size + 1 := by
 subst hn
 have hb : Below W.1.size W W' := by rw [hW]; exact (Z9 _ W).alloc (Z1 _) _
 have hs : W'.1.size = W.1.size + 1 := by rw [hW]; simp
 obtain ⟨h3, ⟨_, h4⟩ | ⟨g, cap', cur, hv, hbg, hg, hc1, hc2, hc3, hc4⟩⟩ := h
 ·omega
 injection hv with e1 e2 e3
 subst e1
 subst e3
 have hgl := (Z5.1 hg).1
 have hsz : X.lines.length * 8 <= cur.size := by rw [hc3]; exact Nat.mul_le_mul_right _ hc1
 refine ⟨g, rfl, ⟨⟨_, by rw [hW]; exact Z01 W _, rfl⟩, ⟨cur, (hb.block g hgl).trans hg, hsz, fun i hi j u hj => ?_⟩, ⟨hbg, hgl⟩⟩, hb, hs⟩
 have hjn : j < 8 := (List.getElem?_eq_some_iff.1 hj).1
 have h5 := Z3Z Z6x X.lines i j hi hjn
 rw [hj, <- hc4] at h5
 have hlt : i * 8 + j < X.lines.length * 8 := by omega
 rw [List.getElem?_take_of_lt hlt, Array.getElem?_toList] at h5
 exact h5
theorem ZhH {w : World} {g : Nat} {cs : Array Value} {t : TypeId} {fr : Nat × Nat} (h : w.1[g]? = some (.cells cs t fr)) (j : Nat) (u : Value) : (w.setCell ⟨g, j, none⟩ u).1[g]? = some (.cells (cs.setIfInBounds j u) t fr) := by
 simp [World.setCell, Array.getElem?_modify, h]
theorem Z4T {w : World} {g k j : Nat} (h : k ≠ g) (u : Value) : (w.setCell ⟨g, j, none⟩ u).1[k]? = w.1[k]? := ZA _ _ _ _ h
theorem ManS.num {W : World} {B A g cap : Nat} {X : Man} (h : ManS W B A g cap X) (i : Option Nat) (hi : ∀ q, i = some q -> q < X.lines.length) {j : Nat} (hj : j < 8) :
 W.cell? ⟨(Z6y A g i).1, (Z6y A g i).2 + j, none⟩ = some (.int .i64 (lnN (X.lin i) j)) /\ W.frozen? ⟨(Z6y A g i).1, (Z6y A g i).2 + j, none⟩ = false /\ (B <= (Z6y A g i).1 /\ (Z6y A g i).1 <= A) /\
  ∀ u : Int, ManS (W.setCell ⟨(Z6y A g i).1, (Z6y A g i).2 + j, none⟩ (.int .i64 u)) B A g cap (X.put i j u) := by
 obtain ⟨⟨c1, p1, e1⟩, ⟨c2, p2, hs, e2⟩, h3⟩ := h
 have hne : g ≠ A := by omega
 cases i with
 | none =>
  refine ⟨?_, by simp [World.frozen?, Z6y, p1], ⟨by show B <= A; omega, Z1 _⟩, fun u => ?_⟩
  ·show W.cell? ⟨A, 1 + j, none⟩ = _
   rw [cell_of_row _ _ _ _ _ _ p1, <- Array.getElem?_toList, e1, Nat.add_comm, List.getElem?_cons_succ, List.getElem?_append_left (by rw [Z6x]; exact hj)]
   exact Zhj _ hj
  ·refine ⟨⟨_, ZhH p1 (1 + j) _, ?_⟩, ⟨c2, (Z4T hne _).trans p2, hs, e2⟩, h3⟩
   rw [Array.toList_setIfInBounds, e1, Nat.add_comm, List.set_cons_succ, List.set_append_left _ _ (by rw [Z6x]; exact hj), <- ZeI _ hj]
   rfl
 | some q =>
  have hq := hi q rfl
  have e3 : X.lines.getD q X.total = X.lines[q] := by rw [Z2, Z3 hq]; rfl
  refine ⟨?_, by simp [World.frozen?, Z6y, p2], ⟨h3.1, by show g <= A; omega⟩, fun u => ?_⟩
  ·show W.cell? ⟨g, q * 8 + j, none⟩ = some (.int .i64 (lnN (X.lines.getD q X.total) j))
   rw [cell_of_row _ _ _ _ _ _ p2, e3]
   exact e2 q hq j _ (Zhj _ hj)
  ·refine ⟨⟨c1, (Z4T (Ne.symm hne) _).trans p1, ?_⟩, ⟨_, ZhH p2 (q * 8 + j) _, ?_, ?_⟩, h3⟩
   ·rw [e1]
    show _ = Value.slice _ (X.lines.set q _).length cap :: _
    rw [List.length_set]
    rfl
   ·rw [Array.size_setIfInBounds]
    show (X.lines.set q _).length * 8 <= _
    rw [List.length_set]; exact hs
   ·intro i hi2 k v hk
    have hi3 : i < X.lines.length := by
     have : i < (X.lines.set q (Zg6 (X.lines.getD q X.total) j u)).length := hi2
     rwa [List.length_set] at this
    replace hk : (lnC ((X.lines.set q (Zg6 (X.lines.getD q X.total) j u))[i]'(by rw [List.length_set]; exact hi3)))[k]? = some v := hk
    have hk8 : k < 8 := (List.getElem?_eq_some_iff.1 hk).1
    by_cases hiq : i = q
    ·subst hiq
     rw [List.getElem_set_self, ZeI _ hj, e3] at hk
     by_cases hkj : k = j
     ·subst hkj
      rw [List.getElem?_set_self (by rw [Z6x]; exact hk8)] at hk
      rw [Array.getElem?_setIfInBounds_self_of_lt (by omega), hk]
     ·rw [List.getElem?_set_ne (Ne.symm hkj)] at hk
      rw [Array.getElem?_setIfInBounds_ne (by omega)]
      exact e2 i hi3 k v hk
    ·rw [List.getElem_set_ne (Ne.symm hiq)] at hk
     rw [Array.getElem?_setIfInBounds_ne (by omega)]
     exact e2 i hi3 k v hk
theorem ZhM {W : World} {N g o j : Nat} (h : W.1[N]? = some (Zix g o)) (hj : j < 8) : W.cell? ⟨N, j, none⟩ = some (.pointer (some ⟨g, o + j, none⟩)) := by
 unfold Zix at h
 rcases eight hj with rfl | rfl | rfl | rfl | rfl | rfl | rfl | rfl <;> exact cell_of_row _ _ _ _ _ _ h
def Z8S (e : Bool) (b : Bun) : Bun := { b with ids := if e then b.ids.take (b.ids.length - 1) else b.ids.drop 1 }
def Z6W (L : Lod) (q : Nat) (e : Bool) : Lod := { L with buns := L.buns.modify q (Z8S e) }
theorem Z4F (L : Lod) (q : Nat) (e : Bool) : (Z6W L q e).buns.length = L.buns.length := List.length_modify ..
theorem Zf8 (e : Bool) (b : Bun) : (Z8S e b).ids.length = b.ids.length - 1 := by
 cases e
 ·show (b.ids.drop 1).length = _
  rw [List.length_drop]
 ·show (b.ids.take (b.ids.length - 1)).length = _
  rw [List.length_take]
  omega
theorem Zf7 {e : Bool} {b : Bun} {x : Int} (h : x ∈ (Z8S e b).ids) : x ∈ b.ids := by
 cases e
 ·exact List.mem_of_mem_drop h
 ·exact List.mem_of_mem_take h
theorem Z8K (e : Bool) : ∀ (bs : List Bun) (q : Nat) (h : q < bs.length), bs[q].ids ≠ [] -> ((bs.modify q (Z8S e)).flatMap (fun b => b.ids)).length + 1 = (bs.flatMap (fun b => b.ids)).length
 | [], q, h, _ => by simp at h
 | b :: r, 0, h, hne => by
  have : 0 < b.ids.length := List.length_pos_iff.2 hne
  rw [List.modify_zero_cons, List.flatMap_cons, List.flatMap_cons, ZC, ZC]
  rw [Zf8]
  omega
 | b :: r, q + 1, h, hne => by
  have := Z8K e r q (by simpa using h) (by simpa using hne)
  rw [List.modify_succ_cons, List.flatMap_cons, List.flatMap_cons, ZC, ZC]
  omega
theorem Zdf {k : Pck} {ps : List Pce} {zs : List Int} {ns : List ByteArray} {L : Lod} (h : Pkd k ps zs ns L) {q : Nat} (hq : q < L.buns.length) (e : Bool) : ¬ LodOk k ps zs ns (Z6W L q e) := fun h2 => by
 have h3 := h2.buns.all
 have h4 := Z8K e L.buns q hq (h.own _ (Z4 hq)).1
 have h5 := h.idn
 have : ((L.buns.modify q (Z8S e)).flatMap (fun b => b.ids)).length = ps.length := h3
 omega
theorem ZgO {L : Lod} {q : Nat} {e : Bool} {b : Bun} (hb : b ∈ (Z6W L q e).buns) : ∃ b0 ∈ L.buns, ∀ i ∈ b.ids, i ∈ b0.ids := by
 obtain ⟨i, hi, rfl⟩ := List.getElem_of_mem hb
 have hi2 : i < L.buns.length := by rwa [Z4F] at hi
 have e2 : (Z6W L q e).buns[i] = if q = i then Z8S e L.buns[i] else L.buns[i] := List.getElem_modify ..
 rw [e2]
 refine ⟨L.buns[i], Z4 hi2, fun x hx => ?_⟩
 split at hx
 ·exact Zf7 hx
 ·exact hx
theorem Zdg {L : Lod} {q : Nat} (h : SmallL L) (hq : q < L.buns.length) (hne : L.buns[q].ids ≠ []) (e : Bool) : SmallL (Z6W L q e) := by
 have h4 := Z8K e L.buns q hq hne
 have h5 := h.bi
 exact ⟨by rw [Z4F]; exact h.b, h.t, h.c, by show ((L.buns.modify q (Z8S e)).flatMap (fun b => b.ids)).length <= _; omega, h.ti, h.ci⟩
theorem RowJ.fromO {w w' : World} {base : Nat} {v : Value} {zs : List Int} (h : RowJ w base v zs) (he : ∀ k, base <= k -> k < w.1.size -> w'.1[k]? = w.1[k]?) : RowJ w' base v zs := by
 obtain ⟨a, cap, hv, hc⟩ := h
 refine ⟨a, cap, hv, fun h0 => ?_⟩
 obtain ⟨g, off, cur, ha, hb, hh, hcc⟩ := hc h0
 exact ⟨g, off, cur, ha, hb, (he g hb (Z5.1 hh).1).trans hh, hcc⟩
theorem OwnsX.fromO {α : Type} {T : TypeId} {n : Nat} {cf : α × Value -> List Value} {ids : α -> List Int} {w w' : World} {base : Nat} {v : Value} {xs : List α} (h : OwnsX T n cf ids w base v xs) (he : ∀ k, base <= k -> k < w.1.size -> w'.1[k]? = w.1[k]?) : OwnsX T n cf ids w' base v xs := by
 obtain ⟨L, hL, h1, h2, h3⟩ := h
 refine ⟨L, hL, fun p hp => (h1 p hp).fromO he, h2, ?_⟩
 rcases h3 with h3 | ⟨g, cap, cur, hv, hb, hg, hr⟩
 ·exact .inl h3
 ·exact .inr ⟨g, cap, cur, hv, hb, (he g hb (Z5.1 hg).1).trans hg, hr⟩
theorem Zeq {w : World} {g : Nat} {cs : Array Value} {t T : TypeId} {fr : Nat × Nat} (hg : w.1[g]? = some (.cells cs t fr)) (hT : t ≠ T) : ∀ q, some g = some q -> ∀ cur fr, w.1[q]? ≠ some (.cells cur T fr) := fun q e cur fr e2 => by
 injection e with e
 rw [<- e, hg] at e2
 injection e2 with e2
 injection e2 with e3 e4 e5
 exact hT e4
structure LodS (W : World) (B G : Nat) (vb vt vc : Value) (L : Lod) : Prop where
 box : W.1[G]? = some (.cells #[vb, vt, vc] 52 (0, 0))
 b : OwnsX 67 4 Z0N (fun b => b.ids) W B vb L.buns
 t : OwnsX 112 3 Z2L (fun t => t.bs) W B vt L.tras
 c : OwnsX 114 2 Z2Y (fun c => c.ts) W B vc L.cons
 lt : B <= G
section
variable {W W' : World} {B G : Nat} {vb vt vc : Value} {L : Lod}
theorem LodS.from (h : LodS W B G vb vt vc L) (he : ∀ k, B <= k -> k < W.1.size -> W'.1[k]? = W.1[k]?) : LodS W' B G vb vt vc L :=
 ⟨(he G h.lt (Z5.1 h.box).1).trans h.box, h.b.fromO he, h.t.fromO he, h.c.fromO he, h.lt⟩
theorem LodS.below (h : LodS W B G vb vt vc L) (hb : Below W.1.size W W') : LodS W' B G vb vt vc L := h.from (fun k _ hk => hb.block k hk)
theorem LodS.set (h : LodS W B G vb vt vc L) {g o : Nat} (hg : g < B) (u : Value) : LodS (W.setCell ⟨g, o, none⟩ u) B G vb vt vc L := h.from (fun k hk _ => Z4T (by omega) u)
theorem LodS.rd (h : LodS W B G vb vt vc L) : RdLod W vb vt vc L := Zhf h.b h.t h.c
theorem ZgA {B : Nat} (hb : OwnsX 67 4 Z0N (fun b => b.ids) W B vb L.buns) (ht : OwnsX 112 3 Z2L (fun t => t.bs) W B vt L.tras) (hc : OwnsX 114 2 Z2Y (fun c => c.ts) W B vc L.cons) (hB : B <= W.1.size) (hW : W' = W.alloc (.cells #[vb, vt, vc] 52)) :
 LodS W' B W.1.size vb vt vc L /\ Below W.1.size W W' /\ W'.1.size = W.1.size + 1 := by
 have hbl : Below W.1.size W W' := by rw [hW]; exact (Z9 _ W).alloc (Z1 _) _
 exact ⟨⟨by rw [hW]; exact Z01 W _, hb.below hbl, ht.below hbl, hc.below hbl, hB⟩, hbl, by rw [hW]; simp⟩
end
theorem ZgZ {w : World} {base m cap : Nat} {a : Option Addr} {xs : List Bun} (h : OwnsX 67 4 Z0N (fun b => b.ids) w base (.slice a m cap) xs) (h0 : 0 < xs.length) :
 ∃ (g : Nat) (s : Nat -> Value) (cur : Array Value), a = some ⟨g, 0, none⟩ /\ base <= g /\ w.1[g]? = some (.cells cur 67 (0, 0)) /\ xs.length * 4 <= cur.size /\ (∀ i (hi : i < xs.length) j u, (Z0N (xs[i], s i))[j]? = some u -> cur[i * 4 + j]? = some u) /\ ∀ i (hi : i < xs.length), RowJ w base (s i) xs[i].ids := by
 obtain ⟨L, rfl, h1, h2⟩ := h
 rw [Z7] at h0
 obtain ⟨h3, ⟨_, h4⟩ | ⟨g, cap', cur, hv, hb, hg, hc1, hc2, hc3, hc4⟩⟩ := h2
 ·omega
 injection hv with e1 e2 e3
 have hsz : L.length * 4 <= cur.size := by rw [hc3]; exact Nat.mul_le_mul_right _ hc1
 refine ⟨g, fun i => (L.getD i (L[0]'h0)).2, cur, e1, hb, hg, by rw [Z7]; exact hsz, fun i hi j u hj => ?_, fun i hi => ?_⟩
 ·rw [Z7] at hi
  have hd : L.getD i (L[0]'h0) = L[i] := by rw [Z2, Z3 hi]; rfl
  replace hj : (Z0N ((L.map Prod.fst)[i]'(by rw [Z7]; exact hi), L[i].2))[j]? = some u := by rw [<- hd]; exact hj
  rw [List.getElem_map] at hj
  have hjn : j < 4 := (List.getElem?_eq_some_iff.1 hj).1
  have h5 := Z3Z (f := Z0N) (n := 4) (fun _ => rfl) L i j hi hjn
  rw [show (L[i].1, L[i].2) = L[i] from rfl] at hj
  rw [hj, <- hc4] at h5
  have hlt : i * 4 + j < L.length * 4 := by omega
  rw [List.getElem?_take_of_lt hlt, Array.getElem?_toList] at h5
  exact h5
 ·rw [Z7] at hi
  have hd : L.getD i (L[0]'h0) = L[i] := by rw [Z2, Z3 hi]; rfl
  show RowJ w base (L.getD i (L[0]'h0)).2 _
  rw [hd, List.getElem_map]
  exact h1 _ (Z4 hi)
theorem LodS.drop {W : World} {B G n cb : Nat} {ab : Option Addr} {vt vc : Value} {L : Lod} (h : LodS W B G (.slice ab n cb) vt vc L) {q : Nat} (hq : q < L.buns.length) (hne : L.buns[q].ids ≠ []) :
 ∃ g gi oi ci, ab = some ⟨g, 0, none⟩ /\ B <= g /\ W.cell? ⟨g, q * 4 + 2, none⟩ = some (.slice (some ⟨gi, oi, none⟩) L.buns[q].ids.length ci) /\ W.frozen? ⟨g, q * 4 + 2, none⟩ = false /\ g ≠ G /\
  ∀ c', RdLod (W.setCell ⟨g, q * 4 + 2, none⟩ (.slice (if ci = 1 then some ⟨gi, oi, none⟩ else some ⟨gi, oi + 1, none⟩) (L.buns[q].ids.length - 1) c')) (.slice ab n cb) vt vc (Z6W L q (decide (ci = 1))) := by
 have hbb := h.b
 obtain ⟨ax, cx, hvx⟩ := hbb.form
 injection hvx with e1 e2 e3
 subst e1; subst e2; subst e3
 obtain ⟨g, s, cur, ha, hB, hg, hsz, hcur, hrow⟩ := ZgZ hbb (by omega)
 subst ha
 have hlen : 0 < L.buns[q].ids.length := List.length_pos_iff.2 hne
 have hrq := hrow q hq
 obtain ⟨aq, cq, hsq, hcq⟩ := id hrq
 obtain ⟨gi, oi, _, rfl, _, _, _⟩ := hcq hlen
 rw [hsq] at hrq
 have hcell := hcur q hq 2 _ rfl
 rw [hsq] at hcell
 have hgG : g ≠ G := fun e => by
  have := h.box
  rw [<- e, hg] at this
  injection this with this
  injection this with _ e4 _
  exact absurd e4 (by decide)
 refine ⟨g, gi, oi, cq, rfl, hB, by rw [cell_of_row _ _ _ _ _ _ hg]; exact hcell, by simp [World.frozen?, hg], hgG, fun c' => ?_⟩
 have hgb := Z07 W ⟨g, q * 4 + 2, none⟩ (.slice (if cq = 1 then some ⟨gi, oi, none⟩ else some ⟨gi, oi + 1, none⟩) (L.buns[q].ids.length - 1) c')
 have hI := Zeq hg (show 67 ≠ 3 by decide)
 refine ⟨?_, (h.t.beside hgb (Zeq hg (by decide)) hI).rd (fun _ => rfl), (h.c.beside hgb (Zeq hg (by decide)) hI).rd (fun _ => rfl)⟩
 refine ⟨_, cb, by rw [Z4F], fun _ => ⟨g, 0, rfl, by rw [World.setCell]; simp; exact (Z5.1 hg).1, fun i hi => ?_⟩⟩
 have hi2 : i < L.buns.length := by rwa [Z4F] at hi
 have e : (Z6W L q (decide (cq = 1))).buns[i] = if q = i then Z8S (decide (cq = 1)) L.buns[i] else L.buns[i] := List.getElem_modify ..
 rw [e, Nat.zero_add]
 have hs1 := ZhH hg (q * 4 + 2) (.slice (if cq = 1 then some ⟨gi, oi, none⟩ else some ⟨gi, oi + 1, none⟩) (L.buns[q].ids.length - 1) c')
 by_cases hiq : q = i
 ·subst hiq
  rw [if_pos rfl]
  have hd : RdInts (W.setCell ⟨g, q * 4 + 2, none⟩ (.slice (if cq = 1 then some ⟨gi, oi, none⟩ else some ⟨gi, oi + 1, none⟩) (L.buns[q].ids.length - 1) c')) (.slice (if cq = 1 then some ⟨gi, oi, none⟩ else some ⟨gi, oi + 1, none⟩) (L.buns[q].ids.length - 1) c') (Z8S (decide (cq = 1)) L.buns[q]).ids := by
   by_cases hc1 : cq = 1
   ·rw [if_pos hc1, decide_eq_true hc1]
    rw [if_pos hc1] at hgb
    exact ((hrq.take (k := L.buns[q].ids.length - 1) (cap' := c') (by omega)).kept hgb (fun k ek => .inr (hI k ek))).rd
   ·rw [if_neg hc1, decide_eq_false hc1]
    rw [if_neg hc1] at hgb
    exact ((hrq.drop (k := 1) (cap' := c') (by omega)).kept hgb (fun k ek => .inr (hI k ek))).rd
  refine ⟨_, hd, fun j u hj => ?_⟩
  rw [cell_of_row _ _ _ _ _ _ hs1]
  by_cases hj2 : j = 2
  ·subst hj2
   rw [Array.getElem?_setIfInBounds_self_of_lt (by omega)]
   exact hj
  ·rw [Array.getElem?_setIfInBounds_ne (by omega)]
   refine hcur q hq j u ?_
   rw [<- hj]
   have hjn : j < 4 := (List.getElem?_eq_some_iff.1 hj).1
   rcases (show j = 0 \/ j = 1 \/ j = 3 by omega) with rfl | rfl | rfl <;> rfl
 ·rw [if_neg hiq]
  refine ⟨s i, ((hrow i hi2).kept hgb (fun k ek => .inr (hI k ek))).rd, fun j u hj => ?_⟩
  have hjn : j < 4 := (List.getElem?_eq_some_iff.1 hj).1
  rw [cell_of_row _ _ _ _ _ _ hs1, Array.getElem?_setIfInBounds_ne (by omega)]
  exact hcur i hi2 j u hj
section
variable {n : Nat} {ps : List UInt8} {ls : List Lev} {l : List UInt16} {zs : List Int} {k : Pck}
def Zj9 (ls : List Lev) (l : List UInt16) (zs : List Int) (k : Pck) (L : Lod) : Prop :=
 ∀ W v vp vz, RdLevs W v ls -> RdPces W vp (Z08 l).ps -> RdInts W vz zs -> Calls Tryz.prog 12 #[v, ZaO vp, vz, Zje k] W fun e w' => ∃ ab cb at' ct ac cc, e = .returned (.tuple #[.agg #[.slice ab L.buns.length cb, .slice at' L.tras.length ct, .slice ac L.cons.length cc], .int .i64 0]) /\ Below W.1.size W w' /\
  OwnsX 67 4 Z0N (fun b => b.ids) w' W.1.size (.slice ab L.buns.length cb) L.buns /\ OwnsX 112 3 Z2L (fun t => t.bs) w' W.1.size (.slice at' L.tras.length ct) L.tras /\ OwnsX 114 2 Z2Y (fun c => c.ts) w' W.1.size (.slice ac L.cons.length cc) L.cons
theorem ZiP (h : Mk27 n ps ls l) (hzl : zs.length = (Z08 l).ps.length) (hn : Z1g ls.length zs = true) (hA : Zab ls (Z08 l) zs k = 0) (hk : Z7f k = true) (hkg : ∀ p ∈ (Z08 l).ps, p.grams <= k.grams) : Zj9 ls l zs k (Z7U ls l zs k) := by
 intro W v vp vz h1 h2 h3
 refine (Zem h.hp v vp vz zs k W h1 h2 h3 hzl hn hA hk hkg).mono ?_
 rintro e w' ⟨vb, vt, vc, rfl, hb, o1, o2, o3⟩
 obtain ⟨ab, cb, rfl⟩ := o1.form
 obtain ⟨at', ct, rfl⟩ := o2.form
 obtain ⟨ac, cc, rfl⟩ := o3.form
 exact ⟨ab, cb, at', ct, ac, cc, rfl, hb, o1, o2, o3⟩
def ZiA (n : Nat) (ps : List UInt8) (ls : List Lev) (l : List UInt16) (zs : List Int) (k : Pck) (L : Lod) (X : Man) (b : Bool) : Prop :=
 ∀ W vr vz v vp vn vb vt vc vx, RdTar W vr vz (Z1D n ps) -> RdLevs W v ls -> RdPces W vp (Z08 l).ps -> RdInts W vn zs -> RdLod W vb vt vc L -> RdLns W vx X.lines ->
  Calls Tryz.prog 14 #[.agg #[vr, vz], v, ZaO vp, vn, Zje k, .agg #[vb, vt, vc], Z9B X vx] W fun e w' => e = .returned (.tuple #[.bool b, .int .i64 0]) /\ Below W.1.size W w'
theorem Zas {W : World} {vb vt vc : Value} {L : Lod} (h : RdLod W vb vt vc L) : (∃ a c, vb = .slice a L.buns.length c) /\ (∃ a c, vt = .slice a L.tras.length c) /\ ∃ a c, vc = .slice a L.cons.length c := by
 obtain ⟨a, c, h1, _⟩ := h.b
 obtain ⟨a', c', h2, _⟩ := h.t
 obtain ⟨a2, c2, h3, _⟩ := h.c
 exact ⟨⟨a, c, h1⟩, ⟨a', c', h2⟩, ⟨a2, c2, h3⟩⟩
theorem ZdZ (h : Mk27 n ps ls l) (hzl : zs.length = (Z08 l).ps.length) (hn : Z1g ls.length zs = true) {L : Lod} {X : Man} {b : Bool} (hlX : X.lines.length <= 100000) (hL : L.buns.length <= 100000 /\ L.tras.length <= 100000 /\ L.cons.length <= 100000)
 (hck : ∀ W v vp vn vb vt vc, RdLevs W v ls -> RdPces W vp (Z08 l).ps -> RdInts W vn zs -> RdLod W vb vt vc L -> Calls Tryz.prog 37 #[v, ZaO vp, vn, Zje k, .agg #[vb, vt, vc]] W fun e w' => e = .returned (.tuple #[.bool b, .int .i64 0]) /\ Below W.1.size W w') :
 ZiA n ps ls l zs k L X (b && (decide ((Z8y n ps ls l zs L).total = X.total) && decide ((Z8y n ps ls l zs L).lines = X.lines)) && (decide ((Z8y n ps ls l zs L).buns = X.buns) && decide ((Z8y n ps ls l zs L).tras = X.tras) && decide ((Z8y n ps ls l zs L).cons = X.cons))) := by
 intro W vr vz v vp vn vb vt vc vx h1 h2 h3 h4 h5 h6
 obtain ⟨f1, f2, f3⟩ := Zas h5
 obtain ⟨ar, cr, rfl, _⟩ := id h1.r
 obtain ⟨az, cz, rfl, _⟩ := id h1.z
 obtain ⟨al, cl, rfl, _⟩ := id h2
 obtain ⟨ap, cp, rfl, _⟩ := id h3
 obtain ⟨an, cn, rfl, _⟩ := id h4
 have hl6 := Z0z h.hp.right
 have hml : (Z8y n ps ls l zs L).lines.length <= 100000 := by
  have : (Z8y n ps ls l zs L).lines.length = ls.length := by unfold Z8y Z6t; simp
  omega
 refine Z5o (M := Z8y n ps ls l zs L) (m := Z08 l) (k := k) (nb := L.buns.length) (nt := L.tras.length) (nc := L.cons.length) W ⟨_, _, _, rfl⟩ ⟨_, _, _, rfl⟩ ⟨_, _, _, rfl⟩ ⟨_, _, _, rfl⟩ ⟨_, _, _, rfl⟩ f1 f2 f3 h6 hml hlX (fun W' hW => ?_) (fun W' hW => ?_)
 ·exact hck W' _ _ _ _ _ _ (h2.below hW) (h3.below hW) (h4.below hW) (h5.below hW)
 ·exact h.state hzl hn W' (h1.below hW) (h2.below hW) (h3.below hW) (h4.below hW) f1 f2 f3 hL
theorem Z8x (n : Nat) (ps : List UInt8) (ls : List Lev) (l : List UInt16) (zs : List Int) (L : Lod) : (Z8y n ps ls l zs L).lines.length = ls.length := by unfold Z8y Z6t; simp
theorem ZbM (h : Mk27 n ps ls l) (hzl : zs.length = (Z08 l).ps.length) (hn : Z1g ls.length zs = true) (hA : Zab ls (Z08 l) zs k = 0) (hk : Z7f k = true) (hkg : ∀ p ∈ (Z08 l).ps, p.grams <= k.grams) {X : Man} {b : Bool} (hX : X.lines.length <= 100000)
 (hp : X.buns = (Z8y n ps ls l zs (Z7U ls l zs k)).buns /\ X.tras = (Z8y n ps ls l zs (Z7U ls l zs k)).tras /\ X.cons = (Z8y n ps ls l zs (Z7U ls l zs k)).cons)
 (hb : (decide ((Z8y n ps ls l zs (Z7U ls l zs k)).total = X.total) && decide ((Z8y n ps ls l zs (Z7U ls l zs k)).lines = X.lines)) = b) : ZiA n ps ls l zs k (Z7U ls l zs k) X b := by
 have hpd := Z9p h.hp hzl hn hk hkg
 have := ZdZ (k := k) (b := true) (X := X) h hzl hn hX (Z8B h.hp hzl hn hk hkg) (fun W v vp vn vb vt vc h1 h2 h3 h4 => Z89 h.hp h1 h2 h3 hzl hn hA h4 hpd)
 obtain ⟨p1, p2, p3⟩ := hp
 rw [hb, p1, p2, p3, decide_eq_true rfl, decide_eq_true rfl, decide_eq_true rfl, Bool.true_and, Bool.and_true, Bool.and_true, Bool.and_true] at this
 exact this
theorem Zg3 (h : Mk27 n ps ls l) (hzl : zs.length = (Z08 l).ps.length) (hn : Z1g ls.length zs = true) (hA : Zab ls (Z08 l) zs k = 0) (hk : Z7f k = true) (hkg : ∀ p ∈ (Z08 l).ps, p.grams <= k.grams) {X : Man} (hX : X.lines.length <= 100000) {q : Nat} (hq : q < (Z7U ls l zs k).buns.length) (e : Bool) :
 ZiA n ps ls l zs k (Z6W (Z7U ls l zs k) q e) X false := by
 have hfew := h.hp.few
 have hpd := Z9p h.hp hzl hn hk hkg
 have hl := Z8B h.hp hzl hn hk hkg
 have hs := Zdg (hpd.smallL (by omega)) hq (hpd.own _ (Z4 hq)).1 e
 exact ZdZ (k := k) (b := false) (X := X) (L := Z6W (Z7U ls l zs k) q e) h hzl hn hX (by rw [Z4F]; exact hl) (fun W v vp vn vb vt vc h1 h2 h3 h4 => by
  refine Calls.mono (Zcg h.hp v vp vn vb vt vc zs k _ W h1 h2 h3 hzl hn hA h4 hs (fun b hb i hi => by
   obtain ⟨b0, hb0, hm⟩ := ZgO hb
   have := (hpd.own b0 hb0).2.2 i (hm i hi)
   omega)) ?_
  rintro e0 w' ⟨u, rfl, hb, hu⟩
  rw [hu.false (Zdf hpd hq e)]
  exact ⟨rfl, hb⟩)
end
theorem Zbs (a b : Nat) : (a : Int).tmod (b : Int) = ((a % b : Nat) : Int) := by rw [Int.tmod_eq_emod_of_nonneg (Int.natCast_nonneg _)]; rfl
end Go.Proofs.YtlgajongmkhcnaaGreatDoor
