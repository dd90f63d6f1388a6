/- ElabNone: trees as read, and the walk. -/
import Derived.Test.YtlhbgpjimopjeaaGreatDoorOpens
import Derived.Test.YtlhbgpjimopjeaaGreatDoorPElabNonex1
import Derived.Test.YtlhbgpjimopjeaaGreatDoorEvWy
import Derived.Test.YtlhbgpjimopjeaaGreatDoorLib
import Derived.Test.YtlhbgpjimopjeaaGreatDoorReg
namespace Go.Proofs.YtlhbgpjimopjeaaGreatDoor
open Go Go.RowKit Go.ChangeShapes Go.WideShapes Go.Proofs.YtlhbgpjimopjeaaGreatDoorW.PrintWords Go.Proofs.YtlhbgpjimopjeaaGreatDoor.PElabNone

/-- the lengths of a tree's rows -/
inductive WideTree : S27 → Prop
  | mk (x : S27) (h : x.f2.length ≤ maxLen) (hk : ∀ y ∈ x.f2, WideTree y) : WideTree x

theorem size_mono {a0 : Bool} {a1 : Int} {a2 : ByteArray} {a3 : Int} {l : List S27} {m r : Int} {k k' : Nat} (h : k ≤ k') (e : juristref04_Size.f k a0 a1 a2 a3 l m = some r) : juristref04_Size.f k' a0 a1 a2 a3 l m = some r := by
  induction h with
  | refl => exact e
  | step _ ih => exact juristref04_Size.mono _ _ _ _ _ _ _ r ih
theorem size_mono_l {a0 : Bool} {a1 : Int} {a2 : ByteArray} {a3 : Int} {l : List S27} {m x y r : Int} {k k' : Nat} (h : k ≤ k') (e : juristref04_Size.l0 k m x y a0 a1 a2 a3 l = some r) : juristref04_Size.l0 k' m x y a0 a1 a2 a3 l = some r := by
  induction h with
  | refl => exact e
  | step _ ih => exact (juristref04_Size.mono_l _).2 _ _ _ _ _ _ _ _ r ih

theorem size_kids (a0 : Bool) (a1 : Int) (a2 : ByteArray) (a3 : Int) (l : List S27) (most : Int) (hw : l.length ≤ maxLen) (hk : ∀ x ∈ l, ∀ m, ∃ k r, juristref04_Size.f k x.f0 x.f1.f0 x.f1.f1 x.f1.f2 x.f2 m = some r) :
    ∀ (d : Nat) (n i : Int), 0 ≤ i → i ≤ l.length → l.length - i = d → ∃ k r, juristref04_Size.l0 k most n i a0 a1 a2 a3 l = some r
  | 0, n, i, g0, g1, g2 => by
    refine ⟨1, n, ?_⟩
    rw [juristref04_Size.l0, if_neg (by omega)]
  | d + 1, n, i, g0, g1, g2 => by
    have hlt : i < l.length := by omega
    by_cases hm : n < most
    · have hs : wrap64 (i + 1) = i + 1 := by
        have : maxLen ≤ 9223372036854775807 := by decide
        unfold wrap64; omega
      have hmem : rd_T27 l i ∈ l := by
        unfold rd_T27
        have : i.toNat < l.length := by omega
        rw [List.getD_eq_getElem?_getD, List.getElem?_eq_getElem this]
        exact List.getElem_mem _
      obtain ⟨k1, r1, h1⟩ := hk _ hmem (wrap64 (most - n))
      obtain ⟨k2, r2, h2⟩ := size_kids a0 a1 a2 a3 l most hw hk d (wrap64 (n + r1)) (wrap64 (i + 1)) (by omega) (by omega) (by omega)
      refine ⟨max k1 k2 + 1, r2, ?_⟩
      rw [juristref04_Size.l0, if_pos hlt, if_pos hm, if_pos g0, size_mono (Nat.le_max_left k1 k2) h1]
      exact size_mono_l (Nat.le_max_right k1 k2) h2
    · refine ⟨1, n, ?_⟩
      rw [juristref04_Size.l0, if_pos hlt, if_neg hm]

theorem size_says {x : S27} (h : WideTree x) : ∀ m, ∃ k r, juristref04_Size.f k x.f0 x.f1.f0 x.f1.f1 x.f1.f2 x.f2 m = some r := by
  induction h with
  | mk x hw _ ih =>
    intro m
    obtain ⟨k, r, h⟩ := size_kids x.f0 x.f1.f0 x.f1.f1 x.f1.f2 x.f2 m hw ih x.f2.length (wrap64 (1 + (wrap64 ((x.f1.f1.size : Int) / 8)))) 0 (by omega) (by omega) (by omega)
    refine ⟨k + 1, r, ?_⟩
    rw [juristref04_Size.f]
    exact h

theorem opens_Token : Opens Tryz.prog k24 (fun _ => True) 24 :=
  opens_imp (opens_iso _ (fun x : Int × ByteArray × Int => S24.mk x.1 x.2.1 x.2.2) (fun _ => rfl) (opens_struct Tryz.underlying24 rfl
    (opensL_cons rfl (opens_int Tryz.underlying22) (opensL_cons (by kernel_rfl) (opens_string Tryz.underlying9) (opensL_one (by kernel_rfl) (by kernel_rfl) (opens_int Tryz.underlying3)))))) (fun _ _ => trivial)

/-- A row whose elements are each of a kind. -/
theorem row_of {α : Type} {d : Kd α} {Pr : α → Prop} {w : World} {base sz len : Nat} {a : Addr} (hc : sz = d.sz) (hlen : len ≤ maxLen) (hx : ∀ i, i < len → ∃ c, w.cells? base (a.add (i * sz)) sz = some c ∧ ∃ y, d.K w y c ∧ Pr y) :
    ∃ ys : List α, ys.length = len ∧ d.C w (some a) len ys ∧ ∀ y ∈ ys, Pr y := by
  have hy : ∀ i : Fin len, ∃ y, (∃ c, w.cells? base (a.add (i.val * sz)) sz = some c ∧ d.K w y c) ∧ Pr y := fun i => by
    obtain ⟨c, h1, y, hk, hp⟩ := hx i.val i.isLt
    exact ⟨y, ⟨c, h1, hk⟩, hp⟩
  let Y : Fin len → α := fun i => Classical.choose (hy i)
  have hY := fun i => Classical.choose_spec (hy i)
  have hlen' : (List.ofFn Y).length = len := by simp
  refine ⟨List.ofFn Y, hlen', ⟨hlen', Nat.le_trans hlen (by decide), fun _ => ⟨a, rfl, fun j p hj => ?_⟩⟩, ?_⟩
  · have hjl : j < len := by
      have := (List.getElem?_eq_some_iff.1 hj).1
      omega
    have hp : p = Y ⟨j, hjl⟩ := by
      have := (List.getElem?_eq_some_iff.1 hj).2
      rw [List.getElem_ofFn] at this
      exact this.symm
    obtain ⟨⟨c, h1, hk⟩, _⟩ := hY ⟨j, hjl⟩
    refine ⟨c, d.K_len hk, hp ▸ hk, fun i u hu => ?_⟩
    obtain ⟨_, hcl, hcell⟩ := World.cells?_some h1
    have hi : i < sz := by
      have := (List.getElem?_eq_some_iff.1 hu).1
      omega
    have := hcell i hi
    rw [hu] at this
    rw [← this, ← hc, ← add_twice]
  · intro y hy'
    obtain ⟨i, rfl⟩ := List.mem_ofFn.1 hy'
    exact (hY i).2

theorem cells_tree : (Tryz.prog.cellsOf 4, Tryz.prog.cellsOf 24, Tryz.prog.cellsOf 25, Tryz.prog.cellsOf 27) = (1, 3, 1, 5) := by kernel_rfl

set_option maxRecDepth 100000 in
theorem opens_tree_upto : ∀ (N : Nat) (H : Type) (enc : TypeId × Value → H) (w : World) (base : Nat) (spare : Nat → Bool) (held : Bool) (fuel : Nat) (cs : List Value) (x : DataW H × List MemPlace),
    fuel ≤ N → DataW.trod enc Tryz.prog w base spare held fuel 27 cs = some x → ∃ y, k27.K w y cs ∧ WideTree y
  | 0, H, enc, w, base, spare, held, fuel, cs, x, hN, h => by
    obtain rfl : fuel = 0 := by omega
    simp [DataW.trod] at h
  | N + 1, H, enc, w, base, spare, held, fuel, cs, x, hN, h => by
    have hC := cells_tree
    simp only [Prod.mk.injEq] at hC
    obtain ⟨hC0, hC1, hC2, hC3⟩ := hC
    obtain ⟨xs, n, rfl, rfl, hl, hlen, hf⟩ := DataW.trod_struct Tryz.underlying27 h
    have f0 : DataW.trod enc Tryz.prog w base spare held n 4 ((cs.drop 0).take (Tryz.prog.cellsOf 4)) = xs[0]? := hf 0 _ rfl
    have f1 : DataW.trod enc Tryz.prog w base spare held n 24 ((cs.drop 1).take (Tryz.prog.cellsOf 24)) = xs[1]? := hf 1 _ rfl
    have f2 : DataW.trod enc Tryz.prog w base spare held n 25 ((cs.drop 4).take (Tryz.prog.cellsOf 25)) = xs[2]? := hf 2 _ rfl
    have hlen3 : xs.length = 3 := hlen
    rw [List.getElem?_eq_getElem (by omega)] at f0 f1 f2
    rw [hC3] at hl
    rw [hC0] at f0
    rw [hC1] at f1
    rw [hC2] at f2
    match cs, hl with
    | [c0, c1, c2, c3, c4], _ =>
      obtain ⟨y0, k0, _⟩ := opens_bool Tryz.underlying4 _ _ _ _ _ _ _ _ _ f0
      obtain ⟨y1, k1, _⟩ := opens_Token _ _ _ _ _ _ _ _ _ f1
      have e0 : c0 = .bool y0 := by
        have : [c0] = [Value.bool y0] := k0
        simpa using this
      have e1 := k24_open k1
      simp only [List.drop, List.take, List.cons.injEq, and_true] at e1
      obtain ⟨e1, e2, e3⟩ := e1
      subst e0; subst e1; subst e2; subst e3
      rcases DataW.trod_slice Tryz.underlying25 f2 with ⟨hcs, _⟩ | ⟨a, len, cap, elems, rest, m, hn, hcs, _, hb, hl2, hm, hel, hget, _, _⟩
      · simp only [List.drop, List.take, List.cons.injEq, and_true] at hcs
        subst hcs
        exact ⟨⟨y0, y1, []⟩, k27_mk w ⟨y0, y1, []⟩ (Nat.le_refl _) ⟨rfl, Nat.zero_le _, fun h => by cases h⟩, .mk _ (Nat.zero_le _) (fun y hy => by cases hy)⟩
      · simp only [List.drop, List.take, List.cons.injEq, and_true] at hcs
        subst hcs
        obtain ⟨ys, hys, hrow, hwide⟩ := row_of (d := k27) (Pr := WideTree) (w := w) (base := base) (sz := Tryz.prog.cellsOf 27) (len := len) (a := a) (by rw [hC3]; rfl) (Nat.le_trans hl2 hm) (fun i hi => by
          have hg := hget i hi
          rw [List.getElem?_eq_getElem (by omega), Option.bind_eq_some_iff] at hg
          obtain ⟨c, hc, ht⟩ := hg
          exact ⟨c, hc, opens_tree_upto N H enc w base spare held m c _ (by omega) ht⟩)
        subst hys
        exact ⟨⟨y0, y1, ys⟩, k27_mk w ⟨y0, y1, ys⟩ hl2 hrow, .mk _ (Nat.le_trans hl2 hm) hwide⟩

theorem opens_Tree : Opens Tryz.prog k27 WideTree 27 := fun H enc w base spare held fuel cs x h => opens_tree_upto fuel H enc w base spare held fuel cs x (Nat.le_refl _) h

set_option maxRecDepth 100000 in
/-- A tree that was read: its cells, and what 'Size' says of it. -/
theorem tree_open {H : Type} {enc : TypeId × Value → H} {w : World} {base : Nat} {spare : Nat → Bool} {held : Bool} {v : Value} {d : DataW H} {p : List MemPlace} {r : Reach} {b0 : Nat}
    (hv : Value.okWide Tryz.prog w r b0 27 v) (h : DataW.Trod enc Tryz.prog w base spare held 27 v d p) :
    ∃ (x0 : Bool) (x1 : Int) (x2 : ByteArray) (x3 : Int) (A4 : Option Addr) (n4 c4 : Nat), v = .agg #[.bool x0, .int .u8 x1, .string x2, .int .i64 x3, .slice A4 n4 c4] ∧
      ∃ z : Int, ∀ w1, Below w.heap.size w w1 → Calls Tryz.prog 6 #[v, .int .i64 501] w1 fun e w' => e = .returned (.int .i64 z) ∧ Below w1.heap.size w1 w' := by
  obtain ⟨cs, rfl, _⟩ := okWide_struct Tryz.underlying27 hv
  obtain ⟨fuel, hf⟩ := h
  obtain ⟨x, hk, hw⟩ := opens_Tree _ _ _ _ _ _ _ _ _ hf
  obtain ⟨A4, c4, hcs, hl, hc⟩ := k27_open hk
  have : cs = #[.bool x.f0, .int .u8 x.f1.f0, .string x.f1.f1, .int .i64 x.f1.f2, .slice A4 x.f2.length c4] := by
    apply Array.ext'
    simpa [Value.cells] using hcs
  subst this
  refine ⟨_, _, _, _, A4, _, _, rfl, ?_⟩
  obtain ⟨k, z, hz⟩ := size_says hw 501
  exact ⟨z, fun w1 hb => juristref04_Size.calls k _ _ _ _ A4 c4 x.f2 501 z w1 (Kd.C_below hc hb) hl hz⟩
end Go.Proofs.YtlhbgpjimopjeaaGreatDoor
namespace Go.Proofs.YtlhbgpjimopjeaaGreatDoor
open Go.RowKit
theorem cell_at {b o : Nat} {w w1 : World} {v : Value} (hb : Below w.heap.size w w1) (h : b < w.heap.size) (k : w.cell? ⟨b, o, none⟩ = some v) : w1.cell? ⟨b, o, none⟩ = some v := (hb.cell (p := ⟨b, o, none⟩) h).trans k

theorem there_nil (w : World) : Calls Tryz.prog 26 #[.pointer none] w fun e w' => e = .returned (.bool false) ∧ w' = w := by
  go_enter Tryz.func26, Tryz.ntmps26
  go_wp2
  go_ret
  exact ⟨rfl, rfl⟩
theorem there_names (b : Nat) (w : World) (h : w.cell? ⟨b, 0, none⟩ = some (.pointer none)) : Calls Tryz.prog 26 #[.pointer (some ⟨b, 0, none⟩)] w fun e w' => e = .returned (.bool false) ∧ w' = w := by
  go_enter Tryz.func26, Tryz.ntmps26
  go_wp2
  go_ret
  exact ⟨rfl, rfl⟩
theorem there_store (b : Nat) (a : Addr) (w : World) (h : w.cell? ⟨b, 0, none⟩ = some (.pointer (some a))) (h1 : w.cell? ⟨b, 1, none⟩ = some (.pointer none)) : Calls Tryz.prog 26 #[.pointer (some ⟨b, 0, none⟩)] w fun e w' => e = .returned (.bool false) ∧ w' = w := by
  go_enter Tryz.func26, Tryz.ntmps26
  go_wp2
  go_ret
  exact ⟨rfl, rfl⟩

/-- a book that is not whole -/
def Less (v : Value) (w : World) : Prop := v = .pointer none ∨ ∃ b, v = .pointer (some ⟨b, 0, none⟩) ∧ b < w.heap.size ∧ (w.cell? ⟨b, 0, none⟩ = some (.pointer none) ∨ ∃ a, w.cell? ⟨b, 0, none⟩ = some (.pointer (some a)) ∧ w.cell? ⟨b, 1, none⟩ = some (.pointer none))
theorem there_less {v : Value} {w : World} (h : Less v w) : Calls Tryz.prog 26 #[v] w fun e w' => e = .returned (.bool false) ∧ w' = w := by
  rcases h with rfl | ⟨b, rfl, _, h | ⟨a, h, h1⟩⟩
  · exact there_nil w
  · exact there_names b w h
  · exact there_store b a w h h1
theorem Less.on {v : Value} {w w1 : World} (h : Less v w) (hb : Below w.heap.size w w1) : Less v w1 := by
  rcases h with rfl | ⟨b, rfl, hl, h | ⟨a, h, h1⟩⟩
  · exact .inl rfl
  · exact .inr ⟨b, rfl, Nat.lt_of_lt_of_le hl hb.size, .inl (cell_at hb hl h)⟩
  · exact .inr ⟨b, rfl, Nat.lt_of_lt_of_le hl hb.size, .inr ⟨a, cell_at hb hl h, cell_at hb hl h1⟩⟩

set_option maxRecDepth 100000 in
theorem term_less {v : Value} {w : World} (h : Less v w) (x0 : Bool) (x1 : Int) (x2 : ByteArray) (x3 : Int) (A4 : Option Addr) (n4 c4 : Nat) :
    Calls Tryz.prog 10 #[v, .agg #[.bool x0, .int .u8 x1, .string x2, .int .i64 x3, .slice A4 n4 c4]] w fun e w' => e = .returned (.tuple #[.int .i64 0, .int .i64 1]) ∧ Below w.heap.size w w' := by
  have HL := Lib.hid h
  clear h
  go_enter Tryz.func10, Tryz.ntmps10
  go_wp2_with fail
  refine (there_less (HL.out.on (by (repeat (first | (with_reducible exact Below.refl _ _) | ((with_reducible refine Below.alloc ?_ ?_ _); rotate_left; focus (first | (simp; done) | (simp; omega))) | ((with_reducible refine Below.setCell ?_ ?_ _); rotate_left; focus (first | (simp; done) | (simp; omega))) | (with_reducible refine Below.drew ?_) | (with_reducible refine Below.drewN' ?_ _)))))).mono ?_; rintro e w1 ⟨rfl, rfl⟩
  go_wp2_with fail
  go_ret2
  exact ⟨rfl, by (repeat (first | (with_reducible exact Below.refl _ _) | ((with_reducible refine Below.alloc ?_ ?_ _); rotate_left; focus (first | (simp; done) | (simp; omega))) | ((with_reducible refine Below.setCell ?_ ?_ _); rotate_left; focus (first | (simp; done) | (simp; omega))) | (with_reducible refine Below.drew ?_) | (with_reducible refine Below.drewN' ?_ _)))⟩
set_option maxRecDepth 100000 in
theorem body_less {v : Value} {w : World} (h : Less v w) (x0 : Bool) (x1 : Int) (x2 : ByteArray) (x3 : Int) (A4 : Option Addr) (n4 c4 : Nat) :
    Calls Tryz.prog 11 #[v, .agg #[.slice none 0 0, .slice none 0 0, .bool x0, .int .u8 x1, .string x2, .int .i64 x3, .slice A4 n4 c4]] w fun e w' => e = .returned (.tuple #[.int .i64 0, .int .i64 1]) ∧ Below w.heap.size w w' := by
  have HL := Lib.hid h
  clear h
  go_enter Tryz.func11, Tryz.ntmps11
  go_wp2_with fail
  refine (there_less (HL.out.on (by (repeat (first | (with_reducible exact Below.refl _ _) | ((with_reducible refine Below.alloc ?_ ?_ _); rotate_left; focus (first | (simp; done) | (simp; omega))) | ((with_reducible refine Below.setCell ?_ ?_ _); rotate_left; focus (first | (simp; done) | (simp; omega))) | (with_reducible refine Below.drew ?_) | (with_reducible refine Below.drewN' ?_ _)))))).mono ?_; rintro e w1 ⟨rfl, rfl⟩
  go_wp2_with fail
  go_ret2
  exact ⟨rfl, by (repeat (first | (with_reducible exact Below.refl _ _) | ((with_reducible refine Below.alloc ?_ ?_ _); rotate_left; focus (first | (simp; done) | (simp; omega))) | ((with_reducible refine Below.setCell ?_ ?_ _); rotate_left; focus (first | (simp; done) | (simp; omega))) | (with_reducible refine Below.drew ?_) | (with_reducible refine Below.drewN' ?_ _)))⟩

/-- what stands at each round: the tree's cells, and four books that are not whole -/
def StE (w : World) (g gl : Nat) (x0 : Bool) (x1 : Int) (x2 : ByteArray) (x3 : Int) (A4 : Option Addr) (n4 c4 : Nat) (wr : World) : Prop :=
  Below w.heap.size w wr ∧ g < wr.heap.size ∧ wr.cell? ⟨g, 0, none⟩ = some (.bool x0) ∧ wr.cell? ⟨g, 1, none⟩ = some (.int .u8 x1) ∧ wr.cell? ⟨g, 2, none⟩ = some (.string x2) ∧ wr.cell? ⟨g, 3, none⟩ = some (.int .i64 x3) ∧
    wr.cell? ⟨g, 4, none⟩ = some (.slice A4 n4 c4) ∧ gl < wr.heap.size ∧ ∀ j, j < 4 → ∃ v, wr.cell? ⟨gl, j, none⟩ = some v ∧ Less v wr
theorem StE.on {w : World} {g gl : Nat} {x0 : Bool} {x1 : Int} {x2 : ByteArray} {x3 : Int} {A4 : Option Addr} {n4 c4 : Nat} {wr w' : World} (h : StE w g gl x0 x1 x2 x3 A4 n4 c4 wr) (hb : Below wr.heap.size wr w') : StE w g gl x0 x1 x2 x3 A4 n4 c4 w' := by
  obtain ⟨h0, h1, h2, h3, h4, h5, h6, h7, h8⟩ := h
  refine ⟨h0.trans (hb.mono h0.size), Nat.lt_of_lt_of_le h1 hb.size, cell_at hb h1 h2, cell_at hb h1 h3, cell_at hb h1 h4, cell_at hb h1 h5, cell_at hb h1 h6, Nat.lt_of_lt_of_le h7 hb.size, fun j hj => ?_⟩
  obtain ⟨v, e, hl⟩ := h8 j hj
  exact ⟨v, cell_at hb h7 e, hl.on hb⟩

set_option maxRecDepth 100000 in
set_option maxHeartbeats 1000000 in
theorem elabNone_any (x0 : Bool) (x1 : Int) (x2 : ByteArray) (x3 : Int) (A4 : Option Addr) (n4 c4 : Nat) (z : Int) (w : World)
    (ht : ∀ w1, Below w.heap.size w w1 → Calls Tryz.prog 6 #[.agg #[.bool x0, .int .u8 x1, .string x2, .int .i64 x3, .slice A4 n4 c4], .int .i64 501] w1 fun e w' => e = .returned (.int .i64 z) ∧ Below w1.heap.size w1 w') :
    Calls Tryz.prog 3 #[.agg #[.bool x0, .int .u8 x1, .string x2, .int .i64 x3, .slice A4 n4 c4]] w fun e w' => e = .returned (.bool true) ∧ Below w.heap.size w w' := by
  have HT := Lib.hid ht
  clear ht
  go_enter Tryz.func3, Tryz.ntmps3
  go_wp2_with fail
  refine (HT.out _ (by (repeat (first | (with_reducible exact Below.refl _ _) | ((with_reducible refine Below.alloc ?_ ?_ _); rotate_left; focus (first | (simp; done) | (simp; omega))) | ((with_reducible refine Below.setCell ?_ ?_ _); rotate_left; focus (first | (simp; done) | (simp; omega))) | (with_reducible refine Below.drew ?_) | (with_reducible refine Below.drewN' ?_ _))))).mono ?_; rintro e w1 ⟨rfl, hb1⟩
  clear HT
  obtain ⟨hc1, hf1⟩ := bcell hb1
  have k0 := hc1 w.heap.size 0 (by simp); have k1 := hc1 w.heap.size 1 (by simp); have k2 := hc1 w.heap.size 2 (by simp); have k3 := hc1 w.heap.size 3 (by simp); have k4 := hc1 w.heap.size 4 (by simp); simp at k0 k1 k2 k3 k4
  have zn : w.heap.size < w1.heap.size := by have := hb1.size; simp at this; omega
  have hbz : Below w.heap.size w w1 := by (repeat (first | (with_reducible exact Below.refl _ _) | ((with_reducible refine Below.alloc ?_ ?_ _); rotate_left; focus (first | (simp; done) | (simp; omega) | (have q0 := hb1.size; (try simp at q0); (try simp); omega))) | ((with_reducible refine Below.setCell ?_ ?_ _); rotate_left; focus (first | (simp; done) | (simp; omega) | (have q0 := hb1.size; (try simp at q0); (try simp); omega))) | (with_reducible refine Below.drew ?_) | (with_reducible refine Below.drewN' ?_ _) | (with_reducible refine Below.trans ?_ (hb1.mono ?_); rotate_left; focus (first | (simp; done) | (simp; omega) | (have q0 := hb1.size; (try simp at q0); (try simp); omega)))))
  clear hc1 hf1 hb1
  by_cases hz : 500 < z
  · go_wp2_with fail
    refine (elabKnown_calls _).mono ?_; rintro e wn ⟨rfl, hbn⟩
    replace hbz := hbz.trans (hbn.mono (by omega))
    go_wp2_with fail
    go_ret
    exact ⟨rfl, hbz⟩
  · go_wp2_with fail
    refine (sortsNew_calls _).mono ?_; rintro e w2 ⟨⟨a1, rfl⟩, hb2⟩
    obtain ⟨hc2, hf2⟩ := bcell hb2
    have m0 := hc2 w1.heap.size 0 (by simp); have m1 := hc2 w1.heap.size 1 (by simp); have m2 := hc2 w1.heap.size 2 (by simp); simp at m0 m1 m2
    have zm : w1.heap.size < w2.heap.size := by have := hb2.size; simp at this; omega
    have hbx : Below w1.heap.size w1 w2 := by (repeat (first | (with_reducible exact Below.refl _ _) | ((with_reducible refine Below.alloc ?_ ?_ _); rotate_left; focus (first | (simp; done) | (simp; omega) | (have q0 := hb2.size; (try simp at q0); (try simp); omega))) | ((with_reducible refine Below.setCell ?_ ?_ _); rotate_left; focus (first | (simp; done) | (simp; omega) | (have q0 := hb2.size; (try simp at q0); (try simp); omega))) | (with_reducible refine Below.drew ?_) | (with_reducible refine Below.drewN' ?_ _) | (with_reducible refine Below.trans ?_ (hb2.mono ?_); rotate_left; focus (first | (simp; done) | (simp; omega) | (have q0 := hb2.size; (try simp at q0); (try simp); omega)))))
    replace k0 := cell_at hbx zn k0; replace k1 := cell_at hbx zn k1; replace k2 := cell_at hbx zn k2; replace k3 := cell_at hbx zn k3; replace k4 := cell_at hbx zn k4
    replace hbz := hbz.trans (hbx.mono (by omega))
    clear hc2 hf2 hb2 hbx
    go_wp2_with fail
    refine (termsNew_calls _).mono ?_; rintro e w3 ⟨⟨a2, rfl⟩, hb3⟩
    obtain ⟨hc3, hf3⟩ := bcell hb3
    have l0 := hc3 w2.heap.size 0 (by simp); have l1 := hc3 w2.heap.size 1 (by simp); have l2 := hc3 w2.heap.size 2 (by simp); simp at l0 l1 l2
    have zl : w2.heap.size < w3.heap.size := by have := hb3.size; simp at this; omega
    have hbx : Below w2.heap.size w2 w3 := by (repeat (first | (with_reducible exact Below.refl _ _) | ((with_reducible refine Below.alloc ?_ ?_ _); rotate_left; focus (first | (simp; done) | (simp; omega) | (have q0 := hb3.size; (try simp at q0); (try simp); omega))) | ((with_reducible refine Below.setCell ?_ ?_ _); rotate_left; focus (first | (simp; done) | (simp; omega) | (have q0 := hb3.size; (try simp at q0); (try simp); omega))) | (with_reducible refine Below.drew ?_) | (with_reducible refine Below.drewN' ?_ _) | (with_reducible refine Below.trans ?_ (hb3.mono ?_); rotate_left; focus (first | (simp; done) | (simp; omega) | (have q0 := hb3.size; (try simp at q0); (try simp); omega)))))
    have zn' : w.heap.size < w2.heap.size := by omega
    replace k0 := cell_at hbx zn' k0; replace k1 := cell_at hbx zn' k1; replace k2 := cell_at hbx zn' k2; replace k3 := cell_at hbx zn' k3; replace k4 := cell_at hbx zn' k4
    replace m0 := cell_at hbx zm m0; replace m1 := cell_at hbx zm m1; replace m2 := cell_at hbx zm m2
    replace hbz := hbz.trans (hbx.mono (by omega))
    clear hc3 hf3 hb3 hbx
    have HS : Hid (∀ wr, Below w3.heap.size w3 wr → wr.cell? ⟨w3.heap.size, 0, none⟩ = some (.pointer none) → w3.heap.size + 1 < wr.heap.size → wr.cell? ⟨w3.heap.size + 1, 0, none⟩ = some (.pointer none) →
        wr.cell? ⟨w3.heap.size + 1, 1, none⟩ = some (.pointer (some ⟨w1.heap.size, 0, none⟩)) → wr.cell? ⟨w3.heap.size + 1, 2, none⟩ = some (.pointer (some ⟨w2.heap.size, 0, none⟩)) → wr.cell? ⟨w3.heap.size + 1, 3, none⟩ = some (.pointer (some ⟨w3.heap.size, 0, none⟩)) →
        StE w w.heap.size (w3.heap.size + 1) x0 x1 x2 x3 A4 n4 c4 wr) := Lib.hid (fun wr hb e0 z0 p0 p1 p2 p3 => by
      have zk : w.heap.size < w3.heap.size := by omega
      have zm' : w1.heap.size < w3.heap.size := by omega
      refine ⟨hbz.trans (hb.mono hbz.size), by omega, cell_at hb zk k0, cell_at hb zk k1, cell_at hb zk k2, cell_at hb zk k3, cell_at hb zk k4, z0, fun j hj => ?_⟩
      match j, hj with
      | 0, _ => exact ⟨_, p0, .inl rfl⟩
      | 1, _ => exact ⟨_, p1, .inr ⟨_, rfl, by omega, .inl (cell_at hb zm' m0)⟩⟩
      | 2, _ => exact ⟨_, p2, .inr ⟨_, rfl, by omega, .inr ⟨a1, cell_at hb zl l0, cell_at hb zl l1⟩⟩⟩
      | 3, _ => exact ⟨_, p3, .inr ⟨_, rfl, by omega, .inl e0⟩⟩)
    clear k0 k1 k2 k3 k4 m0 m1 m2 l0 l1 l2 hbz zn' zm zl zn
    go_wp2_with fail
    go_loopw [4] (fun vi wr => ∃ k : Nat, vi = .int .i64 k ∧ k ≤ 4 ∧ Hid (StE w w.heap.size (w3.heap.size + 1) x0 x1 x2 x3 A4 n4 c4 wr)) (fun vi _ => 4 - (intOf vi).toNat)
    case atStart => exact ⟨0, rfl, by omega, Lib.hid (HS.out _ (by (repeat (first | (with_reducible exact Below.refl _ _) | ((with_reducible refine Below.alloc ?_ ?_ _); rotate_left; focus (first | (simp; done) | (simp; omega))) | ((with_reducible refine Below.setCell ?_ ?_ _); rotate_left; focus (first | (simp; done) | (simp; omega))) | (with_reducible refine Below.drew ?_) | (with_reducible refine Below.drewN' ?_ _)))) (by simp) (by simp) (by simp) (by simp) (by simp) (by simp))⟩
    case round =>
      obtain ⟨k, rfl, hk, hs⟩ := hrel
      clear HS
      by_cases hk4 : k < 4
      · obtain ⟨s0, s1, q0, q1, q2, q3, q4, s7, s8⟩ := hs.out
        obtain ⟨v, p0, hv⟩ := s8 k hk4
        have HV := Lib.hid hv
        clear s8 s0 hv
        go_wp2_with fail
        refine wp_region_below (by kernel_rfl) (by kernel_rfl) ?_
        (refine wq_val (by rfl) (fun w' hw' => by obtain ⟨hc, hf⟩ := bcell hw'; go_simp; try rfl) ?_; (intro K hK; go_simp; refine hK _ ?_; clear hK K))
        (refine wq_val (by rfl) (fun w' hw' => by obtain ⟨hc, hf⟩ := bcell hw'; go_simp; try rfl) ?_; (intro K hK; go_simp; refine hK _ ?_; clear hK K))
        (refine wq_val (by rfl) (fun w' hw' => by obtain ⟨hc, hf⟩ := bcell hw'; go_simp; try rfl) ?_; (intro K hK; go_simp; refine hK _ ?_; clear hK K))
        (refine wq_val (by rfl) (fun w' hw' => by obtain ⟨hc, hf⟩ := bcell hw'; go_simp; try rfl) ?_; (intro K hK; go_simp; refine hK _ ?_; clear hK K))
        (refine wq_val (by rfl) (fun w' hw' => by obtain ⟨hc, hf⟩ := bcell hw'; go_simp; try rfl) ?_; (intro K hK; go_simp; refine hK _ ?_; clear hK K))
        (refine wq_call (by rfl) (fun w' hw' => by go_simp; try rfl) (fun w' hw' => call_below hw' (term_less (HV.out.on hw') x0 x1 x2 x3 A4 n4 c4)) ?_; (intro K hK; go_simp; refine hK _ ?_; clear hK K))
        (refine wq_val (by rfl) (fun w' hw' => by obtain ⟨hc, hf⟩ := bcell hw'; go_simp; try rfl) ?_; (intro K hK; go_simp; refine hK _ ?_; clear hK K))
        (refine wq_val (by rfl) (fun w' hw' => by obtain ⟨hc, hf⟩ := bcell hw'; go_simp; try rfl) ?_; (intro K hK; go_simp; refine hK _ ?_; clear hK K))
        (refine wq_val (by rfl) (fun w' hw' => by obtain ⟨hc, hf⟩ := bcell hw'; go_simp; try rfl) ?_; (intro K hK; go_simp; refine hK _ ?_; clear hK K))
        (refine wq_val (by rfl) (fun w' hw' => by obtain ⟨hc, hf⟩ := bcell hw'; go_simp; try rfl) ?_; (intro K hK; go_simp; refine hK _ ?_; clear hK K))
        (refine wq_val (by rfl) (fun w' hw' => by obtain ⟨hc, hf⟩ := bcell hw'; go_simp; try rfl) ?_; (intro K hK; go_simp; refine hK _ ?_; clear hK K))
        refine wpQuiet_nil ?_
        intro w4 hb4
        replace hs := Lib.hid (hs.out.on hb4)
        replace p0 := cell_at hb4 s7 p0
        replace HV := Lib.hid (HV.out.on hb4)
        clear q0 q1 q2 q3 q4 s1 s7 hb4
        obtain ⟨s0, s1, q0, q1, q2, q3, q4, s7, s8⟩ := hs.out
        clear s0 s8
        go_wp2_with fail
        refine wp_region_below (by kernel_rfl) (by kernel_rfl) ?_
        (refine wq_val (by rfl) (fun w' hw' => by obtain ⟨hc, hf⟩ := bcell hw'; go_simp; try rfl) ?_; (intro K hK; go_simp; refine hK _ ?_; clear hK K))
        (refine wq_val (by rfl) (fun w' hw' => by obtain ⟨hc, hf⟩ := bcell hw'; go_simp; try rfl) ?_; (intro K hK; go_simp; refine hK _ ?_; clear hK K))
        (refine wq_val (by rfl) (fun w' hw' => by obtain ⟨hc, hf⟩ := bcell hw'; go_simp; try rfl) ?_; (intro K hK; go_simp; refine hK _ ?_; clear hK K))
        (refine wq_val (by rfl) (fun w' hw' => by obtain ⟨hc, hf⟩ := bcell hw'; go_simp; try rfl) ?_; (intro K hK; go_simp; refine hK _ ?_; clear hK K))
        (refine wq_val (by rfl) (fun w' hw' => by obtain ⟨hc, hf⟩ := bcell hw'; go_simp; try rfl) ?_; (intro K hK; go_simp; refine hK _ ?_; clear hK K))
        (refine wq_val (by rfl) (fun w' hw' => by obtain ⟨hc, hf⟩ := bcell hw'; go_simp; try rfl) ?_; (intro K hK; go_simp; refine hK _ ?_; clear hK K))
        (refine wq_call (by rfl) (fun w' hw' => by go_simp; try rfl) (fun w' hw' => call_below hw' (body_less (HV.out.on hw') x0 x1 x2 x3 A4 n4 c4)) ?_; (intro K hK; go_simp; refine hK _ ?_; clear hK K))
        (refine wq_val (by rfl) (fun w' hw' => by obtain ⟨hc, hf⟩ := bcell hw'; go_simp; try rfl) ?_; (intro K hK; go_simp; refine hK _ ?_; clear hK K))
        (refine wq_val (by rfl) (fun w' hw' => by obtain ⟨hc, hf⟩ := bcell hw'; go_simp; try rfl) ?_; (intro K hK; go_simp; refine hK _ ?_; clear hK K))
        (refine wq_val (by rfl) (fun w' hw' => by obtain ⟨hc, hf⟩ := bcell hw'; go_simp; try rfl) ?_; (intro K hK; go_simp; refine hK _ ?_; clear hK K))
        (refine wq_val (by rfl) (fun w' hw' => by obtain ⟨hc, hf⟩ := bcell hw'; go_simp; try rfl) ?_; (intro K hK; go_simp; refine hK _ ?_; clear hK K))
        (refine wq_val (by rfl) (fun w' hw' => by obtain ⟨hc, hf⟩ := bcell hw'; go_simp; try rfl) ?_; (intro K hK; go_simp; refine hK _ ?_; clear hK K))
        refine wpQuiet_nil ?_
        intro w5 hb5
        replace hs := Lib.hid (hs.out.on hb5)
        clear q0 q1 q2 q3 q4 s1 s7 hb5 p0 HV
        go_wp2_with fail
        exact ⟨⟨k + 1, rfl, by omega, hs⟩, by simp [intOf]; omega⟩
      · obtain rfl : k = 4 := by omega
        go_wp2_with fail
        refine (elabKnown_calls _).mono ?_; rintro e wn ⟨rfl, hbn⟩
        have hbz := hs.out.1.trans (hbn.mono hs.out.1.size)
        go_wp2_with fail
        go_ret
        exact ⟨rfl, hbz⟩
end Go.Proofs.YtlhbgpjimopjeaaGreatDoor
