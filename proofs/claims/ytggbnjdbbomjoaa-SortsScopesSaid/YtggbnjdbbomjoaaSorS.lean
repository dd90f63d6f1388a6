/- The reference's table of names: what stands in memory; the functions that read. -/
import Derived.Test.YtggbnjdbbomjoaaSorR
namespace Go.Proofs.Ytggbnjdbbomjoaa
open Go.RowKit
/-- an entry of the reference -/
structure En where
  nm : ByteArray
  ar : Value
  res : Int
  df : Bool
  lv : Int
  st : Bool
def En.cells (x : En) : List Value := [.string x.nm, x.ar, .int .i64 x.res, .bool x.df, .int .i64 x.lv, .bool x.st]
def flatE (l : List En) : List Value := l.flatMap En.cells
theorem flatE_len (l : List En) : (flatE l).length = l.length * 6 := by
  induction l with
  | nil => rfl
  | cons x r ih => simp only [flatE, List.flatMap_cons, List.length_append, List.length_cons] at ih ⊢; rw [ih]; simp [En.cells]; omega
theorem flatE_snoc (l : List En) (x : En) : flatE (l ++ [x]) = flatE l ++ x.cells := by simp [flatE]
theorem flatE_get : ∀ (l : List En) (i : Nat) (x : En) (j : Nat), l[i]? = some x → j < 6 → (flatE l)[i * 6 + j]? = x.cells[j]?
  | [], i, x, j, h, _ => by simp at h
  | y :: r, 0, x, j, h, hj => by
    have : y = x := by simpa using h
    subst this
    simp only [flatE, List.flatMap_cons, Nat.zero_mul, Nat.zero_add]
    rw [List.getElem?_append_left (by simp [En.cells]; omega)]
  | y :: r, i + 1, x, j, h, hj => by
    have := flatE_get r i x j (by simpa using h) hj
    simp only [flatE, List.flatMap_cons] at this ⊢
    rw [List.getElem?_append_right (by simp [En.cells]; omega)]
    rw [← this]
    congr 1
    simp [En.cells]; omega
/-- all of a table of the reference -/
structure Rt where
  A0 : Value
  A1 : Value
  l0 : List En
  l1 : List En
  dp : Nat
structure RTab (B : Nat) (w : World) (g : Nat) (r : Rt) : Prop where
  row : RowB w g 49 [r.A0, r.A1, .int .i64 r.dp]
  gb : B ≤ g
  o0 : w.ownsRow B 84 6 r.A0 r.l0.length (flatE r.l0)
  o1 : w.ownsRow B 84 6 r.A1 r.l1.length (flatE r.l1)
  n01 : ∀ k, r.A0.ownBlock = some k → r.A1.ownBlock ≠ some k
  s0 : r.l0.length ≤ 2000
  s1 : r.l1.length ≤ 2000
  dl : r.dp ≤ 200
/-- what a method of the reference's table may write -/
def ROwn (g : Nat) (r : Rt) (k : Nat) : Prop := k = g ∨ r.A0.ownBlock = some k ∨ r.A1.ownBlock = some k
theorem RTab.ch {B : Nat} {w w' : World} {g : Nat} {r : Rt} {S : Nat → Prop} (h : RTab B w g r) (hc : Ch S w w') (hs : ∀ k, ROwn g r k → ¬ S k) : RTab B w' g r :=
  ⟨h.row.kept hc (hs _ (Or.inl rfl)), h.gb, ownsRow_ch h.o0 hc (fun k hk => hs k (Or.inr (Or.inl hk))), ownsRow_ch h.o1 hc (fun k hk => hs k (Or.inr (Or.inr hk))), h.n01, h.s0, h.s1, h.dl⟩
theorem RTab.below {B : Nat} {w w' : World} {g : Nat} {r : Rt} (h : RTab B w g r) (hb : Below w.heap.size w w') : RTab B w' g r :=
  h.ch (S := fun _ => False) (Ch.ofBelow hb) (fun _ _ e => e)
theorem RTab.lt {B : Nat} {w : World} {g : Nat} {r : Rt} (h : RTab B w g r) : g < w.heap.size := h.row.lt
theorem RTab.c0 {B : Nat} {w : World} {g : Nat} {r : Rt} (h : RTab B w g r) : w.cell? ⟨g, 0, none⟩ = some r.A0 := h.row.cell 0
theorem RTab.c1 {B : Nat} {w : World} {g : Nat} {r : Rt} (h : RTab B w g r) : w.cell? ⟨g, 1, none⟩ = some r.A1 := h.row.cell 1
theorem RTab.c2 {B : Nat} {w : World} {g : Nat} {r : Rt} (h : RTab B w g r) : w.cell? ⟨g, 2, none⟩ = some (.int .i64 r.dp) := h.row.cell 2
theorem RTab.own_lt {B : Nat} {w : World} {g : Nat} {r : Rt} (h : RTab B w g r) {k : Nat} (hk : ROwn g r k) : B ≤ k ∧ k < w.heap.size := by
  rcases hk with rfl | e | e
  · exact ⟨h.gb, h.lt⟩
  · exact h.o0.lt k e
  · exact h.o1.lt k e
/-- where the first one stands by a name; -1 -/
def seekE (s : ByteArray) : List En → Int → Int
  | [], _ => -1
  | e :: r, i => if e.st = true ∧ e.nm = s then i else seekE s r (i + 1)
theorem seekE_ge (s : ByteArray) : ∀ (l : List En) (i : Int), 0 ≤ i → -1 ≤ seekE s l i
  | [], i, _ => by simp [seekE]
  | e :: r, i, h => by
    have := seekE_ge s r (i + 1) (by omega)
    simp only [seekE]; split <;> omega
set_option maxRecDepth 100000 in
theorem find_any {B : Nat} {w : World} (A : Value) (l : List En) (hA : w.ownsRow B 84 6 A l.length (flatE l)) (hl : l.length ≤ 2000) (s : ByteArray) :
    Calls Try.prog 43 #[A, .string s] w fun e w' => e = .returned (.int .i64 (seekE s l 0)) ∧ w' = w := by
  obtain ⟨ao, cap, rfl, hcap⟩ := own_slice hA
  have HA := Lib.hid hA
  clear hA
  go_enter Try.func43, Try.ntmps43
  go_wp2
  go_loop [5] (fun vi => ∃ k : Nat, vi = .int .i64 k ∧ k ≤ l.length ∧ Hid (seekE s l 0 = seekE s (l.drop k) k)) (fun vi => l.length - (intOf vi).toNat)
  case atStart => exact ⟨0, rfl, by omega, Lib.hid rfl⟩
  case round =>
    obtain ⟨k, rfl, hk, hi⟩ := hrel
    by_cases hkl : k < l.length
    case neg =>
      have hkl' : ¬ (k : Int) < l.length := by omega
      have HS : Hid (seekE s l 0 = -1) := Lib.hid (by rw [hi.out, List.drop_of_length_le (by omega)]; rfl)
      go_wp2
      go_ret
      exact ⟨by rw [HS.out]; rfl, rfl⟩
    case pos =>
      have hkl' : (k : Int) < l.length := by omega
      obtain ⟨g, rfl⟩ : ∃ g, ao = some ⟨g, 0, none⟩ := by
        rcases HA.out.2 with ⟨_, h⟩ | ⟨g, cap', cur, h1, _⟩
        · omega
        · simp at h1; exact ⟨g, h1.1⟩
      obtain ⟨x, hx⟩ : ∃ x, l[k]? = some x := ⟨_, List.getElem?_eq_getElem hkl⟩
      have hc : ∀ j, j < 6 → w.cell? ⟨g, k * 6 + j, none⟩ = x.cells[j]? := fun j hj => by
        rw [HA.out.cellAt (k * 6 + j) (by omega), flatE_get l k x j hx hj]
      have k0 := hc 0 (by omega); have k5 := hc 5 (by omega)
      simp only [En.cells, List.getElem?_cons_zero, List.getElem?_cons_succ, Nat.add_zero] at k0 k5
      have hd : l.drop k = x :: l.drop (k + 1) := by
        rw [List.drop_eq_getElem_cons hkl]
        congr 1
        rw [List.getElem?_eq_getElem hkl] at hx
        simpa using hx
      have hs := hi.out
      rw [hd] at hs
      obtain ⟨nm, ar, res, df, lv, st⟩ := x
      simp only at k0 k5
      clear hc hx hd hi
      have next : ¬ (st = true ∧ nm = s) → Hid (seekE s l 0 = seekE s (l.drop (k + 1)) ((k + 1 : Nat) : Int)) := fun h => Lib.hid (by rw [hs]; simp only [seekE]; rw [if_neg h]; rfl)
      cases st
      · have HX := next (by simp)
        clear hs next
        go_wp2
        exact ⟨⟨k + 1, by go_num, by omega, HX⟩, by simp [intOf]; omega⟩
      · by_cases e : nm = s
        · subst e
          have HX : Hid (seekE nm l 0 = k) := Lib.hid (by rw [hs]; simp [seekE])
          clear hs next
          go_wp2
          go_ret
          exact ⟨by rw [HX.out]; rfl, rfl⟩
        · have HX := next (by simp [e])
          have hne : (nm.toList == s.toList) = false := beq_ne e
          clear hs next e
          go_wp2
          exact ⟨⟨k + 1, by go_num, by omega, HX⟩, by simp [intOf]; omega⟩
set_option maxRecDepth 100000 in
/-- does a sort stand in the reference: something is said -/
theorem stands_any {B : Nat} {w : World} {g : Nat} {r : Rt} (h : RTab B w g r) (s : Int) (hs : I64 s) : Calls Try.prog 44 #[.pointer (some ⟨g, 0, none⟩), .int .i64 s] w fun e w' =>
    saysB e ∧ w' = w := by
  have c0 := h.c0
  have hgl := h.lt
  have hsl := h.s0
  obtain ⟨ao, cap, hAe, hcap⟩ := own_slice h.o0
  have hA := h.o0
  rw [hAe] at c0 hA
  clear h
  by_cases e0 : s = 0
  · subst e0
    go_enter Try.func44, Try.ntmps44
    go_wp2
    go_ret
    exact ⟨⟨_, rfl⟩, rfl⟩
  by_cases e1 : s = 1
  · subst e1
    go_enter Try.func44, Try.ntmps44
    go_wp2
    go_ret
    exact ⟨⟨_, rfl⟩, rfl⟩
  have e0' : (s == 0) = false := by simpa using e0
  have e1' : (s == 1) = false := by simpa using e1
  by_cases e2 : 2 ≤ s
  case neg =>
    clear e0 e1
    go_enter Try.func44, Try.ntmps44
    go_wp2
    go_ret
    exact ⟨⟨_, rfl⟩, rfl⟩
  obtain ⟨i, rfl⟩ : ∃ i : Nat, s = i + 2 := ⟨(s - 2).toNat, by omega⟩
  have hw : IntKind.i64.wrap ((i : Int) + 2 - 2) = i := by rw [IntWalk.i64_in _ (by obtain ⟨_, _⟩ := hs; constructor <;> omega)]; omega
  have hw' : IntKind.i64.wrap (i : Int) = i := by rw [IntWalk.i64_in _ (by obtain ⟨_, _⟩ := hs; constructor <;> omega)]
  by_cases e3 : (i : Int) < r.l0.length
  case neg =>
    clear e0 e1
    go_enter Try.func44, Try.ntmps44
    go_wp2
    go_ret
    exact ⟨⟨_, rfl⟩, rfl⟩
  have hin : i < r.l0.length := by omega
  obtain ⟨g', rfl⟩ : ∃ g', ao = some ⟨g', 0, none⟩ := by
    rcases hA.2 with ⟨_, h⟩ | ⟨g', cap', cur, h1, _⟩
    · omega
    · simp at h1; exact ⟨g', h1.1⟩
  obtain ⟨x, hx⟩ : ∃ x, r.l0[i]? = some x := ⟨_, List.getElem?_eq_getElem hin⟩
  have k5 : w.cell? ⟨g', i * 6 + 5, none⟩ = some (.bool x.st) := by
    rw [hA.cellAt (i * 6 + 5) (by omega), flatE_get r.l0 i x 5 hx (by omega)]
    rfl
  clear hA hx hAe e0 e1
  go_enter Try.func44, Try.ntmps44
  go_wp2
  go_ret
  exact ⟨⟨_, rfl⟩, rfl⟩
/-- what is told of the reference's Push -/
def RPush (B : Nat) (w : World) (g : Nat) (r : Rt) (e : Ending) (w' : World) : Prop := (∃ er, e = .returned (.int .i64 er)) ∧ ∃ d, RTab B w' g { r with dp := d } ∧ Ch (ROwn g r) w w'
theorem RTab.setD {B : Nat} {w : World} {g : Nat} {r : Rt} (h : RTab B w g r) (d : Nat) (hd : d ≤ 200) : RTab B (w.setCell ⟨g, 2, none⟩ (.int .i64 d)) g { r with dp := d } ∧ Ch (ROwn g r) w (w.setCell ⟨g, 2, none⟩ (.int .i64 d)) := by
  have hne0 : r.A0.ownBlock ≠ some g := own_ne_row h.o0 h.row (by decide)
  have hne1 : r.A1.ownBlock ≠ some g := own_ne_row h.o1 h.row (by decide)
  exact ⟨⟨h.row.set 2 _, h.gb, ownsRow_setCell_other h.o0 (a := ⟨g, 2, none⟩) hne0 _, ownsRow_setCell_other h.o1 (a := ⟨g, 2, none⟩) hne1 _, h.n01, h.s0, h.s1, hd⟩, (Ch.refl _ w).setC g 2 (Or.inl rfl) _⟩
set_option maxRecDepth 100000 in
theorem rpush_any {B : Nat} {w : World} {g : Nat} {r : Rt} (h : RTab B w g r) : Calls Try.prog 35 #[.pointer (some ⟨g, 0, none⟩)] w (RPush B w g r) := by
  have c2 := h.c2
  have hgl := h.lt
  have hf := h.row.free 2
  have hdl := h.dl
  by_cases e : 200 ≤ r.dp
  · have e' : (200 : Int) ≤ r.dp := by omega
    have HT := Lib.hid (show RPush B w g r (.returned (.int .i64 51)) w from ⟨⟨_, rfl⟩, r.dp, h, Ch.refl _ _⟩)
    clear h
    go_enter Try.func35, Try.ntmps35
    go_wp2
    go_ret
    exact HT.out
  · have e' : ¬ (200 : Int) ≤ r.dp := by omega
    have hw : IntKind.i64.wrap ((r.dp : Int) + 1) = ((r.dp + 1 : Nat) : Int) := by rw [IntWalk.i64_in _ (by constructor <;> omega)]; omega
    obtain ⟨t1, t2⟩ := h.setD (r.dp + 1) (by omega)
    have HT := Lib.hid (show RPush B w g r (.returned (.int .i64 0)) (w.setCell ⟨g, 2, none⟩ (.int .i64 ((r.dp + 1 : Nat) : Int))) from ⟨⟨_, rfl⟩, _, t1, t2⟩)
    clear h t1 t2
    go_enter Try.func35, Try.ntmps35
    go_wp2
    go_ret
    exact HT.out
end Go.Proofs.Ytggbnjdbbomjoaa
