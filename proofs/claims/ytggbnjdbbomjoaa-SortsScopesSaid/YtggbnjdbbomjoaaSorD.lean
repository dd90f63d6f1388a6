/- Rows of functions; append that leaves what was there; look-ups. -/
import Derived.Test.YtggbnjdbbomjoaaSorC
import Derived.Test.YtggbnjdbbomjoaaFlow3
namespace Go.Proofs.Ytggbnjdbbomjoaa
open Go.RowKit
open Go.Maps (Keyed)

section
variable {P : Program} (w : World)
/-- append: the old value still owns what it owned -/
theorem run_append_both (base : Nat) (t ty e : TypeId) (i : TypeInfo) (z : Value) (size bytes : Nat) (ht : P.underlying t = some (.slice e)) (hi : P.info? e = some i) (hz : i.zero = some z)
    (hsize : i.size = size) (hby : i.bytes = bytes) (hzs : z.cells.size = size) (hsz : 0 < size)
    (v : Value) (n : Nat) (xs : List Value) (hown : w.ownsRow base e size v n xs)
    (a : Addr) (m c : Nat) (news : List Value) (hl : news.length = m * size) (hnews : ∀ j u, news[j]? = some u → w.cell? (a.add j) = some u) (h1 : ∀ u ∈ news, u.oneCell' = true)
    (h63 : n + m ≤ maxLen) (hbytes : (n + m) * bytes ≤ 140737488355328) (hbase : base ≤ w.heap.size) :
    ∃ v' w', (Builtin.append_ #[t, t] ty #[v, .slice (some a) m c]).run P w = .ok v' w' ∧ w'.ownsRow base e size v' (n + m) (xs ++ news) ∧ w.grownBy w' v.ownBlock ∧
      (v'.ownBlock = v.ownBlock ∨ v'.ownBlock = some w.heap.size) ∧ w'.ownsRow base e size v n xs := by
  obtain ⟨v', w', hr, h2, h3, _, h5⟩ := run_append_own_at (P := P) w base t ty e i z size bytes ht hi hz hsize hby hzs hsz v n xs hown a m c news hl hnews h1 h63 hbytes hbase
  refine ⟨v', w', hr, h2, h3, h5, ?_⟩
  subst hsize
  subst hby
  rcases hown.2 with ⟨rfl, rfl⟩ | ⟨g, cap, cur, rfl, hbg, hg, hnc, hcm, hcs, htake⟩
  · have hx : xs = [] := List.eq_nil_of_length_eq_zero (by simpa using hown.1)
    subst hx
    exact World.ownsRow_nil _ _ _ _
  · by_cases hroom : n + m ≤ cap
    · have hfit : n * i.size + news.length ≤ cur.size := by rw [hl, hcs, ← Nat.add_mul]; exact Nat.mul_le_mul_right _ hroom
      have hr2 := run_append_room (P := P) w t ty e i ht hi g n cap cur hg a m c news hl hnews h1 hroom hfit
      rw [hr] at hr2
      injection hr2 with _ hw
      subst hw
      refine ⟨hown.1, .inr ⟨g, cap, _, rfl, hbg, setRow_heap w g cur _ e _ hg, hnc, hcm, ?_, ?_⟩⟩
      · simp only [List.size_toArray, List.length_append, List.length_take, List.length_drop, Array.length_toList]
        omega
      · have hlx := hown.1
        simp only [List.append_assoc]
        rw [htake, ← hlx]
        exact List.take_left
    · have holds : ∀ j u, xs[j]? = some u → w.cell? ((⟨g, 0, none⟩ : Addr).add j) = some u := hown.cells (g := g) rfl
      have hsmall : n + m ≤ 9223372036854775807 := by simp only [maxLen] at h63; omega
      have hr2 := run_append_grow (P := P) w t ty e i z ht hi hz ⟨g, 0, none⟩ n cap xs hown.1 holds a m c news hl hnews (by omega) (by omega) (growslice_fits (by omega) hbytes)
      rw [hr] at hr2
      injection hr2 with _ hw
      subst hw
      exact World.ownsRow.alloc (w := w.drew) (show w.drew.ownsRow _ _ _ _ _ _ from hown) _
theorem exec_append {o : Oper} {a : Act} {v v' xv : Value} {w' : World} (s x : Operand) (t : TypeId) (ho : o.op = .call { callee := .builtin .append, args := #[s, x], argTypes := #[t, t] }) (hs : a.eval s = v) (hx : a.eval x = xv)
    (hrun : (Builtin.append_ #[t, t] o.type #[v, xv]).run P w = .ok v' w') : (execOp a.eval o).run P w = .ok (.value v') w' := by
  unfold execOp
  simp only [ho, resolve, invoke, builtin, Sem.run_bind, Sem.run_pure, Result.andThen_ok, List.map_toArray, List.map_cons, List.map_nil, hs, hx, hrun]
end

/-- a function that was declared -/
structure Fd where
  nm : ByteArray
  ar : Value
  res : Int
  df : Bool
def Fd.cells (x : Fd) : List Value := [.string x.nm, x.ar, .int .i64 x.res, .bool x.df]
def flatF (fs : List Fd) : List Value := fs.flatMap Fd.cells
theorem flatF_len (fs : List Fd) : (flatF fs).length = fs.length * 4 := by
  induction fs with
  | nil => rfl
  | cons x r ih => simp only [flatF, List.flatMap_cons, List.length_append, List.length_cons] at ih ⊢; rw [ih]; simp [Fd.cells]; omega
theorem flatF_snoc (fs : List Fd) (x : Fd) : flatF (fs ++ [x]) = flatF fs ++ x.cells := by simp [flatF]
theorem flatF_get : ∀ (fs : List Fd) (i : Nat) (x : Fd) (j : Nat), fs[i]? = some x → j < 4 → (flatF fs)[i * 4 + j]? = x.cells[j]?
  | [], i, x, j, h, _ => by simp at h
  | y :: r, 0, x, j, h, hj => by
    have : y = x := by simpa using h
    subst this
    simp only [flatF, List.flatMap_cons, Nat.zero_mul, Nat.zero_add]
    rw [List.getElem?_append_left (by simp [Fd.cells]; omega)]
  | y :: r, i + 1, x, j, h, hj => by
    have := flatF_get r i x j (by simpa using h) hj
    simp only [flatF, List.flatMap_cons] at this ⊢
    rw [List.getElem?_append_right (by simp [Fd.cells]; omega)]
    rw [← this]
    congr 1
    simp [Fd.cells]; omega

abbrev ownsD (w : World) (m n : Nat) (D : DataW Unit) : Prop := w.ownsMap Try.prog 9 (plainElem Try.prog 3) m n D
def kS (s : ByteArray) : Lit := .string s.data.toList
theorem keyS {s : ByteArray} (h : s.size ≤ maxLen) : keyOf Try.prog 9 (.string s) = some (kS s) := WideMaps.keyOf_string_mk Try.underlying9 h
theorem isKeyS (s : ByteArray) : WideAt.IsKeyLit (kS s) := by unfold kS; simp [WideAt.IsKeyLit]
/-- what a name's number is, 0 if there is none -/
def numOf (D : DataW Unit) (s : ByteArray) : Int := match D.atKey (kS s) (.lit (.int .i64 0)) with | .lit (.int _ c) => c | _ => 0
theorem look_num {w : World} {m n : Nat} {D : DataW Unit} (h : ownsD w m n D) {s : ByteArray} (hs : s.size ≤ maxLen) :
    (Instr.lookup 59 (.map (some m)) (.string s) true).run Try.prog w = .ok (.tuple #[.int .i64 (numOf D s), .bool (Maps.has D (kS s))]) w ∧
    (Instr.lookup 59 (.map (some m)) (.string s) false).run Try.prog w = .ok (.int .i64 (numOf D s)) w ∧ I64 (numOf D s) := by
  have hz : (zeroValue 3).run Try.prog w = .ok (.int .i64 0) w := by kernel_rfl
  obtain ⟨v, ps, hr, hv⟩ := h.look_ok (Maps.string_keyed Try.underlying9) Try.underlying59 hz (plainElem_int Try.underlying3 (by decide)) (keyS hs)
  obtain ⟨c, rfl, hc, hwc⟩ := plainElem_int_inv Try.underlying3 hv
  simp only [Prod.mk.injEq] at hc
  obtain ⟨c', hr', hc', _⟩ := h.lookup_int (Maps.string_keyed Try.underlying9) Try.underlying59 Try.underlying3 hz (keyS hs)
  have e : numOf D s = c := by unfold numOf; rw [hc.1]
  have e' : numOf D s = c' := by unfold numOf; rw [hc']
  refine ⟨by rw [e]; exact hr, by rw [e']; exact hr', ?_⟩
  rw [e]
  simp only [Lit.wf, Bool.and_eq_true, decide_eq_true_eq] at hwc
  have l1 : IntKind.i64.min = -9223372036854775808 := by decide
  have l2 : IntKind.i64.max = 9223372036854775807 := by decide
  rw [l1, l2] at hwc
  exact hwc
theorem numOf_put {D : DataW Unit} (h : Maps.IsMap D) (s : ByteArray) (c : Int) : numOf (D.put (kS s) (.lit (.int .i64 c))) s = c := by
  unfold numOf; rw [Maps.atKey_put_same h (isKeyS s)]
end Go.Proofs.Ytggbnjdbbomjoaa
