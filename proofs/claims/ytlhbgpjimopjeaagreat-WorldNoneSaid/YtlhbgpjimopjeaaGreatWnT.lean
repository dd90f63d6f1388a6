/- What 'tame' of layer 9's statements says of any world: something. And what a world's reading tells of its memory. -/
import Derived.Test.YtlhbgpjimopjeaaGreatOpens
import Derived.Test.YtlhbgpjimopjeaaGreatPWorldNonex1
namespace Go.Proofs.YtlhbgpjimopjeaaGreat
open Go Go.RowKit Go.ChangeShapes Go.WideShapes Go.Proofs.YtlhbgpjimopjeaaGreatW.PrintWords Go.Proofs.YtlhbgpjimopjeaaGreat.PWorldNone

/-- the lengths of a value's rows -/
def WideRow (x : S98) : Prop := x.f0.length ≤ maxLen
def WideTable (x : S80) : Prop := x.f1.length ≤ maxLen ∧ ∀ y ∈ x.f1, WideRow y

theorem wrap_step {i : Int} {n : Nat} (h0 : 0 ≤ i) (h1 : i < n) (h2 : n ≤ maxLen) : wrap64 (i + 1) = i + 1 := by
  have : maxLen ≤ 9223372036854775807 := by decide
  unfold wrap64; omega

theorem size_rows (l0 : List S96) (l1 : List S80) (y4 : Int) (h0 : 0 ≤ y4) (h1 : y4 < l1.length) (hw : (rd_T80 l1 y4).f1.length ≤ maxLen) (hn : ∀ y3, ∃ k r, juristref09_Size.l0 k y3 (wrap64 (y4 + 1)) l0 l1 = some r) :
    ∀ (m : Nat) (y3 y5 : Int), 0 ≤ y5 → y5 ≤ (rd_T80 l1 y4).f1.length → (rd_T80 l1 y4).f1.length - y5 = m → ∃ k r, juristref09_Size.l1 k y3 y4 y5 l0 l1 = some r
  | 0, y3, y5, g0, g1, g2 => by
    obtain ⟨k, r, h⟩ := hn y3
    refine ⟨k + 1, r, ?_⟩
    rw [juristref09_Size.l1, if_pos h0, if_pos h1, if_neg (by omega)]
    exact h
  | m + 1, y3, y5, g0, g1, g2 => by
    have hlt : y5 < (rd_T80 l1 y4).f1.length := by omega
    have hs := wrap_step g0 hlt hw
    obtain ⟨k, r, h⟩ := size_rows l0 l1 y4 h0 h1 hw hn m (wrap64 (y3 + (((rd_T98 ((rd_T80 l1 y4).f1) y5).f0).length : Int))) (wrap64 (y5 + 1)) (by omega) (by omega) (by omega)
    refine ⟨k + 1, r, ?_⟩
    rw [juristref09_Size.l1, if_pos h0, if_pos h1, if_pos hlt, if_pos g0]
    exact h

theorem size_funs (l0 : List S96) (l1 : List S80) (hw : l1.length ≤ maxLen) (hr : ∀ x ∈ l1, x.f1.length ≤ maxLen) :
    ∀ (m : Nat) (y3 y4 : Int), 0 ≤ y4 → y4 ≤ l1.length → l1.length - y4 = m → ∃ k r, juristref09_Size.l0 k y3 y4 l0 l1 = some r
  | 0, y3, y4, g0, g1, g2 => by
    refine ⟨1, y3, ?_⟩
    rw [juristref09_Size.l0, if_neg (by omega)]
  | m + 1, y3, y4, g0, g1, g2 => by
    have hlt : y4 < l1.length := by omega
    have hs := wrap_step g0 hlt hw
    have hm : (rd_T80 l1 y4).f1.length ≤ maxLen := by
      unfold rd_T80
      have : y4.toNat < l1.length := by omega
      rw [List.getD_eq_getElem?_getD, List.getElem?_eq_getElem this]
      exact hr _ (List.getElem_mem _)
    obtain ⟨k, r, h⟩ := size_rows l0 l1 y4 g0 hlt hm (fun y3 => size_funs l0 l1 hw hr m y3 (wrap64 (y4 + 1)) (by omega) (by omega) (by omega)) (rd_T80 l1 y4).f1.length (wrap64 (y3 + (((rd_T80 l1 y4).f1).length : Int))) 0 (by omega) (by omega) (by omega)
    refine ⟨k + 1, r, ?_⟩
    rw [juristref09_Size.l0, if_pos hlt, if_pos g0]
    exact h

theorem tame_says (l0 : List S96) (l1 : List S80) (hw : l1.length ≤ maxLen) (hr : ∀ x ∈ l1, x.f1.length ≤ maxLen) : ∃ k r, juristlaw09_tame.f k [] [] l0 l1 = some r := by
  obtain ⟨k, r, h⟩ := size_funs l0 l1 hw hr l1.length (wrap64 ((l0.length : Int) + (l1.length : Int))) 0 (by omega) (by omega) (by omega)
  have hf : juristref09_Size.f k l0 l1 = some r := h
  by_cases hc : (l1.length : Int) < 200
  · refine ⟨k + 4, decide (r < 6000), ?_⟩
    simp [juristlaw09_tame.f, juristlaw09_tame.l0, juristlaw09_tame.j1, juristlaw09_tame.l1, juristlaw09_tame.j3, hf, hc]
  · refine ⟨k + 4, false, ?_⟩
    simp [juristlaw09_tame.f, juristlaw09_tame.l0, juristlaw09_tame.j1, juristlaw09_tame.l1, juristlaw09_tame.j3, hc]

theorem opens_api_Int : Opens Tryz.prog k45 (fun _ => True) 45 :=
  opens_imp (opens_iso _ (fun x : Int × Int => S45.mk x.1 x.2) (fun _ => rfl) (opens_struct Tryz.underlying45 rfl
    (opensL_cons rfl (opens_int Tryz.underlying2) (opensL_one (by kernel_rfl) (by kernel_rfl) (opens_int Tryz.underlying2))))) (fun _ _ => trivial)

theorem opens_Val : Opens Tryz.prog k47 (fun _ => True) 47 :=
  opens_imp (opens_iso _ (fun x : Int × Bool × S45 × Int => S47.mk x.1 x.2.1 x.2.2.1 x.2.2.2) (fun _ => rfl) (opens_struct Tryz.underlying47 rfl
    (opensL_cons rfl (opens_int Tryz.underlying43) (opensL_cons (by kernel_rfl) (opens_bool Tryz.underlying4) (opensL_cons (by kernel_rfl) opens_api_Int (opensL_one (by kernel_rfl) (by kernel_rfl) (opens_int Tryz.underlying2))))))) (fun _ _ => trivial)

theorem opens_Row : Opens Tryz.prog k98 WideRow 98 :=
  opens_imp (opens_iso _ (fun x : List S47 × S47 => S98.mk x.1 x.2) (fun _ => rfl) (opens_struct Tryz.underlying98 rfl
    (opensL_cons rfl (opens_slice 47 Tryz.underlying72 (by kernel_rfl) opens_Val) (opensL_one (by kernel_rfl) (by kernel_rfl) opens_Val)))) (fun _ h => h.1.1)

theorem opens_Table : Opens Tryz.prog k80 WideTable 80 :=
  opens_imp (opens_iso _ (fun x : Int × List S98 × S47 => S80.mk x.1 x.2.1 x.2.2) (fun _ => rfl) (opens_struct Tryz.underlying80 rfl
    (opensL_cons rfl (opens_int Tryz.underlying3) (opensL_cons (by kernel_rfl) (opens_slice 98 Tryz.underlying78 (by kernel_rfl) opens_Row) (opensL_one (by kernel_rfl) (by kernel_rfl) opens_Val))))) (fun _ h => h.2.1)

theorem opens_Size : Opens Tryz.prog k96 (fun _ => True) 96 :=
  opens_imp (opens_iso _ (fun x : Int × Int => S96.mk x.1 x.2) (fun _ => rfl) (opens_struct Tryz.underlying96 rfl
    (opensL_cons rfl (opens_int Tryz.underlying43) (opensL_one (by kernel_rfl) (by kernel_rfl) (opens_int Tryz.underlying2))))) (fun _ _ => trivial)

theorem opens_World : Opens Tryz.prog (Kd.pair (Kd.slice 96 k96) (Kd.slice 80 k80)) (fun x => x.1.length ≤ maxLen ∧ x.2.length ≤ maxLen ∧ ∀ y ∈ x.2, WideTable y) 37 :=
  opens_imp (opens_struct Tryz.underlying37 rfl
    (opensL_cons rfl (opens_slice 96 Tryz.underlying34 (by kernel_rfl) opens_Size) (opensL_one (by kernel_rfl) (by kernel_rfl) (opens_slice 80 Tryz.underlying35 (by kernel_rfl) opens_Table)))) (fun _ h => ⟨h.1.1, h.2.1, h.2.2⟩)

set_option maxRecDepth 100000 in
/-- A world that was read: its two rows, and what 'tame' says of it. -/
theorem world_open {H : Type} {enc : TypeId × Value → H} {w : World} {base : Nat} {spare : Nat → Bool} {held : Bool} {v : Value} {d : DataW H} {p : List MemPlace} {r : Reach} {b0 : Nat}
    (hv : Value.okWide Tryz.prog w r b0 37 v) (h : DataW.Trod enc Tryz.prog w base spare held 37 v d p) :
    ∃ (A0 A1 : Option Addr) (n0 c0 n1 c1 : Nat), v = .agg #[.slice A0 n0 c0, .slice A1 n1 c1] ∧
      ∃ b : Bool, ∀ w1, Below w.heap.size w w1 → Calls Tryz.prog 16 #[.slice none 0 0, .slice none 0 0, v] w1 fun e w' => e = .returned (.bool b) ∧ Below w1.heap.size w1 w' := by
  obtain ⟨cs, rfl, _⟩ := okWide_struct Tryz.underlying37 hv
  obtain ⟨fuel, hf⟩ := h
  obtain ⟨⟨l0, l1⟩, ⟨c0, c1, hcs, ⟨A0, n0, rfl, hl0, hk0⟩, ⟨A1, n1, rfl, hl1, hk1⟩⟩, h0, h1, h2⟩ := opens_World _ _ _ _ _ _ _ _ _ hf
  have : cs = #[.slice A0 l0.length n0, .slice A1 l1.length n1] := by
    apply Array.ext'
    simpa [Value.cells] using hcs
  subst this
  refine ⟨A0, A1, _, _, _, _, rfl, ?_⟩
  obtain ⟨k, r, hr⟩ := tame_says l0 l1 h1 (fun x hx => (h2 x hx).1)
  refine ⟨r, fun w1 hb => ?_⟩
  exact juristlaw09_tame.calls k none 0 [] none 0 [] A0 n0 l0 A1 n1 l1 r w1 ⟨rfl, Nat.zero_le _, fun h => by cases h⟩ (Nat.le_refl _) ⟨rfl, Nat.zero_le _, fun h => by cases h⟩ (Nat.le_refl _) (Kd.C_below hk0 hb) hl0 (Kd.C_below hk1 hb) hl1 hr
end Go.Proofs.YtlhbgpjimopjeaaGreat
