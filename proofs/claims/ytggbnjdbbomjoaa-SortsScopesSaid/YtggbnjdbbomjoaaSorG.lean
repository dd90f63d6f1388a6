/- A table of names: what stands in memory; the methods that read. -/
import Derived.Test.YtggbnjdbbomjoaaSorF
namespace Go.Proofs.Ytggbnjdbbomjoaa
open Go.RowKit
/-- names of one kind: the functions that ever were, the marks, the map -/
structure Nm where
  A : Value
  m : Nat
  M : Value
  fs : List Fd
  ms : List Int
  D : DataW Unit
structure NmOk (B : Nat) (w : World) (x : Nm) : Prop where
  oA : w.ownsRow B 30 4 x.A x.fs.length (flatF x.fs)
  oM : w.ownsRow B 3 1 x.M x.ms.length (x.ms.map (Value.int .i64))
  oD : ownsD w x.m x.fs.length x.D
  nf : x.fs.length ≤ 2000
  nm : x.ms.length ≤ 200
  mks : ∀ y ∈ x.ms, 0 ≤ y ∧ y ≤ x.fs.length
  sz : ∀ f ∈ x.fs, f.nm.size ≤ maxLen
  gm : B ≤ x.m
  ar : ∀ f ∈ x.fs, ∃ l : List Int, l.length ≤ 20 ∧ w.ownsRow B 27 1 f.ar l.length (l.map (Value.int .i64))
def rowOf (x y : Nm) : List Value := [x.A, .map (some x.m), x.M, y.A, .map (some y.m), y.M]
structure STab0 (B : Nat) (w : World) (b : Nat) (x y : Nm) : Prop where
  row : RowB w b 63 (rowOf x y)
  gb : B ≤ b
  okx : NmOk B w x
  oky : NmOk B w y
  nA : ∀ k, x.A.ownBlock = some k → y.A.ownBlock ≠ some k
  nM : ∀ k, x.M.ownBlock = some k → y.M.ownBlock ≠ some k
  nD : x.m ≠ y.m
structure STab (B : Nat) (w : World) (b : Nat) (x y : Nm) : Prop extends STab0 B w b x y where
  ln : x.ms.length = y.ms.length
/-- what a method of x may write -/
def Own (b : Nat) (x : Nm) (k : Nat) : Prop := k = b ∨ x.A.ownBlock = some k ∨ k = x.m ∨ x.M.ownBlock = some k
/-- what a method may write -/
def Chg (b : Nat) (x y : Nm) (w w' : World) : Prop := Ch (fun k => Own b x k ∨ Own b y k) w w'
theorem Chg.ofx {b : Nat} {x y : Nm} {w w' : World} (h : Ch (Own b x) w w') : Chg b x y w w' := h.mono fun _ _ e => Or.inl e
theorem Chg.ofy {b : Nat} {x y : Nm} {w w' : World} (h : Ch (Own b y) w w') : Chg b x y w w' := h.mono fun _ _ e => Or.inr e
theorem Chg.ofB {b : Nat} {x y : Nm} {w w' : World} (h : Below w.heap.size w w') : Chg b x y w w' := Ch.ofBelow h
theorem own3 {b : Nat} {x : Nm} {w w' : World} (h : Ch (fun k => k = b ∨ x.A.ownBlock = some k ∨ k = x.m) w w') : Ch (Own b x) w w' :=
  h.mono fun k _ e => by rcases e with e | e | e; exact Or.inl e; exact Or.inr (Or.inl e); exact Or.inr (Or.inr (Or.inl e))
theorem NmOk.ch {B : Nat} {w w' : World} {x : Nm} {S : Nat → Prop} (h : NmOk B w x) (hc : Ch S w w') (hA : ∀ k, x.A.ownBlock = some k → ¬ S k) (hM : ∀ k, x.M.ownBlock = some k → ¬ S k) (hD : ¬ S x.m)
    (hr : ∀ v l, w.ownsRow B 27 1 v l.length l → ∀ k, v.ownBlock = some k → ¬ S k) : NmOk B w' x :=
  ⟨ownsRow_ch h.oA hc hA, ownsRow_ch h.oM hc hM, ownsMap_ch h.oD hc hD, h.nf, h.nm, h.mks, h.sz, h.gm, fun f hf => by
    obtain ⟨l, h1, h2⟩ := h.ar f hf
    exact ⟨l, h1, ownsRow_ch h2 hc (hr _ (l.map (Value.int .i64)) (by simpa using h2))⟩⟩
theorem NmOk.below {B : Nat} {w w' : World} {x : Nm} (h : NmOk B w x) (hb : Below w.heap.size w w') : NmOk B w' x :=
  h.ch (S := fun _ => False) (Ch.ofBelow hb) (fun _ _ e => e) (fun _ _ e => e) (fun e => e) (fun _ _ _ _ _ e => e)
theorem STab0.below {B : Nat} {w w' : World} {b : Nat} {x y : Nm} (h : STab0 B w b x y) (hb : Below w.heap.size w w') : STab0 B w' b x y :=
  ⟨h.row.kept (S := fun _ => False) (Ch.ofBelow hb) (fun e => e), h.gb, h.okx.below hb, h.oky.below hb, h.nA, h.nM, h.nD⟩
theorem STab.below {B : Nat} {w w' : World} {b : Nat} {x y : Nm} (h : STab B w b x y) (hb : Below w.heap.size w w') : STab B w' b x y := ⟨h.toSTab0.below hb, h.ln⟩
/-- x's blocks are none of the rows of numbers of sorts -/
theorem own_args {B : Nat} {w : World} {b : Nat} {x y : Nm} (h : STab0 B w b x y) : (∀ v l, w.ownsRow B 27 1 v l.length l → ∀ k, v.ownBlock = some k → ¬ Own b x k) ∧ (∀ v l, w.ownsRow B 27 1 v l.length l → ∀ k, v.ownBlock = some k → ¬ Own b y k) := by
  constructor <;>
  · intro v l hv k hk hs
    rcases hs with rfl | e | rfl | e
    · exact own_ne_row hv h.row (by decide) hk
    · first | exact own_ne hv h.okx.oA (by decide) hk e | exact own_ne hv h.oky.oA (by decide) hk e
    · first | exact own_ne_map hv h.okx.oD hk | exact own_ne_map hv h.oky.oD hk
    · first | exact own_ne hv h.okx.oM (by decide) hk e | exact own_ne hv h.oky.oM (by decide) hk e
/-- a method of x leaves y as it is -/
theorem STab0.yx {B : Nat} {w w' : World} {b : Nat} {x y : Nm} (h : STab0 B w b x y) (hc : Ch (Own b x) w w') : NmOk B w' y := by
  refine h.oky.ch hc ?_ ?_ ?_ (own_args h).1
  · intro k hk hs
    rcases hs with rfl | e | rfl | e
    · exact own_ne_row h.oky.oA h.row (by decide) hk
    · exact h.nA k e hk
    · exact own_ne_map h.oky.oA h.okx.oD hk
    · exact own_ne h.oky.oA h.okx.oM (by decide) hk e
  · intro k hk hs
    rcases hs with rfl | e | rfl | e
    · exact own_ne_row h.oky.oM h.row (by decide) hk
    · exact own_ne h.oky.oM h.okx.oA (by decide) hk e
    · exact own_ne_map h.oky.oM h.okx.oD hk
    · exact h.nM k e hk
  · intro hs
    rcases hs with e | e | e | e
    · exact row_ne_map h.row h.oky.oD e.symm
    · exact own_ne_map h.okx.oA h.oky.oD e
    · exact h.nD e.symm
    · exact own_ne_map h.okx.oM h.oky.oD e
theorem STab0.xy {B : Nat} {w w' : World} {b : Nat} {x y : Nm} (h : STab0 B w b x y) (hc : Ch (Own b y) w w') : NmOk B w' x := by
  refine h.okx.ch hc ?_ ?_ ?_ (own_args h).2
  · intro k hk hs
    rcases hs with rfl | e | rfl | e
    · exact own_ne_row h.okx.oA h.row (by decide) hk
    · exact h.nA k hk e
    · exact own_ne_map h.okx.oA h.oky.oD hk
    · exact own_ne h.okx.oA h.oky.oM (by decide) hk e
  · intro k hk hs
    rcases hs with rfl | e | rfl | e
    · exact own_ne_row h.okx.oM h.row (by decide) hk
    · exact own_ne h.okx.oM h.oky.oA (by decide) hk e
    · exact own_ne_map h.okx.oM h.oky.oD hk
    · exact h.nM k hk e
  · intro hs
    rcases hs with e | e | e | e
    · exact row_ne_map h.row h.okx.oD e.symm
    · exact own_ne_map h.oky.oA h.okx.oD e
    · exact h.nD e
    · exact own_ne_map h.oky.oM h.okx.oD e
/-- what is written is from B on -/
theorem STab0.lowx {B : Nat} {w w' : World} {b : Nat} {x y : Nm} (h : STab0 B w b x y) (hc : Ch (Own b x) w w') : Below B w w' :=
  hc.below (Nat.le_trans h.gb (Nat.le_of_lt h.row.lt)) (fun k hs => by
    rcases hs with rfl | e | rfl | e
    · exact h.gb
    · exact (h.okx.oA.lt k e).1
    · exact h.okx.gm
    · exact (h.okx.oM.lt k e).1)
theorem STab0.lowy {B : Nat} {w w' : World} {b : Nat} {x y : Nm} (h : STab0 B w b x y) (hc : Ch (Own b y) w w') : Below B w w' :=
  hc.below (Nat.le_trans h.gb (Nat.le_of_lt h.row.lt)) (fun k hs => by
    rcases hs with rfl | e | rfl | e
    · exact h.gb
    · exact (h.oky.oA.lt k e).1
    · exact h.oky.gm
    · exact (h.oky.oM.lt k e).1)
section
variable {B : Nat} {w : World} {b : Nat} {x y : Nm}
theorem STab0.c0 (h : STab0 B w b x y) : w.cell? ⟨b, 0, none⟩ = some x.A := h.row.cell 0
theorem STab0.c1 (h : STab0 B w b x y) : w.cell? ⟨b, 1, none⟩ = some (.map (some x.m)) := h.row.cell 1
theorem STab0.c2 (h : STab0 B w b x y) : w.cell? ⟨b, 2, none⟩ = some x.M := h.row.cell 2
theorem STab0.c3 (h : STab0 B w b x y) : w.cell? ⟨b, 3, none⟩ = some y.A := h.row.cell 3
theorem STab0.c4 (h : STab0 B w b x y) : w.cell? ⟨b, 4, none⟩ = some (.map (some y.m)) := h.row.cell 4
theorem STab0.c5 (h : STab0 B w b x y) : w.cell? ⟨b, 5, none⟩ = some y.M := h.row.cell 5
theorem STab0.lt (h : STab0 B w b x y) : b < w.heap.size := h.row.lt
theorem STab0.B_le (h : STab0 B w b x y) : B ≤ w.heap.size := Nat.le_trans h.gb (Nat.le_of_lt h.row.lt)
end
theorem none_tab {B : Nat} {w : World} {b : Nat} {x y : Nm} (h : STab0 B w b x y) : Calls Try.prog 24 #[.pointer (some ⟨b, 0, none⟩)] w fun e w' => e = .returned (.bool false) ∧ w' = w :=
  none_there b 0 x.m w (by simpa using h.c1)
set_option maxRecDepth 100000 in
theorem level_any {B : Nat} {w : World} {b : Nat} {x y : Nm} (h : STab B w b x y) : Calls Try.prog 21 #[.pointer (some ⟨b, 0, none⟩)] w fun e w' => e = .returned (.int .i64 x.ms.length) ∧ w' = w := by
  have HN := Lib.hid (none_tab h.toSTab0)
  have c2 := h.c2
  obtain ⟨ao, cap, hAe, _⟩ := own_slice h.okx.oM
  rw [hAe] at c2
  clear h
  go_enter Try.func21, Try.ntmps21
  go_wp2_with fail
  refine HN.out.mono ?_; rintro e w1 ⟨rfl, rfl⟩
  clear HN
  go_wp2
  go_ret
  exact ⟨rfl, rfl⟩
def funRes (D : DataW Unit) (s : ByteArray) : Value := if Maps.has D (kS s) then .tuple #[.int .i64 (numOf D s), .int .i64 0] else .tuple #[.int .i64 0, .int .i64 7]
set_option maxRecDepth 100000 in
theorem fun_any {B : Nat} {w : World} {b : Nat} {x y : Nm} (h : STab B w b x y) (s : ByteArray) (hs : s.size ≤ maxLen) : Calls Try.prog 13 #[.pointer (some ⟨b, 0, none⟩), .string s] w fun e w' =>
    e = .returned (funRes y.D s) ∧ w' = w := by
  have HN := Lib.hid (none_tab h.toSTab0)
  have c4 := h.c4
  have hl := (look_num h.oky.oD hs).1
  clear h
  go_enter Try.func13, Try.ntmps13
  go_wp2_with fail
  refine HN.out.mono ?_; rintro e w1 ⟨rfl, rfl⟩
  clear HN
  cases hh : Maps.has y.D (kS s)
  · rw [hh] at hl
    have HR := Lib.hid (show funRes y.D s = .tuple #[.int .i64 0, .int .i64 7] by unfold funRes; rw [hh]; rfl)
    clear hh
    go_wp2
    go_ret2
    exact ⟨by rw [HR.out]; rfl, rfl⟩
  · rw [hh] at hl
    have HR := Lib.hid (show funRes y.D s = .tuple #[.int .i64 (numOf y.D s), .int .i64 0] by unfold funRes; rw [hh]; rfl)
    clear hh
    go_wp2
    go_ret2
    exact ⟨by rw [HR.out]; rfl, rfl⟩
def sBool : ByteArray := ⟨#[66, 111, 111, 108]⟩
def sInt : ByteArray := ⟨#[73, 110, 116]⟩
theorem beq_ne {s t : ByteArray} (h : s ≠ t) : (s.toList == t.toList) = false := by
  rw [beq_eq_false_iff_ne]
  intro q
  rw [Lib.toList_data, Lib.toList_data] at q
  exact h (ByteArray.ext (by simpa using q))
theorem beq_ne' {s : ByteArray} {l : List UInt8} (h : s ≠ ⟨l.toArray⟩) : (s.toList == l) = false := by
  rw [beq_eq_false_iff_ne]
  intro q
  rw [Lib.toList_data] at q
  exact h (ByteArray.ext (by simp [← q]))
def sortRes (D : DataW Unit) (s : ByteArray) : Value := if Maps.has D (kS s) then .tuple #[.int .i64 (wrap64 (numOf D s + 2)), .int .i64 0] else .tuple #[.int .i64 0, .int .i64 7]
set_option maxRecDepth 100000 in
/-- of a name that is no word's -/
theorem sort_any {B : Nat} {w : World} {b : Nat} {x y : Nm} (h : STab B w b x y) (s : ByteArray) (hs : s.size ≤ maxLen) (h1 : s ≠ sBool) (h2 : s ≠ sInt) : Calls Try.prog 10 #[.pointer (some ⟨b, 0, none⟩), .string s] w fun e w' =>
    e = .returned (sortRes x.D s) ∧ w' = w := by
  have HN := Lib.hid (none_tab h.toSTab0)
  have c1 := h.c1
  have hl := (look_num h.okx.oD hs).1
  have q1 : (s.toList == [66, 111, 111, 108]) = false := beq_ne' h1
  have q2 : (s.toList == [73, 110, 116]) = false := beq_ne' h2
  clear h h1 h2
  go_enter Try.func10, Try.ntmps10
  go_wp2_with fail
  refine HN.out.mono ?_; rintro e w1 ⟨rfl, rfl⟩
  clear HN
  cases hh : Maps.has x.D (kS s)
  · rw [hh] at hl
    have HR := Lib.hid (show sortRes x.D s = .tuple #[.int .i64 0, .int .i64 7] by unfold sortRes; rw [hh]; rfl)
    clear hh
    go_wp2
    go_ret2
    exact ⟨by rw [HR.out]; rfl, rfl⟩
  · rw [hh] at hl
    have HR := Lib.hid (show sortRes x.D s = .tuple #[.int .i64 (wrap64 (numOf x.D s + 2)), .int .i64 0] by unfold sortRes; rw [hh]; rfl)
    clear hh
    go_wp2
    go_ret2
    exact ⟨by rw [HR.out]; simp, rfl⟩
/-- a yes or a no is said -/
def saysB (e : Ending) : Prop := ∃ v, e = .returned (.bool v)
set_option maxRecDepth 100000 in
/-- does a sort stand: something is said -/
theorem there_any {B : Nat} {w : World} {b : Nat} {x y : Nm} (h : STab B w b x y) (s : Int) (hs : I64 s) : Calls Try.prog 27 #[.pointer (some ⟨b, 0, none⟩), .int .i64 s] w fun e w' =>
    saysB e ∧ Below w.heap.size w w' := by
  have c0 := h.c0
  have c1 := h.c1
  have hbl := h.lt
  obtain ⟨ao, cap, hAe, hcap⟩ := own_slice h.okx.oA
  rw [hAe] at c0
  by_cases e0 : s = 0
  · subst e0
    clear h
    go_enter Try.func27, Try.ntmps27
    go_wp2
    go_ret
    exact ⟨⟨_, rfl⟩, Below.refl _ _⟩
  by_cases e1 : s = 1
  · subst e1
    clear h
    go_enter Try.func27, Try.ntmps27
    go_wp2
    go_ret
    exact ⟨⟨_, rfl⟩, Below.refl _ _⟩
  by_cases e2 : s < 2
  · have e0' : (s == 0) = false := by simpa using e0
    have e1' : (s == 1) = false := by simpa using e1
    clear h e0 e1
    go_enter Try.func27, Try.ntmps27
    go_wp2
    go_ret
    exact ⟨⟨_, rfl⟩, Below.refl _ _⟩
  obtain ⟨i, rfl⟩ : ∃ i : Nat, s = i + 2 := ⟨(s - 2).toNat, by omega⟩
  have hw : IntKind.i64.wrap ((i : Int) + 2 - 2) = i := by rw [IntWalk.i64_in _ (by obtain ⟨_, _⟩ := hs; constructor <;> omega)]; omega
  have hw' : IntKind.i64.wrap (i : Int) = i := by rw [IntWalk.i64_in _ (by obtain ⟨_, _⟩ := hs; constructor <;> omega)]
  have e2' : ¬ (i : Int) + 2 < 2 := e2
  have e0' : ((i : Int) + 2 == 0) = false := by simpa using e0
  have e1' : ((i : Int) + 2 == 1) = false := by simpa using e1
  by_cases e3 : (x.fs.length : Int) ≤ i
  · clear h e0 e1 e2
    go_enter Try.func27, Try.ntmps27
    go_wp2
    go_ret
    exact ⟨⟨_, rfl⟩, Below.refl _ _⟩
  have hin : i < x.fs.length := by omega
  obtain ⟨f, hf⟩ : ∃ f, x.fs[i]? = some f := ⟨_, List.getElem?_eq_getElem hin⟩
  have hfn : f.nm.size ≤ maxLen := h.okx.sz f (List.mem_of_getElem? hf)
  have hA := h.okx.oA
  rw [hAe] at hA
  obtain ⟨g', rfl⟩ : ∃ g', ao = some ⟨g', 0, none⟩ := by
    rcases hA.2 with ⟨_, h⟩ | ⟨g', cap', cur, h1, _⟩
    · omega
    · simp at h1; exact ⟨g', h1.1⟩
  have cN : w.cell? ⟨g', i * 4, none⟩ = some (.string f.nm) := by
    rw [hA.cellAt (i * 4) (by omega)]
    have := flatF_get x.fs i f 0 hf (by omega)
    rw [Nat.add_zero] at this
    rw [this]; rfl
  have hgl' : g' < w.heap.size := (hA.lt g' rfl).2
  have HD := Lib.hid h.okx.oD
  have hin' : (i : Int) < x.fs.length := by omega
  clear hA hf hAe h e0 e1 e2 e3
  go_enter Try.func27, Try.ntmps27
  go_wp2
  refine wp_region_below (by kernel_rfl) (by kernel_rfl) ?_
  (refine wq_val (by rfl) (fun w' hw' => by obtain ⟨hc, hf⟩ := bcell hw'; go_simp; try rfl) ?_; (intro K hK; go_simp; refine hK _ ?_; clear hK K))
  (refine wq_val (by rfl) (fun w' hw' => by obtain ⟨hc, hf⟩ := bcell hw'; go_simp; try rfl) ?_; (intro K hK; go_simp; refine hK _ ?_; clear hK K))
  (refine wq_val (by rfl) (fun w' hw' => by obtain ⟨hc, hf⟩ := bcell hw'; go_simp; try rfl) ?_; (intro K hK; go_simp; refine hK _ ?_; clear hK K))
  (refine wq_val (by rfl) (fun w' hw' => by obtain ⟨hc, hf⟩ := bcell hw'; go_simp; try rfl) ?_; (intro K hK; go_simp; refine hK _ ?_; clear hK K))
  (refine wq_val (by rfl) (fun w' hw' => by obtain ⟨hc, hf⟩ := bcell hw'; go_simp; try rfl) ?_; (intro K hK; go_simp; refine hK _ ?_; clear hK K))
  (refine wq_val (by rfl) (fun w' hw' => by obtain ⟨hc, hf⟩ := bcell hw'; go_simp; try rfl) ?_; (intro K hK; go_simp; refine hK _ ?_; clear hK K))
  (refine wq_val (by rfl) (fun w' hw' => by obtain ⟨hc, hf⟩ := bcell hw'; go_simp; try rfl) ?_; (intro K hK; go_simp; refine hK _ ?_; clear hK K))
  (refine wq_val (by rfl) (fun w' hw' => by obtain ⟨hc, hf⟩ := bcell hw'; go_simp; try rfl) ?_; (intro K hK; go_simp; refine hK _ ?_; clear hK K))
  (refine wq_val (by rfl) (fun w' hw' => by obtain ⟨hc, hf⟩ := bcell hw'; go_simp; try rfl) ?_; (intro K hK; go_simp; refine hK _ ?_; clear hK K))
  (refine wq_val (by rfl) (fun w' hw' => by obtain ⟨hc, hf⟩ := bcell hw'; go_simp; try rfl) ?_; (intro K hK; go_simp; refine hK _ ?_; clear hK K))
  (refine wq_val (by rfl) (fun w' hw' => by obtain ⟨hc, hf⟩ := bcell hw'; go_simp; try rfl) ?_; (intro K hK; go_simp; refine hK _ ?_; clear hK K))
  (refine wq_val (by rfl) (fun w' hw' => by obtain ⟨hc, hf⟩ := bcell hw'; go_simp; try rfl) ?_; (intro K hK; go_simp; refine hK _ ?_; clear hK K))
  (refine wq_val (by rfl) (fun w' hw' => by obtain ⟨hc, hf⟩ := bcell hw'; go_simp; try rfl) ?_; (intro K hK; go_simp; refine hK _ ?_; clear hK K))
  (refine wq_val (by rfl) (fun w' hw' => by obtain ⟨hc, hf⟩ := bcell hw'; go_simp; try rfl) ?_; (intro K hK; go_simp; refine hK _ ?_; clear hK K))
  (refine wq_val (v := .tuple #[.int .i64 (numOf x.D f.nm), .bool (Maps.has x.D (kS f.nm))]) (by rfl) (fun w' hw' => by have hl := (look_num (ownsMap_ch HD.out (Ch.ofBelow (S := fun _ => False) hw') (fun h => h)) hfn).1; go_simp; try rfl) ?_; (intro K hK; go_simp; refine hK _ ?_; clear hK K))
  (refine wq_val (by rfl) (fun w' hw' => by obtain ⟨hc, hf⟩ := bcell hw'; go_simp; try rfl) ?_; (intro K hK; go_simp; refine hK _ ?_; clear hK K))
  (refine wq_val (by rfl) (fun w' hw' => by obtain ⟨hc, hf⟩ := bcell hw'; go_simp; try rfl) ?_; (intro K hK; go_simp; refine hK _ ?_; clear hK K))
  (refine wq_val (by rfl) (fun w' hw' => by obtain ⟨hc, hf⟩ := bcell hw'; go_simp; try rfl) ?_; (intro K hK; go_simp; refine hK _ ?_; clear hK K))
  (refine wq_val (by rfl) (fun w' hw' => by obtain ⟨hc, hf⟩ := bcell hw'; go_simp; try rfl) ?_; (intro K hK; go_simp; refine hK _ ?_; clear hK K))
  (refine wq_val (by rfl) (fun w' hw' => by obtain ⟨hc, hf⟩ := bcell hw'; go_simp; try rfl) ?_; (intro K hK; go_simp; refine hK _ ?_; clear hK K))
  refine wpQuiet_nil ?_; intro w2 hb2
  have HB2 := Lib.hid hb2
  clear c0 c1 cN hb2
  go_wp2
  all_goals go_ret
  all_goals exact ⟨⟨_, rfl⟩, HB2.out⟩
end Go.Proofs.Ytggbnjdbbomjoaa
