/- Walks of the sorts package: Sorts, Funs, SortName. -/
import Derived.Test.YtggbnjdbbomjoaaSorQ
namespace Go.Proofs.Ytggbnjdbbomjoaa
open Go.RowKit
set_option maxRecDepth 100000 in
theorem funs_any {B : Nat} {w : World} {b : Nat} {x y : Nm} (h : STab B w b x y) (hN : Nums y.fs y.D) : Calls Try.prog 20 #[.pointer (some ⟨b, 0, none⟩)] w fun e w' =>
    ∃ (v : Value) (vs : List Int), e = .returned v ∧ Rises y.D vs ∧ w'.ownsRow w.heap.size 3 1 v vs.length (vs.map (Value.int .i64)) ∧ Below w.heap.size w w' := by
  have HN := Lib.hid (none_tab h.toSTab0)
  have c4 := h.c4
  have hbl := h.lt
  have HS := Lib.hid (sorted_call (w := w.alloc (.cells #[.map (some y.m)] 59)) w.heap.size (by simp) (by simp) (h.oky.oD.alloc _) hN h.oky.nf)
  have HV := Lib.hid (values_call (some y.m) w)
  clear h
  go_enter Try.func20, Try.ntmps20
  go_wp2_with fail
  refine HN.out.mono ?_; rintro e w1 ⟨rfl, rfl⟩
  clear HN
  go_wp2_with fail
  refine HV.out.mono ?_; rintro e w2 ⟨rfl, rfl⟩
  go_wp2_with fail
  refine HS.out.mono ?_; rintro e w3 ⟨v, vs, rfl, hr, ho, hb⟩
  clear HS HV
  go_wp2_with fail
  go_ret
  refine ⟨v, vs, rfl, hr, own_lower ho (by simp), ?_⟩
  exact ((Below.refl w1.heap.size w1).alloc (Nat.le_refl _) _).trans (hb.mono (by simp))
/-- what is told of Sorts -/
def SortsR (w : World) (x : Nm) (e : Ending) (w' : World) : Prop :=
  ∃ (v : Value) (vs : List Int), e = .returned v ∧ Rises x.D vs ∧ w'.ownsRow w.heap.size 27 1 v vs.length ((vs.map (· + 2)).map (Value.int .i64)) ∧ Below w.heap.size w w'
set_option maxRecDepth 100000 in
theorem sorts_any {B : Nat} {w : World} {b : Nat} {x y : Nm} (h : STab B w b x y) (hN : Nums x.fs x.D) : Calls Try.prog 19 #[.pointer (some ⟨b, 0, none⟩)] w (SortsR w x) := by
  have HN := Lib.hid (none_tab h.toSTab0)
  have c1 := h.c1
  have hbl := h.lt
  have HS := Lib.hid (sorted_call (w := w.alloc (.cells #[.map (some x.m)] 59)) w.heap.size (by simp) (by simp) (h.okx.oD.alloc _) hN h.okx.nf)
  have HV := Lib.hid (values_call (some x.m) w)
  have hnf := h.okx.nf
  clear h
  go_enter Try.func19, Try.ntmps19
  go_wp2_with fail
  refine HN.out.mono ?_; rintro e w1 ⟨rfl, rfl⟩
  clear HN
  go_wp2_with fail
  refine HV.out.mono ?_; rintro e w2 ⟨rfl, rfl⟩
  go_wp2_with fail
  refine HS.out.mono ?_; rintro e w3 ⟨v, vs, rfl, hr, ho, hb⟩
  clear HS HV
  obtain ⟨ao, cap, rfl, _⟩ := own_slice ho
  have hrange : ∀ z ∈ vs, 0 ≤ z ∧ z < 2000 := fun z hz => by
    obtain ⟨s, hs⟩ := (hr.mem z).1 hz
    obtain ⟨i, f, rfl, hi, _⟩ := hN s z hs
    have := (List.getElem?_eq_some_iff.1 hi).1
    omega
  have hlen : vs.length ≤ 2000 := by
    have hn : vs.Nodup := hr.up.imp (fun q e => by omega)
    have hs : vs ⊆ (List.range 2000).map (fun n : Nat => (n : Int)) := fun z hz => by
      have := hrange z hz
      exact List.mem_map.2 ⟨z.toNat, List.mem_range.2 (by omega), by omega⟩
    have := hn.length_le_of_subset hs
    simpa using this
  have hb0 : Below w1.heap.size w1 w3 := ((Below.refl w1.heap.size w1).alloc (Nat.le_refl _) _).trans (hb.mono (by simp))
  have HO := Lib.hid (own_lower ho (show w1.heap.size ≤ _ by simp))
  have HR := Lib.hid hr
  have HB := Lib.hid hb0
  have HRA := Lib.hid hrange
  clear ho hr hb hb0 hrange c1
  obtain ⟨i0, hi, hz0, hz1, hz2⟩ := info_parts infoI
  go_wp2_with fail
  go_loopw [3, 16] (fun vl vi wr => ∃ k : Nat, vi = .int .i64 k ∧ k ≤ vs.length ∧ Hid (wr.ownsRow w1.heap.size 27 1 vl k (((vs.take k).map (· + 2)).map (Value.int .i64)) ∧ Below w1.heap.size w1 wr ∧ wr.ownsRow w1.heap.size 3 1 (.slice ao vs.length cap) vs.length (vs.map (Value.int .i64)))) (fun _ vi _ => vs.length - (intOf vi).toNat)
  case atStart => exact ⟨0, rfl, by omega, Lib.hid ⟨World.ownsRow_nil _ _ _ _, HB.out, HO.out⟩⟩
  case round =>
    obtain ⟨k, rfl, hk, hh⟩ := hrel
    by_cases hkl : k < vs.length
    case neg =>
      have hkl' : ¬ (k : Int) < vs.length := by omega
      go_wp2_with fail
      go_ret
      have : k = vs.length := by omega
      subst this
      refine ⟨_, vs, rfl, HR.out, ?_, hh.out.2.1⟩
      have := hh.out.1
      rw [List.take_length] at this
      exact this
    case pos =>
      have hkl' : (k : Int) < vs.length := by omega
      obtain ⟨p1, p2, p3⟩ := hh.out
      obtain ⟨g, rfl⟩ : ∃ g, ao = some ⟨g, 0, none⟩ := by
        rcases p3.2 with ⟨_, h⟩ | ⟨g, cap', cur, h1, _⟩
        · omega
        · simp at h1; exact ⟨g, h1.1⟩
      have hgl := (p3.lt g rfl).2
      have cN : wr.cell? ⟨g, k, none⟩ = some (.int .i64 vs[k]) := by
        rw [p3.cellAt k (by omega)]
        simp [hkl]
      obtain ⟨av, cv, rfl, _⟩ := own_slice p1
      have hz := HRA.out vs[k] (List.getElem_mem hkl)
      have htk : vs.take (k + 1) = vs.take k ++ [vs[k]] := by rw [List.take_add_one]; simp [hkl]
      generalize vs[k] = z at cN hz htk
      have hzw : IntKind.i64.wrap (z + 2) = z + 2 := IntWalk.i64_in _ (by constructor <;> omega)
      have hgv : ∀ q, (Value.slice av k cv).ownBlock = some q → (Value.slice (some ⟨g, 0, none⟩) vs.length cap).ownBlock ≠ some q := fun q hq => own_ne p1 p3 (by decide) hq
      have H1 := Lib.hid p1
      have H2 := Lib.hid p2
      have H3 := Lib.hid p3
      have HTK := Lib.hid htk
      have HGV := Lib.hid hgv
      have hn0 : ∀ j u, ([.int .i64 (z + 2)] : List Value)[j]? = some u → (wr.alloc (.cells #[.int .i64 (z + 2)] 27)).cell? ((⟨wr.heap.size, 0, none⟩ : Addr).add j) = some u := by
        intro j u h
        have := (CellsW.new wr ([.int .i64 (z + 2)] : List Value) 27 j u h).1
        rw [show ((⟨wr.heap.size, 0, none⟩ : Addr).add j) = ⟨wr.heap.size, j, none⟩ by cases j <;> simp [Addr.add]]
        exact this
      have HN0 := Lib.hid hn0
      have hbw : w1.heap.size ≤ wr.heap.size := p2.size
      clear p1 p2 p3 hh hz htk hgv hn0
      go_wp2_with (first | (at_builtin; refine wpList_append_own_at _ rfl _ _ 28 rfl w1.heap.size 27 i0 (.int .i64 0) 1 8 Try.underlying28 hi hz0 hz1 hz2 rfl (by decide) (.slice av k cv) k _ rfl (H1.out.alloc _) ⟨wr.heap.size, 0, none⟩ 1 1 [.int .i64 (z + 2)] rfl rfl HN0.out (by simp [Value.oneCell']) (by unfold maxLen; omega) (by omega) (by simp; omega) ?_; intro v' w5 hown hgrow hnil hat) | fail)
      have hb5 : Below w1.heap.size w1 w5 := (H2.out.alloc (by omega) (.cells #[.int .i64 (z + 2)] 27)).grown hgrow (by simp; omega) (fun q e => (H1.out.lt q e).1)
      have ho5 : w5.ownsRow w1.heap.size 3 1 (.slice (some ⟨g, 0, none⟩) vs.length cap) vs.length (vs.map (Value.int .i64)) :=
        ownsRow_ch (H3.out.alloc (.cells #[.int .i64 (z + 2)] 27)) (Ch.ofGrown hgrow) (fun q hq e => HGV.out q e.symm hq)
      have hown' : w5.ownsRow w1.heap.size 27 1 v' (k + 1) (((vs.take (k + 1)).map (· + 2)).map (Value.int .i64)) := by
        rw [HTK.out, List.map_append, List.map_append]; exact hown
      clear hown hgrow hnil hat
      have HX := Lib.hid (And.intro hown' (And.intro hb5 ho5))
      clear hown' hb5 ho5 cN
      go_wp2_with fail
      go_roundw
      case rel => exact ⟨k + 1, by go_num, by omega, HX⟩
      case measure => simp [intOf]; omega
set_option maxRecDepth 100000 in
theorem sortName_any {B : Nat} {w : World} {b : Nat} {x y : Nm} (h : STab B w b x y) (i : Nat) (f : Fd) (hf : x.fs[i]? = some f) : Calls Try.prog 22 #[.pointer (some ⟨b, 0, none⟩), .int .i64 ((i : Int) + 2)] w fun e w' =>
    e = .returned (.tuple #[.string f.nm, .int .i64 0]) ∧ Below w.heap.size w w' := by
  have hin : i < x.fs.length := (List.getElem?_eq_some_iff.1 hf).1
  have hnf := h.okx.nf
  have HN := Lib.hid (none_tab h.toSTab0)
  have c0 := h.c0
  have hbl := h.lt
  obtain ⟨ao, cap, hAe, hcap⟩ := own_slice h.okx.oA
  rw [hAe] at c0
  have hA := h.okx.oA
  rw [hAe] at hA
  obtain ⟨g', rfl⟩ : ∃ g', ao = some ⟨g', 0, none⟩ := by
    rcases hA.2 with ⟨_, h⟩ | ⟨g', cap', cur, h1, _⟩
    · omega
    · simp at h1; exact ⟨g', h1.1⟩
  have cN : w.cell? ⟨g', i * 4, none⟩ = some (.string f.nm) := by
    rw [hA.cellAt (i * 4) (by omega)]
    have := flatF_get x.fs i f 0 hf (by omega)
    rw [Nat.add_zero] at this
    rw [this]; rfl
  have hgl' : g' < w.heap.size := (hA.lt g' rfl).2
  have hw : IntKind.i64.wrap ((i : Int) + 2 - 2) = i := by rw [IntWalk.i64_in _ (by constructor <;> omega)]; omega
  have e0 : ((i : Int) + 2 == 0) = false := by simp; omega
  have e1 : ((i : Int) + 2 == 1) = false := by simp; omega
  have e2 : ¬ (i : Int) + 2 < 2 := by omega
  have e3 : ¬ (x.fs.length : Int) ≤ i := by omega
  have hin' : (i : Int) < x.fs.length := by omega
  clear hA hf hAe h
  go_enter Try.func22, Try.ntmps22
  go_wp2_with fail
  refine HN.out.mono ?_; rintro e w1 ⟨rfl, rfl⟩
  clear HN
  go_wp2
  go_ret2
  exact ⟨rfl, Below.refl _ _⟩
end Go.Proofs.Ytggbnjdbbomjoaa
