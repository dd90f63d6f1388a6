/- Walks of the sorts package: pop. -/
import Derived.Test.YtggbnjdbbomjoaaSorE

namespace Go.Proofs.Ytggbnjdbbomjoaa
open Go.RowKit
/-- what stands when the functions from i on, c of them, are gone -/
def popD (fs : List Fd) : Nat → Nat → DataW Unit → DataW Unit
  | 0, _, D => D
  | c + 1, i, D => popD fs c (i + 1) (match fs[i]? with
    | some f => if numOf D f.nm = i then D.del (kS f.nm) else D
    | none => D)
/-- the arithmetic of a mark -/
theorem markAt {ms : List Int} {k : Int} {n : Nat} (hk : 1 ≤ k) (hl : k ≤ ms.length) (hms : ∀ y ∈ ms, 0 ≤ y ∧ y ≤ n) : ∃ q fr : Nat, q < ms.length ∧ (ms.length : Int) - k = q ∧ ms[q]? = some (fr : Int) ∧ fr ≤ n ∧ q ≤ ms.length := by
  refine ⟨((ms.length : Int) - k).toNat, (ms[((ms.length : Int) - k).toNat]'(by omega)).toNat, by omega, by omega, ?_, ?_, by omega⟩
  · rw [List.getElem?_eq_getElem (by omega)]
    have := hms _ (List.getElem_mem (l := ms) (n := ((ms.length : Int) - k).toNat) (by omega))
    congr 1; omega
  · have := hms _ (List.getElem_mem (l := ms) (n := ((ms.length : Int) - k).toNat) (by omega))
    omega
theorem own_cut {w : World} {base : Nat} {e : TypeId} {size g n cap q : Nat} {xs : List Value} (h : w.ownsRow base e size (.slice (some ⟨g, 0, none⟩) n cap) n xs) (hq : q ≤ n) :
    w.ownsRow base e size (.slice (some ⟨g, 0, none⟩) q cap) q (xs.take (q * size)) := by
  have hle : q * size ≤ n * size := Nat.mul_le_mul_right _ hq
  refine ⟨by rw [List.length_take, h.1]; omega, ?_⟩
  rcases h.2 with ⟨h', _⟩ | ⟨g', cap', cur, h', hb, hg, hc, hm, hs, ht⟩
  · simp at h'
  · simp only [Value.slice.injEq, Option.some.injEq, Addr.mk.injEq, and_true, true_and] at h'
    obtain ⟨rfl, rfl⟩ := h'
    exact Or.inr ⟨g, cap, cur, rfl, hb, hg, by omega, hm, hs, by rw [← ht, List.take_take, Nat.min_eq_left hle]⟩
set_option maxRecDepth 100000 in
set_option maxHeartbeats 1000000 in
theorem pop_any (b o B m : Nat) (vs : List Value) (A M : Value) (fs : List Fd) (ms : List Int) (k : Int) (D : DataW Unit) (w : World)
    (hrow : RowB w b 63 vs) (h0 : vs[o]? = some A) (h1 : vs[o + 1]? = some (.map (some m))) (h2 : vs[o + 2]? = some M)
    (hA : w.ownsRow B 30 4 A fs.length (flatF fs)) (hM : w.ownsRow B 3 1 M ms.length (ms.map (Value.int .i64))) (hm : ownsD w m fs.length D)
    (hn : fs.length ≤ 2000) (hml : ms.length ≤ 1000) (hk1 : 1 ≤ k) (hk2 : k ≤ ms.length) (hms : ∀ y ∈ ms, 0 ≤ y ∧ y ≤ fs.length) (hnm : ∀ f ∈ fs, f.nm.size ≤ maxLen) :
    Calls Try.prog 32 #[.pointer (some ⟨b, o, none⟩), .int .i64 k] w fun e w' => e = .returned (.tuple #[]) ∧
      ∃ (M' : Value) (fr q : Nat), (q : Int) = ms.length - k ∧ ms[q]? = some (fr : Int) ∧ RowB w' b 63 (vs.set (o + 2) M') ∧ w'.ownsRow B 3 1 M' q ((ms.take q).map (Value.int .i64)) ∧ M'.ownBlock = M.ownBlock ∧
        ownsD w' m fs.length (popD fs (fs.length - fr) fr D) ∧ Ch (fun k => k = b ∨ k = m) w w' := by
  obtain ⟨q, fr, hq, hqe, hqm, hfr, _⟩ := markAt hk1 hk2 hms
  have hbl := hrow.lt
  have c0 : w.cell? ⟨b, o, none⟩ = some A := by rw [hrow.cell]; exact h0
  have c1 : w.cell? ⟨b, o + 1, none⟩ = some (.map (some m)) := by rw [hrow.cell]; exact h1
  have c2 : w.cell? ⟨b, o + 2, none⟩ = some M := by rw [hrow.cell]; exact h2
  obtain ⟨ao, cap, rfl, hcap⟩ := own_slice hA
  obtain ⟨g, capM, rfl, hcapM⟩ : ∃ g capM, M = .slice (some ⟨g, 0, none⟩) ms.length capM ∧ ms.length ≤ capM := by
    rcases hM.2 with ⟨_, h⟩ | ⟨g, cap, cur, h1, _, _, h2, _⟩
    · omega
    · exact ⟨g, cap, h1, h2⟩
  have cM : w.cell? ⟨g, q, none⟩ = some (.int .i64 (fr : Nat)) := by
    rw [hM.cellAt q (by omega)]; simp [hqm]
  have hgl : g < w.heap.size := (hM.lt g rfl).2
  have HQ := Lib.hid hqm
  have HMS := Lib.hid hms
  clear hqm hms
  have hqw : IntKind.i64.wrap (q : Int) = q := wrap_small q (by omega)
  go_enter Try.func32, Try.ntmps32
  go_wp2
  refine wp_region_below (by kernel_rfl) (by kernel_rfl) ?_
  (refine wq_val (by rfl) (fun w' hw' => by obtain ⟨hc, hf⟩ := bcell hw'; go_simp; try rfl) ?_; (intro K hK; go_simp; refine hK _ ?_; clear hK K))
  (refine wq_val (by rfl) (fun w' hw' => by obtain ⟨hc, hf⟩ := bcell hw'; go_simp; try rfl) ?_; (intro K hK; go_simp; refine hK _ ?_; clear hK K))
  (refine wq_val (by rfl) (fun w' hw' => by obtain ⟨hc, hf⟩ := bcell hw'; go_simp; try rfl) ?_; (intro K hK; go_simp; refine hK _ ?_; clear hK K))
  (refine wq_val (by rfl) (fun w' hw' => by obtain ⟨hc, hf⟩ := bcell hw'; go_simp; try rfl) ?_; (intro K hK; go_simp; refine hK _ ?_; clear hK K))
  (refine wq_val (by rfl) (fun w' hw' => by obtain ⟨hc, hf⟩ := bcell hw'; go_simp; try rfl) ?_; (intro K hK; go_simp; refine hK _ ?_; clear hK K))
  (refine wq_val (by rfl) (fun w' hw' => by obtain ⟨hc, hf⟩ := bcell hw'; go_simp; try rfl) ?_; (intro K hK; go_simp; refine hK _ ?_; clear hK K))
  (refine wq_val (by rfl) (fun w' hw' => by obtain ⟨hc, hf⟩ := bcell hw'; go_simp; try rfl) ?_; (intro K hK; go_simp; refine hK _ ?_; clear hK K))
  (refine wq_val (by rfl) (fun w' hw' => by obtain ⟨hc, hf⟩ := bcell hw'; go_simp; try rfl) ?_; (intro K hK; go_simp; refine hK _ ?_; clear hK K))
  (refine wq_val (by rfl) (fun w' hw' => by obtain ⟨hc, hf⟩ := bcell hw'; go_simp; try rfl) ?_; (intro K hK; go_simp; refine hK _ ?_; clear hK K))
  (refine wq_val (by rfl) (fun w' hw' => by obtain ⟨hc, hf⟩ := bcell hw'; go_simp; try rfl) ?_; (intro K hK; go_simp; refine hK _ ?_; clear hK K))
  (refine wq_val (by rfl) (fun w' hw' => by obtain ⟨hc, hf⟩ := bcell hw'; go_simp; try rfl) ?_; (intro K hK; go_simp; refine hK _ ?_; clear hK K))
  (refine wq_val (by rfl) (fun w' hw' => by obtain ⟨hc, hf⟩ := bcell hw'; go_simp; try rfl) ?_; (intro K hK; go_simp; refine hK _ ?_; clear hK K))
  (refine wq_val (by rfl) (fun w' hw' => by obtain ⟨hc, hf⟩ := bcell hw'; go_simp; try rfl) ?_; (intro K hK; go_simp; refine hK _ ?_; clear hK K))
  (refine wq_val (by rfl) (fun w' hw' => by obtain ⟨hc, hf⟩ := bcell hw'; go_simp; try rfl) ?_; (intro K hK; go_simp; refine hK _ ?_; clear hK K))
  refine wpQuiet_nil ?_; intro w1 hb1
  have ch1 : Ch (fun k => k = m) w w1 := Ch.ofBelow hb1
  have hbm : b ≠ m := row_ne_map hrow hm
  have hm1 : ownsD w1 m fs.length D := ownsMap_ch (S := fun _ => False) hm (Ch.ofBelow hb1) (fun h => h)
  clear c0 c1 c2 cM hb1
  have HA := Lib.hid (show ∀ wr, Ch (fun k => k = m) w wr → RowB wr b 63 vs ∧ wr.ownsRow B 30 4 (.slice ao fs.length cap) fs.length (flatF fs) ∧ wr.ownsRow B 3 1 (.slice (some ⟨g, 0, none⟩) ms.length capM) ms.length (ms.map (Value.int .i64)) from
    fun wr h => ⟨hrow.kept h hbm, ownsRow_ch hA h (fun k hk e => own_ne_map hA hm (by rw [hk, e])), ownsRow_ch hM h (fun k hk e => own_ne_map hM hm (by rw [hk, e]))⟩)
  have HV := Lib.hid (And.intro h0 (And.intro h1 h2))
  clear hrow hA hM hm h0 h1 h2
  go_wp2
  go_loopw [5] (fun vi wr => ∃ (i : Nat) (D' : DataW Unit), vi = .int .i64 i ∧ fr ≤ i ∧ i ≤ fs.length ∧ Hid (popD fs (fs.length - i) i D' = popD fs (fs.length - fr) fr D) ∧ Hid (ownsD wr m fs.length D') ∧ Hid (Ch (fun k => k = m) w wr))
    (fun vi _ => fs.length - (intOf vi).toNat)
  case atStart => exact ⟨fr, D, rfl, Nat.le_refl _, hfr, Lib.hid rfl, Lib.hid hm1, Lib.hid ch1⟩
  case round =>
    obtain ⟨i, D', rfl, hi1, hi2, hpd, hmr, hcr⟩ := hrel
    obtain ⟨hrow, hA, hM⟩ := HA.out wr hcr.out
    have hbl' := hrow.lt
    have c0 : wr.cell? ⟨b, o, none⟩ = some (.slice ao fs.length cap) := by rw [hrow.cell]; exact HV.out.1
    have c1 : wr.cell? ⟨b, o + 1, none⟩ = some (.map (some m)) := by rw [hrow.cell]; exact HV.out.2.1
    have c2 : wr.cell? ⟨b, o + 2, none⟩ = some (.slice (some ⟨g, 0, none⟩) ms.length capM) := by rw [hrow.cell]; exact HV.out.2.2
    by_cases hin : i < fs.length
    case pos =>
      have hin' : (i : Int) < fs.length := by omega
      obtain ⟨f, hf⟩ : ∃ f, fs[i]? = some f := ⟨_, List.getElem?_eq_getElem hin⟩
      have hfn : f.nm.size ≤ maxLen := hnm f (List.mem_of_getElem? hf)
      obtain ⟨g', rfl⟩ : ∃ g', ao = some ⟨g', 0, none⟩ := by
        rcases hA.2 with ⟨_, h⟩ | ⟨g', cap', cur, h1, _⟩
        · omega
        · simp at h1; exact ⟨g', h1.1⟩
      have cN : wr.cell? ⟨g', i * 4, none⟩ = some (.string f.nm) := by
        rw [hA.cellAt (i * 4) (by omega)]
        have := flatF_get fs i f 0 hf (by omega)
        rw [Nat.add_zero] at this
        rw [this]; rfl
      have hgl' : g' < wr.heap.size := (hA.lt g' rfl).2
      have HF := Lib.hid hf
      have HROW := Lib.hid hrow
      clear hf hrow hA hM
      go_wp2
      refine wp_region_below (by kernel_rfl) (by kernel_rfl) ?_
      (refine wq_val (by rfl) (fun w' hw' => by obtain ⟨hc, hf⟩ := bcell hw'; go_simp; try rfl) ?_; (intro K hK; go_simp; refine hK _ ?_; clear hK K))
      (refine wq_val (by rfl) (fun w' hw' => by obtain ⟨hc, hf⟩ := bcell hw'; go_simp; try rfl) ?_; (intro K hK; go_simp; refine hK _ ?_; clear hK K))
      (refine wq_val (by rfl) (fun w' hw' => by obtain ⟨hc, hf⟩ := bcell hw'; go_simp; try rfl) ?_; (intro K hK; go_simp; refine hK _ ?_; clear hK K))
      (refine wq_val (by rfl) (fun w' hw' => by obtain ⟨hc, hf⟩ := bcell hw'; go_simp; try rfl) ?_; (intro K hK; go_simp; refine hK _ ?_; clear hK K))
      (refine wq_val (by rfl) (fun w' hw' => by obtain ⟨hc, hf⟩ := bcell hw'; go_simp; try rfl) ?_; (intro K hK; go_simp; refine hK _ ?_; clear hK K))
      (refine wq_val (by rfl) (fun w' hw' => by obtain ⟨hc, hf⟩ := bcell hw'; go_simp; try rfl) ?_; (intro K hK; go_simp; refine hK _ ?_; clear hK K))
      (refine wq_val (by rfl) (fun w' hw' => by obtain ⟨hc, hf⟩ := bcell hw'; go_simp; try rfl) ?_; (intro K hK; go_simp; refine hK _ ?_; clear hK K))
      (refine wq_val (by rfl) (fun w' hw' => by obtain ⟨hc, hf⟩ := bcell hw'; go_simp; try rfl) ?_; (intro K hK; go_simp; refine hK _ ?_; clear hK K))
      (refine wq_val (by rfl) (fun w' hw' => by obtain ⟨hc, hf⟩ := bcell hw'; go_simp; try rfl) ?_; (intro K hK; go_simp; refine hK _ ?_; clear hK K))
      (refine wq_val (by rfl) (fun w' hw' => by obtain ⟨hc, hf⟩ := bcell hw'; go_simp; try rfl) ?_; (intro K hK; go_simp; refine hK _ ?_; clear hK K))
      (refine wq_val (by rfl) (fun w' hw' => by obtain ⟨hc, hf⟩ := bcell hw'; go_simp; try rfl) ?_; (intro K hK; go_simp; refine hK _ ?_; clear hK K))
      (refine wq_val (by rfl) (fun w' hw' => by obtain ⟨hc, hf⟩ := bcell hw'; go_simp; try rfl) ?_; (intro K hK; go_simp; refine hK _ ?_; clear hK K))
      (refine wq_val (v := .int .i64 (numOf D' f.nm)) (by rfl) (fun w' hw' => by have hl := (look_num (ownsMap_ch hmr.out (Ch.ofBelow (S := fun _ => False) hw') (fun h => h)) hfn).2.1; go_simp; try rfl) ?_; (intro K hK; go_simp; refine hK _ ?_; clear hK K))
      (refine wq_val (by rfl) (fun w' hw' => by obtain ⟨hc, hf⟩ := bcell hw'; go_simp; try rfl) ?_; (intro K hK; go_simp; refine hK _ ?_; clear hK K))
      (refine wq_val (by rfl) (fun w' hw' => by obtain ⟨hc, hf⟩ := bcell hw'; go_simp; try rfl) ?_; (intro K hK; go_simp; refine hK _ ?_; clear hK K))
      refine wpQuiet_nil ?_; intro w2 hb2
      have hc2 := hcr.out.trans (Ch.ofBelow (S := fun k => k = m) hb2)
      have hm2 := ownsMap_ch (S := fun _ => False) hmr.out (Ch.ofBelow hb2) (fun h => h)
      have hl2 := hb2.size
      obtain ⟨hcc, _⟩ := bcell hb2
      have c0' := hcc b o hbl'
      have c1' := hcc b (o + 1) hbl'
      have cN' := hcc g' (i * 4) hgl'
      rw [c0] at c0'; rw [c1] at c1'; rw [cN] at cN'
      have hbl2 : b < w2.heap.size := by omega
      have hgl2 : g' < w2.heap.size := by omega
      clear hcc hb2 c0 c1 c2 cN hl2 hbl' hgl' hgl
      have HP := Lib.hid (show popD fs (fs.length - (i + 1)) (i + 1) (if numOf D' f.nm = i then D'.del (kS f.nm) else D') = popD fs (fs.length - fr) fr D by
        have h1 := hpd.out
        rw [show fs.length - i = (fs.length - (i + 1)) + 1 by omega, popD, HF.out] at h1
        exact h1)
      by_cases he : numOf D' f.nm = i
      case pos =>
        have HP' : Hid (popD fs (fs.length - (i + 1)) (i + 1) (D'.del (kS f.nm)) = popD fs (fs.length - fr) fr D) := Lib.hid (by have := HP.out; rwa [if_pos he] at this)
        clear HP hpd hcr hmr
        go_wp2
        refine wp_region_below_tail 12 (by kernel_rfl) (by kernel_rfl) ?_
        (refine wq_val (by rfl) (fun w' hw' => by obtain ⟨hc, hf⟩ := bcell hw'; go_simp; try rfl) ?_; (intro K hK; go_simp; refine hK _ ?_; clear hK K))
        (refine wq_val (by rfl) (fun w' hw' => by obtain ⟨hc, hf⟩ := bcell hw'; go_simp; try rfl) ?_; (intro K hK; go_simp; refine hK _ ?_; clear hK K))
        (refine wq_val (by rfl) (fun w' hw' => by obtain ⟨hc, hf⟩ := bcell hw'; go_simp; try rfl) ?_; (intro K hK; go_simp; refine hK _ ?_; clear hK K))
        (refine wq_val (by rfl) (fun w' hw' => by obtain ⟨hc, hf⟩ := bcell hw'; go_simp; try rfl) ?_; (intro K hK; go_simp; refine hK _ ?_; clear hK K))
        (refine wq_val (by rfl) (fun w' hw' => by obtain ⟨hc, hf⟩ := bcell hw'; go_simp; try rfl) ?_; (intro K hK; go_simp; refine hK _ ?_; clear hK K))
        (refine wq_val (by rfl) (fun w' hw' => by obtain ⟨hc, hf⟩ := bcell hw'; go_simp; try rfl) ?_; (intro K hK; go_simp; refine hK _ ?_; clear hK K))
        (refine wq_val (by rfl) (fun w' hw' => by obtain ⟨hc, hf⟩ := bcell hw'; go_simp; try rfl) ?_; (intro K hK; go_simp; refine hK _ ?_; clear hK K))
        (refine wq_val (by rfl) (fun w' hw' => by obtain ⟨hc, hf⟩ := bcell hw'; go_simp; try rfl) ?_; (intro K hK; go_simp; refine hK _ ?_; clear hK K))
        (refine wq_val (by rfl) (fun w' hw' => by obtain ⟨hc, hf⟩ := bcell hw'; go_simp; try rfl) ?_; (intro K hK; go_simp; refine hK _ ?_; clear hK K))
        (refine wq_val (by rfl) (fun w' hw' => by obtain ⟨hc, hf⟩ := bcell hw'; go_simp; try rfl) ?_; (intro K hK; go_simp; refine hK _ ?_; clear hK K))
        (refine wq_val (by rfl) (fun w' hw' => by obtain ⟨hc, hf⟩ := bcell hw'; go_simp; try rfl) ?_; (intro K hK; go_simp; refine hK _ ?_; clear hK K))
        (refine wq_val (by rfl) (fun w' hw' => by obtain ⟨hc, hf⟩ := bcell hw'; go_simp; try rfl) ?_; (intro K hK; go_simp; refine hK _ ?_; clear hK K))
        refine wpQuiet_nil ?_; intro w3 hb3
        simp only [List.drop_succ_cons, List.drop_zero]
        have hm3 := ownsMap_ch (S := fun _ => False) hm2 (Ch.ofBelow hb3) (fun h => h)
        have hc3 := hc2.trans (Ch.ofBelow (S := fun k => k = m) hb3)
        clear hb3 c0' c1' cN' hc2 hm2
        refine wpList_delete_own (w := w3) (hg := rfl) _ _ 59 9 rfl 3 (Maps.string_keyed Try.underlying9) Try.underlying59 _ m fs.length D' (by go_simp) hm3 (.string f.nm) (kS f.nm) (by go_simp) (keyS hfn) ?_
        intro w4 hm4 ht4
        have HM4 := Lib.hid hm4
        have HC4 := Lib.hid (hc3.trans ((Ch.ofGrown ht4.grown).mono (fun k _ e => by simpa using e)))
        clear hm4 ht4 hm3 hc3
        go_wp2
        go_roundw
        case rel => exact ⟨i + 1, D'.del (kS f.nm), by go_num, by omega, by omega, HP', HM4, HC4⟩
        case measure => simp [intOf]; omega
      case neg =>
        have HP' : Hid (popD fs (fs.length - (i + 1)) (i + 1) D' = popD fs (fs.length - fr) fr D) := Lib.hid (by have := HP.out; rwa [if_neg he] at this)
        have HC2 := Lib.hid hc2
        have HM2 := Lib.hid hm2
        clear HP hpd hcr hmr hc2 hm2
        go_wp2
        go_roundw
        case rel => exact ⟨i + 1, D', by go_num, by omega, by omega, HP', HM2, HC2⟩
        case measure => simp [intOf]; omega
    case neg =>
      have hin' : ¬ (i : Int) < fs.length := by omega
      have hie := Lib.hid (show i = fs.length by omega)
      have hqc : q ≤ capM := by omega
      have cf : wr.frozen? ⟨b, o + 2, none⟩ = false := hrow.free _
      have HR := Lib.hid hrow
      have HO := Lib.hid hM
      clear hrow hA hM
      go_wp2
      refine wp_region_below_tail 15 (by kernel_rfl) (by kernel_rfl) ?_
      (refine wq_val (by rfl) (fun w' hw' => by obtain ⟨hc, hf⟩ := bcell hw'; go_simp; try rfl) ?_; (intro K hK; go_simp; refine hK _ ?_; clear hK K))
      (refine wq_val (by rfl) (fun w' hw' => by obtain ⟨hc, hf⟩ := bcell hw'; go_simp; try rfl) ?_; (intro K hK; go_simp; refine hK _ ?_; clear hK K))
      (refine wq_val (by rfl) (fun w' hw' => by obtain ⟨hc, hf⟩ := bcell hw'; go_simp; try rfl) ?_; (intro K hK; go_simp; refine hK _ ?_; clear hK K))
      (refine wq_val (by rfl) (fun w' hw' => by obtain ⟨hc, hf⟩ := bcell hw'; go_simp; try rfl) ?_; (intro K hK; go_simp; refine hK _ ?_; clear hK K))
      (refine wq_val (by rfl) (fun w' hw' => by obtain ⟨hc, hf⟩ := bcell hw'; go_simp; try rfl) ?_; (intro K hK; go_simp; refine hK _ ?_; clear hK K))
      (refine wq_val (by rfl) (fun w' hw' => by obtain ⟨hc, hf⟩ := bcell hw'; go_simp; try rfl) ?_; (intro K hK; go_simp; refine hK _ ?_; clear hK K))
      (refine wq_val (by rfl) (fun w' hw' => by obtain ⟨hc, hf⟩ := bcell hw'; go_simp; try rfl) ?_; (intro K hK; go_simp; refine hK _ ?_; clear hK K))
      (refine wq_val (by rfl) (fun w' hw' => by obtain ⟨hc, hf⟩ := bcell hw'; go_simp; try rfl) ?_; (intro K hK; go_simp; refine hK _ ?_; clear hK K))
      (refine wq_val (by rfl) (fun w' hw' => by obtain ⟨hc, hf⟩ := bcell hw'; go_simp; try rfl) ?_; (intro K hK; go_simp; refine hK _ ?_; clear hK K))
      (refine wq_val (by rfl) (fun w' hw' => by obtain ⟨hc, hf⟩ := bcell hw'; go_simp; try rfl) ?_; (intro K hK; go_simp; refine hK _ ?_; clear hK K))
      (refine wq_val (by rfl) (fun w' hw' => by obtain ⟨hc, hf⟩ := bcell hw'; go_simp; try rfl) ?_; (intro K hK; go_simp; refine hK _ ?_; clear hK K))
      (refine wq_val (by rfl) (fun w' hw' => by obtain ⟨hc, hf⟩ := bcell hw'; go_simp; try rfl) ?_; (intro K hK; go_simp; refine hK _ ?_; clear hK K))
      (refine wq_val (by rfl) (fun w' hw' => by obtain ⟨hc, hf⟩ := bcell hw'; go_simp; try rfl) ?_; (intro K hK; go_simp; refine hK _ ?_; clear hK K))
      (refine wq_val (by rfl) (fun w' hw' => by obtain ⟨hc, hf⟩ := bcell hw'; go_simp; try rfl) ?_; (intro K hK; go_simp; refine hK _ ?_; clear hK K))
      (refine wq_val (by rfl) (fun w' hw' => by obtain ⟨hc, hf⟩ := bcell hw'; go_simp; try rfl) ?_; (intro K hK; go_simp; refine hK _ ?_; clear hK K))
      refine wpQuiet_nil ?_; intro w3 hb3
      simp only [List.drop_succ_cons, List.drop_zero]
      have hb3c := bcell hb3
      have c2' := hb3c.1 b (o + 2) hbl'
      rw [c2] at c2'
      have cf' := hb3c.2 b (o + 2) hbl'
      rw [cf] at cf'
      have hb3l : b < w3.heap.size := by have := hb3.size; omega
      have HB3 := Lib.hid hb3
      clear hb3c c0 c1 c2 cf hb3
      go_wp2
      refine bodyPost_end (results_none rfl _ _ _) rfl ?_
      have ch3 : Ch (fun k => k = m) w w3 := hcr.out.trans (Ch.ofBelow HB3.out)
      have hrow3 := HR.out.kept (S := fun _ => False) (Ch.ofBelow HB3.out) (fun h => h)
      have hM3 := ownsRow_ch (S := fun _ => False) HO.out (Ch.ofBelow HB3.out) (fun _ _ h => h)
      have hm3 := ownsMap_ch (S := fun _ => False) hmr.out (Ch.ofBelow HB3.out) (fun h => h)
      have hcut := ownsRow_setCell_other (own_cut hM3 (show q ≤ ms.length by omega)) (a := ⟨b, o + 2, none⟩) (own_ne_row (own_cut hM3 (show q ≤ ms.length by omega)) hrow3 (by decide)) (.slice (some ⟨g, 0, none⟩) q capM)
      refine ⟨rfl, .slice (some ⟨g, 0, none⟩) q capM, fr, q, by omega, HQ.out, hrow3.set (o + 2) _, ?_, rfl, ?_, ?_⟩
      · rw [List.map_take]; rw [Nat.mul_one] at hcut; exact hcut
      · have := hpd.out
        rw [hie.out, Nat.sub_self, popD] at this
        rw [← this]
        exact hm3.setCell (a := ⟨b, o + 2, none⟩) (fun e => row_ne_map hrow3 hm3 e.symm) _
      · have h5 : Ch (fun k => k = b ∨ k = m) w w3 := ch3.mono (fun _ _ e => Or.inr e)
        exact h5.setC b (o + 2) (Or.inl rfl) _
end Go.Proofs.Ytggbnjdbbomjoaa
