/- The numbers that stand, sorted: slices.Sorted(maps.Values(m)). -/
import Derived.Test.YtggbnjdbbomjoaaSorP
import Derived.Test.YtggbnjdbbomjoaaSrt
namespace Go.Proofs.Ytggbnjdbbomjoaa
open Go.RowKit Go.Maps Go.Sort Go.Shelf
theorem names_nodup {w : World} {m n : Nat} {D : DataW Unit} (h : ownsD w m n D) : (strKeys D).Nodup := by
  obtain ⟨es, rfl, hp, _⟩ := h.entries (Maps.string_keyed Try.underlying9)
  obtain ⟨es', he, hk⟩ := h.keysOf
  obtain rfl : es = es' := by simpa using he
  show (es.map fun p => strOf p.1).Nodup
  refine List.pairwise_map.2 (hp.imp_of_mem fun {p q} hp' hq' hne e => hne ?_)
  obtain ⟨key, hkey⟩ := hk p hp'
  obtain ⟨a, _, ha, _⟩ := Maps.keyOf_str Try.underlying9 hkey
  obtain ⟨key', hkey'⟩ := hk q hq'
  obtain ⟨b, _, hb, _⟩ := Maps.keyOf_str Try.underlying9 hkey'
  rw [ha, hb] at e ⊢
  exact congrArg _ e
theorem look_val {D : DataW Unit} {x : List UInt8} {c : Int} (hh : has D (.string x) = true) (hv : AnyY.ValAt D (x, c)) : look D ⟨x.toArray⟩ = some c := by
  have e : kS ⟨x.toArray⟩ = .string x := rfl
  unfold look numOf
  rw [e, hh, hv]
  rfl
theorem rises_of {w : World} {m n : Nat} {D : DataW Unit} {fs : List Fd} (h : ownsD w m n D) (hN : Nums fs D) {ps : List (List UInt8 × Int)} (hA : AnyY.AllOf D ps) : Rises D ((ps.map (·.2)).mergeSort (fun x y => decide (x ≤ y))) := by
  obtain ⟨a1, a2, a3⟩ := hA
  have hlk : ∀ p ∈ ps, look D ⟨p.1.toArray⟩ = some p.2 := fun p hp => look_val ((a2 p.1).1 (List.mem_map_of_mem hp)) (a3 p hp)
  have hnd : (ps.map (·.1)).Nodup := a1.nodup_iff.2 (names_nodup h)
  have hnd2 : (ps.map (·.2)).Nodup := by
    refine List.pairwise_map.2 ((List.pairwise_map.1 hnd).imp_of_mem fun {p q} hp hq hne e => hne ?_)
    obtain ⟨i, f, hi, hf, hfn⟩ := hN _ _ (hlk p hp)
    obtain ⟨j, g, hj, hg, hgn⟩ := hN _ _ (hlk q hq)
    have hij : i = j := by omega
    subst hij
    rw [hf] at hg
    obtain rfl : f = g := by simpa using hg
    rw [hfn] at hgn
    have := congrArg (fun b : ByteArray => b.data.toList) hgn
    simpa using this
  have hs : ((ps.map (·.2)).mergeSort (fun x y => decide (x ≤ y))).Pairwise (fun a b : Int => decide (a ≤ b) = true) :=
    List.pairwise_mergeSort (fun a b c h1 h2 => by simp only [decide_eq_true_eq] at *; omega) (fun a b => by simp only [Bool.or_eq_true, decide_eq_true_eq]; omega) _
  have hn3 : ((ps.map (·.2)).mergeSort (fun x y => decide (x ≤ y))).Nodup := (List.mergeSort_perm _ _).nodup_iff.2 hnd2
  have hup : ((ps.map (·.2)).mergeSort (fun x y => decide (x ≤ y))).Pairwise (fun a b : Int => a < b) := (hs.and hn3).imp (by
    rintro a b ⟨h1, h2⟩
    simp only [decide_eq_true_eq] at h1
    omega)
  refine ⟨hup, fun v => ?_⟩
  · rw [List.mem_mergeSort]
    constructor
    · intro hv
      obtain ⟨p, hp, rfl⟩ := List.mem_map.1 hv
      exact ⟨_, hlk p hp⟩
    · rintro ⟨s, hs'⟩
      have hh : has D (kS s) = true := by
        unfold look at hs'
        split at hs'
        · assumption
        · cases hs'
      obtain ⟨p, hp, hp1⟩ := List.mem_map.1 ((a2 s.data.toList).2 hh)
      have := hlk p hp
      rw [hp1] at this
      have e : (⟨s.data.toList.toArray⟩ : ByteArray) = s := by obtain ⟨⟨l⟩⟩ := s; rfl
      rw [e, hs'] at this
      have : v = p.2 := by simpa using this
      rw [this]
      exact List.mem_map_of_mem hp
theorem sorts_in (m : Nat) : AnyZI.SortsIn Try.prog Try.sortedA_ren Fence.wide m :=
  ⟨fun blk off cap ss W hH hblk hsz => callsIn_wide.2 (AnyM.slices_Sort_int Try.sortA blk off cap ss W hH hblk hsz),
   fun p cap W => callsIn_wide.2 (AnyM.slices_Sort_int_none Try.sortA p cap W)⟩
theorem values_call (mb : Option Nat) (w : World) : Calls Try.prog 38 #[.map mb] w fun e w' =>
    e = .returned (.func (.func 47) #[] #[.pointer (some ⟨w.heap.size, 0, none⟩)]) ∧ w' = w.alloc (.cells #[.map mb] 59) :=
  callsIn_wide.1 (AnyY.values_in Try.valuesA Fence.wide 5 trivial rfl mb w)
set_option maxHeartbeats 1000000 in
theorem sorted_call {w : World} {m n : Nat} {D : DataW Unit} {fs : List Fd} (B : Nat) (hB : B < w.heap.size) (hc : w.cell? ⟨B, 0, none⟩ = some (.map (some m))) (h : ownsD w m n D) (hN : Nums fs D) (hn : n ≤ 2000) :
    Calls Try.prog 37 #[.func (.func 47) #[] #[.pointer (some ⟨B, 0, none⟩)]] w fun e w' =>
      ∃ (v : Value) (vs : List Int), e = .returned v ∧ Rises D vs ∧ w'.ownsRow w.heap.size 3 1 v vs.length (vs.map (Value.int .i64)) ∧ Below w.heap.size w w' := by
  refine (callsIn_wide (n := 5)).1 ?_
  have hsz := h.size_le
  have hseq : SeqGives Fence.wide 2 Try.prog 47 #[.pointer (some ⟨B, 0, none⟩)] encZ (fun xs => ∃ ps, AnyY.AllOf D ps ∧ xs = ps.map (·.2)) (Maps.size D) w := fun l J W hW hJ hY h0 => by
    have h' : ownsD W m n D := ownsMap_ch (S := fun _ => False) h (Ch.ofBelow hW) (fun e => e)
    have hc' : W.cell? ⟨B, 0, none⟩ = some (.map (some m)) := (hW.cell (p := ⟨B, 0, none⟩) hB).trans hc
    refine (AnyY.values1S_in Try.values1A Fence.wide 2 trivial rfl (by omega) l B m n D J (fun _ _ => False) (fun pre x W1 hJ1 hl => (hY pre x W1 hJ1 hl).mono fun e W' q => Or.inl q) W hJ hc' h' h0).mono ?_
    rintro e W' ⟨h1, h2 | ⟨_, _, h2⟩⟩
    · exact ⟨h1, h2⟩
    · exact h2.elim
  have cS := AnyZI.sorted_in Try.sortedA Fence.wide 5 trivial trivial trivial trivial rfl (by omega) (sorts_in _) (enters_of Try.func46 (by kernel_rfl) rfl) 47 #[.pointer (some ⟨B, 0, none⟩)] trivial (enters_of Try.func47 (by kernel_rfl) rfl) _ _ (by unfold maxLen; omega) (by omega) w hseq
  refine cS.mono ?_
  rintro e w' ⟨v, ss, rfl, ⟨ps, hA, rfl⟩, hrow, _, hb⟩
  refine ⟨v, _, rfl, rises_of h hN hA, ?_, hb⟩
  rw [List.length_mergeSort]
  exact hrow
end Go.Proofs.Ytggbnjdbbomjoaa
