/- DigitsThere: the walk. -/
import Derived.Test.YtggbnjdbbomjoaaDoorDigF
namespace Go.Proofs.YtggbnjdbbomjoaaDoor
open Go.RowKit
theorem readN (s : ByteArray) (hs : s.size ≤ 281474976710656) {x e : Int} (h : readP s.data.toList = (x, e)) (w : World) (V : Vars w) :
    Calls Tryd.prog 10 #[.string s] w fun r w' => r = .returned (.tuple #[.int .i64 x, .int .i64 e]) ∧ Below w.heap.size w w' := by
  have := read_any s hs w V
  rw [h] at this
  exact this
theorem itoa_size (n : Int) (h : I64 n) : (ByteArray.mk (Lib.itoa n).toArray).size ≤ 281474976710656 := by
  have e : (ByteArray.mk (Lib.itoa n).toArray).size = (Lib.itoa n).length := by simp [ByteArray.size]
  rw [e]
  obtain ⟨h1, h2⟩ := h
  unfold Lib.itoa
  split
  · have := dec_len 39 n.natAbs (by omega); simp; omega
  · have := dec_len 39 n.toNat (by omega); omega
set_option maxRecDepth 100000 in
set_option maxHeartbeats 1000000 in
theorem digitsThere_any (n : Int) (s : ByteArray) (hn : I64 n) (w : World) (V : Vars w) : Calls Tryd.prog 4 #[.int .i64 n, .string s] w fun e w' => e = .returned (.bool true) ∧ Below w.heap.size w w' := by
  by_cases hl : s.size ≤ 1000
  · have hl' : (s.size : Int) ≤ 1000 := by omega
    have HT := read_text n
    obtain ⟨t, ht⟩ : ∃ t : ByteArray, ⟨(Lib.itoa n).toArray⟩ = t := ⟨_, rfl⟩
    have hts : Hid (t.size ≤ 281474976710656) := Lib.hid (by rw [← ht]; exact itoa_size n hn)
    have htd : t.data.toList = Lib.itoa n := by rw [← ht]
    rw [← htd] at HT
    have hy := readP_i64 s.data.toList
    have hyt := text_read s.data.toList
    obtain ⟨y, f, hyf⟩ : ∃ y f, readP s.data.toList = (y, f) := ⟨_, _, rfl⟩
    have HYF := Lib.hid hyf
    rw [hyf] at hy hyt
    have HY := Lib.hid hy; have HYT := Lib.hid hyt; have HS := Lib.hid (show s.size ≤ 281474976710656 by omega); have HN := Lib.hid hn; have HTT := Lib.hid ht
    clear hyf hy hyt hn ht htd
    have hcs : (0 ≤ n ∧ n ≤ 4611686018427387903 ∧ Hid (readP t.data.toList = (n, 0))) ∨ (0 ≤ n ∧ 4611686018427387903 < n ∧ Hid (readP t.data.toList = (0, 6))) ∨ (n < 0 ∧ Hid (readP t.data.toList = (0, 5))) := by
      by_cases h0 : 0 ≤ n
      · rw [if_pos h0] at HT
        by_cases h1 : n ≤ 4611686018427387903
        · rw [if_pos h1] at HT; exact Or.inl ⟨h0, h1, Lib.hid HT⟩
        · rw [if_neg h1] at HT; exact Or.inr (Or.inl ⟨h0, by omega, Lib.hid HT⟩)
      · rw [if_neg h0] at HT; exact Or.inr (Or.inr ⟨by omega, Lib.hid HT⟩)
    clear HT hl
    go_enter Tryd.func4, Tryd.ntmps4
    go_wp2_with fail
    refine (textN HN.out HTT.out _ V).mono ?_; rintro e w1 ⟨rfl, hb1⟩
    replace V := V.on hb1 (Nat.le_refl _)
    rcases hcs with ⟨h0, h1, HR⟩ | ⟨h0, h1, HR⟩ | ⟨h0, HR⟩
    all_goals
      go_wp2_with fail
      refine (readN t hts.out HR.out _ V).mono ?_; rintro e w2 ⟨rfl, hb2⟩
      replace V := V.on hb2 (Nat.le_refl _)
      replace hb1 := hb1.trans (hb2.mono hb1.size); clear hb2
      go_wp2_with fail
      refine (readN s HS.out HYF.out _ V).mono ?_; rintro e w3 ⟨rfl, hb2⟩
      replace V := V.on hb2 (Nat.le_refl _)
      replace hb1 := hb1.trans (hb2.mono hb1.size); clear hb2
      go_wp2_with fail
      (have hf : f = 0 := ‹f = 0›
       refine (textN (s := s) HY.out (by rw [(HYT.out hf).1]) _ V).mono ?_; rintro e w4 ⟨rfl, hb2⟩
       replace V := V.on hb2 (Nat.le_refl _)
       replace hb1 := hb1.trans (hb2.mono hb1.size); clear hb2
       go_wp2_with fail)
      all_goals
        refine (known_any _ V).mono ?_; rintro e w5 ⟨rfl, hb2⟩
        go_wp2
        go_ret
        exact ⟨rfl, hb1.trans (hb2.mono hb1.size)⟩
  · have hl' : 1000 < (s.size : Int) := by omega
    go_enter Tryd.func4, Tryd.ntmps4
    go_wp2_with fail
    refine (known_any _ V).mono ?_; rintro e w1 ⟨rfl, hb1⟩
    go_wp2
    go_ret
    exact ⟨rfl, hb1⟩
end Go.Proofs.YtggbnjdbbomjoaaDoor
