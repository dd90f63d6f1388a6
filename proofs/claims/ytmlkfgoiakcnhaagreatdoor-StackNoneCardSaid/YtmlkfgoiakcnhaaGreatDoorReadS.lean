/- The law's reader of a text: a tree comes back, whatever the text; over contracts of the reference's lexer and reader. -/
import Derived.Test.YtmlkfgoiakcnhaaGreatDoorStO
import Derived.Test.YtmlkfgoiakcnhaaGreatDoorPStackNonex0
import Derived.Lib.ConvBytes
namespace Go.Proofs.YtmlkfgoiakcnhaaGreatDoor
set_option linter.unusedSimpArgs false
open Go Go.RowKit Go.Proofs.YtmlkfgoiakcnhaaGreatDoorW.PrintWords Go.Proofs.YtmlkfgoiakcnhaaGreatDoor.PStackNone
/-- some tree -/
def SomeTree (v : Value) : Prop := ∃ x0 x1 x2 x3 A n c, v = .agg #[.bool x0, .int .u8 x1, .string x2, .int .i64 x3, .slice A n c]
/-- what is asked of the lexer at a text, and of the reader at its tokens -/
structure Lexed (s : ByteArray) (ts : List S43) : Prop where
  tok : ∀ (A : Option Addr) (c : Nat) (W : World), Kd.C (Kd.int .u8) W A (bytesOf s).length (bytesOf s) → (bytesOf s).length ≤ c → Calls Tryz.prog 24 #[.slice A (bytesOf s).length c] W fun e w' =>
    ∃ (v0 : Value) (r2 r3 : Int), e = .returned (.tuple #[v0, .int .i64 r2, .int .i64 r3]) ∧ Kd.R k43 43 w' W.heap.size (fun _ => True) v0 ts ∧ Below W.heap.size W w'
  nxt : ∀ (A : Option Addr) (c : Nat) (W : World), Kd.C k43 W A ts.length ts → ts.length ≤ c → Calls Tryz.prog 25 #[.slice A ts.length c, .int .i64 0] W fun e w' =>
    ∃ (x0 : Bool) (x1 : Int) (x2 : ByteArray) (x3 : Int) (A4 : Option Addr) (n4 c4 : Nat) (r6 r7 : Int), e = .returned (.tuple #[.agg #[.bool x0, .int .u8 x1, .string x2, .int .i64 x3, .slice A4 n4 c4], .int .i64 r6, .int .i64 r7]) ∧ Below W.heap.size W w'
theorem bytesOf_len (s : ByteArray) : (bytesOf s).length = s.size := by
  simp [bytesOf]
theorem tok_bytes {s : ByteArray} (hs : s.size ≤ 9223372036854775807) {ts : List S43} (hx : Lexed s ts) (W : World) (g : Nat) (hg : g = W.heap.size) : Calls Tryz.prog 24 #[.slice (some ⟨g, 0, none⟩) s.size (grownCap W s.size 0 5)] (Lib.bytesWorld W 5 s) fun e w' =>
    ∃ (v0 : Value) (r2 r3 : Int), e = .returned (.tuple #[v0, .int .i64 r2, .int .i64 r3]) ∧ (∃ A c, v0 = .slice A ts.length c ∧ ts.length ≤ c ∧ Kd.C k43 w' A ts.length ts) ∧ Below (Lib.bytesWorld W 5 s).heap.size (Lib.bytesWorld W 5 s) w' := by
  subst hg
  have hbl := bytesOf_len s
  have hr := bytes_reads W 5 s hs
  have hC : Kd.C (Kd.int .u8) (Lib.bytesWorld W 5 s) (some ⟨W.heap.size, 0, none⟩) (bytesOf s).length (bytesOf s) := Kd.C_of_reads (enc := Value.int .u8) (d := (0 : Int)) (h1 := fun _ => rfl) (by rw [hbl]; exact hr)
  have ht := hx.tok _ (grownCap W s.size 0 5) _ hC (by rw [hbl]; exact grownCap_ge W s.size 0 5)
  rw [hbl] at ht
  refine ht.mono ?_
  rintro e w' ⟨v0, r2, r3, he, hR, hb⟩
  exact ⟨v0, r2, r3, he, Kd.R_reads hR, hb⟩
set_option maxRecDepth 100000 in
set_option maxHeartbeats 1000000 in
theorem read_of (s : ByteArray) (hs : s.size ≤ 9223372036854775807) (ts : List S43) (hx : Lexed s ts) (w : World) : Calls Tryz.prog 7 #[.string s] w fun e w' => (∃ v, e = .returned v ∧ SomeTree v) ∧ Below w.heap.size w w' := by
  have hcv := fun w : World => Lib.run_convert_string_bytes (P := Tryz.prog) w 9 25 5 s Tryz.underlying9 Tryz.underlying25 Tryz.underlying5
  have HT := Lib.hid (fun W g hg => tok_bytes hs hx W g hg)
  have HX := Lib.hid (fun A c W => hx.nxt A c W)
  clear hx
  go_enter Tryz.func7, Tryz.ntmps7
  go_wp2_with fail
  refine (HT.out _ _ (by simp)).mono ?_
  clear HT
  rintro e w1 ⟨v0, r2, r3, rfl, ⟨A, c, rfl, hc, hC⟩, hb1⟩
  have hB1 := (bytes_below (Below.refl (w.heap.size + 1) (w.alloc (.cells #[.bool false, .int .u8 0, .string ⟨#[]⟩, .int .i64 0, .slice none 0 0] 46))) (by simp) 5 s).trans (hb1.mono (by rw [Lib.bytesWorld_size]; simp))
  have k0 := hB1.cell (p := ⟨w.heap.size, 0, none⟩) (by simp); have k1 := hB1.cell (p := ⟨w.heap.size, 1, none⟩) (by simp); have k2 := hB1.cell (p := ⟨w.heap.size, 2, none⟩) (by simp); have k3 := hB1.cell (p := ⟨w.heap.size, 3, none⟩) (by simp); have k4 := hB1.cell (p := ⟨w.heap.size, 4, none⟩) (by simp)
  have f0 := hB1.frozen (p := ⟨w.heap.size, 0, none⟩) (by simp); have f1 := hB1.frozen (p := ⟨w.heap.size, 1, none⟩) (by simp); have f2 := hB1.frozen (p := ⟨w.heap.size, 2, none⟩) (by simp); have f3 := hB1.frozen (p := ⟨w.heap.size, 3, none⟩) (by simp); have f4 := hB1.frozen (p := ⟨w.heap.size, 4, none⟩) (by simp)
  simp at k0 k1 k2 k3 k4 f0 f1 f2 f3 f4
  have zn : w.heap.size < w1.heap.size := by have := hB1.size; simp at this; omega
  have hbz : Below w.heap.size w w1 := ((Below.refl w.heap.size w).alloc (Nat.le_refl _) _).trans (hB1.mono (by omega))
  clear hb1 hB1 hcv
  go_wp2_with fail
  refine (HX.out _ _ _ hC hc).mono ?_
  clear HX hC hc
  rintro e w2 ⟨x0, x1, x2, x3, A4, n4, c4, r6, r7, rfl, hb2⟩
  have zm := Nat.lt_of_lt_of_le zn hb2.size
  replace k0 := (hb2.cell (p := ⟨w.heap.size, 0, none⟩) zn).trans k0; replace k1 := (hb2.cell (p := ⟨w.heap.size, 1, none⟩) zn).trans k1; replace k2 := (hb2.cell (p := ⟨w.heap.size, 2, none⟩) zn).trans k2; replace k3 := (hb2.cell (p := ⟨w.heap.size, 3, none⟩) zn).trans k3; replace k4 := (hb2.cell (p := ⟨w.heap.size, 4, none⟩) zn).trans k4
  replace f0 := (hb2.frozen (p := ⟨w.heap.size, 0, none⟩) zn).trans f0; replace f1 := (hb2.frozen (p := ⟨w.heap.size, 1, none⟩) zn).trans f1; replace f2 := (hb2.frozen (p := ⟨w.heap.size, 2, none⟩) zn).trans f2; replace f3 := (hb2.frozen (p := ⟨w.heap.size, 3, none⟩) zn).trans f3; replace f4 := (hb2.frozen (p := ⟨w.heap.size, 4, none⟩) zn).trans f4
  replace hbz := hbz.trans (hb2.mono (by omega))
  have zb : w.heap.size ≠ w2.heap.size := by omega
  clear hb2
  by_cases hr : r7 = 0
  · subst hr
    go_wp2_with fail
    refine bodyPost_ret (v := .agg #[.bool x0, .int .u8 x1, .string x2, .int .i64 x3, .slice A4 n4 c4]) ?_ rfl ⟨⟨_, rfl, x0, x1, x2, x3, A4, n4, c4, rfl⟩, ?_⟩
    · refine results_cells Tryz.results7 _ (by rfl) [.bool x0, .int .u8 x1, .string x2, .int .i64 x3, .slice A4 n4 c4] _ Tryz.underlying46 rfl (by kernel_rfl) ?_
      intro j v hv
      match j, hv with
      | 0, hv => simp at hv; subst hv; simp [go_sem, zb, zb.symm, k0, k1, k2, k3, k4, zm]
      | 1, hv => simp at hv; subst hv; simp [go_sem, zb, zb.symm, k0, k1, k2, k3, k4, zm]
      | 2, hv => simp at hv; subst hv; simp [go_sem, zb, zb.symm, k0, k1, k2, k3, k4, zm]
      | 3, hv => simp at hv; subst hv; simp [go_sem, zb, zb.symm, k0, k1, k2, k3, k4, zm]
      | 4, hv => simp at hv; subst hv; simp [go_sem, zb, zb.symm, k0, k1, k2, k3, k4, zm]
      | j + 5, hv => simp at hv
    · (repeat (first | (with_reducible exact Below.refl _ _) | ((with_reducible refine Below.alloc ?_ ?_ _); rotate_left; focus (first | (simp; done) | (simp; omega) | (have q0 := hbz.size; (try simp at q0); (try simp); omega))) | ((with_reducible refine Below.setCell ?_ ?_ _); rotate_left; focus (first | (simp; done) | (simp; omega) | (have q0 := hbz.size; (try simp at q0); (try simp); omega))) | (with_reducible refine Below.drew ?_) | (with_reducible refine Below.drewN' ?_ _) | (with_reducible refine Below.trans ?_ (hbz.mono ?_); rotate_left; focus (first | (simp; done) | (simp; omega) | (have q0 := hbz.size; (try simp at q0); (try simp); omega)))))
  · go_wp2_with fail
    refine bodyPost_ret (v := .agg #[.bool false, .int .u8 0, .string ⟨#[]⟩, .int .i64 0, .slice none 0 0]) ?_ rfl ⟨⟨_, rfl, _, _, _, _, _, _, _, rfl⟩, ?_⟩
    · refine results_cells Tryz.results7 _ (by rfl) [.bool false, .int .u8 0, .string ⟨#[]⟩, .int .i64 0, .slice none 0 0] _ Tryz.underlying46 rfl (by kernel_rfl) ?_
      intro j v hv
      match j, hv with
      | 0, hv => simp at hv; subst hv; simp [go_sem, zb, zb.symm, k0, k1, k2, k3, k4, zm]
      | 1, hv => simp at hv; subst hv; simp [go_sem, zb, zb.symm, k0, k1, k2, k3, k4, zm]
      | 2, hv => simp at hv; subst hv; simp [go_sem, zb, zb.symm, k0, k1, k2, k3, k4, zm]
      | 3, hv => simp at hv; subst hv; simp [go_sem, zb, zb.symm, k0, k1, k2, k3, k4, zm]
      | 4, hv => simp at hv; subst hv; simp [go_sem, zb, zb.symm, k0, k1, k2, k3, k4, zm]
      | j + 5, hv => simp at hv
    · (repeat (first | (with_reducible exact Below.refl _ _) | ((with_reducible refine Below.alloc ?_ ?_ _); rotate_left; focus (first | (simp; done) | (simp; omega) | (have q0 := hbz.size; (try simp at q0); (try simp); omega))) | ((with_reducible refine Below.setCell ?_ ?_ _); rotate_left; focus (first | (simp; done) | (simp; omega) | (have q0 := hbz.size; (try simp at q0); (try simp); omega))) | (with_reducible refine Below.drew ?_) | (with_reducible refine Below.drewN' ?_ _) | (with_reducible refine Below.trans ?_ (hbz.mono ?_); rotate_left; focus (first | (simp; done) | (simp; omega) | (have q0 := hbz.size; (try simp at q0); (try simp); omega)))))
end Go.Proofs.YtmlkfgoiakcnhaaGreatDoor
