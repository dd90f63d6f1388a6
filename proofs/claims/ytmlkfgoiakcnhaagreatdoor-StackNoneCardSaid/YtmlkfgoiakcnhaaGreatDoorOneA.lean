/- The reference's lexer: the token at a place. -/
import Derived.Test.YtmlkfgoiakcnhaaGreatDoorPStackNonex5d
import Derived.Test.YtmlkfgoiakcnhaaGreatDoorStO
import Derived.Laws.Concat
namespace Go.Proofs.YtmlkfgoiakcnhaaGreatDoor
set_option linter.unusedSimpArgs false
open Go Go.RowKit Go.Proofs.YtmlkfgoiakcnhaaGreatDoorW.PrintWords Go.Proofs.YtmlkfgoiakcnhaaGreatDoorW.PrintLast Go.Proofs.YtmlkfgoiakcnhaaGreatDoorW.PrintMore Go.Proofs.YtmlkfgoiakcnhaaGreatDoor.PStackNone
/-- a result in cells, and two more -/
theorem results_ctt' {P : Program} {fn : Func} {p q r ty : Nat} (h : fn.results = #[.cell p ty, .tmp q, .tmp r]) (tmps : Array Value) {b : Nat} (hp : tmps.getD p undef = .pointer (some ⟨b, 0, none⟩)) {w : World} (vs : List Value) (d : TypeDesc) {v1 v2 : Value} (h1 : tmps.getD q undef = v1) (h2 : tmps.getD r undef = v2)
    (hu : P.underlying ty = some d) (hd : (match d with | .struct _ | .array _ _ => true | _ => false) = true) (hi : (P.info? ty).map (·.size) = some vs.length) (hc : CellsAt w b 0 vs) : (results fn tmps).run P w = .ok (.tuple #[.agg vs.toArray, v1, v2]) w := by
  have hp' : tmps[p]?.getD undef = .pointer (some ⟨b, 0, none⟩) := by simpa using hp
  have h1' : tmps[q]?.getD undef = v1 := by simpa using h1
  have h2' : tmps[r]?.getD undef = v2 := by simpa using h2
  have hl := run_loadVar_cells (P := P) ty b 0 vs d hu hd hi hc
  simp [results, h, hp', h1', h2', asAddr, hl]
theorem cells3 {w : World} {b : Nat} {u v x : Value} (h0 : w.cell? ⟨b, 0, none⟩ = some u) (h1 : w.cell? ⟨b, 1, none⟩ = some v) (h2 : w.cell? ⟨b, 2, none⟩ = some x) : CellsAt w b 0 [u, v, x] := by
  intro j y hy
  match j, hy with
  | 0, hy => simp at hy; subst hy; simpa using h0
  | 1, hy => simp at hy; subst hy; simpa using h1
  | 2, hy => simp at hy; subst hy; simpa using h2
  | j + 3, hy => simp at hy
/-- a text out of bytes, cut -/
theorem cut_string {w : World} {A : Option Addr} {c0 : Nat} {l0 : List Int} (hr0 : Kd.C (Kd.int .u8) w A l0.length l0) (hc0 : l0.length ≤ c0) (lo hi : Int) (h0 : 0 ≤ lo) (h1 : lo ≤ hi) (h2 : hi ≤ l0.length) :
    ∃ A' n' c', (∀ W : World, (Instr.slice 25 (.slice A l0.length c0) (some (.int .i64 lo)) (some (.int .i64 hi)) none).run Tryz.prog W = .ok (.slice A' n' c') W) ∧
      ∀ W, Below w.heap.size w W → (convert 25 9 (.slice A' n' c')).run Tryz.prog W = .ok (.string (strOfNums ((l0.take hi.toNat).drop lo.toNat))) W := by
  obtain ⟨i0, hi0, _, hsz, _⟩ := info_parts info5
  obtain ⟨A', hcut, hA, hC⟩ := print_mid_of (P := Tryz.prog) (Value.int .u8) 0 25 5 .i64 .i64 Tryz.underlying25 hi0 hsz A c0 l0 lo hi h0 h1 h2 hc0
  have hR := Kd.C_of_reads (h1 := fun _ => rfl) (hA _ (Kd.reads_of_C hr0))
  exact ⟨A', _, _, hcut, fun W hb => Kd.C_string Tryz.underlying25 Tryz.underlying5 Tryz.underlying9 (Kd.C_below hR hb)⟩
section
variable {P : Program} {w : World} {ops : Array Oper} {rest : List Oper} {o : Oper} {a : Act} {Q : Exit → Act → World → Prop}
/-- two texts, one behind the other -/
theorem wp_add_str (hg : o.guard = none) (x y : Operand) (t yt : TypeId) (hop : o.op = .binOp .add t x y yt) (s1 s2 s3 : ByteArray) (hx : a.eval x = .string s1) (hy : a.eval y = .string s2) (hs : s1.size + s2.size ≤ 9223372036854775807) (h3 : s1 ++ s2 = s3)
    (hK : wpList P ops Q rest (a.put o.dst (.string s3)) w) : wpList P ops Q (o :: rest) a w := by
  refine wpList_plain hg fun K' hK' => ?_
  subst h3
  have hr : (binOp .add t (.string s1) (.string s2)).run P w = .ok (.string (s1 ++ s2)) w := run_string_add_sum w s1 s2 hs
  have hgu : (eqGuard .add t x y (.string s1) (.string s2)).run P w = .ok () w := by simp [eqGuard]
  unfold Oper.wp
  simp only [execOp, hop, hx, hy, Sem.run_bind, hgu, hr, Result.andThen_ok, Sem.run_pure]
  exact hK' _ _ hK
end
/-- what is known at a place of the text -/
structure AtP (w : World) (ad : Addr) (c0 : Nat) (l0 : List Int) (a1 : Int) : Prop where
  lo : (0 ≤ a1) = True
  hi : (a1 < (l0.length : Int)) = True
  at0 : (w.alloc (.cells #[.int .u8 0, .string ⟨#[]⟩, .int .i64 0] 43)).cell? (ad.add a1.toNat) = some (.int .u8 (rd l0 a1))
/-- what a word's text is -/
def wordR (dg nu de : Bool) (n : Int) : Int × Int × Int := if dg then (if nu then (4, n, 0) else if de then (7, n, 0) else (0, 0, 5)) else (3, n, 0)
set_option maxRecDepth 100000 in
set_option maxHeartbeats 2000000 in
theorem one_word (k : Nat) (ad : Addr) (c0 : Nat) (l0 : List Int) (a1 q n : Int) (tx : ByteArray) (w : World) (hat : AtP w ad c0 l0 a1) (c5b : (rd l0 a1 == 40) = false) (c6b : (rd l0 a1 == 41) = false) (c7b : (rd l0 a1 == 124) = false) (c8b : (rd l0 a1 == 34) = false)
    (h58 : (rd l0 a1 == 58) = false) (h35 : (rd l0 a1 == 35) = false) (hqi : IntKind.i64.wrap (a1 + n) = q) (hnb : (n == 0) = false)
    (hw : ∀ W, Below w.heap.size w W → Calls Tryz.prog 68 #[.slice (some ad) l0.length c0, .int .i64 a1] W fun e w' => e = .returned (.int .i64 n) ∧ Drawn0 W w')
    (A' : Option Addr) (n' c' : Nat) (hcut : ∀ W : World, (Instr.slice 25 (.slice (some ad) l0.length c0) (some (.int .i64 a1)) (some (.int .i64 q)) none).run Tryz.prog W = .ok (.slice A' n' c') W)
    (hcv0 : ∀ W, Below w.heap.size w W → (convert 25 9 (.slice A' n' c')).run Tryz.prog W = .ok (.string tx) W) (dg nu de : Bool) (hdg : juristref03_digit.f (rd l0 a1) = some dg) (hnu : dg = true → juristref03_numeral.f k tx = some nu) (hde : dg = true → nu = false → juristref03_decimal.f k tx = some de) :
    Calls Tryz.prog 43 #[.slice (some ad) l0.length c0, .int .i64 a1] w fun e w' => e = .returned (.tuple #[.agg #[.int .u8 (wordR dg nu de n).1, .string tx, .int .i64 a1], .int .i64 (wordR dg nu de n).2.1, .int .i64 (wordR dg nu de n).2.2]) ∧ Below w.heap.size w w' := by
  obtain ⟨p130, q130, hxa⟩ := hat
  have HW := Lib.hid hw
  have HCV := Lib.hid hcv0
  have HDG := Lib.hid (fun W => juristref03_digit.calls (rd l0 a1) dg W hdg)
  have HNU := Lib.hid (fun (h : dg = true) W => juristref03_numeral.calls k tx nu W (hnu h))
  have HDE := Lib.hid (fun (h : dg = true) (h' : nu = false) W => juristref03_decimal.calls k tx de W (hde h h'))
  clear hw hcv0 hnu hdg hde
  go_enter Tryz.func43, Tryz.ntmps43
  go_wp2_with fail
  refine (HW.out _ (by (repeat (first | (with_reducible exact Below.refl _ _) | ((with_reducible refine Below.alloc ?_ ?_ _); rotate_left; focus (first | (simp; done) | (simp; omega))) | ((with_reducible refine Below.setCell ?_ ?_ _); rotate_left; focus (first | (simp; done) | (simp; omega))) | (with_reducible refine Below.drew ?_) | (with_reducible refine Below.drewN' ?_ _))))).mono ?_
  rintro e w1 ⟨rfl, hdr⟩
  have hb1 := hdr.below
  clear hdr
  obtain ⟨hc1, hf1⟩ := bcell hb1
  have k0' := hc1 w.heap.size 0 (by first | omega | (simp; done) | (simp; omega))
  have k1' := hc1 w.heap.size 1 (by first | omega | (simp; done) | (simp; omega))
  have k2' := hc1 w.heap.size 2 (by first | omega | (simp; done) | (simp; omega))
  have m0' := hc1 (w.heap.size + 1) 0 (by first | omega | (simp; done) | (simp; omega))
  have m1' := hc1 (w.heap.size + 1) 1 (by first | omega | (simp; done) | (simp; omega))
  have m2' := hc1 (w.heap.size + 1) 2 (by first | omega | (simp; done) | (simp; omega))
  have f0' := hf1 w.heap.size 0 (by first | omega | (simp; done) | (simp; omega))
  have f1' := hf1 w.heap.size 1 (by first | omega | (simp; done) | (simp; omega))
  have f2' := hf1 w.heap.size 2 (by first | omega | (simp; done) | (simp; omega))
  have e0' := hf1 (w.heap.size + 1) 0 (by first | omega | (simp; done) | (simp; omega))
  have e1' := hf1 (w.heap.size + 1) 1 (by first | omega | (simp; done) | (simp; omega))
  have e2' := hf1 (w.heap.size + 1) 2 (by first | omega | (simp; done) | (simp; omega))
  simp [go_sem] at k0' k1' k2' m0' m1' m2' f0' f1' f2' e0' e1' e2'
  have hbz : Below w.heap.size w w1 := by (repeat (first | (with_reducible exact Below.refl _ _) | ((with_reducible refine Below.alloc ?_ ?_ _); rotate_left; focus (first | (simp; done) | (simp; omega) | (have q0 := hb1.size; (try simp at q0); (try simp); omega))) | ((with_reducible refine Below.setCell ?_ ?_ _); rotate_left; focus (first | (simp; done) | (simp; omega) | (have q0 := hb1.size; (try simp at q0); (try simp); omega))) | (with_reducible refine Below.drew ?_) | (with_reducible refine Below.drewN' ?_ _) | (with_reducible refine Below.trans ?_ (hb1.mono ?_); rotate_left; focus (first | (simp; done) | (simp; omega) | (have q0 := hb1.size; (try simp at q0); (try simp); omega)))))
  have zn : w.heap.size < w1.heap.size := by have := hb1.size; (try simp at this); omega
  have zm : w.heap.size + 1 < w1.heap.size := by have := hb1.size; (try simp at this); omega
  clear hb1 hc1 hf1
  have k0 := k0'
  have k1 := k1'
  have k2 := k2'
  have m0 := m0'
  have m1 := m1'
  have m2 := m2'
  have f0 := f0'
  have f1 := f1'
  have f2 := f2'
  have e0 := e0'
  have e1 := e1'
  have e2 := e2'
  clear k0' k1' k2' m0' m1' m2' f0' f1' f2' e0' e1' e2'
  have hcv := HCV.out w1 hbz
  clear HW HCV hxa
  go_wp2_with fail
  refine (HDG.out _).mono ?_
  rintro e w2 ⟨rfl, hdr⟩
  have hb1 := hdr.below
  clear hdr
  obtain ⟨hc1, hf1⟩ := bcell hb1
  have k0' := hc1 w.heap.size 0 (by first | omega | (simp; done) | (simp; omega))
  have k1' := hc1 w.heap.size 1 (by first | omega | (simp; done) | (simp; omega))
  have k2' := hc1 w.heap.size 2 (by first | omega | (simp; done) | (simp; omega))
  have m0' := hc1 (w.heap.size + 1) 0 (by first | omega | (simp; done) | (simp; omega))
  have m1' := hc1 (w.heap.size + 1) 1 (by first | omega | (simp; done) | (simp; omega))
  have m2' := hc1 (w.heap.size + 1) 2 (by first | omega | (simp; done) | (simp; omega))
  have f0' := hf1 w.heap.size 0 (by first | omega | (simp; done) | (simp; omega))
  have f1' := hf1 w.heap.size 1 (by first | omega | (simp; done) | (simp; omega))
  have f2' := hf1 w.heap.size 2 (by first | omega | (simp; done) | (simp; omega))
  have e0' := hf1 (w.heap.size + 1) 0 (by first | omega | (simp; done) | (simp; omega))
  have e1' := hf1 (w.heap.size + 1) 1 (by first | omega | (simp; done) | (simp; omega))
  have e2' := hf1 (w.heap.size + 1) 2 (by first | omega | (simp; done) | (simp; omega))
  (try simp [go_sem, k0, k1, k2, m0, m1, m2, f0, f1, f2, e0, e1, e2] at k0' k1' k2' m0' m1' m2' f0' f1' f2' e0' e1' e2')
  have hbz' : Below w.heap.size w w2 := by (repeat (first | (with_reducible exact Below.refl _ _) | ((with_reducible refine Below.alloc ?_ ?_ _); rotate_left; focus (first | (simp; done) | (simp; omega) | (have q0 := hb1.size; (try simp at q0); have q1 := hbz.size; (try simp at q1); (try simp); omega))) | ((with_reducible refine Below.setCell ?_ ?_ _); rotate_left; focus (first | (simp; done) | (simp; omega) | (have q0 := hb1.size; (try simp at q0); have q1 := hbz.size; (try simp at q1); (try simp); omega))) | (with_reducible refine Below.drew ?_) | (with_reducible refine Below.drewN' ?_ _) | (with_reducible refine Below.trans ?_ (hb1.mono ?_); rotate_left; focus (first | (simp; done) | (simp; omega) | (have q0 := hb1.size; (try simp at q0); have q1 := hbz.size; (try simp at q1); (try simp); omega))) | (with_reducible refine Below.trans ?_ (hbz.mono ?_); rotate_left; focus (first | (simp; done) | (simp; omega) | (have q0 := hb1.size; (try simp at q0); have q1 := hbz.size; (try simp at q1); (try simp); omega)))))
  have zn' : w.heap.size < w2.heap.size := by have := hb1.size; (try simp at this); omega
  have zm' : w.heap.size + 1 < w2.heap.size := by have := hb1.size; (try simp at this); omega
  clear hb1 hc1 hf1
  clear k0 k1 k2 m0 m1 m2 f0 f1 f2 e0 e1 e2 hbz zn zm
  replace hbz := hbz'; replace zn := zn'; replace zm := zm'; clear hbz' zn' zm'
  have k0 := k0'
  have k1 := k1'
  have k2 := k2'
  have m0 := m0'
  have m1 := m1'
  have m2 := m2'
  have f0 := f0'
  have f1 := f1'
  have f2 := f2'
  have e0 := e0'
  have e1 := e1'
  have e2 := e2'
  clear k0' k1' k2' m0' m1' m2' f0' f1' f2' e0' e1' e2'
  clear hcv hcut HDG
  cases dg
  · go_wp2_with fail
    refine bodyPost_ret (v := .tuple #[.agg #[.int .u8 3, .string tx, .int .i64 a1], .int .i64 n, .int .i64 0]) ?_ rfl ⟨rfl, ?_⟩
    · refine results_ctt' Tryz.results43 _ (by rfl) [.int .u8 3, .string tx, .int .i64 a1] _ (by rfl) (by rfl) Tryz.underlying43 rfl (by kernel_rfl) (cells3 (by simp [go_sem, k0, k1, k2, m0, m1, m2]) (by simp [go_sem, k0, k1, k2, m0, m1, m2]) (by simp [go_sem, k0, k1, k2, m0, m1, m2]))
    · (repeat (first | (with_reducible exact Below.refl _ _) | ((with_reducible refine Below.alloc ?_ ?_ _); rotate_left; focus (first | (simp; done) | (simp; omega) | (have q0 := hbz.size; (try simp at q0); (try simp); omega))) | ((with_reducible refine Below.setCell ?_ ?_ _); rotate_left; focus (first | (simp; done) | (simp; omega) | (have q0 := hbz.size; (try simp at q0); (try simp); omega))) | (with_reducible refine Below.drew ?_) | (with_reducible refine Below.drewN' ?_ _) | (with_reducible refine Below.trans ?_ (hbz.mono ?_); rotate_left; focus (first | (simp; done) | (simp; omega) | (have q0 := hbz.size; (try simp at q0); (try simp); omega)))))
  · go_wp2_with fail
    refine (HNU.out (by first | rfl | trivial) _).mono ?_
    rintro e w3 ⟨rfl, hdr⟩
    have hb1 := hdr.below
    clear hdr
    obtain ⟨hc1, hf1⟩ := bcell hb1
    have k0' := hc1 w.heap.size 0 (by first | omega | (simp; done) | (simp; omega))
    have k1' := hc1 w.heap.size 1 (by first | omega | (simp; done) | (simp; omega))
    have k2' := hc1 w.heap.size 2 (by first | omega | (simp; done) | (simp; omega))
    have m0' := hc1 (w.heap.size + 1) 0 (by first | omega | (simp; done) | (simp; omega))
    have m1' := hc1 (w.heap.size + 1) 1 (by first | omega | (simp; done) | (simp; omega))
    have m2' := hc1 (w.heap.size + 1) 2 (by first | omega | (simp; done) | (simp; omega))
    have f0' := hf1 w.heap.size 0 (by first | omega | (simp; done) | (simp; omega))
    have f1' := hf1 w.heap.size 1 (by first | omega | (simp; done) | (simp; omega))
    have f2' := hf1 w.heap.size 2 (by first | omega | (simp; done) | (simp; omega))
    have e0' := hf1 (w.heap.size + 1) 0 (by first | omega | (simp; done) | (simp; omega))
    have e1' := hf1 (w.heap.size + 1) 1 (by first | omega | (simp; done) | (simp; omega))
    have e2' := hf1 (w.heap.size + 1) 2 (by first | omega | (simp; done) | (simp; omega))
    (try simp [go_sem, k0, k1, k2, m0, m1, m2, f0, f1, f2, e0, e1, e2] at k0' k1' k2' m0' m1' m2' f0' f1' f2' e0' e1' e2')
    have hbz' : Below w.heap.size w w3 := by (repeat (first | (with_reducible exact Below.refl _ _) | ((with_reducible refine Below.alloc ?_ ?_ _); rotate_left; focus (first | (simp; done) | (simp; omega) | (have q0 := hb1.size; (try simp at q0); have q1 := hbz.size; (try simp at q1); (try simp); omega))) | ((with_reducible refine Below.setCell ?_ ?_ _); rotate_left; focus (first | (simp; done) | (simp; omega) | (have q0 := hb1.size; (try simp at q0); have q1 := hbz.size; (try simp at q1); (try simp); omega))) | (with_reducible refine Below.drew ?_) | (with_reducible refine Below.drewN' ?_ _) | (with_reducible refine Below.trans ?_ (hb1.mono ?_); rotate_left; focus (first | (simp; done) | (simp; omega) | (have q0 := hb1.size; (try simp at q0); have q1 := hbz.size; (try simp at q1); (try simp); omega))) | (with_reducible refine Below.trans ?_ (hbz.mono ?_); rotate_left; focus (first | (simp; done) | (simp; omega) | (have q0 := hb1.size; (try simp at q0); have q1 := hbz.size; (try simp at q1); (try simp); omega)))))
    have zn' : w.heap.size < w3.heap.size := by have := hb1.size; (try simp at this); omega
    have zm' : w.heap.size + 1 < w3.heap.size := by have := hb1.size; (try simp at this); omega
    clear hb1 hc1 hf1
    clear k0 k1 k2 m0 m1 m2 f0 f1 f2 e0 e1 e2 hbz zn zm
    replace hbz := hbz'; replace zn := zn'; replace zm := zm'; clear hbz' zn' zm'
    have k0 := k0'
    have k1 := k1'
    have k2 := k2'
    have m0 := m0'
    have m1 := m1'
    have m2 := m2'
    have f0 := f0'
    have f1 := f1'
    have f2 := f2'
    have e0 := e0'
    have e1 := e1'
    have e2 := e2'
    clear k0' k1' k2' m0' m1' m2' f0' f1' f2' e0' e1' e2'
    clear HNU
    cases nu
    · go_wp2_with fail
      refine (HDE.out (by first | rfl | trivial) (by first | rfl | trivial) _).mono ?_
      rintro e w4 ⟨rfl, hdr⟩
      have hb1 := hdr.below
      clear hdr
      obtain ⟨hc1, hf1⟩ := bcell hb1
      have k0' := hc1 w.heap.size 0 (by first | omega | (simp; done) | (simp; omega))
      have k1' := hc1 w.heap.size 1 (by first | omega | (simp; done) | (simp; omega))
      have k2' := hc1 w.heap.size 2 (by first | omega | (simp; done) | (simp; omega))
      have m0' := hc1 (w.heap.size + 1) 0 (by first | omega | (simp; done) | (simp; omega))
      have m1' := hc1 (w.heap.size + 1) 1 (by first | omega | (simp; done) | (simp; omega))
      have m2' := hc1 (w.heap.size + 1) 2 (by first | omega | (simp; done) | (simp; omega))
      have f0' := hf1 w.heap.size 0 (by first | omega | (simp; done) | (simp; omega))
      have f1' := hf1 w.heap.size 1 (by first | omega | (simp; done) | (simp; omega))
      have f2' := hf1 w.heap.size 2 (by first | omega | (simp; done) | (simp; omega))
      have e0' := hf1 (w.heap.size + 1) 0 (by first | omega | (simp; done) | (simp; omega))
      have e1' := hf1 (w.heap.size + 1) 1 (by first | omega | (simp; done) | (simp; omega))
      have e2' := hf1 (w.heap.size + 1) 2 (by first | omega | (simp; done) | (simp; omega))
      (try simp [go_sem, k0, k1, k2, m0, m1, m2, f0, f1, f2, e0, e1, e2] at k0' k1' k2' m0' m1' m2' f0' f1' f2' e0' e1' e2')
      have hbz' : Below w.heap.size w w4 := by (repeat (first | (with_reducible exact Below.refl _ _) | ((with_reducible refine Below.alloc ?_ ?_ _); rotate_left; focus (first | (simp; done) | (simp; omega) | (have q0 := hb1.size; (try simp at q0); have q1 := hbz.size; (try simp at q1); (try simp); omega))) | ((with_reducible refine Below.setCell ?_ ?_ _); rotate_left; focus (first | (simp; done) | (simp; omega) | (have q0 := hb1.size; (try simp at q0); have q1 := hbz.size; (try simp at q1); (try simp); omega))) | (with_reducible refine Below.drew ?_) | (with_reducible refine Below.drewN' ?_ _) | (with_reducible refine Below.trans ?_ (hb1.mono ?_); rotate_left; focus (first | (simp; done) | (simp; omega) | (have q0 := hb1.size; (try simp at q0); have q1 := hbz.size; (try simp at q1); (try simp); omega))) | (with_reducible refine Below.trans ?_ (hbz.mono ?_); rotate_left; focus (first | (simp; done) | (simp; omega) | (have q0 := hb1.size; (try simp at q0); have q1 := hbz.size; (try simp at q1); (try simp); omega)))))
      have zn' : w.heap.size < w4.heap.size := by have := hb1.size; (try simp at this); omega
      have zm' : w.heap.size + 1 < w4.heap.size := by have := hb1.size; (try simp at this); omega
      clear hb1 hc1 hf1
      clear k0 k1 k2 m0 m1 m2 f0 f1 f2 e0 e1 e2 hbz zn zm
      replace hbz := hbz'; replace zn := zn'; replace zm := zm'; clear hbz' zn' zm'
      have k0 := k0'
      have k1 := k1'
      have k2 := k2'
      have m0 := m0'
      have m1 := m1'
      have m2 := m2'
      have f0 := f0'
      have f1 := f1'
      have f2 := f2'
      have e0 := e0'
      have e1 := e1'
      have e2 := e2'
      clear k0' k1' k2' m0' m1' m2' f0' f1' f2' e0' e1' e2'
      cases de
      · go_wp2_with fail
        refine bodyPost_ret (v := .tuple #[.agg #[.int .u8 0, .string tx, .int .i64 a1], .int .i64 0, .int .i64 5]) ?_ rfl ⟨rfl, ?_⟩
        · refine results_ctt' Tryz.results43 _ (by rfl) [.int .u8 0, .string tx, .int .i64 a1] _ (by rfl) (by rfl) Tryz.underlying43 rfl (by kernel_rfl) (cells3 (by simp [go_sem, k0, k1, k2, m0, m1, m2]) (by simp [go_sem, k0, k1, k2, m0, m1, m2]) (by simp [go_sem, k0, k1, k2, m0, m1, m2]))
        · (repeat (first | (with_reducible exact Below.refl _ _) | ((with_reducible refine Below.alloc ?_ ?_ _); rotate_left; focus (first | (simp; done) | (simp; omega) | (have q0 := hbz.size; (try simp at q0); (try simp); omega))) | ((with_reducible refine Below.setCell ?_ ?_ _); rotate_left; focus (first | (simp; done) | (simp; omega) | (have q0 := hbz.size; (try simp at q0); (try simp); omega))) | (with_reducible refine Below.drew ?_) | (with_reducible refine Below.drewN' ?_ _) | (with_reducible refine Below.trans ?_ (hbz.mono ?_); rotate_left; focus (first | (simp; done) | (simp; omega) | (have q0 := hbz.size; (try simp at q0); (try simp); omega)))))
      · go_wp2_with fail
        refine bodyPost_ret (v := .tuple #[.agg #[.int .u8 7, .string tx, .int .i64 a1], .int .i64 n, .int .i64 0]) ?_ rfl ⟨rfl, ?_⟩
        · refine results_ctt' Tryz.results43 _ (by rfl) [.int .u8 7, .string tx, .int .i64 a1] _ (by rfl) (by rfl) Tryz.underlying43 rfl (by kernel_rfl) (cells3 (by simp [go_sem, k0, k1, k2, m0, m1, m2]) (by simp [go_sem, k0, k1, k2, m0, m1, m2]) (by simp [go_sem, k0, k1, k2, m0, m1, m2]))
        · (repeat (first | (with_reducible exact Below.refl _ _) | ((with_reducible refine Below.alloc ?_ ?_ _); rotate_left; focus (first | (simp; done) | (simp; omega) | (have q0 := hbz.size; (try simp at q0); (try simp); omega))) | ((with_reducible refine Below.setCell ?_ ?_ _); rotate_left; focus (first | (simp; done) | (simp; omega) | (have q0 := hbz.size; (try simp at q0); (try simp); omega))) | (with_reducible refine Below.drew ?_) | (with_reducible refine Below.drewN' ?_ _) | (with_reducible refine Below.trans ?_ (hbz.mono ?_); rotate_left; focus (first | (simp; done) | (simp; omega) | (have q0 := hbz.size; (try simp at q0); (try simp); omega)))))
    · go_wp2_with fail
      refine bodyPost_ret (v := .tuple #[.agg #[.int .u8 4, .string tx, .int .i64 a1], .int .i64 n, .int .i64 0]) ?_ rfl ⟨rfl, ?_⟩
      · refine results_ctt' Tryz.results43 _ (by rfl) [.int .u8 4, .string tx, .int .i64 a1] _ (by rfl) (by rfl) Tryz.underlying43 rfl (by kernel_rfl) (cells3 (by simp [go_sem, k0, k1, k2, m0, m1, m2]) (by simp [go_sem, k0, k1, k2, m0, m1, m2]) (by simp [go_sem, k0, k1, k2, m0, m1, m2]))
      · (repeat (first | (with_reducible exact Below.refl _ _) | ((with_reducible refine Below.alloc ?_ ?_ _); rotate_left; focus (first | (simp; done) | (simp; omega) | (have q0 := hbz.size; (try simp at q0); (try simp); omega))) | ((with_reducible refine Below.setCell ?_ ?_ _); rotate_left; focus (first | (simp; done) | (simp; omega) | (have q0 := hbz.size; (try simp at q0); (try simp); omega))) | (with_reducible refine Below.drew ?_) | (with_reducible refine Below.drewN' ?_ _) | (with_reducible refine Below.trans ?_ (hbz.mono ?_); rotate_left; focus (first | (simp; done) | (simp; omega) | (have q0 := hbz.size; (try simp at q0); (try simp); omega)))))
set_option maxRecDepth 100000 in
set_option maxHeartbeats 2000000 in
theorem one_hash (k : Nat) (ad : Addr) (c0 : Nat) (l0 : List Int) (a1 p q m n : Int) (tx : ByteArray) (w : World) (hat : AtP w ad c0 l0 a1) (c5b : (rd l0 a1 == 40) = false) (c6b : (rd l0 a1 == 41) = false) (c7b : (rd l0 a1 == 124) = false) (c8b : (rd l0 a1 == 34) = false)
    (h58 : (rd l0 a1 == 58) = false) (h35 : (rd l0 a1 == 35) = true) (hpi : IntKind.i64.wrap (a1 + 1) = p) (hqi : IntKind.i64.wrap (p + n) = q) (hmi : IntKind.i64.wrap (n + 1) = m) (hnb : (n == 0) = false)
    (hw : ∀ W, Below w.heap.size w W → Calls Tryz.prog 68 #[.slice (some ad) l0.length c0, .int .i64 p] W fun e w' => e = .returned (.int .i64 n) ∧ Drawn0 W w')
    (A' : Option Addr) (n' c' : Nat) (hcut : ∀ W : World, (Instr.slice 25 (.slice (some ad) l0.length c0) (some (.int .i64 p)) (some (.int .i64 q)) none).run Tryz.prog W = .ok (.slice A' n' c') W)
    (hcv0 : ∀ W, Below w.heap.size w W → (convert 25 9 (.slice A' n' c')).run Tryz.prog W = .ok (.string tx) W) (hnu : juristref03_number.f k tx = some true) (g5 : 1 + tx.size ≤ 9223372036854775807) :
    Calls Tryz.prog 43 #[.slice (some ad) l0.length c0, .int .i64 a1] w fun e w' => e = .returned (.tuple #[.agg #[.int .u8 7, .string ((⟨#[35]⟩ : ByteArray) ++ tx), .int .i64 a1], .int .i64 m, .int .i64 0]) ∧ Below w.heap.size w w' := by
  obtain ⟨p130, q130, hxa⟩ := hat
  have HW := Lib.hid hw
  have HCV := Lib.hid hcv0
  have HNU := Lib.hid (fun W => juristref03_number.calls k tx true W hnu)
  obtain ⟨ty, hty⟩ : ∃ s : ByteArray, (⟨#[35]⟩ : ByteArray) ++ tx = s := ⟨_, rfl⟩
  rw [hty]
  have HTY := Lib.hid hty
  have HS : Hid ((⟨#[35]⟩ : ByteArray).size + tx.size ≤ 9223372036854775807) := Lib.hid (by rw [show (⟨#[35]⟩ : ByteArray).size = 1 from rfl]; exact g5)
  clear hty
  clear hw hcv0 hnu g5
  go_enter Tryz.func43, Tryz.ntmps43
  go_wp2_with fail
  refine (HW.out _ (by (repeat (first | (with_reducible exact Below.refl _ _) | ((with_reducible refine Below.alloc ?_ ?_ _); rotate_left; focus (first | (simp; done) | (simp; omega))) | ((with_reducible refine Below.setCell ?_ ?_ _); rotate_left; focus (first | (simp; done) | (simp; omega))) | (with_reducible refine Below.drew ?_) | (with_reducible refine Below.drewN' ?_ _))))).mono ?_
  rintro e w1 ⟨rfl, ⟨nd, rfl⟩⟩
  have hcv := HCV.out (((w.alloc (.cells #[.int .u8 0, .string ⟨#[]⟩, .int .i64 0] 43)).alloc (.cells #[.int .u8 0, .string ⟨#[]⟩, .int .i64 a1] 43)).drewN nd) (by (repeat (first | (with_reducible exact Below.refl _ _) | ((with_reducible refine Below.alloc ?_ ?_ _); rotate_left; focus (first | (simp; done) | (simp; omega))) | ((with_reducible refine Below.setCell ?_ ?_ _); rotate_left; focus (first | (simp; done) | (simp; omega))) | (with_reducible refine Below.drew ?_) | (with_reducible refine Below.drewN' ?_ _))))
  go_wp2_with fail
  refine (HNU.out _).mono ?_
  rintro e w1 ⟨rfl, hdr⟩
  have hb1 := hdr.below
  clear hdr hcut hcv HCV HNU HW hxa
  obtain ⟨hc1, hf1⟩ := bcell hb1
  have k0 := hc1 w.heap.size 0 (by simp <;> omega); have k1 := hc1 w.heap.size 1 (by simp <;> omega); have k2 := hc1 w.heap.size 2 (by simp <;> omega)
  have m0 := hc1 (w.heap.size + 1) 0 (by simp <;> omega); have m1 := hc1 (w.heap.size + 1) 1 (by simp <;> omega); have m2 := hc1 (w.heap.size + 1) 2 (by simp <;> omega)
  have f0 := hf1 w.heap.size 0 (by simp <;> omega); have f1 := hf1 w.heap.size 1 (by simp <;> omega); have f2 := hf1 w.heap.size 2 (by simp <;> omega)
  have e0 := hf1 (w.heap.size + 1) 0 (by simp <;> omega); have e1 := hf1 (w.heap.size + 1) 1 (by simp <;> omega); have e2 := hf1 (w.heap.size + 1) 2 (by simp <;> omega)
  simp [go_sem] at k0 k1 k2 m0 m1 m2 f0 f1 f2 e0 e1 e2
  have hbz : Below w.heap.size w w1 := by (repeat (first | (with_reducible exact Below.refl _ _) | ((with_reducible refine Below.alloc ?_ ?_ _); rotate_left; focus (first | (simp; done) | (simp; omega) | (have q0 := hb1.size; (try simp at q0); (try simp); omega))) | ((with_reducible refine Below.setCell ?_ ?_ _); rotate_left; focus (first | (simp; done) | (simp; omega) | (have q0 := hb1.size; (try simp at q0); (try simp); omega))) | (with_reducible refine Below.drew ?_) | (with_reducible refine Below.drewN' ?_ _) | (with_reducible refine Below.trans ?_ (hb1.mono ?_); rotate_left; focus (first | (simp; done) | (simp; omega) | (have q0 := hb1.size; (try simp at q0); (try simp); omega)))))
  have zn : w.heap.size < w1.heap.size := by have := hb1.size; simp at this; omega
  have zm : w.heap.size + 1 < w1.heap.size := by have := hb1.size; simp at this; omega
  clear hb1 hc1 hf1
  go_wp2_with (first | ((with_reducible refine gate_dst (N := 90) rfl ?_); refine wp_add_str rfl _ _ _ _ rfl ⟨#[35]⟩ tx ty rfl rfl HS.out HTY.out ?_) | fail)
  refine bodyPost_ret (v := .tuple #[.agg #[.int .u8 7, .string ty, .int .i64 a1], .int .i64 m, .int .i64 0]) ?_ rfl ⟨rfl, ?_⟩
  · refine results_ctt' Tryz.results43 _ (by rfl) [.int .u8 7, .string ty, .int .i64 a1] _ (by rfl) (by rfl) Tryz.underlying43 rfl (by kernel_rfl) (cells3 (by simp [go_sem, k0, k1, k2, m0, m1, m2]) (by simp [go_sem, k0, k1, k2, m0, m1, m2]) (by simp [go_sem, k0, k1, k2, m0, m1, m2]))
  · (repeat (first | (with_reducible exact Below.refl _ _) | ((with_reducible refine Below.alloc ?_ ?_ _); rotate_left; focus (first | (simp; done) | (simp; omega) | (have q0 := hbz.size; (try simp at q0); (try simp); omega))) | ((with_reducible refine Below.setCell ?_ ?_ _); rotate_left; focus (first | (simp; done) | (simp; omega) | (have q0 := hbz.size; (try simp at q0); (try simp); omega))) | (with_reducible refine Below.drew ?_) | (with_reducible refine Below.drewN' ?_ _) | (with_reducible refine Below.trans ?_ (hbz.mono ?_); rotate_left; focus (first | (simp; done) | (simp; omega) | (have q0 := hbz.size; (try simp at q0); (try simp); omega)))))
set_option maxRecDepth 100000 in
set_option maxHeartbeats 8000000 in
theorem one_walk (k : Nat) (A0 : Option Addr) (c0 : Nat) (l0 : List Int) (a1 : Int) (r1 : Int) (r2 : ByteArray) (r3 : Int) (r4 : Int) (r5 : Int) (w : World) (hr0 : Kd.C (Kd.int .u8) w A0 l0.length l0) (hc0 : l0.length ≤ c0) (h : juristref03_One.f k l0 a1 = some (r1, r2, r3, r4, r5)) :
    Calls Tryz.prog 43 #[.slice A0 l0.length c0, .int .i64 a1] w fun e w' => e = .returned (.tuple #[.agg #[.int .u8 r1, .string r2, .int .i64 r3], .int .i64 r4, .int .i64 r5]) ∧ Below w.heap.size w w' := by
  unfold juristref03_One.f at h
  by_cases c3 : 0 ≤ a1
  case neg => rw [if_neg c3] at h; cases h
  by_cases c4 : a1 < (l0.length : Int)
  case neg => rw [if_pos c3, if_neg c4] at h; cases h
  rw [if_pos c3, if_pos c4] at h
  obtain ⟨ad, rfl, hx⟩ := Kd.at_int hr0 a1 c3 c4
  have hx1 : ∀ w1, Below w.heap.size w w1 → w1.cell? (ad.add a1.toNat) = some (.int .u8 (rd l0 a1)) := fun w1 hb => (hb.cell (World.block_lt_of_cell? w _ hx)).trans hx
  have hxa := hx1 _ ((Below.refl _ _).alloc (Nat.le_refl _) (.cells #[.int .u8 0, .string ⟨#[]⟩, .int .i64 0] 43))
  have HC := Lib.hid hr0
  have p130 := eq_true c3
  have q130 := eq_true c4
  have HX := Lib.hid hx1
  clear hr0 hx hx1
  by_cases c5 : rd l0 a1 = 40
  · rw [if_pos c5] at h
    simp only [Option.some.injEq, Prod.mk.injEq] at h
    obtain ⟨rfl, rfl, rfl, rfl, rfl⟩ := h
    have c5b : (rd l0 a1 == 40) = true := beq_iff_eq.mpr c5
    clear c5 HC HX
    go_enter Tryz.func43, Tryz.ntmps43
    go_wp2_with fail
    refine bodyPost_ret (v := .tuple #[.agg #[.int .u8 1, .string ⟨#[40]⟩, .int .i64 a1], .int .i64 1, .int .i64 0]) ?_ rfl ⟨rfl, ?_⟩
    · refine results_ctt' Tryz.results43 _ (by rfl) [.int .u8 1, .string ⟨#[40]⟩, .int .i64 a1] _ (by rfl) (by rfl) Tryz.underlying43 rfl (by kernel_rfl) (cells3 (by simp [go_sem]) (by simp [go_sem]) (by simp [go_sem]))
    · (repeat (first | (with_reducible exact Below.refl _ _) | ((with_reducible refine Below.alloc ?_ ?_ _); rotate_left; focus (first | (simp; done) | (simp; omega))) | ((with_reducible refine Below.setCell ?_ ?_ _); rotate_left; focus (first | (simp; done) | (simp; omega))) | (with_reducible refine Below.drew ?_) | (with_reducible refine Below.drewN' ?_ _)))
  rw [if_neg c5] at h
  have c5b : (rd l0 a1 == 40) = false := beq_eq_false_iff_ne.mpr c5
  by_cases c6 : rd l0 a1 = 41
  · rw [if_pos c6] at h
    simp only [Option.some.injEq, Prod.mk.injEq] at h
    obtain ⟨rfl, rfl, rfl, rfl, rfl⟩ := h
    have c6b : (rd l0 a1 == 41) = true := beq_iff_eq.mpr c6
    clear c5 c6 HC HX
    go_enter Tryz.func43, Tryz.ntmps43
    go_wp2_with fail
    refine bodyPost_ret (v := .tuple #[.agg #[.int .u8 2, .string ⟨#[41]⟩, .int .i64 a1], .int .i64 1, .int .i64 0]) ?_ rfl ⟨rfl, ?_⟩
    · refine results_ctt' Tryz.results43 _ (by rfl) [.int .u8 2, .string ⟨#[41]⟩, .int .i64 a1] _ (by rfl) (by rfl) Tryz.underlying43 rfl (by kernel_rfl) (cells3 (by simp [go_sem]) (by simp [go_sem]) (by simp [go_sem]))
    · (repeat (first | (with_reducible exact Below.refl _ _) | ((with_reducible refine Below.alloc ?_ ?_ _); rotate_left; focus (first | (simp; done) | (simp; omega))) | ((with_reducible refine Below.setCell ?_ ?_ _); rotate_left; focus (first | (simp; done) | (simp; omega))) | (with_reducible refine Below.drew ?_) | (with_reducible refine Below.drewN' ?_ _)))
  rw [if_neg c6] at h
  have c6b : (rd l0 a1 == 41) = false := beq_eq_false_iff_ne.mpr c6
  have hj : juristref03_One.j0 k l0 a1 (rd l0 a1) ((rd l0 a1 == 124) || (rd l0 a1 == 34)) 0 ⟨#[]⟩ a1 = some (r1, r2, r3, r4, r5) := by
    by_cases c7 : rd l0 a1 = 124
    · rw [if_pos c7] at h
      rw [show (rd l0 a1 == 124) = true from beq_iff_eq.mpr c7]
      exact h
    · rw [if_neg c7] at h
      rw [show (rd l0 a1 == 124) = false from beq_eq_false_iff_ne.mpr c7, Bool.false_or]
      exact h
  clear h
  cases k with
  | zero => cases hj
  | succ k =>
  simp only [juristref03_One.j0] at hj
  by_cases cq : ((rd l0 a1 == 124) || (rd l0 a1 == 34)) = true
  · rw [if_pos cq] at hj
    obtain ⟨⟨s, n, er⟩, hq, hj⟩ := Option.bind_eq_some_iff.1 hj
    simp only at hj
    have HQ := Lib.hid hq
    have HN := Lib.hid (show r2 = s ∧ r3 = a1 ∧ r4 = n ∧ r5 = er ∧ r1 = (if rd l0 a1 = 34 then 5 else 3) by
      split at hj <;> (simp only [Option.some.injEq, Prod.mk.injEq] at hj; obtain ⟨rfl, rfl, rfl, rfl, rfl⟩ := hj; simp [*]))
    clear hq hj
    rw [Bool.or_eq_true] at cq
    by_cases c8 : rd l0 a1 = 34
    · have c8b : (rd l0 a1 == 34) = true := beq_iff_eq.mpr c8
      have c7b : (rd l0 a1 == 124) = false := by rw [c8]; rfl
      obtain ⟨rfl, rfl, rfl, rfl, h1⟩ := HN.out
      rw [if_pos c8] at h1
      subst h1
      clear cq c5 c6 c8 HN
      go_enter Tryz.func43, Tryz.ntmps43
      go_wp2_with fail
      refine (juristref03_quoted.calls k (some ad) c0 l0 r3 (rd l0 r3) r2 r4 r5 _ (Kd.C_below HC.out (by (repeat (first | (with_reducible exact Below.refl _ _) | ((with_reducible refine Below.alloc ?_ ?_ _); rotate_left; focus (first | (simp; done) | (simp; omega))) | ((with_reducible refine Below.setCell ?_ ?_ _); rotate_left; focus (first | (simp; done) | (simp; omega))) | (with_reducible refine Below.drew ?_) | (with_reducible refine Below.drewN' ?_ _))))) hc0 HQ.out).mono ?_
      rintro e w1 ⟨rfl, ⟨nd, rfl⟩⟩
      go_wp2_with fail
      refine bodyPost_ret (v := .tuple #[.agg #[.int .u8 5, .string r2, .int .i64 r3], .int .i64 r4, .int .i64 r5]) ?_ rfl ⟨rfl, ?_⟩
      · refine results_ctt' Tryz.results43 _ (by rfl) [.int .u8 5, .string r2, .int .i64 r3] _ (by rfl) (by rfl) Tryz.underlying43 rfl (by kernel_rfl) (cells3 (by simp [go_sem]) (by simp [go_sem]) (by simp [go_sem]))
      · (repeat (first | (with_reducible exact Below.refl _ _) | ((with_reducible refine Below.alloc ?_ ?_ _); rotate_left; focus (first | (simp; done) | (simp; omega))) | ((with_reducible refine Below.setCell ?_ ?_ _); rotate_left; focus (first | (simp; done) | (simp; omega))) | (with_reducible refine Below.drew ?_) | (with_reducible refine Below.drewN' ?_ _)))
    · have c8b : (rd l0 a1 == 34) = false := beq_eq_false_iff_ne.mpr c8
      have c7b : (rd l0 a1 == 124) = true := by rcases cq with h | h; exact h; rw [c8b] at h; cases h
      obtain ⟨rfl, rfl, rfl, rfl, h1⟩ := HN.out
      rw [if_neg c8] at h1
      subst h1
      clear cq c5 c6 c8 HN
      go_enter Tryz.func43, Tryz.ntmps43
      go_wp2_with fail
      refine (juristref03_quoted.calls k (some ad) c0 l0 r3 (rd l0 r3) r2 r4 r5 _ (Kd.C_below HC.out (by (repeat (first | (with_reducible exact Below.refl _ _) | ((with_reducible refine Below.alloc ?_ ?_ _); rotate_left; focus (first | (simp; done) | (simp; omega))) | ((with_reducible refine Below.setCell ?_ ?_ _); rotate_left; focus (first | (simp; done) | (simp; omega))) | (with_reducible refine Below.drew ?_) | (with_reducible refine Below.drewN' ?_ _))))) hc0 HQ.out).mono ?_
      rintro e w1 ⟨rfl, ⟨nd, rfl⟩⟩
      go_wp2_with fail
      refine bodyPost_ret (v := .tuple #[.agg #[.int .u8 3, .string r2, .int .i64 r3], .int .i64 r4, .int .i64 r5]) ?_ rfl ⟨rfl, ?_⟩
      · refine results_ctt' Tryz.results43 _ (by rfl) [.int .u8 3, .string r2, .int .i64 r3] _ (by rfl) (by rfl) Tryz.underlying43 rfl (by kernel_rfl) (cells3 (by simp [go_sem]) (by simp [go_sem]) (by simp [go_sem]))
      · (repeat (first | (with_reducible exact Below.refl _ _) | ((with_reducible refine Below.alloc ?_ ?_ _); rotate_left; focus (first | (simp; done) | (simp; omega))) | ((with_reducible refine Below.setCell ?_ ?_ _); rotate_left; focus (first | (simp; done) | (simp; omega))) | (with_reducible refine Below.drew ?_) | (with_reducible refine Below.drewN' ?_ _)))
  rw [if_neg cq] at hj
  have c7b : (rd l0 a1 == 124) = false := by cases h : (rd l0 a1 == 124) with | false => rfl | true => rw [h] at cq; exact absurd rfl cq
  have c8b : (rd l0 a1 == 34) = false := by cases h : (rd l0 a1 == 34) with | false => rfl | true => rw [h, Bool.or_true] at cq; exact absurd rfl cq
  have hj1 : juristref03_One.j1 k l0 a1 (rd l0 a1) ((rd l0 a1 == 58) || (rd l0 a1 == 35)) 0 ⟨#[]⟩ a1 = some (r1, r2, r3, r4, r5) := by
    by_cases c9 : rd l0 a1 = 58
    · rw [if_pos c9] at hj
      rw [show (rd l0 a1 == 58) = true from beq_iff_eq.mpr c9]
      exact hj
    · rw [if_neg c9] at hj
      rw [show (rd l0 a1 == 58) = false from beq_eq_false_iff_ne.mpr c9, Bool.false_or]
      exact hj
  clear hj c5 c6 cq
  cases k with
  | zero => cases hj1
  | succ k =>
  simp only [juristref03_One.j1] at hj1
  by_cases c9 : ((rd l0 a1 == 58) || (rd l0 a1 == 35)) = true
  · rw [if_pos c9] at hj1
    obtain ⟨n, hw, hj⟩ := Option.bind_eq_some_iff.1 hj1
    clear hj1
    obtain ⟨p, hp⟩ : ∃ p, wrap64 (a1 + 1) = p := ⟨_, rfl⟩
    have hpi : IntKind.i64.wrap (a1 + 1) = p := (i64_w _).trans hp
    rw [hp] at hw hj
    have HW := Lib.hid (fun W (hb : Below w.heap.size w W) => juristref03_word.calls k (some ad) c0 l0 p n W (Kd.C_below HC.out hb) hc0 hw)
    clear hw
    have d1 : (rd l0 a1 == 58) = true ∨ ((rd l0 a1 == 58) = false ∧ (rd l0 a1 == 35) = true) := by
      cases h1 : (rd l0 a1 == 58) with
      | true => exact .inl rfl
      | false => rw [h1, Bool.false_or] at c9; exact .inr ⟨rfl, c9⟩
    clear c9
    have hjj : ∃ q, wrap64 (p + n) = q := ⟨_, rfl⟩
    obtain ⟨q, hq⟩ := hjj
    have hqi : IntKind.i64.wrap (p + n) = q := (i64_w _).trans hq
    obtain ⟨m, hm⟩ : ∃ m, wrap64 (n + 1) = m := ⟨_, rfl⟩
    have hmi : IntKind.i64.wrap (n + 1) = m := (i64_w _).trans hm
    rw [hq, hm] at hj
    by_cases hn : n = 0
    · subst hn
      rw [if_pos rfl] at hj
      simp only [Option.some.injEq, Prod.mk.injEq] at hj
      obtain ⟨rfl, rfl, rfl, rfl, rfl⟩ := hj
      clear hq hqi hm hmi hp HX
      rcases d1 with h58 | ⟨h58, h35⟩
      · go_enter Tryz.func43, Tryz.ntmps43
        go_wp2_with fail
        refine (HW.out _ (by (repeat (first | (with_reducible exact Below.refl _ _) | ((with_reducible refine Below.alloc ?_ ?_ _); rotate_left; focus (first | (simp; done) | (simp; omega))) | ((with_reducible refine Below.setCell ?_ ?_ _); rotate_left; focus (first | (simp; done) | (simp; omega))) | (with_reducible refine Below.drew ?_) | (with_reducible refine Below.drewN' ?_ _))))).mono ?_
        rintro e w1 ⟨rfl, ⟨nd, rfl⟩⟩
        go_wp2_with fail
        refine bodyPost_ret (v := .tuple #[.agg #[.int .u8 0, .string ⟨#[]⟩, .int .i64 a1], .int .i64 0, .int .i64 30]) ?_ rfl ⟨rfl, ?_⟩
        · refine results_ctt' Tryz.results43 _ (by rfl) [.int .u8 0, .string ⟨#[]⟩, .int .i64 a1] _ (by rfl) (by rfl) Tryz.underlying43 rfl (by kernel_rfl) (cells3 (by simp [go_sem]) (by simp [go_sem]) (by simp [go_sem]))
        · (repeat (first | (with_reducible exact Below.refl _ _) | ((with_reducible refine Below.alloc ?_ ?_ _); rotate_left; focus (first | (simp; done) | (simp; omega))) | ((with_reducible refine Below.setCell ?_ ?_ _); rotate_left; focus (first | (simp; done) | (simp; omega))) | (with_reducible refine Below.drew ?_) | (with_reducible refine Below.drewN' ?_ _)))
      · go_enter Tryz.func43, Tryz.ntmps43
        go_wp2_with fail
        refine (HW.out _ (by (repeat (first | (with_reducible exact Below.refl _ _) | ((with_reducible refine Below.alloc ?_ ?_ _); rotate_left; focus (first | (simp; done) | (simp; omega))) | ((with_reducible refine Below.setCell ?_ ?_ _); rotate_left; focus (first | (simp; done) | (simp; omega))) | (with_reducible refine Below.drew ?_) | (with_reducible refine Below.drewN' ?_ _))))).mono ?_
        rintro e w1 ⟨rfl, ⟨nd, rfl⟩⟩
        go_wp2_with fail
        refine bodyPost_ret (v := .tuple #[.agg #[.int .u8 0, .string ⟨#[]⟩, .int .i64 a1], .int .i64 0, .int .i64 30]) ?_ rfl ⟨rfl, ?_⟩
        · refine results_ctt' Tryz.results43 _ (by rfl) [.int .u8 0, .string ⟨#[]⟩, .int .i64 a1] _ (by rfl) (by rfl) Tryz.underlying43 rfl (by kernel_rfl) (cells3 (by simp [go_sem]) (by simp [go_sem]) (by simp [go_sem]))
        · (repeat (first | (with_reducible exact Below.refl _ _) | ((with_reducible refine Below.alloc ?_ ?_ _); rotate_left; focus (first | (simp; done) | (simp; omega))) | ((with_reducible refine Below.setCell ?_ ?_ _); rotate_left; focus (first | (simp; done) | (simp; omega))) | (with_reducible refine Below.drew ?_) | (with_reducible refine Below.drewN' ?_ _)))
    rw [if_neg hn] at hj
    have hnb : (n == 0) = false := beq_eq_false_iff_ne.mpr hn
    by_cases g1 : 0 ≤ p
    case neg => rw [if_neg g1] at hj; cases hj
    by_cases g2 : p ≤ q
    case neg => rw [if_pos g1, if_neg g2] at hj; cases hj
    by_cases g3 : q ≤ (l0.length : Int)
    case neg => rw [if_pos g1, if_pos g2, if_neg g3] at hj; cases hj
    rw [if_pos g1, if_pos g2, if_pos g3] at hj
    obtain ⟨A', n', c', hcut, hcv⟩ := cut_string HC.out hc0 p q g1 g2 g3
    generalize strOfNums ((l0.take q.toNat).drop p.toNat) = tx at hj hcv
    have HCV := Lib.hid hcv
    clear hcv g1 g2 g3 hn HX HC hq hm hp
    rcases d1 with h58 | ⟨h58, h35⟩
    · rw [if_neg (by rw [beq_iff_eq.mp h58]; decide)] at hj
      simp only [Option.some.injEq, Prod.mk.injEq] at hj
      obtain ⟨rfl, rfl, rfl, rfl, rfl⟩ := hj
      have h35 : (rd l0 a1 == 35) = false := by rw [beq_iff_eq.mp h58]; rfl
      go_enter Tryz.func43, Tryz.ntmps43
      go_wp2_with fail
      refine (HW.out _ (by (repeat (first | (with_reducible exact Below.refl _ _) | ((with_reducible refine Below.alloc ?_ ?_ _); rotate_left; focus (first | (simp; done) | (simp; omega))) | ((with_reducible refine Below.setCell ?_ ?_ _); rotate_left; focus (first | (simp; done) | (simp; omega))) | (with_reducible refine Below.drew ?_) | (with_reducible refine Below.drewN' ?_ _))))).mono ?_
      rintro e w1 ⟨rfl, ⟨nd, rfl⟩⟩
      have hcv := HCV.out (((w.alloc (.cells #[.int .u8 0, .string ⟨#[]⟩, .int .i64 0] 43)).alloc (.cells #[.int .u8 0, .string ⟨#[]⟩, .int .i64 a1] 43)).drewN nd) (by (repeat (first | (with_reducible exact Below.refl _ _) | ((with_reducible refine Below.alloc ?_ ?_ _); rotate_left; focus (first | (simp; done) | (simp; omega))) | ((with_reducible refine Below.setCell ?_ ?_ _); rotate_left; focus (first | (simp; done) | (simp; omega))) | (with_reducible refine Below.drew ?_) | (with_reducible refine Below.drewN' ?_ _))))
      go_wp2_with fail
      refine bodyPost_ret (v := .tuple #[.agg #[.int .u8 6, .string tx, .int .i64 a1], .int .i64 m, .int .i64 0]) ?_ rfl ⟨rfl, ?_⟩
      · refine results_ctt' Tryz.results43 _ (by rfl) [.int .u8 6, .string tx, .int .i64 a1] _ (by rfl) (by rfl) Tryz.underlying43 rfl (by kernel_rfl) (cells3 (by simp [go_sem]) (by simp [go_sem]) (by simp [go_sem]))
      · (repeat (first | (with_reducible exact Below.refl _ _) | ((with_reducible refine Below.alloc ?_ ?_ _); rotate_left; focus (first | (simp; done) | (simp; omega))) | ((with_reducible refine Below.setCell ?_ ?_ _); rotate_left; focus (first | (simp; done) | (simp; omega))) | (with_reducible refine Below.drew ?_) | (with_reducible refine Below.drewN' ?_ _)))
    · rw [if_pos (beq_iff_eq.mp h35)] at hj
      obtain ⟨b, hnu, hj⟩ := Option.bind_eq_some_iff.1 hj
      have HNU := Lib.hid (fun W => juristref03_number.calls k tx b W hnu)
      cases b
      · rw [if_neg (by simp)] at hj
        simp only [Option.some.injEq, Prod.mk.injEq] at hj
        obtain ⟨rfl, rfl, rfl, rfl, rfl⟩ := hj
        clear hnu
        go_enter Tryz.func43, Tryz.ntmps43
        go_wp2_with fail
        refine (HW.out _ (by (repeat (first | (with_reducible exact Below.refl _ _) | ((with_reducible refine Below.alloc ?_ ?_ _); rotate_left; focus (first | (simp; done) | (simp; omega))) | ((with_reducible refine Below.setCell ?_ ?_ _); rotate_left; focus (first | (simp; done) | (simp; omega))) | (with_reducible refine Below.drew ?_) | (with_reducible refine Below.drewN' ?_ _))))).mono ?_
        rintro e w1 ⟨rfl, ⟨nd, rfl⟩⟩
        have hcv := HCV.out (((w.alloc (.cells #[.int .u8 0, .string ⟨#[]⟩, .int .i64 0] 43)).alloc (.cells #[.int .u8 0, .string ⟨#[]⟩, .int .i64 a1] 43)).drewN nd) (by (repeat (first | (with_reducible exact Below.refl _ _) | ((with_reducible refine Below.alloc ?_ ?_ _); rotate_left; focus (first | (simp; done) | (simp; omega))) | ((with_reducible refine Below.setCell ?_ ?_ _); rotate_left; focus (first | (simp; done) | (simp; omega))) | (with_reducible refine Below.drew ?_) | (with_reducible refine Below.drewN' ?_ _))))
        go_wp2_with fail
        refine (HNU.out _).mono ?_
        rintro e w1 ⟨rfl, ⟨nd', rfl⟩⟩
        go_wp2_with fail
        refine bodyPost_ret (v := .tuple #[.agg #[.int .u8 6, .string tx, .int .i64 a1], .int .i64 0, .int .i64 5]) ?_ rfl ⟨rfl, ?_⟩
        · refine results_ctt' Tryz.results43 _ (by rfl) [.int .u8 6, .string tx, .int .i64 a1] _ (by rfl) (by rfl) Tryz.underlying43 rfl (by kernel_rfl) (cells3 (by simp [go_sem]) (by simp [go_sem]) (by simp [go_sem]))
        · (repeat (first | (with_reducible exact Below.refl _ _) | ((with_reducible refine Below.alloc ?_ ?_ _); rotate_left; focus (first | (simp; done) | (simp; omega))) | ((with_reducible refine Below.setCell ?_ ?_ _); rotate_left; focus (first | (simp; done) | (simp; omega))) | (with_reducible refine Below.drew ?_) | (with_reducible refine Below.drewN' ?_ _)))
      · rw [if_pos rfl] at hj
        by_cases g5 : 1 + tx.size ≤ 9223372036854775807
        case neg => rw [if_neg g5] at hj; cases hj
        rw [if_pos g5] at hj
        simp only [Option.some.injEq, Prod.mk.injEq] at hj
        obtain ⟨rfl, rfl, rfl, rfl, rfl⟩ := hj
        exact one_hash k ad c0 l0 a1 p q m n tx w ⟨p130, q130, hxa⟩ c5b c6b c7b c8b h58 h35 hpi hqi hmi hnb HW.out A' n' c' hcut HCV.out hnu g5
  · rw [if_neg c9] at hj1
    obtain ⟨n, hw, hj⟩ := Option.bind_eq_some_iff.1 hj1
    clear hj1
    have h58 : (rd l0 a1 == 58) = false := by cases h : (rd l0 a1 == 58) with | false => rfl | true => rw [h] at c9; exact absurd rfl c9
    have h35 : (rd l0 a1 == 35) = false := by cases h : (rd l0 a1 == 35) with | false => rfl | true => rw [h, Bool.or_true] at c9; exact absurd rfl c9
    obtain ⟨q, hq⟩ : ∃ q, wrap64 (a1 + n) = q := ⟨_, rfl⟩
    have hqi : IntKind.i64.wrap (a1 + n) = q := (i64_w _).trans hq
    rw [hq] at hj
    have HW := Lib.hid (fun W (hb : Below w.heap.size w W) => juristref03_word.calls k (some ad) c0 l0 a1 n W (Kd.C_below HC.out hb) hc0 hw)
    clear hw c9 hq
    by_cases hn : n = 0
    · subst hn
      rw [if_pos rfl] at hj
      simp only [Option.some.injEq, Prod.mk.injEq] at hj
      obtain ⟨rfl, rfl, rfl, rfl, rfl⟩ := hj
      clear hqi HX HC
      go_enter Tryz.func43, Tryz.ntmps43
      go_wp2_with fail
      refine (HW.out _ (by (repeat (first | (with_reducible exact Below.refl _ _) | ((with_reducible refine Below.alloc ?_ ?_ _); rotate_left; focus (first | (simp; done) | (simp; omega))) | ((with_reducible refine Below.setCell ?_ ?_ _); rotate_left; focus (first | (simp; done) | (simp; omega))) | (with_reducible refine Below.drew ?_) | (with_reducible refine Below.drewN' ?_ _))))).mono ?_
      rintro e w1 ⟨rfl, ⟨nd, rfl⟩⟩
      go_wp2_with fail
      refine bodyPost_ret (v := .tuple #[.agg #[.int .u8 0, .string ⟨#[]⟩, .int .i64 a1], .int .i64 0, .int .i64 30]) ?_ rfl ⟨rfl, ?_⟩
      · refine results_ctt' Tryz.results43 _ (by rfl) [.int .u8 0, .string ⟨#[]⟩, .int .i64 a1] _ (by rfl) (by rfl) Tryz.underlying43 rfl (by kernel_rfl) (cells3 (by simp [go_sem]) (by simp [go_sem]) (by simp [go_sem]))
      · (repeat (first | (with_reducible exact Below.refl _ _) | ((with_reducible refine Below.alloc ?_ ?_ _); rotate_left; focus (first | (simp; done) | (simp; omega))) | ((with_reducible refine Below.setCell ?_ ?_ _); rotate_left; focus (first | (simp; done) | (simp; omega))) | (with_reducible refine Below.drew ?_) | (with_reducible refine Below.drewN' ?_ _)))
    · rw [if_neg hn] at hj
      have hnb : (n == 0) = false := beq_eq_false_iff_ne.mpr hn
      have g1 : 0 ≤ a1 := of_eq_true p130
      by_cases g2 : a1 ≤ q
      case neg => rw [if_pos g1, if_neg g2] at hj; cases hj
      by_cases g3 : q ≤ (l0.length : Int)
      case neg => rw [if_pos g1, if_pos g2, if_neg g3] at hj; cases hj
      rw [if_pos g1, if_pos g2, if_pos g3] at hj
      obtain ⟨A', n', c', hcut, hcv⟩ := cut_string HC.out hc0 a1 q g1 g2 g3
      generalize strOfNums ((l0.take q.toNat).drop a1.toNat) = tx at hj hcv
      obtain ⟨dg, hdg, hj⟩ := Option.bind_eq_some_iff.1 hj
      have go := fun nu de hnu hde => one_word k ad c0 l0 a1 q n tx w ⟨p130, q130, hxa⟩ c5b c6b c7b c8b h58 h35 hqi hnb HW.out A' n' c' hcut hcv dg nu de hdg hnu hde
      cases dg
      · rw [if_neg (by simp)] at hj
        simp only [Option.some.injEq, Prod.mk.injEq] at hj
        obtain ⟨rfl, rfl, rfl, rfl, rfl⟩ := hj
        exact go false false (fun h => by cases h) (fun h => by cases h)
      · rw [if_pos rfl] at hj
        obtain ⟨nu, hnu, hj⟩ := Option.bind_eq_some_iff.1 hj
        cases nu
        · rw [if_neg (by simp)] at hj
          obtain ⟨de, hde, hj⟩ := Option.bind_eq_some_iff.1 hj
          cases de
          · rw [if_neg (by simp)] at hj
            simp only [Option.some.injEq, Prod.mk.injEq] at hj
            obtain ⟨rfl, rfl, rfl, rfl, rfl⟩ := hj
            exact go false false (fun _ => hnu) (fun _ _ => hde)
          · rw [if_pos rfl] at hj
            simp only [Option.some.injEq, Prod.mk.injEq] at hj
            obtain ⟨rfl, rfl, rfl, rfl, rfl⟩ := hj
            exact go false true (fun _ => hnu) (fun _ _ => hde)
        · rw [if_pos rfl] at hj
          simp only [Option.some.injEq, Prod.mk.injEq] at hj
          obtain ⟨rfl, rfl, rfl, rfl, rfl⟩ := hj
          exact go true false (fun _ => hnu) (fun _ h => by cases h)
end Go.Proofs.YtmlkfgoiakcnhaaGreatDoor
