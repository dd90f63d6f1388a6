/- WorldMay, second form: whether any world may be one of any names, and whether two are alike, is the document's, where what is read is of bulk at most 1048576. No other conditions. -/
import Derived.Test.YtendekbckfpmgaaGreatRows
import Derived.Test.YtendekbckfpmgaaGreatMe
import Derived.ProofKit
import Derived.Carry
import Derived.JoinedCond
namespace Go.Proofs.YtendekbckfpmgaaGreat
open Go Go.ChangeShapes Go.WideShapes Go.ChangeAt Go.RowKit Go.Proofs.YtendekbckfpmgaaGreatW.PrintWords Go.Proofs.YtendekbckfpmgaaGreat.PWorldMay
open Go.ChangeMaps (open_string shut_string)

theorem own_worldMay : ownKnob Tryz.prog.godebug = none := by kernel_rfl
theorem laidOut : laidOutB Tryz.prog = true := by kernel_rfl
theorem opensU_Defs : OpensU Tryz.prog bN (Kd.slice 119 k119) DefsIn 52 :=
  opensU_slice 119 Tryz.underlying52 (by kernel_rfl) opensU_Def
set_option maxRecDepth 100000 in
/-- Definitions that were read. -/
theorem defs_open {H : Type} {enc : TypeId × Value → H} {w : World} {base : Nat} {spare : Nat → Bool} {held : Bool} {v : Value} {d : DataW H} {p : List MemPlace} {r : Reach} {b0 : Nat}
    (hv : Value.okWide Tryz.prog w r b0 52 v) (h : DataW.Trod enc Tryz.prog w base spare held 52 v d p) (hN : Rows.uptoBulk d ≤ bN) :
    ∃ (A0 : Option Addr) (l : List S119) (c0 : Nat), v = .slice A0 l.length c0 ∧ Kd.C k119 w A0 l.length l ∧ l.length ≤ c0 ∧ DefsIn l := by
  obtain ⟨a, len, cap, rfl⟩ := okWide_slice Tryz.underlying52 hv
  obtain ⟨fuel, hf⟩ := h
  obtain ⟨l, ⟨A0, c0, hcs, hl, hk⟩, h0⟩ := opensU_Defs _ _ _ _ _ _ _ _ _ hf hN
  have e : (Value.slice a len cap) = .slice A0 l.length c0 := by simpa [Value.cells] using hcs
  exact ⟨A0, l, c0, e, hk, hl, h0⟩
set_option maxRecDepth 100000 in
/-- A world that was read. -/
theorem world_open {H : Type} {enc : TypeId × Value → H} {w : World} {base : Nat} {spare : Nat → Bool} {held : Bool} {v : Value} {d : DataW H} {p : List MemPlace} {r : Reach} {b0 : Nat}
    (hv : Value.okWide Tryz.prog w r b0 37 v) (h : DataW.Trod enc Tryz.prog w base spare held 37 v d p) (hN : Rows.uptoBulk d ≤ bN) :
    ∃ (A1 : Option Addr) (c1 : Nat) (z : List S78) (A2 : Option Addr) (c2 : Nat) (f : List S81), v = .agg #[.slice A1 z.length c1, .slice A2 f.length c2] ∧ WorldC w A1 c1 z A2 c2 f ∧ WorldIn z f := by
  obtain ⟨cs, rfl, _⟩ := okWide_struct Tryz.underlying37 hv
  obtain ⟨fuel, hf⟩ := h
  obtain ⟨⟨l0, l1⟩, ⟨c0, c1, hcs, ⟨A0, n0, rfl, hl0, hk0⟩, ⟨A1, n1, rfl, hl1, hk1⟩⟩, h0⟩ := opensU_World _ _ _ _ _ _ _ _ _ hf hN
  have : cs = #[.slice A0 l0.length n0, .slice A1 l1.length n1] := by
    apply Array.ext'
    simpa [Value.cells] using hcs
  subst this
  exact ⟨A0, n0, l0, A1, n1, l1, rfl, ⟨hk0, hl0, hk1, hl1⟩, h0⟩
set_option maxRecDepth 100000 in
theorem worldMay_contract (H : Type) (enc : TypeId × Value → H) (W : World) (base : Nat) (args : Array Value) (ds gs : List (DataW H)) (before : List MemPlace)
    (hval0 : ∀ (j : Nat) t v, Tryz.f4.params[j]? = some t → args[j]? = some v → Value.okWide Tryz.prog W .any base t v)
    (hW : DataW.Whole enc Tryz.prog Tryz.f4.params.toList Rows.worldMaySpec.vars false W args.toList ds gs before) (hk : Rows.uptoSmall H (ds ++ gs) = true) :
    Calls Tryz.prog 4 args W fun e W' => ∃ v, e = .returned v ∧ Rows.worldMaySpec.post enc Tryz.prog Tryz.f4 false true false false W args v W' := by
  have hval : ∀ (j : Nat) t v, Tryz.f4.params[j]? = some t → args[j]? = some v → Value.okWide Tryz.prog W .any base t v := hval0
  have hW' := hW
  obtain ⟨p, q, hA0, hV, rfl, hfz, hnd⟩ := hW
  have hA : DataW.TrodAll enc Tryz.prog W 0 (fun _ => true) true Tryz.f4.params.toList args.toList ds p := hA0
  rw [Tryz.params4] at hA hval
  obtain ⟨v0, v1, v2, d0, d1, d2, p0, p1, p2, rfl, rfl, rfl, h0, h1, h2⟩ := trodAll_three hA
  obtain ⟨rfl, rfl⟩ := trodVars_none hV
  have lt0 : ∀ x ∈ p0, x.block < W.heap.size := by obtain ⟨m, hm⟩ := h0; exact DataW.trod_lt m _ _ _ hm
  have lt1 : ∀ x ∈ p1, x.block < W.heap.size := by obtain ⟨m, hm⟩ := h1; exact DataW.trod_lt m _ _ _ hm
  have lt2 : ∀ x ∈ p2, x.block < W.heap.size := by obtain ⟨m, hm⟩ := h2; exact DataW.trod_lt m _ _ _ hm
  have hb : Rows.uptoBulkAll [d0, d1, d2] ≤ 1048576 := by
    have : Rows.uptoBulkAll ([d0, d1, d2] ++ []) ≤ 1048576 := of_decide_eq_true hk
    simpa using this
  have hbN : bN = 1048576 := rfl
  simp only [Rows.uptoBulkAll] at hb
  obtain ⟨A0, l, c0, rfl, hC, hl, hd⟩ := defs_open (hval 0 52 v0 rfl rfl) h0 (by omega)
  obtain ⟨A1, c1, z, A2, c2, f, rfl, hw1, hi1⟩ := world_open (hval 1 37 v1 rfl rfl) h1 (by omega)
  obtain ⟨A3, c3, z2, A4, c4, f2, rfl, hw2, hi2⟩ := world_open (hval 2 37 v2 rfl rfl) h2 (by omega)
  clear hA0 hval0 hb hk
  refine (worldMay_any A0 c0 l hC hl hd hw1 hi1 hw2 hi2).mono fun e W' ⟨he, bel⟩ => ?_
  subst he
  exact ⟨_, rfl, _, _, _, [], _, [], hW', trodAll_mk1 (shut_bool Tryz.underlying4 _), trodAll_mk3 (Below.trod laidOut (by kernel_rfl) (of_decide_eq_true (by kernel_rfl)) h0 bel lt0) (Below.trod laidOut (by kernel_rfl) (of_decide_eq_true (by kernel_rfl)) h1 bel lt1) (Below.trod laidOut (by kernel_rfl) (of_decide_eq_true (by kernel_rfl)) h2 bel lt2), rfl, bel.frame _, fun h => by cases h⟩

set_option maxRecDepth 100000 in
theorem worldMay_lifted (os : Os) (started : os.Started) (H : Type) (enc : TypeId × Value → H) (F : Stop.Interp) :
    ReturnsInHanded {} Tryz.checked os 4 .any ((Rows.OpenSpec.upto Rows.worldMaySpec).pre6 enc Tryz.prog Tryz.f4 Rows.worldMayUptoRow.domain false) (((Rows.OpenSpec.upto Rows.worldMaySpec).at F).post enc Tryz.prog Tryz.f4 false true false false) := by
  refine returnsInHanded_of_cond (C := Tryz.checked) (s := Rows.OpenSpec.upto Rows.worldMaySpec) (k := Rows.uptoSmall) rfl own_worldMay started (by kernel_rfl) Tryz.func4
    (OpenSpec.witness (enc := enc) (C := Tryz.checked) (s := Rows.OpenSpec.upto Rows.worldMaySpec) (k := Rows.uptoSmall) rfl false ⟨#[], #[.slice none 0 0, .agg #[.slice none 0 0, .slice none 0 0], .agg #[.slice none 0 0, .slice none 0 0]], []⟩ 8 (by kernel_rfl) (by kernel_rfl) (by kernel_rfl)
      (x := ([.nil, .agg [.nil, .nil], .agg [.nil, .nil]], [], [])) (by kernel_rfl) rfl (by kernel_rfl)) ?_
  intro W base args ds gs before hval hW _ hk _
  exact worldMay_contract H enc W base args ds gs before hval hW hk

theorem worldMay_upto : Rows.WorldMayUptoSaid :=
  OpenClaim.holds_of_cond 4 Tryz.f4 rfl rfl rfl rfl rfl rfl rfl ⟨rfl, rfl, rfl, rfl, rfl⟩ rfl rfl rfl rfl rfl (by kernel_rfl) Tryz.func4 (by kernel_rfl)
    (of_decide_eq_true (by kernel_rfl)) (by unfold Func.isWrapper; first | (rw [if_pos (by decide +kernel)]; kernel_rfl) | (rw [if_neg (by decide +kernel)]; exact ⟨rfl, rfl⟩))
    (fun os started H enc _ F => worldMay_lifted os started H enc F)
end Go.Proofs.YtendekbckfpmgaaGreat
