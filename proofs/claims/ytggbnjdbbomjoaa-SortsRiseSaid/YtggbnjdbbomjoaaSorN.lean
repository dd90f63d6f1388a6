/- SortsRise: the walk of the law. -/
import Derived.Test.YtggbnjdbbomjoaaSorM
import Derived.Test.YtggbnjdbbomjoaaMc
namespace Go.Proofs.Ytggbnjdbbomjoaa
open Go Go.RowKit Go.Proofs.YtggbnjdbbomjoaaW.PrintWords Go.Proofs.Ytggbnjdbbomjoaa.PSortsRise
theorem known_calls (w : World) : Calls Try.prog 7 #[] w fun e w' => e = .returned (.bool true) ∧ Below w.heap.size w w' :=
  calls_run tabOk known_run (fun _ => VRs.nil)
theorem STab0.no {B : Nat} {w : World} {b : Nat} {x y : Nm} (h : STab0 B w b x y) {k : Nat} (hk : w.heap.size ≤ k) : ¬ (Own b x k ∨ Own b y k) := by
  rintro ((e | e | e | e) | (e | e | e | e))
  · have := h.lt; omega
  · have := (h.okx.oA.lt _ e).2; omega
  · have := h.okx.oD.lt; omega
  · have := (h.okx.oM.lt _ e).2; omega
  · have := h.lt; omega
  · have := (h.oky.oA.lt _ e).2; omega
  · have := h.oky.oD.lt; omega
  · have := (h.oky.oM.lt _ e).2; omega
/-- a call's words in a box of the call's own -/
def opCells (kd nn : Int) (nm : ByteArray) (ar : Value) (rs : Int) (df : Bool) : List Value := [.int .i64 kd, .int .i64 nn, .string nm, ar, .int .i64 rs, .bool df]
/-- the numbers of a call's words are such -/
def WideOp (x : S32) : Prop := (∀ z ∈ x.f2.f1, I64 z) ∧ I64 x.f2.f2
/-- what holds at the head of a round -/
def RiseI (w : World) (B b : Nat) (vs vf : Value) (wr : World) : Prop :=
  ∃ (x y : Nm) (S F : Int), vs = .int .i64 S ∧ vf = .int .i64 F ∧ S < x.fs.length + 2 ∧ F < y.fs.length ∧ STab B wr b x y ∧ Below w.heap.size w wr
set_option maxRecDepth 100000 in
set_option maxHeartbeats 4000000 in
theorem sortsRise_any (A0 : Option Addr) (l : List S32) (c0 : Nat) (w : World) (hr : Kd.C k32 w A0 l.length l) (hc0 : l.length ≤ c0) (hlen : l.length ≤ maxLen) (hW : ∀ j : Nat, j < l.length → WideOp (rd_T32 l j)) :
    Calls Try.prog 3 #[.slice A0 l.length c0] w fun e w' => e = .returned (.bool true) ∧ Below w.heap.size w w' := by
  obtain ⟨k, r, ht, htr⟩ := tame_says l hlen 100
  have HTM := Lib.hid (juristlaw05_tame.calls k A0 c0 l 100 r w hr hc0 ht)
  have HR := Lib.hid hr
  have HW := Lib.hid hW
  clear ht hr hW
  go_enter Try.func3, Try.ntmps3
  go_wp2_with fail
  refine HTM.out.mono ?_; rintro e w1 ⟨rfl, hd⟩
  have HB1 := Lib.hid hd.below
  clear HTM hd
  cases r
  case false =>
    go_wp2_with fail
    refine (known_calls _).mono ?_; rintro e wn ⟨rfl, hbn⟩
    have HB2 := Lib.hid (HB1.out.trans (hbn.mono HB1.out.size))
    clear hbn
    go_wp2_with fail
    go_ret
    exact ⟨rfl, HB2.out⟩
  case true =>
    obtain ⟨hl100, htm⟩ := htr rfl
    have hl' : l.length ≤ 100 := by omega
    have HM := Lib.hid htm
    clear htr htm hl100
    go_wp2_with fail
    refine (new_any w1).mono ?_; rintro e w2 ⟨b, m1, m2, rfl, htab, hb2⟩
    have HT := Lib.hid htab
    have HB := Lib.hid (HB1.out.trans (hb2.mono HB1.out.size))
    have hBl : w.heap.size ≤ w1.heap.size := HB1.out.size
    generalize hw1 : w1.heap.size = B at *
    clear htab hb2 hw1
    go_wp2
    go_loopw [4, 5, 6] (fun vs vf vi wr => ∃ k : Nat, vi = .int .i64 k ∧ k ≤ l.length ∧ Hid (RiseI w B b vs vf wr)) (fun _ _ vi _ => l.length - (intOf vi).toNat)
    case atStart => exact ⟨0, rfl, by omega, Lib.hid ⟨_, _, 1, -1, rfl, rfl, by simp [Nm.fresh], by simp [Nm.fresh], HT.out, HB.out⟩⟩
    case round =>
      obtain ⟨k, rfl, hk, hri⟩ := hrel
      obtain ⟨x, y, S, F, rfl, rfl, hS, hF, hT, hb⟩ := hri.out
      have HS := Lib.hid hS
      have HF := Lib.hid hF
      replace HT := Lib.hid hT
      replace HB := Lib.hid hb
      clear hS hF hT hb hri
      by_cases hkl : k < l.length
      case neg =>
        have hkl' : ¬ (k : Int) < l.length := by omega
        go_wp2_with fail
        refine (known_calls _).mono ?_; rintro e wn ⟨rfl, hbn⟩
        have HB2 := Lib.hid (HB.out.trans (hbn.mono HB.out.size))
        clear hbn
        go_wp2_with fail
        go_ret
        exact ⟨rfl, HB2.out⟩
      case pos =>
        have hkl' : (k : Int) < l.length := by omega
        obtain ⟨ad, bb, oo, A3, c3, rfl, hadd, hop⟩ := op_at HR.out k hkl
        have hwo := HW.out k hkl
        have hto := HM.out k hkl
        generalize rd_T32 l k = oc at hop hwo hto
        obtain ⟨kd, nn, ⟨nm, la, rs, df⟩⟩ := oc
        obtain ⟨hcc, _⟩ := bcell HB.out
        have q0 : wr.cell? ⟨bb, oo, none⟩ = some (.int .i64 kd) := (hcc bb oo hop.lt).trans hop.k0
        have q1 : wr.cell? ⟨bb, oo + 1, none⟩ = some (.int .i64 nn) := (hcc bb (oo + 1) hop.lt).trans hop.k1
        have q2 : wr.cell? ⟨bb, oo + 2, none⟩ = some (.string nm) := (hcc bb (oo + 2) hop.lt).trans hop.k2
        have q3 : wr.cell? ⟨bb, oo + 3, none⟩ = some (.slice A3 la.length c3) := (hcc bb (oo + 3) hop.lt).trans hop.k3
        have q4 : wr.cell? ⟨bb, oo + 4, none⟩ = some (.int .i64 rs) := (hcc bb (oo + 4) hop.lt).trans hop.k4
        have q5 : wr.cell? ⟨bb, oo + 5, none⟩ = some (.bool df) := (hcc bb (oo + 5) hop.lt).trans hop.k5
        have HOP := Lib.hid (And.intro hop.le hop.args)
        have HWO := Lib.hid (show (∀ z ∈ la, I64 z) ∧ I64 rs from hwo)
        have hnm : nm.size ≤ maxLen := by have : nm.size ≤ 2000 := hto.1; unfold maxLen; omega
        have hla : la.length ≤ 40 := hto.2
        have hTA := HT.out.below ((Below.refl wr.heap.size wr).alloc (Nat.le_refl _) (.cells (opCells kd nn nm (.slice A3 la.length c3) rs df).toArray 32))
        have hBA := HB.out.trans (((Below.refl wr.heap.size wr).alloc (Nat.le_refl _) (.cells (opCells kd nn nm (.slice A3 la.length c3) rs df).toArray 32)).mono HB.out.size)
        have hrA := RowB.new wr (opCells kd nn nm (.slice A3 la.length c3) rs df) 32
        have HTA := Lib.hid (And.intro hTA (And.intro hBA hrA))
        clear hcc hop hwo hto hTA hBA hrA
        by_cases e0 : kd = 0
        case pos =>
          subst e0
          go_wp2_with fail
          refine (declareSort_any HTA.out.1 nm hnm).mono ?_
          intro e wB hds
          rcases hds with ⟨v, er, her, rfl, ht, hlow, _⟩ | ⟨A', rfl, hn1, hn2, hhas, ht, hlow, hchg⟩
          · have hne : (er != 0) = true := by simpa using her
            have HE := Lib.hid (show RiseI w B b (.int .i64 S) (.int .i64 F) wB from ⟨x, y, S, F, rfl, rfl, HS.out, HF.out, ht, HTA.out.2.1.trans (hlow.mono hBl)⟩)
            clear her ht hlow q0 q1 q2 q3 q4 q5 hadd
            go_wp2_with fail
            go_roundw
            case rel => exact ⟨k + 1, by go_num, by omega, HE⟩
            case measure => simp [intOf]; omega
          · have hrB := HTA.out.2.2.kept hchg (HT.out.toSTab0.no (Nat.le_refl _))
            have b2 : wB.cell? ⟨wr.heap.size, 2, none⟩ = some (.string nm) := hrB.cell 2
            have hle : x.fs.length ≤ 2000 := HT.out.okx.nf
            have hsr : sortRes (x.add ⟨nm, .slice none 0 0, 0, false⟩ A').D nm = .tuple #[.int .i64 ((x.fs.length : Int) + 2), .int .i64 0] := by
              show sortRes (x.D.put (kS nm) (.lit (.int .i64 x.fs.length))) nm = _
              unfold sortRes
              rw [Maps.has_put_same HT.out.okx.oD.isMap (isKeyS nm), numOf_put HT.out.okx.oD.isMap, wrap_of (show I64 ((x.fs.length : Int) + 2) from ⟨by omega, by omega⟩)]
              rfl
            have HX := Lib.hid (show RiseI w B b (.int .i64 ((x.fs.length : Int) + 2)) (.int .i64 F) wB from ⟨x.add ⟨nm, .slice none 0 0, 0, false⟩ A', y, _, F, rfl, rfl, by simp [Nm.add]; omega, HF.out, ht, HTA.out.2.1.trans (hlow.mono hBl)⟩)
            have HSA := Lib.hid (sort_any ht nm hnm hn1 hn2)
            have hSn : ¬ ((x.fs.length : Int) + 2 ≤ S) := by have := HS.out; omega
            clear hn1 hn2 hhas ht hlow hchg hrB q0 q1 q2 q3 q4 q5 hadd
            go_wp2_with fail
            refine HSA.out.mono ?_; rintro e wC ⟨he, rfl⟩
            rw [hsr] at he
            subst he
            clear HSA hsr
            go_wp2_with fail
            go_roundw
            case rel => exact ⟨k + 1, by go_num, by omega, HX⟩
            case measure => simp [intOf]; omega
        case neg =>
        by_cases e1 : kd = 1
        case pos =>
          subst e1
          clear e0
          go_wp2_with fail
          refine (juristlaw05_names.calls nm A3 c3 la rs df nm la rs df _ (Kd.C_below HOP.out.2 HTA.out.2.1) HOP.out.1 (names_says nm la rs df hla)).mono ?_
          rintro e wB ⟨v1, rfl, hR1, hbB⟩
          have hrB : RowB wB wr.heap.size 32 (opCells 1 nn nm (.slice A3 la.length c3) rs df) := HTA.out.2.2.kept (S := fun _ => False) (Ch.ofBelow hbB) (fun e => e)
          have hTB := HTA.out.1.below hbB
          have hBB := HTA.out.2.1.trans (hbB.mono HTA.out.2.1.size)
          have hv1 := Kd.own_of_R hR1
          rw [encs_map] at hv1
          have HB2 := Lib.hid (And.intro hTB (And.intro hBB hrB))
          have HV1 := Lib.hid hv1
          clear hTB hBB hrB hR1 hbB hv1 q0 q1 q2 q3 q4 q5 hadd
          go_wp2_with fail
          refine (declareFun_any HB2.out.1 ⟨nm, v1, rs, df⟩ hnm HWO.out.2 la hla HWO.out.1 HV1.out).mono ?_
          intro e wC hds
          rcases hds with ⟨v, er, her, rfl, ht, hlow, _⟩ | ⟨A', ar', rfl, hl20, hhas, har, ht, hlow, hchg⟩
          · have hne : (er != 0) = true := by simpa using her
            have HE := Lib.hid (show RiseI w B b (.int .i64 S) (.int .i64 F) wC from ⟨x, y, S, F, rfl, rfl, HS.out, HF.out, ht, HB2.out.2.1.trans (hlow.mono hBl)⟩)
            clear her ht hlow
            go_wp2_with fail
            go_roundw
            case rel => exact ⟨k + 1, by go_num, by omega, HE⟩
            case measure => simp [intOf]; omega
          · have hwrB : wr.heap.size ≤ wB.heap.size := by have := HB2.out.2.2.lt; omega
            have hnoB : ¬ (Own b x wr.heap.size ∨ Own b y wr.heap.size) := HT.out.toSTab0.no (Nat.le_refl _)
            have hrC := HB2.out.2.2.kept hchg hnoB
            have b2 : wC.cell? ⟨wr.heap.size, 2, none⟩ = some (.string nm) := hrC.cell 2
            have hle : y.fs.length ≤ 2000 := HT.out.oky.nf
            have hfr : funRes (y.add ⟨nm, ar', rs, df⟩ A').D nm = .tuple #[.int .i64 y.fs.length, .int .i64 0] := by
              show funRes (y.D.put (kS nm) (.lit (.int .i64 y.fs.length))) nm = _
              unfold funRes
              rw [Maps.has_put_same HT.out.oky.oD.isMap (isKeyS nm), numOf_put HT.out.oky.oD.isMap]
              rfl
            have hget : (y.add ⟨nm, ar', rs, df⟩ A').fs[y.fs.length]? = some ⟨nm, ar', rs, df⟩ := by simp [Nm.add]
            have HX := Lib.hid (And.intro ht (And.intro (HB2.out.2.1.trans (hlow.mono hBl)) hrC))
            have HFA := Lib.hid (fun_any ht nm hnm)
            have HIA := Lib.hid (info_any ht y.fs.length ⟨nm, ar', rs, df⟩ hget la hl20 har)
            have hFn : ¬ ((y.fs.length : Int) ≤ F) := by have := HF.out; omega
            clear hhas har ht hlow hchg hrC hget hnoB
            go_wp2_with fail
            refine HFA.out.mono ?_; rintro e wD ⟨he, rfl⟩
            rw [hfr] at he
            subst he
            clear HFA hfr
            go_wp2_with fail
            refine HIA.out.mono ?_; rintro e wE ⟨⟨v2, rfl, hv2⟩, hbE⟩
            clear HIA b2
            obtain ⟨a2, p2, rfl, hp2⟩ := own_slice hv2
            have hrE := HX.out.2.2.kept (S := fun _ => False) (Ch.ofBelow hbE) (fun e => e)
            have t2 : wE.cell? ⟨wr.heap.size, 2, none⟩ = some (.string nm) := hrE.cell 2
            have t3 : wE.cell? ⟨wr.heap.size, 3, none⟩ = some (.slice A3 la.length c3) := hrE.cell 3
            have t4 : wE.cell? ⟨wr.heap.size, 4, none⟩ = some (.int .i64 rs) := hrE.cell 4
            have t5 : wE.cell? ⟨wr.heap.size, 5, none⟩ = some (.bool df) := hrE.cell 5
            have tl : wr.heap.size < wE.heap.size := hrE.lt
            obtain ⟨a3, p3, he3, hp3, hC2⟩ := Kd.R_reads (Kd.R_of_own (enc := Value.int .i64) (h1 := fun _ => rfl) (ok := fun _ => True) hv2 (fun _ _ => trivial))
            obtain ⟨rfl, rfl⟩ : a2 = a3 ∧ p2 = p3 := by simpa using he3
            have hTE := HX.out.1.below hbE
            have hBE := HX.out.2.1.trans (hbE.mono HX.out.2.1.size)
            have HC2 := Lib.hid (And.intro hp2 hC2)
            have HXE := Lib.hid (show ∀ w', Below wE.heap.size wE w' → RiseI w B b (.int .i64 S) (.int .i64 y.fs.length) w' from fun w' h => ⟨x, y.add ⟨nm, ar', rs, df⟩ A', S, _, rfl, rfl, HS.out, by simp [Nm.add]; omega, hTE.below h, hBE.trans (h.mono hBE.size)⟩)
            have HA3 := Lib.hid (show ∀ w', Below wE.heap.size wE w' → (Kd.int .i64).C w' A3 la.length la from fun w' h => Kd.C_below HOP.out.2 (hBE.trans (h.mono hBE.size)))
            clear hv2 hrE hp2 hp3 hC2 he3 hTE hBE
            obtain ⟨kk, hsame⟩ := same_says nm la rs df (by unfold maxLen; omega)
            have HSM := Lib.hid hsame
            clear hsame
            go_wp2_with fail
            refine (juristref05_SameFun.calls kk nm a2 p2 la rs df nm A3 c3 la rs df true _ (Kd.C_alloc HC2.out.2 _) HC2.out.1 (HA3.out _ (by (repeat (first | (with_reducible exact Below.refl _ _) | ((with_reducible refine Below.alloc ?_ ?_ _); rotate_left; focus (first | (simp; done) | (simp; omega))) | ((with_reducible refine Below.setCell ?_ ?_ _); rotate_left; focus (first | (simp; done) | (simp; omega))) | (with_reducible refine Below.drew ?_) | (with_reducible refine Below.drewN' ?_ _))))) HOP.out.1 HSM.out).mono ?_
            rintro e wF ⟨rfl, hbF⟩
            have HXF := Lib.hid (HXE.out wF (by (repeat (first | (with_reducible exact Below.refl _ _) | ((with_reducible refine Below.alloc ?_ ?_ _); rotate_left; focus (first | (simp; done) | (simp; omega) | (have q0 := hbF.size; (try simp at q0); (try simp); omega))) | ((with_reducible refine Below.setCell ?_ ?_ _); rotate_left; focus (first | (simp; done) | (simp; omega) | (have q0 := hbF.size; (try simp at q0); (try simp); omega))) | (with_reducible refine Below.drew ?_) | (with_reducible refine Below.drewN' ?_ _) | (with_reducible refine Below.trans ?_ (hbF.mono ?_); rotate_left; focus (first | (simp; done) | (simp; omega) | (have q0 := hbF.size; (try simp at q0); (try simp); omega)))))))
            clear HXE hbF t2 t3 t4 t5 tl
            go_wp2_with fail
            go_roundw
            case rel => exact ⟨k + 1, by go_num, by omega, HXF⟩
            case measure => simp [intOf]; omega
        case neg =>
        by_cases e2 : kd = 2
        case pos =>
          subst e2
          go_wp2_with fail
          refine (push_any HTA.out.1).mono ?_
          intro e wB hps
          have HE := Lib.hid (show RiseI w B b (.int .i64 S) (.int .i64 F) wB from by
            rcases hps with ⟨er, _, _, _, ht, hlow, _⟩ | ⟨M1, M2, _, ht, hlow, _⟩
            · exact ⟨x, y, S, F, rfl, rfl, HS.out, HF.out, ht, HTA.out.2.1.trans (hlow.mono hBl)⟩
            · exact ⟨x.push M1, y.push M2, S, F, rfl, rfl, HS.out, HF.out, ht, HTA.out.2.1.trans (hlow.mono hBl)⟩)
          obtain ⟨er, rfl⟩ : ∃ er : Int, e = .returned (.int .i64 er) := by
            rcases hps with ⟨er, _, rfl, _⟩ | ⟨M1, M2, rfl, _⟩
            · exact ⟨_, rfl⟩
            · exact ⟨_, rfl⟩
          clear hps q0 q1 q2 q3 q4 q5 hadd
          go_wp2_with fail
          go_roundw
          case rel => exact ⟨k + 1, by go_num, by omega, HE⟩
          case measure => simp [intOf]; omega
        case neg =>
        by_cases e3 : kd = 3
        case pos =>
          subst e3
          go_wp2_with fail
          refine (popT_any HTA.out.1 nn).mono ?_
          intro e wB hps
          have HE := Lib.hid (show RiseI w B b (.int .i64 S) (.int .i64 F) wB from by
            rcases hps with ⟨er, _, _, _, ht, hlow, _⟩ | ⟨_, _, ht, hlow, _⟩ | ⟨q, f1, f2, M1, M2, _, _, _, _, _, ht, hlow, _⟩
            · exact ⟨x, y, S, F, rfl, rfl, HS.out, HF.out, ht, HTA.out.2.1.trans (hlow.mono hBl)⟩
            · exact ⟨x, y, S, F, rfl, rfl, HS.out, HF.out, ht, HTA.out.2.1.trans (hlow.mono hBl)⟩
            · exact ⟨x.popTo q f1 M1, y.popTo q f2 M2, S, F, rfl, rfl, HS.out, HF.out, ht, HTA.out.2.1.trans (hlow.mono hBl)⟩)
          obtain ⟨er, rfl⟩ : ∃ er : Int, e = .returned (.int .i64 er) := by
            rcases hps with ⟨er, _, rfl, _⟩ | ⟨rfl, _⟩ | ⟨q, f1, f2, M1, M2, rfl, _⟩
            · exact ⟨_, rfl⟩
            · exact ⟨_, rfl⟩
            · exact ⟨_, rfl⟩
          clear hps q0 q1 q2 q3 q4 q5 hadd
          go_wp2_with fail
          go_roundw
          case rel => exact ⟨k + 1, by go_num, by omega, HE⟩
          case measure => simp [intOf]; omega
        case neg =>
          have e0' : (kd == 0) = false := by simpa using e0
          have e1' : (kd == 1) = false := by simpa using e1
          have e2' : (kd == 2) = false := by simpa using e2
          have e3' : (kd == 3) = false := by simpa using e3
          have HE := Lib.hid (show RiseI w B b (.int .i64 S) (.int .i64 F) (wr.alloc (.cells (opCells kd nn nm (.slice A3 la.length c3) rs df).toArray 32)) from
            ⟨x, y, S, F, rfl, rfl, HS.out, HF.out, HTA.out.1, HTA.out.2.1⟩)
          clear e0 e1 e2 e3
          go_wp2_with fail
          go_roundw
          case rel => exact ⟨k + 1, by go_num, by omega, HE⟩
          case measure => simp [intOf]; omega
end Go.Proofs.Ytggbnjdbbomjoaa
