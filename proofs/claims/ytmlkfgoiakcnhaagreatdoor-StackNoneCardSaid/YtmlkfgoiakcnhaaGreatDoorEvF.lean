/- Operators, lengths, slices, parts laid together: the abstract run's answers are the machine's. -/
import Derived.Test.YtmlkfgoiakcnhaaGreatDoorEvE
namespace Go.Proofs.YtmlkfgoiakcnhaaGreatDoor
open Go Go.RowKit

section
variable {P : Program} {tab : Tab} {β : Type} {fail : β} {G : β → Prop} (hf : ¬ G fail)
include hf
theorem binI_spec {op : BinOp} {t : TypeId} {ki : IntKind} {a b : Int} {k : EV → β} {σ : Sg} {w : World} (hs : isShift op = false) (hg : G (binI fail op ki a b k)) :
    ∃ e e', (binOp op t (.int ki a) (.int ki b)).run P w = .ok e' w ∧ VR σ e e' ∧ G (k e) := by
  unfold binI at hg
  cases op <;> simp only at hg <;> first
    | exact absurd hg hf
    | (cases hs; done)
    | skip
  case add => exact ⟨_, .int ki (ki.wrap (a + b)), by simp [binOp, Op.intArith], by simp only [VR], forceI_spec hg⟩
  case sub => exact ⟨_, .int ki (ki.wrap (a - b)), by simp [binOp, Op.intArith], by simp only [VR], forceI_spec hg⟩
  case mul => exact ⟨_, .int ki (ki.wrap (a * b)), by simp [binOp, Op.intArith], by simp only [VR], forceI_spec hg⟩
  case quo =>
    cases hz : eqInt b 0 with
    | true => rw [hz] at hg; exact absurd hg hf
    | false =>
      rw [hz] at hg
      simp only [cond_false] at hg
      rw [eqInt_eq] at hz
      have hz' : ¬ b = 0 := by simpa using hz
      exact ⟨_, .int ki (ki.wrap (a.tdiv b)), by simp [binOp, Op.intDiv, hz'], by simp only [VR], forceI_spec hg⟩
  case rem =>
    cases hz : eqInt b 0 with
    | true => rw [hz] at hg; exact absurd hg hf
    | false =>
      rw [hz] at hg
      simp only [cond_false] at hg
      rw [eqInt_eq] at hz
      have hz' : ¬ b = 0 := by simpa using hz
      exact ⟨_, .int ki (a.tmod b), by simp [binOp, Op.intDiv, hz'], by simp only [VR], forceI_spec hg⟩
  case and => exact ⟨_, .int ki (ki.wrap ((BitVec.ofInt ki.bits a &&& BitVec.ofInt ki.bits b).toNat : Nat)), by simp [binOp, Op.intBits], by simp only [VR], forceI_spec hg⟩
  case or => exact ⟨_, .int ki (ki.wrap ((BitVec.ofInt ki.bits a ||| BitVec.ofInt ki.bits b).toNat : Nat)), by simp [binOp, Op.intBits], by simp only [VR], forceI_spec hg⟩
  case xor => exact ⟨_, .int ki (ki.wrap ((BitVec.ofInt ki.bits a ^^^ BitVec.ofInt ki.bits b).toNat : Nat)), by simp [binOp, Op.intBits], by simp only [VR], forceI_spec hg⟩
  case eql => exact ⟨_, .bool (a == b), by simp [binOp, Op.intCmp], by simp only [VR, eqInt_eq], hg⟩
  case neq => exact ⟨_, .bool (a != b), by simp [binOp, Op.intCmp], by simp only [VR, eqInt_eq]; (try rfl), hg⟩
  case lss => exact ⟨_, .bool (decide (a < b)), by simp [binOp, Op.intCmp], by simp only [VR, ltInt_eq], hg⟩
  case leq => exact ⟨_, .bool (decide (a ≤ b)), by simp [binOp, Op.intCmp], by simp only [VR, ltInt_eq]; congr 1; rw [Bool.eq_iff_iff]; simp, hg⟩
  case gtr => exact ⟨_, .bool (decide (a > b)), by simp [binOp, Op.intCmp], by simp only [VR, ltInt_eq]; (try rfl), hg⟩
  case geq => exact ⟨_, .bool (decide (a ≥ b)), by simp [binOp, Op.intCmp], by simp only [VR, ltInt_eq]; congr 1; rw [Bool.eq_iff_iff]; simp, hg⟩
theorem binShift_spec {op : BinOp} {t : TypeId} {ki kj : IntKind} {a b : Int} {k : EV → β} {σ : Sg} {w : World} (hg : G (binShift fail op ki a b k)) :
    ∃ e e', (binOp op t (.int ki a) (.int kj b)).run P w = .ok e' w ∧ VR σ e e' ∧ G (k e) := by
  unfold binShift at hg
  cases hz : ltInt b 0 with
  | true => rw [hz] at hg; exact absurd hg hf
  | false =>
    rw [hz] at hg
    rw [ltInt_eq] at hz
    have hz' : ¬ b < 0 := by simpa using hz
    cases op <;> simp only [cond_false] at hg <;> first
      | exact absurd hg hf
      | skip
    case shl => exact ⟨_, .int ki (ki.wrap (a * 2 ^ (min b.toNat ki.bits))), by simp [binOp, Op.shift, hz'], by simp only [VR], forceI_spec hg⟩
    case shr => exact ⟨_, .int ki (a.fdiv (2 ^ (min b.toNat ki.bits))), by simp [binOp, Op.shift, hz'], by simp only [VR], forceI_spec hg⟩
omit hf in
theorem size_bytes (a : List UInt8) : (⟨a.toArray⟩ : ByteArray).size = a.length := by show a.toArray.size = _; simp
theorem binS_spec {op : BinOp} {t : TypeId} {a b : List UInt8} {k : EV → β} {σ : Sg} {w : World} (hg : G (binS fail op a b k)) :
    ∃ e e', (binOp op t (.string ⟨a.toArray⟩) (.string ⟨b.toArray⟩)).run P w = .ok e' w ∧ VR σ e e' ∧ G (k e) := by
  unfold binS at hg
  cases op <;> simp only at hg <;> first
    | exact absurd hg hf
    | skip
  case add =>
    cases hz : Nat.ble (Nat.add a.length b.length) 9223372036854775807 with
    | false => rw [hz] at hg; exact absurd hg hf
    | true =>
      rw [hz] at hg
      have hle := Nat.le_of_ble_eq_true hz
      refine ⟨_, .string ⟨(a ++ b).toArray⟩, ?_, by simp only [VR], hg⟩
      have h1 : ¬ (((⟨a.toArray⟩ : ByteArray).size + (⟨b.toArray⟩ : ByteArray).size : Nat) : Int) > IntKind.i64.max := by
        rw [size_bytes, size_bytes]
        have : IntKind.i64.max = 9223372036854775807 := by decide
        rw [this]
        have : a.length + b.length ≤ 9223372036854775807 := hle
        omega
      have h2 : (⟨a.toArray⟩ : ByteArray) ++ ⟨b.toArray⟩ = ⟨(a ++ b).toArray⟩ := by
        apply ByteArray.ext
        show ((⟨a.toArray⟩ : ByteArray).append ⟨b.toArray⟩).data = _
        simp
      simp only [binOp, Op.stringOp, h1, if_false, h2, Sem.run_pure]
  case eql => exact ⟨_, .bool (a == b), by simp [binOp, Op.stringOp, ByteArray.toList_eq], by simp only [VR, eqBytes_eq], hg⟩
  case neq => exact ⟨_, .bool (!(a == b)), by simp [binOp, Op.stringOp, ByteArray.toList_eq], by simp only [VR, eqBytes_eq], hg⟩
  case lss => exact ⟨_, .bool (Op.bytesLess a b), by simp [binOp, Op.stringOp, ByteArray.toList_eq], by simp only [VR, ltBytes_eq], hg⟩
  case leq => exact ⟨_, .bool (Op.bytesLess a b || a == b), by simp [binOp, Op.stringOp, ByteArray.toList_eq], by simp only [VR, ltBytes_eq, eqBytes_eq], hg⟩
  case gtr => exact ⟨_, .bool (!(Op.bytesLess a b || a == b)), by simp [binOp, Op.stringOp, ByteArray.toList_eq], by simp only [VR, ltBytes_eq, eqBytes_eq], hg⟩
  case geq => exact ⟨_, .bool (!(Op.bytesLess a b)), by simp [binOp, Op.stringOp, ByteArray.toList_eq], by simp only [VR, ltBytes_eq], hg⟩
omit hf in
def scalarK : EV → Bool
  | .int _ _ => true
  | .unkI _ => true
  | .rng _ _ _ => true
  | .str _ => true
  | .unkS => true
  | .iface0 => true
  | .unkV => true
  | _ => false
omit hf in
theorem VR.none_of {σ : Sg} {x : EV} {v : Value} (h : VR σ x v) (hx : scalarK x = false) :
    (∀ a b, v ≠ .int a b) ∧ (∀ a, v ≠ .string a) ∧ v ≠ .nilIface ∧ (∀ a b, v ≠ .float a b) ∧ ∀ a b c, v ≠ .complex a b c := by
  cases x <;> simp only [VR] at h <;> first
    | (cases hx; done)
    | (subst h; simp; done)
    | (obtain ⟨_, _, rfl⟩ := h; simp; done)
    | (obtain ⟨_, _, rfl, _⟩ := h; simp; done)
    | (obtain ⟨_, rfl, _⟩ := h; simp; done)
    | (obtain ⟨_, rfl⟩ := h; simp; done)
    | (obtain ⟨_, _, _, rfl⟩ := h; simp; done)
omit hf in
/-- a comparison of two scalars of a kind is some bool -/
theorem cmpI_some {op : BinOp} {t : TypeId} {ki : IntKind} {a b : Int} {w : World} (hc : isCmp op = true) : ∃ r, (binOp op t (.int ki a) (.int ki b)).run P w = .ok (.bool r) w := by
  cases op <;> first
    | (cases hc; done)
    | exact ⟨_, by simp [binOp, Op.intCmp]; rfl⟩
omit hf in
theorem cmpS_some {op : BinOp} {t : TypeId} {a b : ByteArray} {w : World} (hc : isCmp op = true) : ∃ r, (binOp op t (.string a) (.string b)).run P w = .ok (.bool r) w := by
  cases op <;> first
    | (cases hc; done)
    | exact ⟨_, by simp only [binOp, Op.stringOp, Sem.run_pure]; rfl⟩
theorem unkOr_spec {c : Bool} {k : EV → β} (hg : G (unkOr fail c k)) : c = true ∧ G (k .unkB) := by
  unfold unkOr at hg
  cases c with
  | true => exact ⟨rfl, hg⟩
  | false => exact absurd hg hf
omit hf in
theorem run_eqGuard_int (op : BinOp) (t : TypeId) (x y : Operand) (ki kj : IntKind) (a b : Int) (w : World) : (eqGuard op t x y (.int ki a) (.int kj b)).run P w = .ok () w := by cases op <;> simp [eqGuard]
omit hf in
theorem run_eqGuard_string (op : BinOp) (t : TypeId) (x y : Operand) (a b : ByteArray) (w : World) : (eqGuard op t x y (.string a) (.string b)).run P w = .ok () w := by cases op <;> simp [eqGuard]
omit hf in
theorem ltO_spec {a b : Option Int} (h : ltO a b = true) : ∃ x y, a = some x ∧ b = some y ∧ x < y := by
  cases a <;> cases b <;> simp only [ltO] at h <;> try (cases h; done)
  exact ⟨_, _, rfl, rfl, by rw [ltInt_eq] at h; simpa using h⟩
omit hf in
theorem leO_spec {a b : Option Int} (h : leO a b = true) : ∃ x y, a = some x ∧ b = some y ∧ x ≤ y := by
  cases a <;> cases b <;> simp only [leO] at h <;> try (cases h; done)
  exact ⟨_, _, rfl, rfl, by rw [ltInt_eq] at h; simpa using h⟩
theorem cmpR_spec {op : BinOp} {t : TypeId} {xo yo : Operand} {ki kj : IntKind} {a b c d : Option Int} {n m : Int} {k : EV → β} {σ : Sg} {w : World} (hg : G (cmpR fail op ki kj a b c d k))
    (ha : ∀ x, a = some x → x ≤ n) (hb : ∀ x, b = some x → n ≤ x) (hc : ∀ x, c = some x → x ≤ m) (hd : ∀ x, d = some x → m ≤ x) :
    ∃ e e', (do eqGuard op t xo yo (.int ki n) (.int kj m); binOp op t (.int ki n) (.int kj m) : Sem Value).run P w = .ok e' w ∧ VR σ e e' ∧ G (k e) := by
  unfold cmpR at hg
  cases hk : ikEq ki kj with
  | false => rw [hk] at hg; exact absurd hg hf
  | true =>
    rw [hk] at hg
    simp only [cond_true] at hg
    have := ikEq_eq hk
    subst this
    have wrap : ∀ (v : Value), (binOp op t (.int ki n) (.int ki m)).run P w = .ok v w → (do eqGuard op t xo yo (.int ki n) (.int ki m); binOp op t (.int ki n) (.int ki m) : Sem Value).run P w = .ok v w := fun v h => by
      simp only [Sem.run_bind, run_eqGuard_int, Result.andThen_ok, h]
    have unk : ∀ (hcm : isCmp op = true), G (k .unkB) → ∃ e e', (do eqGuard op t xo yo (.int ki n) (.int ki m); binOp op t (.int ki n) (.int ki m) : Sem Value).run P w = .ok e' w ∧ VR σ e e' ∧ G (k e) := fun hcm hg => by
      obtain ⟨r, hr⟩ := cmpI_some (P := P) (t := t) (ki := ki) (a := n) (b := m) (w := w) hcm
      exact ⟨_, _, wrap _ hr, by simp only [VR]; exact ⟨_, rfl⟩, hg⟩
    have sure : ∀ (r : Bool), (binOp op t (.int ki n) (.int ki m)).run P w = .ok (.bool r) w → G (k (.bool r)) → ∃ e e', (do eqGuard op t xo yo (.int ki n) (.int ki m); binOp op t (.int ki n) (.int ki m) : Sem Value).run P w = .ok e' w ∧ VR σ e e' ∧ G (k e) :=
      fun r h hg => ⟨_, _, wrap _ h, by simp only [VR], hg⟩
    have lt1 : ltO b c = true → n < m := fun h => by
      obtain ⟨x, y, e1, e2, h⟩ := ltO_spec h
      have := hb x e1; have := hc y e2; omega
    have lt2 : ltO d a = true → m < n := fun h => by
      obtain ⟨x, y, e1, e2, h⟩ := ltO_spec h
      have := hd x e1; have := ha y e2; omega
    have le1 : leO b c = true → n ≤ m := fun h => by
      obtain ⟨x, y, e1, e2, h⟩ := leO_spec h
      have := hb x e1; have := hc y e2; omega
    have le2 : leO d a = true → m ≤ n := fun h => by
      obtain ⟨x, y, e1, e2, h⟩ := leO_spec h
      have := hd x e1; have := ha y e2; omega
    cases op <;> simp only at hg <;> first | exact absurd hg hf | skip
    case add => exact ⟨_, _, wrap _ (by simp [binOp]; rfl), by simp only [VR]; exact ⟨_, rfl⟩, hg⟩
    case sub => exact ⟨_, _, wrap _ (by simp [binOp]; rfl), by simp only [VR]; exact ⟨_, rfl⟩, hg⟩
    case mul => exact ⟨_, _, wrap _ (by simp [binOp]; rfl), by simp only [VR]; exact ⟨_, rfl⟩, hg⟩
    case lss =>
      cases h1 : ltO b c with
      | true => rw [h1] at hg; exact sure true (by have := lt1 h1; simp [binOp, Op.intCmp, this]) hg
      | false =>
        rw [h1] at hg
        cases h2 : leO d a with
        | true => rw [h2] at hg; exact sure false (by have := le2 h2; simp [binOp, Op.intCmp]; omega) hg
        | false => rw [h2] at hg; exact unk rfl hg
    case leq =>
      cases h1 : leO b c with
      | true => rw [h1] at hg; exact sure true (by have := le1 h1; simp [binOp, Op.intCmp, this]) hg
      | false =>
        rw [h1] at hg
        cases h2 : ltO d a with
        | true => rw [h2] at hg; exact sure false (by have := lt2 h2; simp [binOp, Op.intCmp]; omega) hg
        | false => rw [h2] at hg; exact unk rfl hg
    case gtr =>
      cases h1 : ltO d a with
      | true => rw [h1] at hg; exact sure true (by have := lt2 h1; simp [binOp, Op.intCmp, this]) hg
      | false =>
        rw [h1] at hg
        cases h2 : leO b c with
        | true => rw [h2] at hg; exact sure false (by have := le1 h2; simp [binOp, Op.intCmp]; omega) hg
        | false => rw [h2] at hg; exact unk rfl hg
    case geq =>
      cases h1 : leO d a with
      | true => rw [h1] at hg; exact sure true (by have := le2 h1; simp [binOp, Op.intCmp, this]) hg
      | false =>
        rw [h1] at hg
        cases h2 : ltO b c with
        | true => rw [h2] at hg; exact sure false (by have := lt1 h2; simp [binOp, Op.intCmp]; omega) hg
        | false => rw [h2] at hg; exact unk rfl hg
    case eql =>
      cases h1 : (ltO b c || ltO d a) with
      | true =>
        rw [h1] at hg
        refine sure false ?_ hg
        have : n ≠ m := by
          rw [Bool.or_eq_true] at h1; rcases h1 with h | h
          · have := lt1 h; omega
          · have := lt2 h; omega
        simp [binOp, Op.intCmp, this]
      | false => rw [h1] at hg; exact unk rfl hg
    case neq =>
      cases h1 : (ltO b c || ltO d a) with
      | true =>
        rw [h1] at hg
        refine sure true ?_ hg
        have : n ≠ m := by
          rw [Bool.or_eq_true] at h1; rcases h1 with h | h
          · have := lt1 h; omega
          · have := lt2 h; omega
        simp [binOp, Op.intCmp, this]
      | false => rw [h1] at hg; exact unk rfl hg
theorem binE_spec (hT : TabOk P tab) {op : BinOp} {t : TypeId} {xo yo : Operand} {x y : EV} {k : EV → β} {σ : Sg} {w : World} {x' y' : Value} (hg : G (binE tab fail op t x y k)) (hx : VR σ x x') (hy : VR σ y y') :
    ∃ e e', (do eqGuard op t xo yo x' y'; binOp op t x' y' : Sem Value).run P w = .ok e' w ∧ VR σ e e' ∧ G (k e) := by
  have other : ∀ (hgen : G (binG tab fail op t x y k)) (h1 : ∀ a b c d, x' = .int a b → y' = .int c d → False) (h2 : ∀ a b, x' = .string a → y' = .string b → False) (hi : x' = .nilIface → eqT tab 20 t x y = none)
      (hfl : ∀ a b c d, x' = .float a b → y' = .float c d → False) (hcx : ∀ a b c d e f, x' = .complex a b c → y' = .complex d e f → False), ∃ e e', (do eqGuard op t xo yo x' y'; binOp op t x' y' : Sem Value).run P w = .ok e' w ∧ VR σ e e' ∧ G (k e) := by
    intro hgen h1 h2 hi hfl hcx
    unfold binG at hgen
    cases hag : (isAggE x && eqgOf tab t) with
    | true => rw [hag] at hgen; exact absurd hgen hf
    | false =>
      rw [hag] at hgen
      simp only [cond_false] at hgen
      have key : ∀ b, eqT tab 20 t x y = some b → (op = .eql ∨ op = .neq) → (eqGuard op t xo yo x' y').run P w = .ok () w ∧ (Op.equal t x' y').run P w = .ok b w := by
        intro b hb hop
        refine ⟨?_, eqT_spec hT 20 t x y b hb σ Op.maxDepth x' y' w (by simp [Op.maxDepth]) hx hy⟩
        by_cases hxa : isAggE x = true
        · rw [hxa, Bool.true_and] at hag
          cases hti : tab.ty.get t with
          | none => simp only [eqgOf, hti] at hag; cases hag
          | some i =>
            simp only [eqgOf, hti] at hag
            have hq := (hT.ty t i hti).eqg hag
            cases x <;> first | (cases hxa; done) | skip
            simp only [VR] at hx
            obtain ⟨xs, rfl, _⟩ := hx
            cases y' <;> first
              | exact run_eqGuard_agg w op t xo yo _ _ hq
              | (rcases hop with rfl | rfl <;> simp [eqGuard])
        · have hna : ∀ l, x' ≠ .agg l := by
            intro l hl
            subst hl
            cases x <;> simp only [VR] at hx <;> first
              | (cases hx; done)
              | (exact absurd rfl hxa)
              | (obtain ⟨_, _, h⟩ := hx; cases h; done)
              | (obtain ⟨_, _, h, _⟩ := hx; cases h; done)
              | (obtain ⟨_, h, _⟩ := hx; cases h; done)
              | (obtain ⟨_, h⟩ := hx; cases h; done)
              | (obtain ⟨_, _, _, h⟩ := hx; cases h; done)
          have hni : x' ≠ .nilIface := fun h => by rw [hi h] at hb; cases hb
          rcases hop with rfl | rfl <;> cases x' <;> first
            | exact absurd rfl (hna _)
            | exact absurd rfl hni
            | (cases y' <;> simp [eqGuard])
      have hbin : ∀ b, (Op.equal t x' y').run P w = .ok b w → (binOp .eql t x' y').run P w = .ok (.bool b) w ∧ (binOp .neq t x' y').run P w = .ok (.bool (!b)) w := by
        intro b hb
        cases x' <;> cases y' <;> first
          | exact (h1 _ _ _ _ rfl rfl).elim
          | exact (h2 _ _ rfl rfl).elim
          | exact (hfl _ _ _ _ rfl rfl).elim
          | exact (hcx _ _ _ _ _ _ rfl rfl).elim
          | exact ⟨by simp only [binOp, Sem.run_bind, hb, Result.andThen_ok, Sem.run_pure], by simp only [binOp, Sem.run_bind, hb, Result.andThen_ok, Sem.run_pure]⟩
      cases op <;> simp only at hgen <;> first
        | exact absurd hgen hf
        | skip
      case eql =>
        cases hb : eqT tab 20 t x y with
        | none => simp only [hb] at hgen; exact absurd hgen hf
        | some b =>
          simp only [hb] at hgen
          obtain ⟨a1, a2⟩ := key b hb (.inl rfl)
          exact ⟨_, .bool b, by simp only [Sem.run_bind, a1, Result.andThen_ok, (hbin b a2).1], by simp only [VR], hgen⟩
      case neq =>
        cases hb : eqT tab 20 t x y with
        | none => simp only [hb] at hgen; exact absurd hgen hf
        | some b =>
          simp only [hb] at hgen
          obtain ⟨a1, a2⟩ := key b hb (.inr rfl)
          exact ⟨_, .bool (!b), by simp only [Sem.run_bind, a1, Result.andThen_ok, (hbin b a2).2], by simp only [VR], hgen⟩
  unfold binE at hg
  cases x with
  | int ki a =>
    simp only [VR] at hx
    subst hx
    cases y with
    | int kj b =>
      simp only [VR] at hy
      subst hy
      simp only at hg
      cases hs : isShift op with
      | true =>
        rw [hs] at hg
        simp only [cond_true] at hg
        obtain ⟨e, e', r, q, hg⟩ := binShift_spec (P := P) (t := t) (kj := kj) (σ := σ) (w := w) hf hg
        exact ⟨e, e', by simp only [Sem.run_bind, run_eqGuard_int, Result.andThen_ok, r], q, hg⟩
      | false =>
        rw [hs] at hg
        simp only [cond_false] at hg
        cases hk : ikEq ki kj with
        | false => rw [hk] at hg; exact absurd hg hf
        | true =>
          rw [hk] at hg
          simp only [cond_true] at hg
          have := ikEq_eq hk
          obtain ⟨e, e', r, q, hg2⟩ := binI_spec (P := P) (t := t) (σ := σ) (w := w) hf hs hg
          subst this
          exact ⟨e, e', by simp only [Sem.run_bind, run_eqGuard_int, Result.andThen_ok, r], q, hg2⟩
    | unkI kj =>
      simp only [VR] at hy
      obtain ⟨b, rfl⟩ := hy
      exact cmpR_spec hf hg (fun _ h => by cases h; exact Int.le_refl _) (fun _ h => by cases h; exact Int.le_refl _) (fun _ h => by cases h) (fun _ h => by cases h)
    | rng kj c d =>
      simp only [VR] at hy
      obtain ⟨b, rfl, h3, h4⟩ := hy
      exact cmpR_spec hf hg (fun _ h => by cases h; exact Int.le_refl _) (fun _ h => by cases h; exact Int.le_refl _) (fun _ h => by cases h; exact h3) (fun _ h => by cases h; exact h4)
    | _ => exact absurd hg hf
  | unkI ki =>
    simp only [VR] at hx
    obtain ⟨a, rfl⟩ := hx
    cases y with
    | int kj b =>
      simp only [VR] at hy
      subst hy
      exact cmpR_spec hf hg (fun _ h => by cases h) (fun _ h => by cases h) (fun _ h => by cases h; exact Int.le_refl _) (fun _ h => by cases h; exact Int.le_refl _)
    | unkI kj =>
      simp only [VR] at hy
      obtain ⟨b, rfl⟩ := hy
      exact cmpR_spec hf hg (fun _ h => by cases h) (fun _ h => by cases h) (fun _ h => by cases h) (fun _ h => by cases h)
    | rng kj c d =>
      simp only [VR] at hy
      obtain ⟨b, rfl, h3, h4⟩ := hy
      exact cmpR_spec hf hg (fun _ h => by cases h) (fun _ h => by cases h) (fun _ h => by cases h; exact h3) (fun _ h => by cases h; exact h4)
    | _ => exact absurd hg hf
  | rng ki lo hi =>
    simp only [VR] at hx
    obtain ⟨a, rfl, h1, h2⟩ := hx
    cases y with
    | int kj b =>
      simp only [VR] at hy
      subst hy
      exact cmpR_spec hf hg (fun _ h => by cases h; exact h1) (fun _ h => by cases h; exact h2) (fun _ h => by cases h; exact Int.le_refl _) (fun _ h => by cases h; exact Int.le_refl _)
    | unkI kj =>
      simp only [VR] at hy
      obtain ⟨b, rfl⟩ := hy
      exact cmpR_spec hf hg (fun _ h => by cases h; exact h1) (fun _ h => by cases h; exact h2) (fun _ h => by cases h) (fun _ h => by cases h)
    | rng kj c d =>
      simp only [VR] at hy
      obtain ⟨b, rfl, h3, h4⟩ := hy
      exact cmpR_spec hf hg (fun _ h => by cases h; exact h1) (fun _ h => by cases h; exact h2) (fun _ h => by cases h; exact h3) (fun _ h => by cases h; exact h4)
    | _ => exact absurd hg hf
  | str a =>
    simp only [VR] at hx
    subst hx
    cases y with
    | str b =>
      simp only [VR] at hy
      subst hy
      simp only at hg
      obtain ⟨e, e', r, q, hg⟩ := binS_spec (P := P) (t := t) (σ := σ) (w := w) hf hg
      exact ⟨e, e', by simp only [Sem.run_bind, run_eqGuard_string, Result.andThen_ok, r], q, hg⟩
    | unkS =>
      simp only [VR] at hy
      obtain ⟨b, rfl⟩ := hy
      simp only at hg
      obtain ⟨hc, hg2⟩ := unkOr_spec hf hg
      obtain ⟨r, hr⟩ := cmpS_some (P := P) (t := t) (a := ⟨a.toArray⟩) (b := b) (w := w) hc
      exact ⟨_, .bool r, by simp only [Sem.run_bind, run_eqGuard_string, Result.andThen_ok, hr], by simp only [VR]; exact ⟨_, rfl⟩, hg2⟩
    | _ => exact absurd hg hf
  | unkS =>
    simp only [VR] at hx
    obtain ⟨a, rfl⟩ := hx
    cases y with
    | str b =>
      simp only [VR] at hy
      subst hy
      simp only at hg
      obtain ⟨hc, hg2⟩ := unkOr_spec hf hg
      obtain ⟨r, hr⟩ := cmpS_some (P := P) (t := t) (a := a) (b := ⟨b.toArray⟩) (w := w) hc
      exact ⟨_, .bool r, by simp only [Sem.run_bind, run_eqGuard_string, Result.andThen_ok, hr], by simp only [VR]; exact ⟨_, rfl⟩, hg2⟩
    | unkS =>
      simp only [VR] at hy
      obtain ⟨b, rfl⟩ := hy
      simp only at hg
      obtain ⟨hc, hg2⟩ := unkOr_spec hf hg
      obtain ⟨r, hr⟩ := cmpS_some (P := P) (t := t) (a := a) (b := b) (w := w) hc
      exact ⟨_, .bool r, by simp only [Sem.run_bind, run_eqGuard_string, Result.andThen_ok, hr], by simp only [VR]; exact ⟨_, rfl⟩, hg2⟩
    | _ => exact absurd hg hf
  | iface0 => exact absurd hg hf
  | unkV => exact absurd hg hf
  | _ =>
    simp only at hg
    obtain ⟨o1, o2, o3, o4, o5⟩ := VR.none_of hx rfl
    exact other hg (fun _ _ _ _ h _ => o1 _ _ h) (fun _ _ h _ => o2 _ h) (fun h => absurd h o3) (fun _ _ _ _ h _ => o4 _ _ h) (fun _ _ _ _ _ _ h _ => o5 _ _ _ h)
theorem binO_spec (hT : TabOk P tab) {op : BinOp} {t : TypeId} {xo yo : Operand} {x y : EV} {k : EV → β} {σ : Sg} {w : World} {x' y' : Value} (hg : G (binO tab fail op t xo yo x y k)) (hx : VR σ x x') (hy : VR σ y y') :
    ∃ e e', (do eqGuard op t xo yo x' y'; binOp op t x' y' : Sem Value).run P w = .ok e' w ∧ VR σ e e' ∧ G (k e) := by
  unfold binO at hg
  split at hg
  · split at hg
    · rename_i i hi
      split at hg
      · rename_i ms hd
        have hu := (hT.ty t i hi).und
        rw [hd] at hu
        simp only [VR] at hx hy
        subst hx; subst hy
        cases hc : (isCst xo || isCst yo) with
        | false => rw [hc] at hg; exact absurd hg hf
        | true =>
          rw [hc] at hg
          simp only [cond_true] at hg
          have heq : (Op.equal t .nilIface .nilIface).run P w = .ok true w := by
            show (Op.equalIn Op.maxDepth t .nilIface .nilIface).run P w = .ok true w
            obtain ⟨d, hd'⟩ : ∃ d, Op.maxDepth = d + 1 := ⟨Op.maxDepth - 1, by simp [Op.maxDepth]⟩
            rw [hd']
            simp [Op.equalIn, run_underlying hu]
          have hgd : (op = .eql ∨ op = .neq) → (eqGuard op t xo yo .nilIface .nilIface).run P w = .ok () w := fun hop => by
            rcases hop with rfl | rfl <;> (cases xo <;> cases yo <;> first | (cases hc; done) | simp [eqGuard])
          cases op <;> simp only at hg <;> first
            | exact absurd hg hf
            | skip
          case eql => exact ⟨_, .bool true, by simp only [Sem.run_bind, hgd (.inl rfl), Result.andThen_ok, binOp, heq, Sem.run_pure], by simp only [VR], hg⟩
          case neq => exact ⟨_, .bool false, by simp only [Sem.run_bind, hgd (.inr rfl), Result.andThen_ok, binOp, heq, Sem.run_pure]; rfl, by simp only [VR], hg⟩
      · exact absurd hg hf
    · exact absurd hg hf
  · exact binE_spec hf hT hg hx hy
omit hf in
theorem run_len_string (t ty : TypeId) (s : ByteArray) (w : World) (h : P.underlying t = some .string) : (Builtin.len_ #[t] ty #[.string s]).run P w = .ok (.int .i64 s.size) w := by
  simp [Builtin.len_, run_underlying h, goInt]
theorem capE_spec {t ty : TypeId} {v : EV} {d : TypeDesc} {k : EV → β} {σ : Sg} {w : World} {v' : Value} (hu : P.underlying t = some d) (hg : G (capE fail v d k)) (hv : VR σ v v') :
    ∃ e e', (Builtin.cap_ #[t] ty #[v']).run P w = .ok e' w ∧ VR σ e e' ∧ G (k e) := by
  unfold capE at hg
  cases d with
  | slice el =>
    simp only at hg
    split at hg
    · simp only [VR] at hv; subst hv
      exact ⟨_, .int .i64 (Int.ofNat 0), by simp [Builtin.cap_, run_underlying hu, goInt], by simp only [VR], hg⟩
    · rename_i b off n c
      simp only [VR] at hv; obtain ⟨l, _, rfl, _⟩ := hv
      exact ⟨_, .int .i64 (Int.ofNat c), by simp [Builtin.cap_, run_underlying hu, goInt], by simp only [VR], hg⟩
    · exact absurd hg hf
  | _ => exact absurd hg hf
theorem lenE_spec {t ty : TypeId} {v : EV} {h : Tr EO} {d : TypeDesc} {k : EV → β} {σ : Sg} {w : World} {v' : Value} (hu : P.underlying t = some d) (hg : G (lenE fail v h d k)) (hv : VR σ v v') (H : Holds σ h w) :
    ∃ e e', (Builtin.len_ #[t] ty #[v']).run P w = .ok e' w ∧ VR σ e e' ∧ G (k e) := by
  unfold lenE at hg
  cases d with
  | string =>
    simp only at hg
    split at hg
    · rename_i s
      simp only [VR] at hv; subst hv
      exact ⟨_, .int .i64 (Int.ofNat s.length), by rw [run_len_string _ _ _ _ hu, size_bytes]; rfl, by simp only [VR], hg⟩
    · simp only [VR] at hv; obtain ⟨s, rfl⟩ := hv
      exact ⟨_, .int .i64 s.size, run_len_string _ _ _ _ hu, by simp only [VR]; exact ⟨_, rfl⟩, hg⟩
    · exact absurd hg hf
  | slice e =>
    simp only at hg
    split at hg
    · simp only [VR] at hv; subst hv
      exact ⟨_, .int .i64 0, by simp [Builtin.len_, run_underlying hu, goInt], by simp only [VR]; rfl, hg⟩
    · rename_i n _
      simp only [VR] at hv; obtain ⟨l, _, rfl, _⟩ := hv
      exact ⟨_, .int .i64 (Int.ofNat n), by simp [Builtin.len_, run_underlying hu, goInt], by simp only [VR], hg⟩
    · simp only [VR] at hv; obtain ⟨a, n, c, rfl⟩ := hv
      exact ⟨_, .int .i64 n, by simp [Builtin.len_, run_underlying hu, goInt], by simp only [VR]; exact ⟨_, rfl⟩, hg⟩
    · exact absurd hg hf
  | map a b =>
    simp only at hg
    split at hg
    · simp only [VR] at hv; subst hv
      exact ⟨_, .int .i64 0, by simp [Builtin.len_, run_underlying hu, goInt], by simp only [VR]; rfl, hg⟩
    · rename_i b
      split at hg
      · rename_i l clock ho
        obtain ⟨lc, ob, h1, h2, ms, rfl, h4⟩ := H.there b _ ho
        simp only [VR] at hv; obtain ⟨lc', h5, rfl⟩ := hv
        rw [h1] at h5; cases h5
        refine ⟨_, .int .i64 (Int.ofNat l.length), ?_, by simp only [VR], hg⟩
        have hl := h4.len
        have hgo : (getObj lc.blk).run P w = .ok (.map ms clock) w := by simp [getObj, Sem.run, h2]
        have hl' : ms.size = l.length := by rw [hl]; simp
        simp [Builtin.len_, run_underlying hu, goInt, hgo, hl']
      · exact absurd hg hf
    · exact absurd hg hf
  | _ => exact absurd hg hf
end
end Go.Proofs.YtmlkfgoiakcnhaaGreatDoor
