/- The walk of do: a call, on the table and on the reference's. -/
import Derived.Test.YtggbnjdbbomjoaaSorX
namespace Go.Proofs.Ytggbnjdbbomjoaa
open Go Go.RowKit Go.Proofs.YtggbnjdbbomjoaaW.PrintWords Go.Proofs.Ytggbnjdbbomjoaa.PSortsScopes
/-- a call's words in a box of the call's own -/
def opCells (kd nn : Int) (nm : ByteArray) (ar : Value) (rs : Int) (df : Bool) : List Value := [.int .i64 kd, .int .i64 nn, .string nm, ar, .int .i64 rs, .bool df]
/-- what a call makes of the records -/
inductive StepR (kd nn : Int) (w : World) (x y : Nm) : Nm → Nm → Prop
  | same : StepR kd nn w x y x y
  | addx (f : Fd) (A' : Value) (h : Maps.has x.D (kS f.nm) = false) (h1 : f.nm ≠ sBool) (h2 : f.nm ≠ sInt) : StepR kd nn w x y (x.add f A') y
  | addy (f : Fd) (A' : Value) (h : Maps.has y.D (kS f.nm) = false) : StepR kd nn w x y x (y.add f A')
  | push (M1 M2 : Value) (h1 : NewM x.M M1 w) (h2 : NewM y.M M2 w) : StepR kd nn w x y (x.push M1) (y.push M2)
  | pop (q f1 f2 : Nat) (M1 M2 : Value) (hk : kd = 3) (hn : 1 ≤ nn) (hq : (q : Int) = x.ms.length - nn) (h1 : x.ms[q]? = some (f1 : Int)) (h2 : y.ms[q]? = some (f2 : Int)) (b1 : M1.ownBlock = x.M.ownBlock) (b2 : M2.ownBlock = y.M.ownBlock) :
      StepR kd nn w x y (x.popTo q f1 M1) (y.popTo q f2 M2)
/-- what is told of a call on both -/
def DoR (B : Nat) (w : World) (b g : Nat) (x y : Nm) (r : Rt) (kd nn : Int) (e : Ending) (w' : World) : Prop :=
  saysB e ∧ ∃ x' y' r', STab B w' b x' y' ∧ RTab B w' g r' ∧ StepR kd nn w x y x' y' ∧ Ch (fun k => Own b x k ∨ Own b y k ∨ ROwn g r k) w w'
section
variable {B : Nat} {w : World} {b g : Nat} {x y : Nm} {r : Rt}
theorem STab0.no {B : Nat} {w : World} {b : Nat} {x y : Nm} (h : STab0 B w b x y) {k : Nat} (hk : w.heap.size ≤ k) : ¬ (Own b x k ∨ Own b y k) := by
  rintro ((e | e | e | e) | (e | e | e | e))
  · have := h.lt; omega
  · have := (h.okx.oA.lt _ e).2; omega
  · have := h.okx.oD.lt; omega
  · have := (h.okx.oM.lt _ e).2; omega
  · have := h.lt; omega
  · have := (h.oky.oA.lt _ e).2; omega
  · have := h.oky.oD.lt; omega
  · have := (h.oky.oM.lt _ e).2; omega
theorem Ch.inl {S T U : Nat → Prop} {a c : World} (h : Ch (fun k => S k ∨ T k) a c) : Ch (fun k => S k ∨ T k ∨ U k) a c := h.mono fun _ _ e => e.elim Or.inl (fun e => Or.inr (Or.inl e))
theorem Ch.inr {S T U : Nat → Prop} {a c : World} (h : Ch U a c) : Ch (fun k => S k ∨ T k ∨ U k) a c := h.mono fun _ _ e => Or.inr (Or.inr e)
theorem declS_sum (h : STab B w b x y) (k : RTab B w g r) (kd nn : Int) (nm : ByteArray) (hs : nm.size ≤ maxLen) : Calls Try.prog 9 #[.pointer (some ⟨b, 0, none⟩), .string nm] w fun e w' =>
    ∃ (v er : Int) (x' : Nm), e = .returned (.tuple #[.int .i64 v, .int .i64 er]) ∧ STab B w' b x' y ∧ RTab B w' g r ∧ StepR kd nn w x y x' y ∧ Ch (fun q => Own b x q ∨ Own b y q) w w' := by
  refine (declareSort_any h nm hs).mono ?_
  rintro e w' (⟨v, er, _, rfl, ht, _, hc⟩ | ⟨A', rfl, h1, h2, h3, ht, _, hc⟩)
  · exact ⟨v, er, x, rfl, ht, k.chg h hc, .same, hc⟩
  · exact ⟨_, 0, _, rfl, ht, k.chg h hc, .addx _ A' h3 h1 h2, hc⟩
theorem declF_sum (h : STab B w b x y) (k : RTab B w g r) (kd nn : Int) {B0 : Nat} (f : Fd) (hs : f.nm.size ≤ maxLen) (hres : I64 f.res) (l : List Int) (hl : l.length ≤ 40) (hI : ∀ z ∈ l, I64 z) (hv : w.ownsRow B0 27 1 f.ar l.length (l.map (Value.int .i64))) :
    Calls Try.prog 11 #[.pointer (some ⟨b, 0, none⟩), .agg f.cells.toArray] w fun e w' =>
    ∃ (v er : Int) (y' : Nm), e = .returned (.tuple #[.int .i64 v, .int .i64 er]) ∧ STab B w' b x y' ∧ RTab B w' g r ∧ StepR kd nn w x y x y' ∧ Ch (fun q => Own b x q ∨ Own b y q) w w' := by
  refine (declareFun_any h f hs hres l hl hI hv).mono ?_
  rintro e w' (⟨v, er, _, rfl, ht, _, hc⟩ | ⟨A', ar', rfl, _, h3, _, ht, _, hc⟩)
  · exact ⟨v, er, y, rfl, ht, k.chg h hc, .same, hc⟩
  · exact ⟨_, 0, _, rfl, ht, k.chg h hc, .addy ⟨f.nm, ar', f.res, f.df⟩ A' h3, hc⟩
theorem push_sum (h : STab B w b x y) (k : RTab B w g r) (kd nn : Int) : Calls Try.prog 16 #[.pointer (some ⟨b, 0, none⟩)] w fun e w' =>
    ∃ (er : Int) (x' y' : Nm), e = .returned (.int .i64 er) ∧ STab B w' b x' y' ∧ RTab B w' g r ∧ StepR kd nn w x y x' y' ∧ Ch (fun q => Own b x q ∨ Own b y q) w w' := by
  refine (push_any h).mono ?_
  rintro e w' (⟨er, _, rfl, _, ht, _, hc⟩ | ⟨M1, M2, rfl, ht, _, hc, n1, n2⟩)
  · exact ⟨er, x, y, rfl, ht, k.chg h hc, .same, hc⟩
  · exact ⟨0, _, _, rfl, ht, k.chg h hc, .push M1 M2 n1 n2, hc⟩
theorem pop_sum (h : STab B w b x y) (k : RTab B w g r) (n : Int) : Calls Try.prog 17 #[.pointer (some ⟨b, 0, none⟩), .int .i64 n] w fun e w' =>
    ∃ (er : Int) (x' y' : Nm), e = .returned (.int .i64 er) ∧ STab B w' b x' y' ∧ RTab B w' g r ∧ StepR 3 n w x y x' y' ∧ Ch (fun q => Own b x q ∨ Own b y q) w w' := by
  refine (popT_any h n).mono ?_
  rintro e w' (⟨er, _, rfl, _, ht, _, hc⟩ | ⟨rfl, _, ht, _, hc⟩ | ⟨q, f1, f2, M1, M2, rfl, h1, h2, h3, h4, ht, _, hc, n1, n2⟩)
  · exact ⟨er, x, y, rfl, ht, k.chg h hc, .same, hc⟩
  · exact ⟨0, x, y, rfl, ht, k.chg h hc, .same, hc⟩
  · exact ⟨0, _, _, rfl, ht, k.chg h hc, .pop q f1 f2 M1 M2 rfl h1 h2 h3 h4 n1 n2, hc⟩
theorem rdeclS_sum (h : STab B w b x y) (k : RTab B w g r) (nm : ByteArray) : Calls Try.prog 33 #[.pointer (some ⟨g, 0, none⟩), .string nm] w fun e w' =>
    ∃ (v er : Int) (r' : Rt), e = .returned (.tuple #[.int .i64 v, .int .i64 er]) ∧ STab B w' b x y ∧ RTab B w' g r' ∧ Ch (ROwn g r) w w' := by
  obtain ⟨k0, mr, hm⟩ := may_says nm true
  refine (rdeclareSort_any k nm mr k0 hm).mono ?_
  rintro e w' (⟨er, _, rfl, _, ht, hb⟩ | ⟨A', ar, _, _, _, _, rfl, ht, hc⟩)
  · exact ⟨0, er, r, rfl, h.below hb, ht, Ch.ofBelow hb⟩
  · exact ⟨_, 0, _, rfl, h.rch k hc, ht, hc⟩
theorem rdeclF_sum (h : STab B w b x y) (k : RTab B w g r) (nm : ByteArray) (A3 : Option Addr) (c3 : Nat) (la : List Int) (rs : Int) (df : Bool) (hl : la.length ≤ 40) (hI : ∀ z ∈ la, I64 z) (hrs : I64 rs)
    (hrd : ∀ k, k < la.length → ∃ ad bb oo, A3 = some ad ∧ ad.add k = ⟨bb, oo, none⟩ ∧ bb < B ∧ w.cell? ⟨bb, oo, none⟩ = some (.int .i64 (la.getD k 0)))
    (hcp : ∀ w', Below B w w' → Calls Try.prog 31 #[.agg #[.string nm, .slice A3 la.length c3, .int .i64 rs, .bool df]] w' fun e w'' => ∃ (za : Option Addr) (zb : Nat × Nat), e = .returned (.agg #[.string nm, .slice za zb.1 zb.2, .int .i64 rs, .bool df]) ∧ Below w'.heap.size w' w'') :
    Calls Try.prog 34 #[.pointer (some ⟨g, 0, none⟩), .agg #[.string nm, .slice A3 la.length c3, .int .i64 rs, .bool df]] w fun e w' =>
    ∃ (v er : Int) (r' : Rt), e = .returned (.tuple #[.int .i64 v, .int .i64 er]) ∧ STab B w' b x y ∧ RTab B w' g r' ∧ Ch (ROwn g r) w w' := by
  obtain ⟨k0, mr, hm⟩ := may_says nm false
  refine (rdeclareFun_any k nm A3 c3 la rs df hl hI hrs mr k0 hm hrd hcp).mono ?_
  rintro e w' (⟨er, _, rfl, ht, hb⟩ | ⟨A', ar, _, _, _, rfl, ht, hc⟩)
  · exact ⟨0, er, r, rfl, h.below hb, ht, Ch.ofBelow hb⟩
  · exact ⟨_, 0, _, rfl, h.rch k hc, ht, hc⟩
theorem rpush_sum (h : STab B w b x y) (k : RTab B w g r) : Calls Try.prog 35 #[.pointer (some ⟨g, 0, none⟩)] w fun e w' =>
    ∃ (er : Int) (r' : Rt), e = .returned (.int .i64 er) ∧ STab B w' b x y ∧ RTab B w' g r' ∧ Ch (ROwn g r) w w' := by
  refine (rpush_any k).mono ?_
  rintro e w' ⟨⟨er, rfl⟩, d, ht, hc⟩
  exact ⟨er, _, rfl, h.rch k hc, ht, hc⟩
end
/-- where a call's words lie -/
structure OpMem (B : Nat) (w : World) (A3 : Option Addr) (c3 : Nat) (la : List Int) : Prop where
  le : la.length ≤ c3
  args : ∀ w', Below B w w' → (Kd.int .i64).C w' A3 la.length la
theorem ints_at {w : World} {A : Option Addr} {l : List Int} (h : (Kd.int .i64).C w A l.length l) (k : Nat) (hk : k < l.length) : ∃ ad bb oo, A = some ad ∧ ad.add k = ⟨bb, oo, none⟩ ∧ w.cell? ⟨bb, oo, none⟩ = some (.int .i64 (l.getD k 0)) := by
  obtain ⟨ad, c, e, _, hK, hc⟩ := Kd.C_get h 0 k (by omega) (by omega)
  rw [Int.toNat_natCast] at hc
  obtain rfl : c = [.int .i64 (l.getD ((k : Int)).toNat 0)] := hK
  have h0 := hc 0 _ rfl
  rw [Nat.add_zero, Int.toNat_natCast] at h0
  have h0' : w.cell? (ad.add (k * 1)) = some (.int .i64 (l.getD k 0)) := h0
  rw [Nat.mul_one] at h0'
  rcases hq : ad.add k with ⟨bb, oo, sp⟩
  cases sp with
  | none => exact ⟨ad, bb, oo, e, hq, by rw [← hq]; exact h0'⟩
  | some s =>
    rw [hq] at h0'
    unfold World.cell? at h0'
    revert h0'
    simp only []
    split <;> intro h0' <;> simp at h0'
theorem OpMem.rd {B : Nat} {w : World} {A3 : Option Addr} {c3 : Nat} {la : List Int} (h : OpMem B w A3 c3 la) (hB : ∀ ad k, A3 = some ad → k < la.length → (ad.add k).block < B) (k : Nat) (hk : k < la.length) :
    ∃ ad bb oo, A3 = some ad ∧ ad.add k = ⟨bb, oo, none⟩ ∧ bb < B ∧ w.cell? ⟨bb, oo, none⟩ = some (.int .i64 (la.getD k 0)) := by
  obtain ⟨ad, bb, oo, e, h1, h2⟩ := ints_at (h.args w (Below.refl B w)) k hk
  exact ⟨ad, bb, oo, e, h1, by have := hB ad k e hk; rw [h1] at this; exact this, h2⟩
theorem copied_any (w' : World) (nm : ByteArray) (A3 : Option Addr) (c3 : Nat) (la : List Int) (rs : Int) (df : Bool) (hl : la.length ≤ 40) (hle : la.length ≤ c3) (hC : (Kd.int .i64).C w' A3 la.length la) :
    Calls Try.prog 31 #[.agg #[.string nm, .slice A3 la.length c3, .int .i64 rs, .bool df]] w' fun e w'' =>
      ∃ (za : Option Addr) (zb : Nat × Nat), e = .returned (.agg #[.string nm, .slice za zb.1 zb.2, .int .i64 rs, .bool df]) ∧ Below w'.heap.size w' w'' ∧ w''.ownsRow w'.heap.size 27 1 (.slice za zb.1 zb.2) la.length (la.map (Value.int .i64)) := by
  refine (juristref05_Copied.calls nm A3 c3 la rs df nm la rs df w' hC hle (copied_says nm la rs df hl)).mono ?_
  rintro e w'' ⟨v1, rfl, hR, hb⟩
  have ho := Kd.own_of_R hR
  rw [encs_map] at ho
  obtain ⟨za, zc, rfl, _⟩ := own_slice ho
  exact ⟨za, (la.length, zc), rfl, hb, ho⟩
end Go.Proofs.Ytggbnjdbbomjoaa
