/- SortsScopes: what holds while the law runs (plain). -/
import Derived.Test.YtggbnjdbbomjoaaSorYd
namespace Go.Proofs.Ytggbnjdbbomjoaa
open Go Go.RowKit Go.Proofs.YtggbnjdbbomjoaaW.PrintWords Go.Proofs.Ytggbnjdbbomjoaa.PSortsScopes
/-- no sort that was declared bears a word of the language -/
def NoWord (x : Nm) : Prop := ∀ f ∈ x.fs, f.nm ≠ sBool ∧ f.nm ≠ sInt
structure LawI (x y : Nm) : Prop where
  nx : Nums x.fs x.D
  ny : Nums y.fs y.D
  gw : NoWord x
theorem NoWord.add {x : Nm} (h : NoWord x) {f : Fd} {A' : Value} (h1 : f.nm ≠ sBool) (h2 : f.nm ≠ sInt) : NoWord (x.add f A') := by
  intro q hq
  rcases List.mem_append.1 (show q ∈ x.fs ++ [f] from hq) with e | e
  · exact h q e
  · rw [List.mem_singleton.1 e]; exact ⟨h1, h2⟩
theorem LawI.step {B : Nat} {w w0 : World} {b : Nat} {kd nn : Int} {x y x' y' : Nm} (h : LawI x y) (ht : STab B w b x y) (hs : StepR kd nn w0 x y x' y') : LawI x' y' := by
  cases hs with
  | same => exact h
  | addx f A' h0 h1 h2 => exact ⟨h.nx.put ht.okx.oD.isMap f, h.ny, h.gw.add h1 h2⟩
  | addy f A' h0 => exact ⟨h.nx, h.ny.put ht.oky.oD.isMap f, h.gw⟩
  | push M1 M2 _ _ => exact ⟨h.nx, h.ny, h.gw⟩
  | pop q f1 f2 M1 M2 _ _ _ _ _ _ _ => exact ⟨(pop_to h.nx).1, (pop_to h.ny).1, h.gw⟩
theorem LawI.fresh (m1 m2 : Nat) : LawI (Nm.fresh m1) (Nm.fresh m2) :=
  ⟨fun s c h => by simp [look, Nm.fresh, Maps.has] at h, fun s c h => by simp [look, Nm.fresh, Maps.has] at h, fun f hf => by cases hf⟩
/-- behind the law's own push -/
structure ScI (x0 y0 x y : Nm) : Prop where
  sx : Since x0 x
  sy : Since y0 y
  gw : NoWord x
theorem ScI.step {B : Nat} {w w0 : World} {b : Nat} {kd nn : Int} {x0 y0 x y x' y' : Nm} (h : ScI x0 y0 x y) (h0 : x0.ms.length = y0.ms.length) (ht : STab B w b x y) (hs : StepR kd nn w0 x y x' y') (hp : kd = 3 → nn ≤ (x.ms.length : Int) - x0.ms.length - 1) : ScI x0 y0 x' y' := by
  cases hs with
  | same => exact h
  | addx f A' h0 h1 h2 => exact ⟨h.sx.add ht.okx.oD.isMap h0, h.sy, h.gw.add h1 h2⟩
  | addy f A' h0 => exact ⟨h.sx, h.sy.add ht.oky.oD.isMap h0, h.gw⟩
  | push M1 M2 _ _ => exact ⟨h.sx.push, h.sy.push, h.gw⟩
  | pop q f1 f2 M1 M2 hk hn hq h1 h2 _ _ =>
    have := hp hk
    exact ⟨h.sx.popTo (by omega) h1, h.sy.popTo (by omega) h2, h.gw⟩
theorem ScI.more {x0 y0 x y : Nm} (h : ScI x0 y0 x y) : x0.ms.length + 1 ≤ x.ms.length := by
  obtain ⟨r, hr, _⟩ := h.sx.ms
  rw [hr]; simp
/-- a step leaves the marks' blocks, or takes new ones -/
theorem StepR.marks {kd nn : Int} {w : World} {x y x' y' : Nm} (hs : StepR kd nn w x y x' y') {k : Nat} (hk : k < w.heap.size) (h1 : x.M.ownBlock ≠ some k) (h2 : y.M.ownBlock ≠ some k) : x'.M.ownBlock ≠ some k ∧ y'.M.ownBlock ≠ some k := by
  cases hs with
  | same => exact ⟨h1, h2⟩
  | addx f A' _ _ _ => exact ⟨h1, h2⟩
  | addy f A' _ => exact ⟨h1, h2⟩
  | push M1 M2 n1 n2 =>
    refine ⟨fun e => ?_, fun e => ?_⟩
    · rcases n1 k e with q | q
      · exact h1 q
      · omega
    · rcases n2 k e with q | q
      · exact h2 q
      · omega
  | pop q f1 f2 M1 M2 _ _ _ _ _ b1 b2 => exact ⟨fun e => h1 (by rw [← b1]; exact e), fun e => h2 (by rw [← b2]; exact e)⟩
theorem rises_len {x : Nm} {vs : List Int} (hr : Rises x.D vs) (hN : Nums x.fs x.D) (hn : x.fs.length ≤ 2000) : vs.length ≤ 2000 := by
  have hs : vs ⊆ (List.range 2000).map (fun n : Nat => (n : Int)) := fun z hz => by
    obtain ⟨s, hs⟩ := (hr.mem z).1 hz
    obtain ⟨i, f, rfl, hi, _⟩ := hN s z hs
    have := (List.getElem?_eq_some_iff.1 hi).1
    exact List.mem_map.2 ⟨i, List.mem_range.2 (by omega), rfl⟩
  have hd : vs.Nodup := hr.up.imp (fun q e => by omega)
  have := hd.length_le_of_subset hs
  simpa using this
/-- a row of numbers that was told stays -/
structure Had (w : World) (x y : Nm) (v : Value) (l : List Int) : Prop where
  own : w.ownsRow 0 3 1 v l.length (l.map (Value.int .i64))
  nx : ∀ k, v.ownBlock = some k → x.M.ownBlock ≠ some k
  ny : ∀ k, v.ownBlock = some k → y.M.ownBlock ≠ some k
theorem had_apart {B : Nat} {w : World} {b : Nat} {x y : Nm} {v : Value} {l : List Int} (h : STab B w b x y) (hh : Had w x y v l) : ∀ q, v.ownBlock = some q → ¬ (Own b x q ∨ Own b y q) := by
  intro q hq hs
  rcases hs with (e | e | e | e) | (e | e | e | e)
  · subst e; exact own_ne_row hh.own h.row (by decide) hq
  · exact own_ne hh.own h.okx.oA (by decide) hq e
  · subst e; exact own_ne_map hh.own h.okx.oD hq
  · exact hh.nx q hq e
  · subst e; exact own_ne_row hh.own h.row (by decide) hq
  · exact own_ne hh.own h.oky.oA (by decide) hq e
  · subst e; exact own_ne_map hh.own h.oky.oD hq
  · exact hh.ny q hq e
theorem Had.below {w w' : World} {x y : Nm} {v : Value} {l : List Int} (h : Had w x y v l) (hb : Below w.heap.size w w') : Had w' x y v l :=
  ⟨ownsRow_ch (S := fun _ => False) h.own (Ch.ofBelow hb) (fun _ _ e => e), h.nx, h.ny⟩
theorem Had.step {B : Nat} {w w' : World} {b g : Nat} {kd nn : Int} {x y x' y' : Nm} {r : Rt} {v : Value} {l : List Int} (hh : Had w x y v l) (h : STab B w b x y) (k : RTab B w g r) (hs : StepR kd nn w x y x' y')
    (hc : Ch (fun k => Own b x k ∨ Own b y k ∨ ROwn g r k) w w') : Had w' x' y' v l := by
  refine ⟨ownsRow_ch hh.own hc (fun q hq e => ?_), fun q hq => (hs.marks (hh.own.lt q hq).2 (hh.nx q hq) (hh.ny q hq)).1, fun q hq => (hs.marks (hh.own.lt q hq).2 (hh.nx q hq) (hh.ny q hq)).2⟩
  rcases e with e | e | e
  · exact had_apart h hh q hq (Or.inl e)
  · exact had_apart h hh q hq (Or.inr e)
  · exact ints_apart k hh.own q hq e
/-- a row of sorts that was told stays -/
def Was (w : World) (v : Value) (l : List Int) : Prop := w.ownsRow 0 27 1 v l.length ((l.map (· + 2)).map (Value.int .i64))
theorem Was.below {w w' : World} {v : Value} {l : List Int} (h : Was w v l) (hb : Below w.heap.size w w') : Was w' v l := ownsRow_ch (S := fun _ => False) h (Ch.ofBelow hb) (fun _ _ e => e)
theorem Was.step {B : Nat} {w w' : World} {b g : Nat} {x y : Nm} {r : Rt} {v : Value} {l : List Int} (hh : Was w v l) (h : STab B w b x y) (k : RTab B w g r)
    (hc : Ch (fun k => Own b x k ∨ Own b y k ∨ ROwn g r k) w w') : Was w' v l := by
  refine ownsRow_ch hh hc (fun q hq e => ?_)
  rcases e with e | e | e
  · rcases e with e | e | e | e
    · subst e; exact own_ne_row hh h.row (by decide) hq
    · exact own_ne hh h.okx.oA (by decide) hq e
    · subst e; exact own_ne_map hh h.okx.oD hq
    · exact own_ne hh h.okx.oM (by decide) hq e
  · rcases e with e | e | e | e
    · subst e; exact own_ne_row hh h.row (by decide) hq
    · exact own_ne hh h.oky.oA (by decide) hq e
    · subst e; exact own_ne_map hh h.oky.oD hq
    · exact own_ne hh h.oky.oM (by decide) hq e
  · exact args_apart k hh q hq e
/-- what a call on both leaves -/
theorem DoR.low {B B0 : Nat} {w w' : World} {b g : Nat} {x y : Nm} {r : Rt} (h : STab B w b x y) (k : RTab B w g r) (hB : B0 ≤ B) (hc : Ch (fun k => Own b x k ∨ Own b y k ∨ ROwn g r k) w w') : Below B0 w w' :=
  hc.below (Nat.le_trans hB (Nat.le_trans h.gb (Nat.le_of_lt h.lt))) (fun q hq => Nat.le_trans hB (by
    rcases hq with e | e | e
    · exact own_ge h.toSTab0 (Or.inl e)
    · exact own_ge h.toSTab0 (Or.inr e)
    · exact (k.own_lt e).1))
theorem rt_fresh (w : World) {B : Nat} (hB : B ≤ w.heap.size) : RTab B (w.alloc (.cells #[.slice none 0 0, .slice none 0 0, .int .i64 0] 49)) w.heap.size ⟨.slice none 0 0, .slice none 0 0, [], [], 0⟩ :=
  ⟨RowB.new w [.slice none 0 0, .slice none 0 0, .int .i64 0] 49, hB, World.ownsRow_nil _ _ _ _, World.ownsRow_nil _ _ _ _, fun k hk => by simp [Value.ownBlock] at hk, Nat.zero_le _, Nat.zero_le _, Nat.zero_le _⟩
theorem do_any {B : Nat} {w : World} {b g : Nat} {x y : Nm} {r : Rt} (h : STab B w b x y) (k : RTab B w g r) (kd nn : Int) (nm : ByteArray) (A3 : Option Addr) (c3 : Nat) (la : List Int) (rs : Int) (df : Bool) (hs : nm.size ≤ maxLen) (hl : la.length ≤ 40)
    (hI : ∀ z ∈ la, I64 z) (hrs : I64 rs) (hm : OpMem B w A3 c3 la) (hmb : ∀ ad k, A3 = some ad → k < la.length → (ad.add k).block < B) :
    Calls Try.prog 18 #[.pointer (some ⟨b, 0, none⟩), .pointer (some ⟨g, 0, none⟩), .agg (opCells kd nn nm (.slice A3 la.length c3) rs df).toArray] w (DoR B w b g x y r kd nn) := by
  by_cases e0 : kd = 0
  · subst e0; exact do_zero h k nn nm A3 c3 la rs df hs
  by_cases e1 : kd = 1
  · subst e1; exact do_one h k nn nm A3 c3 la rs df hs hl hI hrs hm hmb
  by_cases e2 : kd = 2
  · subst e2; exact do_two h k nn nm A3 c3 la rs df
  by_cases e3 : kd = 3
  · subst e3; exact do_three h k nn nm A3 c3 la rs df
  · exact do_else kd e0 e1 e2 e3 h k nn nm A3 c3 la rs df
/-- a call's words lie below the tables -/
theorem op_mem {B : Nat} {w wr : World} {A3 : Option Addr} {c3 : Nat} {la : List Int} (hle : la.length ≤ c3) (hC : (Kd.int .i64).C w A3 la.length la) (hB : w.heap.size ≤ B) (hb : Below w.heap.size w wr) :
    OpMem B wr A3 c3 la ∧ ∀ ad k, A3 = some ad → k < la.length → (ad.add k).block < B := by
  refine ⟨⟨hle, fun w' h => Kd.C_below hC (hb.trans (h.mono hB))⟩, fun ad k hA hk => ?_⟩
  obtain ⟨ad', bb, oo, e, h1, h2⟩ := ints_at hC k hk
  rw [hA] at e
  obtain rfl : ad = ad' := by simpa using e
  have := World.block_lt_of_cell? w ⟨bb, oo, none⟩ h2
  rw [h1]
  exact Nat.lt_of_lt_of_le this hB
end Go.Proofs.Ytggbnjdbbomjoaa
