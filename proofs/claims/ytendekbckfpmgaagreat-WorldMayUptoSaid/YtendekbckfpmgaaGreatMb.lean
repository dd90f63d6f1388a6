/- The sorts package (2), its reference. -/
import Derived.Test.YtendekbckfpmgaaGreatMa
import Derived.Shelf.SlIterI.Sorted
import Derived.Shelf.SlIter.AllValues
import Derived.Shelf.SortM.Plain
import Derived.Shelf.SortM.SortNone
import Derived.Ground.GgzProg
import Derived.Ground.SlgmProg
import Derived.Ground.GgmProg
import Derived.Test.YtendekbckfpmgaaGreatProg
import Derived.Test.YtendekbckfpmgaaGreatLw
import Derived.Laws.Externs
import Derived.Shelf.Spec.BitsCarry
namespace Go.Proofs.YtendekbckfpmgaaGreat
open Go.RowKit
theorem infoN : (Tryz.prog.info? 3).map (fun i => (i.zero, i.size, i.bytes)) = some (some (.int .i64 0), 1, 8) := by kernel_rfl
end Go.Proofs.YtendekbckfpmgaaGreat
namespace Go.Proofs.YtendekbckfpmgaaGreat
open Go.RowKit
def Nm.fresh (m : Nat) : Nm := ⟨.slice none 0 0, m, .slice none 0 0, [], [], .map []⟩
set_option maxRecDepth 100000 in
theorem new_any (w : World) : Calls Tryz.prog 21 #[] w fun e w' => ∃ b m1 m2, e = .returned (.pointer (some ⟨b, 0, none⟩)) ∧ STab w.heap.size w' b (Nm.fresh m1) (Nm.fresh m2) ∧ Below w.heap.size w w' := by
 have hmm := @run_makeMap Tryz.prog
 go_enter Tryz.func21, Tryz.ntmps21
 go_wp2
 go_ret
 have hm1 : ownsD (((w.alloc (.map #[] 0)).alloc (.map #[] 0)).alloc (.cells (rowOf (Nm.fresh w.heap.size) (Nm.fresh (w.heap.size + 1))).toArray 142)) w.heap.size 0 (.map []) := ((World.ownsMap_made w Tryz.prog 9 (plainElem Tryz.prog 3)).alloc _).alloc _
 have hm2 : ownsD (((w.alloc (.map #[] 0)).alloc (.map #[] 0)).alloc (.cells (rowOf (Nm.fresh w.heap.size) (Nm.fresh (w.heap.size + 1))).toArray 142)) (w.heap.size + 1) 0 (.map []) := by
  have := (World.ownsMap_made (H := Unit) (w.alloc (.map #[] 0)) Tryz.prog 9 (plainElem Tryz.prog 3)).alloc (.cells (rowOf (Nm.fresh w.heap.size) (Nm.fresh (w.heap.size + 1))).toArray 142)
  simpa using this
 have ok : ∀ m, w.heap.size ≤ m → ownsD (((w.alloc (.map #[] 0)).alloc (.map #[] 0)).alloc (.cells (rowOf (Nm.fresh w.heap.size) (Nm.fresh (w.heap.size + 1))).toArray 142)) m 0 (.map []) → NmOk w.heap.size (((w.alloc (.map #[] 0)).alloc (.map #[] 0)).alloc (.cells (rowOf (Nm.fresh w.heap.size) (Nm.fresh (w.heap.size + 1))).toArray 142)) (Nm.fresh m) := fun m hm h =>
  ⟨World.ownsRow_nil _ _ _ _, World.ownsRow_nil _ _ _ _, h, Nat.zero_le _, Nat.zero_le _, (fun _ h => by cases h), (fun _ h => by cases h), hm, (fun _ h => by cases h)⟩
 refine ⟨w.heap.size + 1 + 1, w.heap.size, w.heap.size + 1, rfl, ⟨⟨?_, by omega, ok _ (Nat.le_refl _) hm1, ok _ (by omega) hm2, fun k hk => by simp [Nm.fresh, Value.ownBlock] at hk, fun k hk => by simp [Nm.fresh, Value.ownBlock] at hk, by simp [Nm.fresh]⟩, rfl⟩, ?_⟩
 · have := RowB.new ((w.alloc (.map #[] 0)).alloc (.map #[] 0)) (rowOf (Nm.fresh w.heap.size) (Nm.fresh (w.heap.size + 1))) 142
   rw [show ((w.alloc (.map #[] 0)).alloc (.map #[] 0)).heap.size = w.heap.size + 1 + 1 by simp] at this
   exact this
 · exact (((Below.refl _ w).alloc (Nat.le_refl _) _).alloc (by simp) _).alloc (by simp; omega) _
end Go.Proofs.YtendekbckfpmgaaGreat
namespace Go.Proofs.YtendekbckfpmgaaGreat
open Go.RowKit
theorem kS_inj {s t : ByteArray} (h : kS s = kS t) : s = t := by
 unfold kS at h
 simp only [Lit.string.injEq] at h
 exact ByteArray.ext (Array.ext' h)
theorem kS_ne {s t : ByteArray} (h : s ≠ t) : kS s ≠ kS t := fun e => h (kS_inj e)
def look (D : DataW Unit) (s : ByteArray) : Option Int := if Maps.has D (kS s) then some (numOf D s) else none
theorem look_put_same {D : DataW Unit} (h : Maps.IsMap D) (s : ByteArray) (c : Int) : look (D.put (kS s) (.lit (.int .i64 c))) s = some c := by
 unfold look
 rw [Maps.has_put_same h (isKeyS s), numOf_put h]
 rfl
theorem look_put_other {D : DataW Unit} {s t : ByteArray} (h : t ≠ s) (c : Int) : look (D.put (kS s) (.lit (.int .i64 c))) t = look D t := by
 unfold look numOf
 rw [Maps.has_put_other (kS_ne h), Maps.atKey_put_other (kS_ne h)]
def Nums (fs : List Fd) (D : DataW Unit) : Prop := ∀ s c, look D s = some c → ∃ (i : Nat) (f : Fd), c = i ∧ fs[i]? = some f ∧ f.nm = s
theorem Nums.put {fs : List Fd} {D : DataW Unit} (h : Nums fs D) (hm : Maps.IsMap D) (f : Fd) : Nums (fs ++ [f]) (D.put (kS f.nm) (.lit (.int .i64 fs.length))) := by
 intro t c ht
 by_cases e : t = f.nm
 · subst e
   rw [look_put_same hm] at ht
   exact ⟨fs.length, f, by simpa using ht.symm, by simp, rfl⟩
 · rw [look_put_other e] at ht
   obtain ⟨i, g, h1, h2, h3⟩ := h t c ht
   exact ⟨i, g, h1, by rw [List.getElem?_append_left (List.getElem?_eq_some_iff.1 h2).1]; exact h2, h3⟩
structure Rises (D : DataW Unit) (vs : List Int) : Prop where
 up : vs.Pairwise (· < ·)
 mem : ∀ v, v ∈ vs ↔ ∃ s, look D s = some v
end Go.Proofs.YtendekbckfpmgaaGreat
namespace Go.Proofs
open Go.Shelf
def Tryz.valuesA_ren : Go.Shelf.Ren := ⟨fun | 5 => 76 | 7 => 114 | n => n, fun | 23 => 137 | 27 => 9 | 3 => 3 | 25 => 157 | 0 => 0 | 24 => 156 | 33 => 204 | 4 => 4 | n => n, fun | n => n⟩
theorem Tryz.valuesA : Go.Proofs.SlLaysY.n5 Tryz.prog Tryz.valuesA_ren := {
 mixed := by kernel_rfl
 f5 := ⟨Tryz.f76.name, by decide, Tryz.func76.trans (congrArg some (by kernel_rfl))⟩
 f7 := ⟨Tryz.f114.name, by decide, Tryz.func114.trans (congrArg some (by kernel_rfl))⟩
 t0 := Tryz.underlying0
 a0 := Tryz.isAgg0
 z0 := Tryz.sizeOf0
 v0 := Tryz.zeroValue0
 t3 := Tryz.underlying3
 a3 := Tryz.isAgg3
 z3 := Tryz.sizeOf3
 v3 := Tryz.zeroValue3
 t4 := Tryz.underlying4
 a4 := Tryz.isAgg4
 z4 := Tryz.sizeOf4
 v4 := Tryz.zeroValue4
 t23 := Tryz.underlying137
 a23 := Tryz.isAgg137
 z23 := Tryz.sizeOf137
 v23 := Tryz.zeroValue137
 t24 := Tryz.underlying156
 a24 := Tryz.isAgg156
 z24 := Tryz.sizeOf156
 v24 := Tryz.zeroValue156
 t25 := Tryz.underlying157
 a25 := Tryz.isAgg157
 z25 := Tryz.sizeOf157
 v25 := Tryz.zeroValue157
 t27 := Tryz.underlying9
 a27 := Tryz.isAgg9
 z27 := Tryz.sizeOf9
 v27 := Tryz.zeroValue9
 t33 := Tryz.underlying204
 a33 := Tryz.isAgg204
 z33 := Tryz.sizeOf204
 v33 := Tryz.zeroValue204 }
def Tryz.values1A_ren : Go.Shelf.Ren := ⟨fun | 7 => 114 | n => n, fun | 33 => 204 | 23 => 137 | 0 => 0 | 4 => 4 | 3 => 3 | 27 => 9 | n => n, fun | n => n⟩
theorem Tryz.values1A : Go.Proofs.SlLaysY.n7 Tryz.prog Tryz.values1A_ren := {
 mixed := by kernel_rfl
 f7 := ⟨Tryz.f114.name, by decide, Tryz.func114.trans (congrArg some (by kernel_rfl))⟩
 t0 := Tryz.underlying0
 a0 := Tryz.isAgg0
 z0 := Tryz.sizeOf0
 v0 := Tryz.zeroValue0
 t3 := Tryz.underlying3
 a3 := Tryz.isAgg3
 z3 := Tryz.sizeOf3
 v3 := Tryz.zeroValue3
 t4 := Tryz.underlying4
 a4 := Tryz.isAgg4
 z4 := Tryz.sizeOf4
 v4 := Tryz.zeroValue4
 t23 := Tryz.underlying137
 a23 := Tryz.isAgg137
 z23 := Tryz.sizeOf137
 v23 := Tryz.zeroValue137
 t33 := Tryz.underlying204
 a33 := Tryz.isAgg204
 z33 := Tryz.sizeOf204
 v33 := Tryz.zeroValue204
 t27 := Tryz.underlying9 }
def Tryz.sortedA_ren : Go.Shelf.Ren := ⟨fun | 6 => 75 | 8 => 113 | 9 => 73 | 11 => 136 | 13 => 112 | 12 => 111 | 23 => 134 | 24 => 135 | 14 => 126 | 15 => 127 | 16 => 128 | 17 => 129 | 18 => 130 | 19 => 131 | 20 => 117 | 21 => 132 | 22 => 133 | 25 => 150 | 26 => 151 | 27 => 152 | 28 => 153 | 29 => 154 | 30 => 139 | 31 => 160 | n => n, fun | 26 => 3 | 28 => 157 | 24 => 24 | 0 => 0 | 3 => 3 | 37 => 210 | 48 => 240 | 50 => 242 | 4 => 4 | 40 => 234 | 39 => 233 | 45 => 164 | 5 => 5 | 9 => 9 | 51 => 257 | 55 => 261 | 57 => 269 | 58 => 270 | 33 => 204 | n => n, fun | n => n⟩
theorem Tryz.sortedA : Go.Proofs.SlLaysZI.n6 Tryz.prog Tryz.sortedA_ren := {
 mixed := by kernel_rfl
 f6 := ⟨Tryz.f75.name, by decide, Tryz.func75.trans (congrArg some (by kernel_rfl))⟩
 f8 := ⟨Tryz.f113.name, by decide, Tryz.func113.trans (congrArg some (by kernel_rfl))⟩
 f11 := ⟨Tryz.f136.name, by decide, Tryz.func136.trans (congrArg some (by kernel_rfl))⟩
 t0 := Tryz.underlying0
 a0 := Tryz.isAgg0
 z0 := Tryz.sizeOf0
 v0 := Tryz.zeroValue0
 t24 := Tryz.underlying24
 a24 := Tryz.isAgg24
 z24 := Tryz.sizeOf24
 v24 := Tryz.zeroValue24
 t26 := Tryz.underlying3
 a26 := Tryz.isAgg3
 z26 := Tryz.sizeOf3
 v26 := Tryz.zeroValue3
 t28 := Tryz.underlying157
 a28 := Tryz.isAgg157
 z28 := Tryz.sizeOf157
 v28 := Tryz.zeroValue157
 i26 := by kernel_rfl }
def Tryz.sortA_ren : Go.Shelf.Ren := ⟨fun | 5 => 73 | 8 => 112 | 7 => 111 | 19 => 134 | 20 => 135 | 10 => 126 | 11 => 127 | 12 => 128 | 13 => 129 | 14 => 130 | 15 => 131 | 16 => 117 | 17 => 132 | 18 => 133 | 30 => 150 | 31 => 151 | 32 => 152 | 33 => 153 | 34 => 154 | 35 => 139 | 40 => 160 | n => n, fun | 23 => 24 | 25 => 3 | 3 => 3 | 32 => 210 | 22 => 24 | 0 => 0 | 44 => 240 | 46 => 242 | 4 => 4 | 36 => 234 | 35 => 233 | 41 => 164 | 5 => 5 | 9 => 9 | 53 => 257 | 57 => 261 | 63 => 269 | 64 => 270 | n => n, fun | n => n⟩
theorem Tryz.sortA : Go.Proofs.SlLaysM.n5 Tryz.prog Tryz.sortA_ren := {
 mixed := by kernel_rfl
 f5 := ⟨Tryz.f73.name, by decide, Tryz.func73.trans (congrArg some (by kernel_rfl))⟩
 f7 := ⟨Tryz.f111.name, by decide, Tryz.func111.trans (congrArg some (by kernel_rfl))⟩
 f8 := Tryz.func112.trans (congrArg some (by kernel_rfl))
 f10 := ⟨Tryz.f126.name, by decide, Tryz.func126.trans (congrArg some (by kernel_rfl))⟩
 f11 := ⟨Tryz.f127.name, by decide, Tryz.func127.trans (congrArg some (by kernel_rfl))⟩
 f12 := ⟨Tryz.f128.name, by decide, Tryz.func128.trans (congrArg some (by kernel_rfl))⟩
 f13 := ⟨Tryz.f129.name, by decide, Tryz.func129.trans (congrArg some (by kernel_rfl))⟩
 f14 := ⟨Tryz.f130.name, by decide, Tryz.func130.trans (congrArg some (by kernel_rfl))⟩
 f15 := ⟨Tryz.f131.name, by decide, Tryz.func131.trans (congrArg some (by kernel_rfl))⟩
 f16 := ⟨Tryz.f117.name, by decide, Tryz.func117.trans (congrArg some (by kernel_rfl))⟩
 f17 := ⟨Tryz.f132.name, by decide, Tryz.func132.trans (congrArg some (by kernel_rfl))⟩
 f18 := ⟨Tryz.f133.name, by decide, Tryz.func133.trans (congrArg some (by kernel_rfl))⟩
 f19 := Tryz.func134.trans (congrArg some (by kernel_rfl))
 f20 := Tryz.func135.trans (congrArg some (by kernel_rfl))
 f30 := ⟨Tryz.f150.name, by decide, Tryz.func150.trans (congrArg some (by kernel_rfl))⟩
 f31 := Tryz.func151.trans (congrArg some (by kernel_rfl))
 f32 := Tryz.func152.trans (congrArg some (by kernel_rfl))
 f33 := ⟨Tryz.f153.name, by decide, Tryz.func153.trans (congrArg some (by kernel_rfl))⟩
 f34 := ⟨Tryz.f154.name, by decide, Tryz.func154.trans (congrArg some (by kernel_rfl))⟩
 f35 := ⟨Tryz.f139.name, by decide, Tryz.func139.trans (congrArg some (by kernel_rfl))⟩
 f40 := ⟨Tryz.f160.name, by decide, Tryz.func160.trans (congrArg some (by kernel_rfl))⟩
 t0 := Tryz.underlying0
 a0 := Tryz.isAgg0
 z0 := Tryz.sizeOf0
 v0 := Tryz.zeroValue0
 t3 := Tryz.underlying3
 a3 := Tryz.isAgg3
 z3 := Tryz.sizeOf3
 v3 := Tryz.zeroValue3
 t4 := Tryz.underlying4
 a4 := Tryz.isAgg4
 z4 := Tryz.sizeOf4
 v4 := Tryz.zeroValue4
 t5 := Tryz.underlying5
 a5 := Tryz.isAgg5
 z5 := Tryz.sizeOf5
 v5 := Tryz.zeroValue5
 t9 := Tryz.underlying9
 a9 := Tryz.isAgg9
 z9 := Tryz.sizeOf9
 v9 := Tryz.zeroValue9
 t22 := Tryz.underlying24
 a22 := Tryz.isAgg24
 z22 := Tryz.sizeOf24
 v22 := Tryz.zeroValue24
 t23 := Tryz.underlying24
 a23 := Tryz.isAgg24
 z23 := Tryz.sizeOf24
 v23 := Tryz.zeroValue24
 t25 := Tryz.underlying3
 a25 := Tryz.isAgg3
 z25 := Tryz.sizeOf3
 v25 := Tryz.zeroValue3
 t32 := Tryz.underlying210
 a32 := Tryz.isAgg210
 z32 := Tryz.sizeOf210
 v32 := Tryz.zeroValue210
 t35 := Tryz.underlying233
 a35 := Tryz.isAgg233
 z35 := Tryz.sizeOf233
 v35 := Tryz.zeroValue233
 t36 := Tryz.underlying234
 a36 := Tryz.isAgg234
 z36 := Tryz.sizeOf234
 v36 := Tryz.zeroValue234
 t41 := Tryz.underlying164
 a41 := Tryz.isAgg164
 z41 := Tryz.sizeOf164
 v41 := Tryz.zeroValue164
 t44 := Tryz.underlying240
 a44 := Tryz.isAgg240
 z44 := Tryz.sizeOf240
 v44 := Tryz.zeroValue240
 t46 := Tryz.underlying242
 a46 := Tryz.isAgg242
 z46 := Tryz.sizeOf242
 v46 := Tryz.zeroValue242
 t53 := Tryz.underlying257
 a53 := Tryz.isAgg257
 z53 := Tryz.sizeOf257
 v53 := Tryz.zeroValue257
 t57 := Tryz.underlying261
 a57 := Tryz.isAgg261
 z57 := Tryz.sizeOf261
 v57 := Tryz.zeroValue261
 t63 := Tryz.underlying269
 a63 := Tryz.isAgg269
 z63 := Tryz.sizeOf269
 v63 := Tryz.zeroValue269
 t64 := Tryz.underlying270
 a64 := Tryz.isAgg270
 z64 := Tryz.sizeOf270
 v64 := Tryz.zeroValue270 }
end Go.Proofs
namespace Go.Proofs.YtendekbckfpmgaaGreat
open Go.RowKit Go.Maps Go.Sort Go.Shelf
theorem names_nodup {w : World} {m n : Nat} {D : DataW Unit} (h : ownsD w m n D) : (strKeys D).Nodup := by
 obtain ⟨es, rfl, hp, _⟩ := h.entries (Maps.string_keyed Tryz.underlying9)
 obtain ⟨es', he, hk⟩ := h.keysOf
 obtain rfl : es = es' := by simpa using he
 show (es.map fun p => strOf p.1).Nodup
 refine List.pairwise_map.2 (hp.imp_of_mem fun {p q} hp' hq' hne e => hne ?_)
 obtain ⟨key, hkey⟩ := hk p hp'
 obtain ⟨a, _, ha, _⟩ := Maps.keyOf_str Tryz.underlying9 hkey
 obtain ⟨key', hkey'⟩ := hk q hq'
 obtain ⟨b, _, hb, _⟩ := Maps.keyOf_str Tryz.underlying9 hkey'
 rw [ha, hb] at e ⊢
 exact congrArg _ e
theorem look_val {D : DataW Unit} {x : List UInt8} {c : Int} (hh : has D (.string x) = true) (hv : AnyY.ValAt D (x, c)) : look D ⟨x.toArray⟩ = some c := by
 have e : kS ⟨x.toArray⟩ = .string x := rfl
 unfold look numOf
 rw [e, hh, hv]
 rfl
theorem rises_of {w : World} {m n : Nat} {D : DataW Unit} {fs : List Fd} (h : ownsD w m n D) (hN : Nums fs D) {ps : List (List UInt8 × Int)} (hA : AnyY.AllOf D ps) : Rises D ((ps.map (·.2)).mergeSort (fun x y => decide (x ≤ y))) := by
 obtain ⟨a1, a2, a3⟩ := hA
 have hlk : ∀ p ∈ ps, look D ⟨p.1.toArray⟩ = some p.2 := fun p hp => look_val ((a2 p.1).1 (List.mem_map_of_mem hp)) (a3 p hp)
 have hnd : (ps.map (·.1)).Nodup := a1.nodup_iff.2 (names_nodup h)
 have hnd2 : (ps.map (·.2)).Nodup := by
  refine List.pairwise_map.2 ((List.pairwise_map.1 hnd).imp_of_mem fun {p q} hp hq hne e => hne ?_)
  obtain ⟨i, f, hi, hf, hfn⟩ := hN _ _ (hlk p hp)
  obtain ⟨j, g, hj, hg, hgn⟩ := hN _ _ (hlk q hq)
  have hij : i = j := by omega
  subst hij
  rw [hf] at hg
  obtain rfl : f = g := by simpa using hg
  rw [hfn] at hgn
  have := congrArg (fun b : ByteArray => b.data.toList) hgn
  simpa using this
 have hs : ((ps.map (·.2)).mergeSort (fun x y => decide (x ≤ y))).Pairwise (fun a b : Int => decide (a ≤ b) = true) :=
  List.pairwise_mergeSort (fun a b c h1 h2 => by simp only [decide_eq_true_eq] at *; omega) (fun a b => by simp only [Bool.or_eq_true, decide_eq_true_eq]; omega) _
 have hn3 : ((ps.map (·.2)).mergeSort (fun x y => decide (x ≤ y))).Nodup := (List.mergeSort_perm _ _).nodup_iff.2 hnd2
 have hup : ((ps.map (·.2)).mergeSort (fun x y => decide (x ≤ y))).Pairwise (fun a b : Int => a < b) := (hs.and hn3).imp (by
  rintro a b ⟨h1, h2⟩
  simp only [decide_eq_true_eq] at h1
  omega)
 refine ⟨hup, fun v => ?_⟩
 · rw [List.mem_mergeSort]
   constructor
   · intro hv
     obtain ⟨p, hp, rfl⟩ := List.mem_map.1 hv
     exact ⟨_, hlk p hp⟩
   · rintro ⟨s, hs'⟩
     have hh : has D (kS s) = true := by
      unfold look at hs'
      split at hs'
      · assumption
      · cases hs'
     obtain ⟨p, hp, hp1⟩ := List.mem_map.1 ((a2 s.data.toList).2 hh)
     have := hlk p hp
     rw [hp1] at this
     have e : (⟨s.data.toList.toArray⟩ : ByteArray) = s := by obtain ⟨⟨l⟩⟩ := s; rfl
     rw [e, hs'] at this
     have : v = p.2 := by simpa using this
     rw [this]
     exact List.mem_map_of_mem hp
theorem sorts_in (m : Nat) : AnyZI.SortsIn Tryz.prog Tryz.sortedA_ren Fence.wide m :=
 ⟨fun blk off cap ss W hH hblk hsz => callsIn_wide.2 (AnyM.slices_Sort_int Tryz.sortA blk off cap ss W hH hblk hsz),
  fun p cap W => callsIn_wide.2 (AnyM.slices_Sort_int_none Tryz.sortA p cap W)⟩
theorem values_call (mb : Option Nat) (w : World) : Calls Tryz.prog 76 #[.map mb] w fun e w' =>
 e = .returned (.func (.func 114) #[] #[.pointer (some ⟨w.heap.size, 0, none⟩)]) ∧ w' = w.alloc (.cells #[.map mb] 137) :=
 callsIn_wide.1 (AnyY.values_in Tryz.valuesA Fence.wide 5 trivial rfl mb w)
set_option maxHeartbeats 1000000 in
theorem sorted_call {w : World} {m n : Nat} {D : DataW Unit} {fs : List Fd} (B : Nat) (hB : B < w.heap.size) (hc : w.cell? ⟨B, 0, none⟩ = some (.map (some m))) (h : ownsD w m n D) (hN : Nums fs D) (hn : n ≤ 2000) :
 Calls Tryz.prog 75 #[.func (.func 114) #[] #[.pointer (some ⟨B, 0, none⟩)]] w fun e w' =>
  ∃ (v : Value) (vs : List Int), e = .returned v ∧ Rises D vs ∧ w'.ownsRow w.heap.size 3 1 v vs.length (vs.map (Value.int .i64)) ∧ Below w.heap.size w w' := by
 refine (callsIn_wide (n := 5)).1 ?_
 have hsz := h.size_le
 have hseq : SeqGives Fence.wide 2 Tryz.prog 114 #[.pointer (some ⟨B, 0, none⟩)] encZ (fun xs => ∃ ps, AnyY.AllOf D ps ∧ xs = ps.map (·.2)) (Maps.size D) w := fun l J W hW hJ hY h0 => by
  have h' : ownsD W m n D := ownsMap_ch (S := fun _ => False) h (Ch.ofBelow hW) (fun e => e)
  have hc' : W.cell? ⟨B, 0, none⟩ = some (.map (some m)) := (hW.cell (p := ⟨B, 0, none⟩) hB).trans hc
  refine (AnyY.values1S_in Tryz.values1A Fence.wide 2 trivial rfl (by omega) l B m n D J (fun _ _ => False) (fun pre x W1 hJ1 hl => (hY pre x W1 hJ1 hl).mono fun e W' q => Or.inl q) W hJ hc' h' h0).mono ?_
  rintro e W' ⟨h1, h2 | ⟨_, _, h2⟩⟩
  · exact ⟨h1, h2⟩
  · exact h2.elim
 have cS := AnyZI.sorted_in Tryz.sortedA Fence.wide 5 trivial trivial trivial trivial rfl (by omega) (sorts_in _) (enters_of Tryz.func73 (by kernel_rfl) rfl) 114 #[.pointer (some ⟨B, 0, none⟩)] trivial (enters_of Tryz.func114 (by kernel_rfl) rfl) _ _ (by unfold maxLen; omega) (by omega) w hseq
 refine cS.mono ?_
 rintro e w' ⟨v, ss, rfl, ⟨ps, hA, rfl⟩, hrow, _, hb⟩
 refine ⟨v, _, rfl, rises_of h hN hA, ?_, hb⟩
 rw [List.length_mergeSort]
 exact hrow
end Go.Proofs.YtendekbckfpmgaaGreat
namespace Go.Proofs.YtendekbckfpmgaaGreat
open Go.RowKit
set_option maxRecDepth 100000 in
theorem funs_any {B : Nat} {w : World} {b : Nat} {x y : Nm} (h : STab B w b x y) (hN : Nums y.fs y.D) : Calls Tryz.prog 31 #[.pointer (some ⟨b, 0, none⟩)] w fun e w' =>
 ∃ (v : Value) (vs : List Int), e = .returned v ∧ Rises y.D vs ∧ w'.ownsRow w.heap.size 3 1 v vs.length (vs.map (Value.int .i64)) ∧ Below w.heap.size w w' := by
 have HN := Lib.hid (none_tab h.toSTab0)
 have c4 := h.c4
 have hbl := h.lt
 have HS := Lib.hid (sorted_call (w := w.alloc (.cells #[.map (some y.m)] 137)) w.heap.size (by simp) (by simp) (h.oky.oD.alloc _) hN h.oky.nf)
 have HV := Lib.hid (values_call (some y.m) w)
 clear h
 go_enter Tryz.func31, Tryz.ntmps31
 go_wp2_with fail
 refine HN.out.mono ?_; rintro e w1 ⟨rfl, rfl⟩
 clear HN
 go_wp2_with fail
 refine HV.out.mono ?_; rintro e w2 ⟨rfl, rfl⟩
 go_wp2_with fail
 refine HS.out.mono ?_; rintro e w3 ⟨v, vs, rfl, hr, ho, hb⟩
 clear HS HV
 go_wp2_with fail
 go_ret
 refine ⟨v, vs, rfl, hr, own_lower ho (by simp), ?_⟩
 exact ((Below.refl w1.heap.size w1).alloc (Nat.le_refl _) _).trans (hb.mono (by simp))
def SortsR (w : World) (x : Nm) (e : Ending) (w' : World) : Prop :=
 ∃ (v : Value) (vs : List Int), e = .returned v ∧ Rises x.D vs ∧ w'.ownsRow w.heap.size 43 1 v vs.length ((vs.map (· + 2)).map (Value.int .i64)) ∧ Below w.heap.size w w'
set_option maxRecDepth 100000 in
theorem sorts_any {B : Nat} {w : World} {b : Nat} {x y : Nm} (h : STab B w b x y) (hN : Nums x.fs x.D) : Calls Tryz.prog 30 #[.pointer (some ⟨b, 0, none⟩)] w (SortsR w x) := by
 have HN := Lib.hid (none_tab h.toSTab0)
 have c1 := h.c1
 have hbl := h.lt
 have HS := Lib.hid (sorted_call (w := w.alloc (.cells #[.map (some x.m)] 137)) w.heap.size (by simp) (by simp) (h.okx.oD.alloc _) hN h.okx.nf)
 have HV := Lib.hid (values_call (some x.m) w)
 have hnf := h.okx.nf
 clear h
 go_enter Tryz.func30, Tryz.ntmps30
 go_wp2_with fail
 refine HN.out.mono ?_; rintro e w1 ⟨rfl, rfl⟩
 clear HN
 go_wp2_with fail
 refine HV.out.mono ?_; rintro e w2 ⟨rfl, rfl⟩
 go_wp2_with fail
 refine HS.out.mono ?_; rintro e w3 ⟨v, vs, rfl, hr, ho, hb⟩
 clear HS HV
 obtain ⟨ao, cap, rfl, _⟩ := own_slice ho
 have hrange : ∀ z ∈ vs, 0 ≤ z ∧ z < 2000 := fun z hz => by
  obtain ⟨s, hs⟩ := (hr.mem z).1 hz
  obtain ⟨i, f, rfl, hi, _⟩ := hN s z hs
  have := (List.getElem?_eq_some_iff.1 hi).1
  omega
 have hlen : vs.length ≤ 2000 := by
  have hn : vs.Nodup := hr.up.imp (fun q e => by omega)
  have hs : vs ⊆ (List.range 2000).map (fun n : Nat => (n : Int)) := fun z hz => by
   have := hrange z hz
   exact List.mem_map.2 ⟨z.toNat, List.mem_range.2 (by omega), by omega⟩
  have := hn.length_le_of_subset hs
  simpa using this
 have hb0 : Below w1.heap.size w1 w3 := ((Below.refl w1.heap.size w1).alloc (Nat.le_refl _) _).trans (hb.mono (by simp))
 have HO := Lib.hid (own_lower ho (show w1.heap.size ≤ _ by simp))
 have HR := Lib.hid hr
 have HB := Lib.hid hb0
 have HRA := Lib.hid hrange
 clear ho hr hb hb0 hrange c1
 obtain ⟨i0, hi, hz0, hz1, hz2⟩ := info_parts infoI
 go_wp2_with fail
 go_loopw [3, 16] (fun vl vi wr => ∃ k : Nat, vi = .int .i64 k ∧ k ≤ vs.length ∧ Hid (wr.ownsRow w1.heap.size 43 1 vl k (((vs.take k).map (· + 2)).map (Value.int .i64)) ∧ Below w1.heap.size w1 wr ∧ wr.ownsRow w1.heap.size 3 1 (.slice ao vs.length cap) vs.length (vs.map (Value.int .i64)))) (fun _ vi _ => vs.length - (intOf vi).toNat)
 case atStart => exact ⟨0, rfl, by omega, Lib.hid ⟨World.ownsRow_nil _ _ _ _, HB.out, HO.out⟩⟩
 case round =>
  obtain ⟨k, rfl, hk, hh⟩ := hrel
  by_cases hkl : k < vs.length
  case neg =>
   have hkl' : ¬ (k : Int) < vs.length := by omega
   go_wp2_with fail
   go_ret
   have : k = vs.length := by omega
   subst this
   refine ⟨_, vs, rfl, HR.out, ?_, hh.out.2.1⟩
   have := hh.out.1
   rw [List.take_length] at this
   exact this
  case pos =>
   have hkl' : (k : Int) < vs.length := by omega
   obtain ⟨p1, p2, p3⟩ := hh.out
   obtain ⟨g, rfl⟩ : ∃ g, ao = some ⟨g, 0, none⟩ := by
    rcases p3.2 with ⟨_, h⟩ | ⟨g, cap', cur, h1, _⟩
    · omega
    · simp at h1; exact ⟨g, h1.1⟩
   have hgl := (p3.lt g rfl).2
   have cN : wr.cell? ⟨g, k, none⟩ = some (.int .i64 vs[k]) := by
    rw [p3.cellAt k (by omega)]
    simp [hkl]
   obtain ⟨av, cv, rfl, _⟩ := own_slice p1
   have hz := HRA.out vs[k] (List.getElem_mem hkl)
   have htk : vs.take (k + 1) = vs.take k ++ [vs[k]] := by rw [List.take_add_one]; simp [hkl]
   generalize vs[k] = z at cN hz htk
   have hzw : IntKind.i64.wrap (z + 2) = z + 2 := IntWalk.i64_in _ (by constructor <;> omega)
   have hgv : ∀ q, (Value.slice av k cv).ownBlock = some q → (Value.slice (some ⟨g, 0, none⟩) vs.length cap).ownBlock ≠ some q := fun q hq => own_ne p1 p3 (by decide) hq
   have H1 := Lib.hid p1
   have H2 := Lib.hid p2
   have H3 := Lib.hid p3
   have HTK := Lib.hid htk
   have HGV := Lib.hid hgv
   have hn0 : ∀ j u, ([.int .i64 (z + 2)] : List Value)[j]? = some u → (wr.alloc (.cells #[.int .i64 (z + 2)] 43)).cell? ((⟨wr.heap.size, 0, none⟩ : Addr).add j) = some u := by
    intro j u h
    have := (CellsW.new wr ([.int .i64 (z + 2)] : List Value) 43 j u h).1
    rw [show ((⟨wr.heap.size, 0, none⟩ : Addr).add j) = ⟨wr.heap.size, j, none⟩ by cases j <;> simp [Addr.add]]
    exact this
   have HN0 := Lib.hid hn0
   have hbw : w1.heap.size ≤ wr.heap.size := p2.size
   clear p1 p2 p3 hh hz htk hgv hn0
   go_wp2_with (first | (at_builtin; refine wpList_append_own_at _ rfl _ _ 70 rfl w1.heap.size 43 i0 (.int .i64 0) 1 8 Tryz.underlying70 hi hz0 hz1 hz2 rfl (by decide) (.slice av k cv) k _ rfl (H1.out.alloc _) ⟨wr.heap.size, 0, none⟩ 1 1 [.int .i64 (z + 2)] rfl rfl HN0.out (by simp [Value.oneCell']) (by unfold maxLen; omega) (by omega) (by simp; omega) ?_; intro v' w5 hown hgrow hnil hat) | fail)
   have hb5 : Below w1.heap.size w1 w5 := (H2.out.alloc (by omega) (.cells #[.int .i64 (z + 2)] 43)).grown hgrow (by simp; omega) (fun q e => (H1.out.lt q e).1)
   have ho5 : w5.ownsRow w1.heap.size 3 1 (.slice (some ⟨g, 0, none⟩) vs.length cap) vs.length (vs.map (Value.int .i64)) :=
    ownsRow_ch (H3.out.alloc (.cells #[.int .i64 (z + 2)] 43)) (Ch.ofGrown hgrow) (fun q hq e => HGV.out q e.symm hq)
   have hown' : w5.ownsRow w1.heap.size 43 1 v' (k + 1) (((vs.take (k + 1)).map (· + 2)).map (Value.int .i64)) := by
    rw [HTK.out, List.map_append, List.map_append]; exact hown
   clear hown hgrow hnil hat
   have HX := Lib.hid (And.intro hown' (And.intro hb5 ho5))
   clear hown' hb5 ho5 cN
   go_wp2_with fail
   go_roundw
   case rel => exact ⟨k + 1, by go_num, by omega, HX⟩
   case measure => simp [intOf]; omega
end Go.Proofs.YtendekbckfpmgaaGreat
namespace Go.Proofs.YtendekbckfpmgaaGreat
open Go.RowKit
structure En where
 nm : ByteArray
 ar : Value
 res : Int
 df : Bool
 lv : Int
 st : Bool
def En.cells (x : En) : List Value := [.string x.nm, x.ar, .int .i64 x.res, .bool x.df, .int .i64 x.lv, .bool x.st]
def flatE (l : List En) : List Value := l.flatMap En.cells
theorem flatE_snoc (l : List En) (x : En) : flatE (l ++ [x]) = flatE l ++ x.cells := by simp [flatE]
theorem flatE_get : ∀ (l : List En) (i : Nat) (x : En) (j : Nat), l[i]? = some x → j < 6 → (flatE l)[i * 6 + j]? = x.cells[j]?
 | [], i, x, j, h, _ => by simp at h
 | y :: r, 0, x, j, h, hj => by
  have : y = x := by simpa using h
  subst this
  simp only [flatE, List.flatMap_cons, Nat.zero_mul, Nat.zero_add]
  rw [List.getElem?_append_left (by simp [En.cells]; omega)]
 | y :: r, i + 1, x, j, h, hj => by
  have := flatE_get r i x j (by simpa using h) hj
  simp only [flatE, List.flatMap_cons] at this ⊢
  rw [List.getElem?_append_right (by simp [En.cells]; omega)]
  rw [← this]
  congr 1
  simp [En.cells]; omega
structure Rt where
 A0 : Value
 A1 : Value
 l0 : List En
 l1 : List En
 dp : Nat
structure RTab (B : Nat) (w : World) (g : Nat) (r : Rt) : Prop where
 row : RowB w g 88 [r.A0, r.A1, .int .i64 r.dp]
 gb : B ≤ g
 o0 : w.ownsRow B 147 6 r.A0 r.l0.length (flatE r.l0)
 o1 : w.ownsRow B 147 6 r.A1 r.l1.length (flatE r.l1)
 n01 : ∀ k, r.A0.ownBlock = some k → r.A1.ownBlock ≠ some k
 s0 : r.l0.length ≤ 2000
 s1 : r.l1.length ≤ 2000
 dl : r.dp ≤ 200
def ROwn (g : Nat) (r : Rt) (k : Nat) : Prop := k = g ∨ r.A0.ownBlock = some k ∨ r.A1.ownBlock = some k
theorem RTab.ch {B : Nat} {w w' : World} {g : Nat} {r : Rt} {S : Nat → Prop} (h : RTab B w g r) (hc : Ch S w w') (hs : ∀ k, ROwn g r k → ¬ S k) : RTab B w' g r :=
 ⟨h.row.kept hc (hs _ (Or.inl rfl)), h.gb, ownsRow_ch h.o0 hc (fun k hk => hs k (Or.inr (Or.inl hk))), ownsRow_ch h.o1 hc (fun k hk => hs k (Or.inr (Or.inr hk))), h.n01, h.s0, h.s1, h.dl⟩
theorem RTab.below {B : Nat} {w w' : World} {g : Nat} {r : Rt} (h : RTab B w g r) (hb : Below w.heap.size w w') : RTab B w' g r :=
 h.ch (S := fun _ => False) (Ch.ofBelow hb) (fun _ _ e => e)
theorem RTab.lt {B : Nat} {w : World} {g : Nat} {r : Rt} (h : RTab B w g r) : g < w.heap.size := h.row.lt
theorem RTab.c0 {B : Nat} {w : World} {g : Nat} {r : Rt} (h : RTab B w g r) : w.cell? ⟨g, 0, none⟩ = some r.A0 := h.row.cell 0
theorem RTab.c1 {B : Nat} {w : World} {g : Nat} {r : Rt} (h : RTab B w g r) : w.cell? ⟨g, 1, none⟩ = some r.A1 := h.row.cell 1
theorem RTab.c2 {B : Nat} {w : World} {g : Nat} {r : Rt} (h : RTab B w g r) : w.cell? ⟨g, 2, none⟩ = some (.int .i64 r.dp) := h.row.cell 2
theorem RTab.own_lt {B : Nat} {w : World} {g : Nat} {r : Rt} (h : RTab B w g r) {k : Nat} (hk : ROwn g r k) : B ≤ k ∧ k < w.heap.size := by
 rcases hk with rfl | e | e
 · exact ⟨h.gb, h.lt⟩
 · exact h.o0.lt k e
 · exact h.o1.lt k e
def seekE (s : ByteArray) : List En → Int → Int
 | [], _ => -1
 | e :: r, i => if e.st = true ∧ e.nm = s then i else seekE s r (i + 1)
set_option maxRecDepth 100000 in
theorem find_any {B : Nat} {w : World} (A : Value) (l : List En) (hA : w.ownsRow B 147 6 A l.length (flatE l)) (hl : l.length ≤ 2000) (s : ByteArray) :
 Calls Tryz.prog 64 #[A, .string s] w fun e w' => e = .returned (.int .i64 (seekE s l 0)) ∧ w' = w := by
 obtain ⟨ao, cap, rfl, hcap⟩ := own_slice hA
 have HA := Lib.hid hA
 clear hA
 go_enter Tryz.func64, Tryz.ntmps64
 go_wp2
 go_loop [5] (fun vi => ∃ k : Nat, vi = .int .i64 k ∧ k ≤ l.length ∧ Hid (seekE s l 0 = seekE s (l.drop k) k)) (fun vi => l.length - (intOf vi).toNat)
 case atStart => exact ⟨0, rfl, by omega, Lib.hid rfl⟩
 case round =>
  obtain ⟨k, rfl, hk, hi⟩ := hrel
  by_cases hkl : k < l.length
  case neg =>
   have hkl' : ¬ (k : Int) < l.length := by omega
   have HS : Hid (seekE s l 0 = -1) := Lib.hid (by rw [hi.out, List.drop_of_length_le (by omega)]; rfl)
   go_wp2
   go_ret
   exact ⟨by rw [HS.out]; rfl, rfl⟩
  case pos =>
   have hkl' : (k : Int) < l.length := by omega
   obtain ⟨g, rfl⟩ : ∃ g, ao = some ⟨g, 0, none⟩ := by
    rcases HA.out.2 with ⟨_, h⟩ | ⟨g, cap', cur, h1, _⟩
    · omega
    · simp at h1; exact ⟨g, h1.1⟩
   obtain ⟨x, hx⟩ : ∃ x, l[k]? = some x := ⟨_, List.getElem?_eq_getElem hkl⟩
   have hc : ∀ j, j < 6 → w.cell? ⟨g, k * 6 + j, none⟩ = x.cells[j]? := fun j hj => by
    rw [HA.out.cellAt (k * 6 + j) (by omega), flatE_get l k x j hx hj]
   have k0 := hc 0 (by omega); have k5 := hc 5 (by omega)
   simp only [En.cells, List.getElem?_cons_zero, List.getElem?_cons_succ, Nat.add_zero] at k0 k5
   have hd : l.drop k = x :: l.drop (k + 1) := by
    rw [List.drop_eq_getElem_cons hkl]
    congr 1
    rw [List.getElem?_eq_getElem hkl] at hx
    simpa using hx
   have hs := hi.out
   rw [hd] at hs
   obtain ⟨nm, ar, res, df, lv, st⟩ := x
   simp only at k0 k5
   clear hc hx hd hi
   have next : ¬ (st = true ∧ nm = s) → Hid (seekE s l 0 = seekE s (l.drop (k + 1)) ((k + 1 : Nat) : Int)) := fun h => Lib.hid (by rw [hs]; simp only [seekE]; rw [if_neg h]; rfl)
   cases st
   · have HX := next (by simp)
     clear hs next
     go_wp2
     exact ⟨⟨k + 1, by go_num, by omega, HX⟩, by simp [intOf]; omega⟩
   · by_cases e : nm = s
     · subst e
       have HX : Hid (seekE nm l 0 = k) := Lib.hid (by rw [hs]; simp [seekE])
       clear hs next
       go_wp2
       go_ret
       exact ⟨by rw [HX.out]; rfl, rfl⟩
     · have HX := next (by simp [e])
       have hne : (nm.toList == s.toList) = false := beq_ne e
       clear hs next e
       go_wp2
       exact ⟨⟨k + 1, by go_num, by omega, HX⟩, by simp [intOf]; omega⟩
def standB (r : Rt) (s : Int) : Bool := s == 0 || s == 1 || (decide (2 ≤ s) && match r.l0[(s - 2).toNat]? with
 | some e => e.st
 | none => false)
set_option maxRecDepth 100000 in
theorem stands_any {B : Nat} {w : World} {g : Nat} {r : Rt} (h : RTab B w g r) (s : Int) (hs : I64 s) : Calls Tryz.prog 69 #[.pointer (some ⟨g, 0, none⟩), .int .i64 s] w fun e w' =>
 e = .returned (.bool (standB r s)) ∧ w' = w := by
 have c0 := h.c0
 have hgl := h.lt
 have hsl := h.s0
 obtain ⟨ao, cap, hAe, hcap⟩ := own_slice h.o0
 have hA := h.o0
 rw [hAe] at c0 hA
 clear h
 by_cases e0 : s = 0
 · subst e0
   go_enter Tryz.func69, Tryz.ntmps69
   go_wp2
   go_ret
   exact ⟨rfl, rfl⟩
 by_cases e1 : s = 1
 · subst e1
   go_enter Tryz.func69, Tryz.ntmps69
   go_wp2
   go_ret
   exact ⟨rfl, rfl⟩
 have e0' : (s == 0) = false := by simpa using e0
 have e1' : (s == 1) = false := by simpa using e1
 by_cases e2 : 2 ≤ s
 case neg =>
  have HR2 := Lib.hid (show standB r s = false by unfold standB; rw [e0', e1', decide_eq_false e2]; rfl)
  clear e0 e1
  go_enter Tryz.func69, Tryz.ntmps69
  go_wp2
  go_ret
  exact ⟨by rw [HR2.out]; rfl, rfl⟩
 obtain ⟨i, rfl⟩ : ∃ i : Nat, s = i + 2 := ⟨(s - 2).toNat, by omega⟩
 have hw : IntKind.i64.wrap ((i : Int) + 2 - 2) = i := by rw [IntWalk.i64_in _ (by obtain ⟨_, _⟩ := hs; constructor <;> omega)]; omega
 have hw' : IntKind.i64.wrap (i : Int) = i := by rw [IntWalk.i64_in _ (by obtain ⟨_, _⟩ := hs; constructor <;> omega)]
 have hto : ((i : Int) + 2 - 2).toNat = i := by omega
 by_cases e3 : (i : Int) < r.l0.length
 case neg =>
  have HR3 := Lib.hid (show standB r ((i : Int) + 2) = false by unfold standB; rw [e0', e1', hto, List.getElem?_eq_none (by omega)]; simp)
  clear e0 e1 hto
  go_enter Tryz.func69, Tryz.ntmps69
  go_wp2
  go_ret
  exact ⟨by rw [HR3.out]; rfl, rfl⟩
 have hin : i < r.l0.length := by omega
 obtain ⟨g', rfl⟩ : ∃ g', ao = some ⟨g', 0, none⟩ := by
  rcases hA.2 with ⟨_, h⟩ | ⟨g', cap', cur, h1, _⟩
  · omega
  · simp at h1; exact ⟨g', h1.1⟩
 obtain ⟨x, hx⟩ : ∃ x, r.l0[i]? = some x := ⟨_, List.getElem?_eq_getElem hin⟩
 have k5 : w.cell? ⟨g', i * 6 + 5, none⟩ = some (.bool x.st) := by
  rw [hA.cellAt (i * 6 + 5) (by omega), flatE_get r.l0 i x 5 hx (by omega)]
  rfl
 have HR4 := Lib.hid (show standB r ((i : Int) + 2) = x.st by unfold standB; rw [e0', e1', hto, hx, decide_eq_true (by omega)]; rfl)
 clear hA hx hAe e0 e1 hto
 go_enter Tryz.func69, Tryz.ntmps69
 go_wp2
 go_ret
 exact ⟨by rw [HR4.out]; rfl, rfl⟩
end Go.Proofs.YtendekbckfpmgaaGreat
namespace Go.Proofs.YtendekbckfpmgaaGreat
open Go Go.RowKit Go.Proofs.YtendekbckfpmgaaGreatW.PrintWords Go.Proofs.YtendekbckfpmgaaGreat.PWorldMay
theorem copied_says (nm : ByteArray) (la : List Int) (r : Int) (d : Bool) (h : la.length ≤ 500) : juristref05_Copied.f nm la r d = some (nm, la, r, d) := by
 unfold juristref05_Copied.f
 have : ([] : List Int).length + la.length < 17592186044416 := by simp; omega
 simp only [Option.bind_some]
 rw [if_pos this]
 simp
theorem among_loop (s ws : ByteArray) (hw : ws.size ≤ 1000) : ∀ (m i : Nat) (fr : Nat), ws.size + 1 - i = m → fr ≤ i → i ≤ ws.size + 1 → ∃ k r, juristref05_among.l0 k s ws fr i = some r
 | 0, i, fr, g0, g1, g2 => ⟨1, false, by rw [juristref05_among.l0, if_neg (by omega)]⟩
 | m + 1, i, fr, g0, g1, g2 => by
  have hs : wrap64 ((i : Int) + 1) = ((i + 1 : Nat) : Int) := by unfold wrap64; omega
  obtain ⟨k1, r1, h1⟩ := among_loop s ws hw m (i + 1) fr (by omega) (by omega) (by omega)
  obtain ⟨k2, r2, h2⟩ := among_loop s ws hw m (i + 1) (i + 1) (by omega) (by omega) (by omega)
  have hj : ∀ b, ∃ k r, juristref05_among.j1 k s ws fr i b = some r := fun b => by
   cases b
   · exact ⟨k1 + 1, r1, by rw [juristref05_among.j1, if_neg (by decide), hs]; exact h1⟩
   · by_cases e : (ws.extract ((fr : Int)).toNat ((i : Int)).toNat).toList = s.toList
     · exact ⟨1, true, by rw [juristref05_among.j1, if_pos rfl, if_pos (by omega), if_pos (by omega), if_pos (by omega), if_pos e]⟩
     · exact ⟨k2 + 1, r2, by rw [juristref05_among.j1, if_pos rfl, if_pos (by omega), if_pos (by omega), if_pos (by omega), if_neg e, hs]; exact h2⟩
  by_cases e : (i : Int) = ws.size
  · obtain ⟨k, r, h⟩ := hj true
    exact ⟨k + 1, r, by rw [juristref05_among.l0, if_pos (by omega), if_pos e]; exact h⟩
  · obtain ⟨k, r, h⟩ := hj (bt ws i == 32)
    exact ⟨k + 1, r, by rw [juristref05_among.l0, if_pos (by omega), if_neg e, if_pos (by omega), if_pos (by omega)]; exact h⟩
theorem among_says (s ws : ByteArray) (hw : ws.size ≤ 1000) : ∃ k r, juristref05_among.f k s ws = some r := among_loop s ws hw _ 0 0 rfl (by omega) (by omega)
theorem may_loop (s : ByteArray) (b : Bool) (hs : s.size ≤ 1000) : ∀ (m i : Nat), s.size - i = m → i ≤ s.size → ∃ k r, juristref05_May.l0 k s b i = some r
 | 0, i, g0, g1 => by
  cases b
  · obtain ⟨k, r, h⟩ := among_says s (⟨#[116, 114, 117, 101, 32, 102, 97, 108, 115, 101, 32, 110, 111, 116, 32, 97, 110, 100, 32, 111, 114, 32, 120, 111, 114, 32, 61, 62, 32, 105, 116, 101, 32, 61, 32, 100, 105, 115, 116, 105, 110, 99, 116, 32, 43, 32, 45, 32, 42, 32, 60, 61, 32, 60, 32, 62, 61, 32, 62]⟩ : ByteArray) (by decide)
    exact ⟨k + 1, !r, by rw [juristref05_May.l0, if_neg (by omega), if_neg (by decide), h]; rfl⟩
  · obtain ⟨k, r, h⟩ := among_says s (⟨#[66, 111, 111, 108, 32, 73, 110, 116]⟩ : ByteArray) (by decide)
    exact ⟨k + 1, !r, by rw [juristref05_May.l0, if_neg (by omega), if_pos rfl, h]; rfl⟩
 | m + 1, i, g0, g1 => by
  have hw : wrap64 ((i : Int) + 1) = ((i + 1 : Nat) : Int) := by unfold wrap64; omega
  obtain ⟨k1, r1, h1⟩ := may_loop s b hs m (i + 1) (by omega) (by omega)
  by_cases e : bt s i = 32
  · exact ⟨1, true, by rw [juristref05_May.l0, if_pos (by omega), if_pos (by omega), if_pos e]⟩
  · exact ⟨k1 + 1, r1, by rw [juristref05_May.l0, if_pos (by omega), if_pos (by omega), if_neg e, hw]; exact h1⟩
theorem may_says (s : ByteArray) (b : Bool) : ∃ k r, juristref05_May.f k s b = some r := by
 have hj0 : ∃ k r, juristref05_May.j0 k s b true = some r := ⟨1, false, by rw [juristref05_May.j0, if_pos rfl]⟩
 unfold juristref05_May.f
 obtain ⟨k0, r0, h0⟩ := hj0
 by_cases e0 : (s.size : Int) = 0
 · exact ⟨k0, r0, by rw [if_pos e0]; exact h0⟩
 by_cases e1 : (s.size : Int) > 1000
 · exact ⟨k0, r0, by rw [if_neg e0, if_pos e1]; exact h0⟩
 by_cases e2 : bt s 0 = 46
 · exact ⟨k0, r0, by rw [if_neg e0, if_neg e1, if_pos (by omega), if_pos e2]; exact h0⟩
 by_cases e3 : bt s 0 = 64
 · exact ⟨k0, r0, by rw [if_neg e0, if_neg e1, if_pos (by omega), if_neg e2, if_pos e3]; exact h0⟩
 obtain ⟨k, r, h⟩ := among_says s (⟨#[95, 32, 33, 32, 97, 115, 32, 108, 101, 116, 32, 101, 120, 105, 115, 116, 115, 32, 102, 111, 114, 97, 108, 108, 32, 109, 97, 116, 99, 104, 32, 112, 97, 114, 32, 66, 73, 78, 65, 82, 89, 32, 68, 69, 67, 73, 77, 65, 76, 32, 72, 69, 88, 65, 68, 69, 67, 73, 77, 65, 76, 32, 78, 85, 77, 69, 82, 65, 76, 32, 83, 84, 82, 73, 78, 71]⟩ : ByteArray) (by decide)
 obtain ⟨k1, r1, h1⟩ : ∃ k r', juristref05_May.j0 k s b r = some r' := by
  cases r
  · obtain ⟨k, r, h⟩ := may_loop s b (by omega) _ 0 rfl (by omega)
    exact ⟨k + 1, r, by rw [juristref05_May.j0, if_neg (by decide)]; exact h⟩
  · exact ⟨1, false, by rw [juristref05_May.j0, if_pos rfl]⟩
 refine ⟨k + k1, r1, ?_⟩
 rw [if_neg e0, if_neg e1, if_pos (by omega), if_neg e2, if_neg e3, at_rounds (g := fun k => juristref05_among.f k s _) (fun k => juristref05_among.mono s _ k) (Nat.le_add_right k k1) h, Option.bind_some]
 exact at_rounds (g := fun k => juristref05_May.j0 k s b r) (fun k => (juristref05_May.mono_l k).1 s b r) (Nat.le_add_left k1 k) h1
theorem encs_map {α : Type} (enc : α → Value) (xs : List α) : encs enc xs = xs.map enc := rfl
end Go.Proofs.YtendekbckfpmgaaGreat
namespace Go.Proofs.YtendekbckfpmgaaGreat
open Go Go.RowKit Go.Proofs.YtendekbckfpmgaaGreatW.PrintWords Go.Proofs.YtendekbckfpmgaaGreat.PWorldMay
theorem infoE : (Tryz.prog.info? 147).map (fun i => (i.zero, i.size, i.bytes)) = some (some (.agg #[.string ByteArray.empty, .slice none 0 0, .int .i64 0, .bool false, .int .i64 0, .bool false]), 6, 72) := by kernel_rfl
def ArOk (w : World) (la : List Int) (ar : Value) : Prop := w.ownsRow 0 43 1 ar la.length (la.map (Value.int .i64))
theorem ArOk.slice {w : World} {la : List Int} {ar : Value} (h : ArOk w la ar) : ∃ (za : Option Addr) (zb : Nat × Nat), ar = .slice za zb.1 zb.2 := by
 obtain ⟨za, zc, e, _⟩ := own_slice h
 exact ⟨za, (la.length, zc), e⟩
def ZR (g o : Nat) (A : Value) (B n : Nat) (xs : List Value) (W : Nat) (v5 : Value) (la : List Int) (nm : ByteArray) (rs : Int) (df : Bool) (dp : Nat) : Nat → World → Value → Prop
 | 3, _, v => v = .pointer (some ⟨g, o, none⟩)
 | 4, _, v => v = A
 | 5, _, v => v = v5
 | 6, w, v => ∃ ar, ArOk w la ar ∧ v = .agg #[.string nm, ar, .int .i64 rs, .bool df]
 | 9, _, v => v = .pointer (some ⟨g, 2, none⟩)
 | 10, _, v => v = .int .i64 dp
 | 11, w, v => ∃ ar, ArOk w la ar ∧ v = .agg (En.cells ⟨nm, ar, rs, df, dp, true⟩).toArray
 | 12, w, v => ∃ ad ar, ArOk w la ar ∧ v = .slice (some ⟨ad, 0, none⟩) 1 1 ∧ W ≤ ad ∧ RowB w ad 147 (En.cells ⟨nm, ar, rs, df, dp, true⟩)
 | 13, w, v => ∃ ar, ArOk w la ar ∧ w.ownsRow B 147 6 v (n + 1) (xs ++ En.cells ⟨nm, ar, rs, df, dp, true⟩) ∧ (v.ownBlock = A.ownBlock ∨ ∃ g, v.ownBlock = some g ∧ W ≤ g)
 | _, _, v => v = .pointer (some ⟨g, 0, none⟩)
def CE (A : Value) (B n : Nat) (xs : List Value) (w w' : World) : Prop := Ch (fun k => A.ownBlock = some k) w w' ∧ w'.ownsRow B 147 6 A n xs
section
variable {g o : Nat} {A : Value} {B n : Nat} {xs : List Value} {W : Nat} {v5 : Value} {la : List Int} {nm : ByteArray} {rs : Int} {df : Bool} {dp : Nat}
theorem ZR.keep {w w' : World} {i : Nat} (h6 : i ≠ 12 → ∀ ad cs, W ≤ ad → RowB w ad 147 cs → RowB w' ad 147 cs)
 (h7 : i ≠ 13 → ∀ v k ys, w.ownsRow B 147 6 v k ys → w'.ownsRow B 147 6 v k ys) (h8 : ∀ la ar, ArOk w la ar → ArOk w' la ar) : ∀ j u, j ≠ i → ZR g o A B n xs W v5 la nm rs df dp j w u → ZR g o A B n xs W v5 la nm rs df dp j w' u := by
 intro j u hj h
 unfold ZR at h ⊢
 split at h
 case h_4 =>
  obtain ⟨ar, h0, h1⟩ := h
  exact ⟨ar, h8 _ _ h0, h1⟩
 case h_7 =>
  obtain ⟨ar, h0, h1⟩ := h
  exact ⟨ar, h8 _ _ h0, h1⟩
 case h_8 =>
  obtain ⟨ad, ar, h0, h1, h2, h3⟩ := h
  exact ⟨ad, ar, h8 _ _ h0, h1, h2, h6 (Ne.symm hj) ad _ h2 h3⟩
 case h_9 =>
  obtain ⟨ar, h0, h1, h2⟩ := h
  exact ⟨ar, h8 _ _ h0, h7 (Ne.symm hj) _ _ _ h1, h2⟩
 all_goals exact h
theorem En.one {x : En} (h : x.ar.oneCell' = true) : ∀ u ∈ x.cells, u.oneCell' = true := by
 intro u hu
 simp only [En.cells, List.mem_cons, List.not_mem_nil, or_false] at hu
 rcases hu with rfl | rfl | rfl | rfl | rfl | rfl
 · rfl
 · exact h
 all_goals rfl
theorem appE {w w' : World} (h : CE A B n xs w w') (hA : w.ownsRow B 147 6 A n xs) (hl : n ≤ 2000) (hB : B ≤ w.heap.size) {ad : Nat} {ar : Value} (hp : ArOk w' la ar) (h1 : ar.oneCell' = true) (_hd : w.heap.size ≤ ad)
 (h3 : RowB w' ad 147 (En.cells ⟨nm, ar, rs, df, dp, true⟩)) :
 ∃ v' w'', (Builtin.append_ #[86, 86] 86 #[A, .slice (some ⟨ad, 0, none⟩) 1 1]).run Tryz.prog w' = .ok v' w'' ∧ (ZR g o A B n xs w.heap.size v5 la nm rs df dp 13 w'' v' ∧ CE A B n xs w w'' ∧
  ∀ j u, j ≠ 13 → ZR g o A B n xs w.heap.size v5 la nm rs df dp j w' u → ZR g o A B n xs w.heap.size v5 la nm rs df dp j w'' u) := by
 obtain ⟨i0, hi, hz0, hz1, hz2⟩ := info_parts infoE
 obtain ⟨v', w'', hr, ho, hg, hat, hold⟩ := run_append_both (P := Tryz.prog) w' B 86 86 147 i0 _ 6 72 Tryz.underlying86 hi hz0 hz1 hz2 rfl (by decide) A n xs h.2 ⟨ad, 0, none⟩ 1 1 (En.cells ⟨nm, ar, rs, df, dp, true⟩) rfl
  (fun j u hu => by rw [show ((⟨ad, 0, none⟩ : Addr).add j) = ⟨ad, j, none⟩ by cases j <;> simp [Addr.add], h3.cell]; exact hu) (En.one h1) (by unfold maxLen; omega) (by omega) (Nat.le_trans hB h.1.size)
 have hch : Ch (fun k => A.ownBlock = some k) w' w'' := Ch.grown hg (fun k e => e.symm)
 have h8 : ∀ la ar, ArOk w' la ar → ArOk w'' la ar := fun la ar ha => ownsRow_ch ha hch (fun q hq e => own_ne ha h.2 (by decide) hq e)
 exact ⟨v', w'', hr, ⟨ar, h8 _ _ hp, ho, hat.imp id (fun e => ⟨_, e, h.1.size⟩)⟩, ⟨h.1.trans hch, hold⟩, ZR.keep (fun _ ad' _ hd hr' => hr'.kept hch (fun e => by have := (hA.lt _ e).2; omega)) (fun e => absurd rfl e) h8⟩
end
theorem RTab.put0 {B : Nat} {w w' : World} {g : Nat} {r : Rt} {A' : Value} {x : En} (h : RTab B w g r) (hn : r.l0.length < 2000) (hrow : RowB w' g 88 [r.A0, r.A1, .int .i64 r.dp]) (hc : Ch (fun k => r.A0.ownBlock = some k) w w')
 (ho : w'.ownsRow B 147 6 A' (r.l0.length + 1) (flatE r.l0 ++ x.cells)) (hat : A'.ownBlock = r.A0.ownBlock ∨ ∃ g, A'.ownBlock = some g ∧ w.heap.size ≤ g) :
 RTab B (w'.setCell ⟨g, 0, none⟩ A') g { r with A0 := A', l0 := r.l0 ++ [x] } ∧ Ch (ROwn g r) w (w'.setCell ⟨g, 0, none⟩ A') := by
 have hn1 : r.A1.ownBlock ≠ some g := own_ne_row h.o1 h.row (by decide)
 have ho1 : w'.ownsRow B 147 6 r.A1 r.l1.length (flatE r.l1) := ownsRow_ch h.o1 hc (fun k hk hk' => h.n01 k hk' hk)
 refine ⟨⟨hrow.set 0 A', h.gb, ?_, ownsRow_setCell_other ho1 (a := ⟨g, 0, none⟩) hn1 _, fun k hk hk' => ?_, by simp; omega, h.s1, h.dl⟩, Ch.setC (S := ROwn g r) (hc.mono fun k _ e => Or.inr (Or.inl e)) g 0 (Or.inl rfl) _⟩
 · have := ownsRow_setCell_other ho (a := ⟨g, 0, none⟩) (own_ne_row ho hrow (by decide)) A'
   simpa [flatE_snoc] using this
 · rcases hat with e | ⟨q, e, e2⟩
   · exact h.n01 k (by rw [← e]; exact hk) hk'
   · have e3 : A'.ownBlock = some k := hk
     rw [e] at e3
     have : q = k := by simpa using e3
     have := (h.o1.lt k hk').2
     omega
theorem RTab.put1 {B : Nat} {w w' : World} {g : Nat} {r : Rt} {A' : Value} {x : En} (h : RTab B w g r) (hn : r.l1.length < 2000) (hrow : RowB w' g 88 [r.A0, r.A1, .int .i64 r.dp]) (hc : Ch (fun k => r.A1.ownBlock = some k) w w')
 (ho : w'.ownsRow B 147 6 A' (r.l1.length + 1) (flatE r.l1 ++ x.cells)) (hat : A'.ownBlock = r.A1.ownBlock ∨ ∃ g, A'.ownBlock = some g ∧ w.heap.size ≤ g) :
 RTab B (w'.setCell ⟨g, 1, none⟩ A') g { r with A1 := A', l1 := r.l1 ++ [x] } ∧ Ch (ROwn g r) w (w'.setCell ⟨g, 1, none⟩ A') := by
 have hn1 : r.A0.ownBlock ≠ some g := own_ne_row h.o0 h.row (by decide)
 have ho0 : w'.ownsRow B 147 6 r.A0 r.l0.length (flatE r.l0) := ownsRow_ch h.o0 hc (fun k hk hk' => h.n01 k hk hk')
 refine ⟨⟨hrow.set 1 A', h.gb, ownsRow_setCell_other ho0 (a := ⟨g, 1, none⟩) hn1 _, ?_, fun k hk hk' => ?_, h.s0, by simp; omega, h.dl⟩, Ch.setC (S := ROwn g r) (hc.mono fun k _ e => Or.inr (Or.inr e)) g 1 (Or.inl rfl) _⟩
 · have := ownsRow_setCell_other ho (a := ⟨g, 1, none⟩) (own_ne_row ho hrow (by decide)) A'
   simpa [flatE_snoc] using this
 · rcases hat with e | ⟨q, e, e2⟩
   · exact h.n01 k hk (by rw [← e]; exact hk')
   · have e3 : A'.ownBlock = some k := hk'
     rw [e] at e3
     have : q = k := by simpa using e3
     have := (h.o0.lt k hk).2
     omega
def RDeclS (B : Nat) (w : World) (g : Nat) (r : Rt) (nm : ByteArray) (mr : Bool) (e : Ending) (w' : World) : Prop :=
 (∃ er : Int, er ≠ 0 ∧ e = .returned (.tuple #[.int .i64 0, .int .i64 er]) ∧ ¬ (mr = true ∧ seekE nm r.l0 0 < 0 ∧ r.l0.length < 2000) ∧ RTab B w' g r ∧ Below w.heap.size w w') ∨
 (∃ A' ar, mr = true ∧ seekE nm r.l0 0 < 0 ∧ r.l0.length < 2000 ∧ e = .returned (.tuple #[.int .i64 ((r.l0.length : Int) + 2), .int .i64 0]) ∧ RTab B w' g { r with A0 := A', l0 := r.l0 ++ [⟨nm, ar, 0, false, r.dp, true⟩] } ∧ Ch (ROwn g r) w w')
set_option maxRecDepth 100000 in
set_option maxHeartbeats 1000000 in
theorem rdeclareSort_any {B : Nat} {w : World} {g : Nat} {r : Rt} (h : RTab B w g r) (nm : ByteArray) (mr : Bool) (k0 : Nat) (hm : juristref05_May.f k0 nm true = some mr) :
 Calls Tryz.prog 23 #[.pointer (some ⟨g, 0, none⟩), .string nm] w (RDeclS B w g r nm mr) := by
 have HMC := Lib.hid (juristref05_May.calls k0 nm true mr w hm)
 have HT0 := Lib.hid h
 clear h hm
 go_enter Tryz.func23, Tryz.ntmps23
 go_wp2_with fail
 refine HMC.out.mono ?_; rintro e w1 ⟨rfl, hdr⟩
 have hb1 : Below w.heap.size w w1 := Drawn0.below hdr
 have HT := Lib.hid (HT0.out.below hb1)
 have HB1 := Lib.hid hb1
 clear HMC hdr hb1
 cases mr
 case false =>
  go_wp2_with fail
  go_ret2
  exact Or.inl ⟨50, by decide, rfl, (fun q => by cases q.1), HT.out, HB1.out⟩
 case true =>
 have c0 := HT.out.c0
 have c2 := HT.out.c2
 have hgl := HT.out.lt
 have hl0 := HT.out.s0
 obtain ⟨ao, cap, hAe, _⟩ := own_slice HT.out.o0
 rw [hAe] at c0
 go_wp2_with fail
 have HF := Lib.hid (find_any (w := w1) _ r.l0 HT.out.o0 HT.out.s0 nm)
 rw [hAe] at HF
 refine HF.out.mono ?_; rintro e w2 ⟨rfl, rfl⟩
 clear HF
 by_cases hfe : 0 ≤ seekE nm r.l0 0
 case pos =>
  have HE := Lib.hid hfe
  go_wp2_with fail
  go_ret2
  exact Or.inl ⟨8, by decide, rfl, (fun q => by have := HE.out; omega), HT.out, HB1.out⟩
 case neg =>
 by_cases hlt : 2000 ≤ r.l0.length
 case pos =>
  have HE := Lib.hid hfe
  have hlt' : (2000 : Int) ≤ r.l0.length := by omega
  go_wp2_with fail
  go_ret2
  exact Or.inl ⟨9, by decide, rfl, (fun q => by omega), HT.out, HB1.out⟩
 case neg =>
 have hlt' : ¬ (2000 : Int) ≤ r.l0.length := by omega
 have HFN := Lib.hid (show seekE nm r.l0 0 < 0 by omega)
 have HM := Lib.hid (show true = true from rfl)
 have hltL : r.l0.length < 2000 := by omega
 have hlL : r.l0.length ≤ 2000 := by omega
 go_wp2_with fail
 have hAo := HT.out.o0
 rw [hAe] at hAo
 have hBw : B ≤ w2.heap.size := Nat.le_trans HT.out.gb (Nat.le_of_lt hgl)
 have hrow4 := HT.out.row
 rw [hAe] at hrow4
 have hneg : ∀ k, (Value.slice ao r.l0.length cap).ownBlock = some k → k ≠ g := fun k hk e => own_ne_row hAo hrow4 (by decide) (by rw [hk, e])
 have rowK : ∀ w', CE (.slice ao r.l0.length cap) B r.l0.length (flatE r.l0) w2 w' → RowB w' g 88 [.slice ao r.l0.length cap, r.A1, .int .i64 r.dp] := fun w' h => hrow4.kept h.1 (fun e => hneg g e rfl)
 have cellK : ∀ w', CE (.slice ao r.l0.length cap) B r.l0.length (flatE r.l0) w2 w' → w'.cell? ⟨g, 0, none⟩ = some (.slice ao r.l0.length cap) := fun w' h => (rowK w' h).cell 0
 have depK : ∀ w', CE (.slice ao r.l0.length cap) B r.l0.length (flatE r.l0) w2 w' → w'.cell? ⟨g, 2, none⟩ = some (.int .i64 r.dp) := fun w' h => (rowK w' h).cell 2
 obtain ⟨la, hlaD⟩ : ∃ la : List Int, la = [] := ⟨_, rfl⟩
 have hPar0 : ∀ w', ArOk w' la (.slice none 0 0) := fun w' => by rw [hlaD]; exact World.ownsRow_nil _ _ _ _
 obtain ⟨rs, hrs⟩ : ∃ rs : Int, rs = 0 := ⟨_, rfl⟩
 obtain ⟨df, hdf⟩ : ∃ df : Bool, df = false := ⟨_, rfl⟩
 have allocE : ∀ w', CE (.slice ao r.l0.length cap) B r.l0.length (flatE r.l0) w2 w' → ∀ ar, ArOk w' la ar → ZR g 0 (.slice ao r.l0.length cap) B r.l0.length (flatE r.l0) w2.heap.size (.string nm) la nm rs df r.dp 12 (w'.alloc (.cells (En.cells ⟨nm, ar, rs, df, r.dp, true⟩).toArray 147)) (.slice (some ⟨w'.heap.size, 0, none⟩) 1 1) ∧ CE (.slice ao r.l0.length cap) B r.l0.length (flatE r.l0) w2 (w'.alloc (.cells (En.cells ⟨nm, ar, rs, df, r.dp, true⟩).toArray 147)) ∧
  ∀ j u, j ≠ 12 → ZR g 0 (.slice ao r.l0.length cap) B r.l0.length (flatE r.l0) w2.heap.size (.string nm) la nm rs df r.dp j w' u → ZR g 0 (.slice ao r.l0.length cap) B r.l0.length (flatE r.l0) w2.heap.size (.string nm) la nm rs df r.dp j (w'.alloc (.cells (En.cells ⟨nm, ar, rs, df, r.dp, true⟩).toArray 147)) u := fun w' h ar ha =>
  ⟨⟨_, ar, World.ownsRow.alloc ha _, rfl, h.1.size, RowB.new _ _ _⟩, ⟨h.1.alloc _, h.2.alloc _⟩, ZR.keep (fun e => absurd rfl e) (fun _ v k ys hv => hv.alloc _) (fun _ _ hv => World.ownsRow.alloc hv _)⟩
 refine wp_region_flow3 14 (by kernel_rfl) (by kernel_rfl) ?_ (ZR g 0 (Value.slice ao r.l0.length cap) B r.l0.length (flatE r.l0) w2.heap.size (.string nm) la nm rs df r.dp) (CE (Value.slice ao r.l0.length cap) B r.l0.length (flatE r.l0) w2) ⟨(Ch.refl _ w2).drawn, hAo⟩ ?_ ?_
 · intro i o' d hi ho hd
   have : i = 0 ∨ i = 1 ∨ i = 2 ∨ i = 3 ∨ i = 4 ∨ i = 5 ∨ i = 6 ∨ i = 7 ∨ i = 8 ∨ i = 9 ∨ i = 10 ∨ i = 11 ∨ i = 12 ∨ i = 13 := by omega
   rcases this with rfl | rfl | rfl | rfl | rfl | rfl | rfl | rfl | rfl | rfl | rfl | rfl | rfl | rfl <;> (simp at ho; subst ho; simp at hd; subst hd; simp)
 · intro i o' hi ho
   have : i = 0 ∨ i = 1 ∨ i = 2 ∨ i = 3 ∨ i = 4 ∨ i = 5 ∨ i = 6 ∨ i = 7 ∨ i = 8 ∨ i = 9 ∨ i = 10 ∨ i = 11 ∨ i = 12 ∨ i = 13 := by omega
   rcases this with rfl | rfl | rfl | rfl | rfl | rfl | rfl | rfl | rfl | rfl | rfl | rfl | rfl | rfl <;> (simp at ho; subst ho; intro a w' hC hd hr; rw [if_pos (by rfl)])
   · have e0 : a.tmps.getD 0 undef = .pointer (some ⟨g, 0, none⟩) := hr 0 (free_of (by rfl))
     have e0' : a.tmps[0]?.getD undef = .pointer (some ⟨g, 0, none⟩) := by simpa using e0
     exact flow_val (v := .pointer (some ⟨g, 0, none⟩)) (by go_simp) ⟨rfl, hC, fun _ _ _ h => h⟩
   · have e0 : a.tmps.getD 0 undef = .pointer (some ⟨g, 0, none⟩) := hr 0 (free_of (by rfl))
     have e0' : a.tmps[0]?.getD undef = .pointer (some ⟨g, 0, none⟩) := by simpa using e0
     exact flow_val (v := .pointer (some ⟨g, 0, none⟩)) (by go_simp) ⟨rfl, hC, fun _ _ _ h => h⟩
   · have e26 : a.tmps.getD 26 undef = .pointer (some ⟨g, 0, none⟩) := hd ⟨1, .data⟩ (by simp) rfl _ _ rfl rfl
     have e26' : a.tmps[26]?.getD undef = .pointer (some ⟨g, 0, none⟩) := by simpa using e26
     exact flow_val (v := .pointer (some ⟨g, 0, none⟩)) (by go_simp) ⟨rfl, hC, fun _ _ _ h => h⟩
   · have e27 : a.tmps.getD 27 undef = .pointer (some ⟨g, 0, none⟩) := hd ⟨2, .data⟩ (by simp) rfl _ _ rfl rfl
     have e27' : a.tmps[27]?.getD undef = .pointer (some ⟨g, 0, none⟩) := by simpa using e27
     exact flow_val (v := .pointer (some ⟨g, 0, none⟩)) (by go_simp) ⟨rfl, hC, fun _ _ _ h => h⟩
   · have e28 : a.tmps.getD 28 undef = .pointer (some ⟨g, 0, none⟩) := hd ⟨3, .data⟩ (by simp) rfl _ _ rfl rfl
     have e28' : a.tmps[28]?.getD undef = .pointer (some ⟨g, 0, none⟩) := by simpa using e28
     have c0 : w'.cell? ⟨g, 0, none⟩ = some (Value.slice ao r.l0.length cap) := cellK w' hC
     exact flow_val (v := (Value.slice ao r.l0.length cap)) (by go_simp) ⟨rfl, hC, fun _ _ _ h => h⟩
   · have e1 : a.tmps.getD 1 undef = .string nm := hr 1 (free_of (by rfl))
     have e1' : a.tmps[1]?.getD undef = .string nm := by simpa using e1
     exact flow_val (v := .string nm) (by go_simp) ⟨rfl, hC, fun _ _ _ h => h⟩
   · have e5 : a.tmps.getD 30 undef = .string nm := hd ⟨5, .data⟩ (by simp) rfl _ _ rfl rfl
     have e5' : a.tmps[30]?.getD undef = .string nm := by simpa using e5
     subst hrs
     subst hdf
     exact flow_val (v := .agg #[.string nm, .slice none 0 0, .int .i64 0, .bool false]) (by go_simp; try rfl) ⟨⟨_, hPar0 _, rfl⟩, hC, fun _ _ _ h => h⟩
   · have e0 : a.tmps.getD 0 undef = .pointer (some ⟨g, 0, none⟩) := hr 0 (free_of (by rfl))
     have e0' : a.tmps[0]?.getD undef = .pointer (some ⟨g, 0, none⟩) := by simpa using e0
     exact flow_val (v := .pointer (some ⟨g, 0, none⟩)) (by go_simp) ⟨rfl, hC, fun _ _ _ h => h⟩
   · have e32 : a.tmps.getD 32 undef = .pointer (some ⟨g, 0, none⟩) := hd ⟨7, .data⟩ (by simp) rfl _ _ rfl rfl
     have e32' : a.tmps[32]?.getD undef = .pointer (some ⟨g, 0, none⟩) := by simpa using e32
     exact flow_val (v := .pointer (some ⟨g, 0, none⟩)) (by go_simp) ⟨rfl, hC, fun _ _ _ h => h⟩
   · have e33 : a.tmps.getD 33 undef = .pointer (some ⟨g, 0, none⟩) := hd ⟨8, .data⟩ (by simp) rfl _ _ rfl rfl
     have e33' : a.tmps[33]?.getD undef = .pointer (some ⟨g, 0, none⟩) := by simpa using e33
     exact flow_val (v := .pointer (some ⟨g, 2, none⟩)) (by go_simp) ⟨rfl, hC, fun _ _ _ h => h⟩
   · have e34 : a.tmps.getD 34 undef = .pointer (some ⟨g, 2, none⟩) := hd ⟨9, .data⟩ (by simp) rfl _ _ rfl rfl
     have e34' : a.tmps[34]?.getD undef = .pointer (some ⟨g, 2, none⟩) := by simpa using e34
     have c2 : w'.cell? ⟨g, 2, none⟩ = some (.int .i64 r.dp) := depK w' hC
     exact flow_val (v := .int .i64 r.dp) (by go_simp) ⟨rfl, hC, fun _ _ _ h => h⟩
   · obtain ⟨ar, ha, e6⟩ : ∃ ar, ArOk w' la ar ∧ a.tmps.getD 31 undef = .agg #[.string nm, ar, .int .i64 rs, .bool df] := hd ⟨6, .data⟩ (by simp) rfl _ _ rfl rfl
     have e6' : a.tmps[31]?.getD undef = .agg #[.string nm, ar, .int .i64 rs, .bool df] := by simpa using e6
     have e35 : a.tmps.getD 35 undef = .int .i64 r.dp := hd ⟨10, .data⟩ (by simp) rfl _ _ rfl rfl
     have e35' : a.tmps[35]?.getD undef = .int .i64 r.dp := by simpa using e35
     obtain ⟨za, zb, rfl⟩ := ha.slice
     exact flow_val (v := .agg (En.cells ⟨nm, .slice za zb.1 zb.2, rs, df, r.dp, true⟩).toArray) (by go_simp; try rfl) ⟨⟨_, ha, rfl⟩, hC, fun _ _ _ h => h⟩
   · obtain ⟨ar, ha, e11⟩ : ∃ ar, ArOk w' la ar ∧ a.tmps.getD 36 undef = .agg (En.cells ⟨nm, ar, rs, df, r.dp, true⟩).toArray := hd ⟨11, .data⟩ (by simp) rfl _ _ rfl rfl
     have e11' : a.tmps[36]?.getD undef = .agg #[.string nm, ar, .int .i64 rs, .bool df, .int .i64 r.dp, .bool true] := by simpa [En.cells] using e11
     refine flow_new (v := .slice (some ⟨w'.heap.size, 0, none⟩) 1 1) (w' := w'.alloc (.cells (En.cells ⟨nm, ar, rs, df, r.dp, true⟩).toArray 147)) (by go_simp; try rfl) ?_
     exact allocE w' hC ar ha
   · have e29 : a.tmps.getD 29 undef = (Value.slice ao r.l0.length cap) := hd ⟨4, .data⟩ (by simp) rfl _ _ rfl rfl
     have e29' : a.tmps[29]?.getD undef = (Value.slice ao r.l0.length cap) := by simpa using e29
     obtain ⟨ad, ar, ha, h31a, h31b, h31c⟩ : ∃ ad ar, ArOk w' la ar ∧ a.tmps.getD 37 undef = .slice (some ⟨ad, 0, none⟩) 1 1 ∧ w2.heap.size ≤ ad ∧ RowB w' ad 147 (En.cells ⟨nm, ar, rs, df, r.dp, true⟩) := hd ⟨12, .data⟩ (by simp) rfl _ _ rfl rfl
     obtain ⟨v', w'', hr1, hr2⟩ := appE (o := 0) hC hAo hlL hBw ha (by obtain ⟨za, zb, rfl⟩ := ha.slice; rfl) h31b h31c
     exact flow_new (exec_append _ (.tmp 29) (.tmp 37) 86 rfl e29 h31a hr1) hr2
 · intro vs' w5 hC5 hZ
   have v0 : vs' 0 = .pointer (some ⟨g, 0, none⟩) := hZ 0 _ _ (by omega) rfl rfl
   obtain ⟨ar, ha, hoA', hatA'⟩ : ∃ ar, ArOk w5 la ar ∧ w5.ownsRow B 147 6 (vs' 13) (r.l0.length + 1) (flatE r.l0 ++ En.cells ⟨nm, ar, rs, df, r.dp, true⟩) ∧ ((vs' 13).ownBlock = (Value.slice ao r.l0.length cap).ownBlock ∨ ∃ g, (vs' 13).ownBlock = some g ∧ w2.heap.size ≤ g) := hZ 13 _ _ (by omega) rfl rfl
   have hrow5 := rowK _ hC5
   simp only [List.drop_succ_cons, List.drop_zero, List.take_succ_cons, List.take_zero, putAll, v0]
   obtain ⟨ao', cap', hAe', _⟩ := own_slice hoA'
   rw [hAe'] at hoA' hatA'
   simp only [hAe']
   have HP := Lib.hid (HT.out.put0 hltL (by rw [hAe]; exact hrow5) (by rw [hAe]; exact hC5.1) hoA' (by rw [hAe]; exact hatA'))
   have har5 := Lib.hid (show ArOk (w5.setCell ⟨g, 0, none⟩ (.slice ao' (r.l0.length + 1) cap')) la ar from ownsRow_setCell_other ha (a := ⟨g, 0, none⟩) (own_ne_row ha hrow5 (by decide)) _)
   have f5 := hrow5.free 0
   have hbl5 := hrow5.lt
   have c5 : w5.cell? ⟨g, 0, none⟩ = some (Value.slice ao r.l0.length cap) := hrow5.cell 0
   clear hZ hoA' hatA' hAe' v0 hrow5 ha
   go_wp2
   have c6 : (w5.setCell ⟨g, 0, none⟩ (.slice ao' (r.l0.length + 1) cap')).cell? ⟨g, 0, none⟩ = some (.slice ao' (r.l0.length + 1) cap') := HP.out.1.c0
   clear hC5 c5 f5
   go_wp2
   go_ret2
   subst hrs
   subst hdf
   exact Or.inr ⟨_, ar, rfl, HFN.out, hltL, by simp; try omega, HP.out.1, Ch.trans (Ch.ofBelow HB1.out) HP.out.2⟩
end Go.Proofs.YtendekbckfpmgaaGreat
namespace Go.Proofs.YtendekbckfpmgaaGreat
open Go Go.RowKit Go.Proofs.YtendekbckfpmgaaGreatW.PrintWords Go.Proofs.YtendekbckfpmgaaGreat.PWorldMay
def OkR (r : Rt) (mr : Bool) (nm : ByteArray) (res : Int) (la : List Int) : Prop := mr = true ∧ la.length ≤ 20 ∧ (∀ z ∈ la, standB r z = true) ∧ standB r res = true ∧ seekE nm r.l1 0 < 0 ∧ r.l1.length < 2000
def RDeclF (B : Nat) (w : World) (g : Nat) (r : Rt) (f : Fd) (la : List Int) (mr : Bool) (e : Ending) (w' : World) : Prop :=
 (∃ er : Int, (er ≠ 0 ∧ ¬ OkR r mr f.nm f.res la) ∧ e = .returned (.tuple #[.int .i64 0, .int .i64 er]) ∧ RTab B w' g r ∧ Below w.heap.size w w') ∨
 (∃ A' ar, (OkR r mr f.nm f.res la ∧ ArOk w' la ar) ∧ seekE f.nm r.l1 0 < 0 ∧ r.l1.length < 2000 ∧ e = .returned (.tuple #[.int .i64 r.l1.length, .int .i64 0]) ∧ RTab B w' g { r with A1 := A', l1 := r.l1 ++ [⟨f.nm, ar, f.res, f.df, r.dp, true⟩] } ∧ Ch (ROwn g r) w w')
set_option maxRecDepth 100000 in
set_option maxHeartbeats 2000000 in
theorem rdeclareFun_any {B : Nat} {w : World} {g : Nat} {r : Rt} (h : RTab B w g r) (nm : ByteArray) (A3 : Option Addr) (c3 : Nat) (la : List Int) (rs : Int) (df : Bool) (hl : la.length ≤ 500) (hI : ∀ z ∈ la, I64 z) (hrs : I64 rs)
 (mr : Bool) (k0 : Nat) (hm : juristref05_May.f k0 nm false = some mr)
 (hrd : ∀ k, k < la.length → ∃ ad bb oo, A3 = some ad ∧ ad.add k = ⟨bb, oo, none⟩ ∧ bb < w.heap.size ∧ w.cell? ⟨bb, oo, none⟩ = some (.int .i64 (la.getD k 0)))
 (hcp : ∀ w', Ch (fun k => r.A1.ownBlock = some k) w w' → Calls Tryz.prog 24 #[.agg #[.string nm, .slice A3 la.length c3, .int .i64 rs, .bool df]] w' fun e w'' => ∃ (za : Option Addr) (zb : Nat × Nat), e = .returned (.agg #[.string nm, .slice za zb.1 zb.2, .int .i64 rs, .bool df]) ∧ Below w'.heap.size w' w'' ∧ ArOk w'' la (.slice za zb.1 zb.2)) :
 Calls Tryz.prog 26 #[.pointer (some ⟨g, 0, none⟩), .agg #[.string nm, .slice A3 la.length c3, .int .i64 rs, .bool df]] w (RDeclF B w g r ⟨nm, .slice A3 la.length c3, rs, df⟩ la mr) := by
 have HMC := Lib.hid (fun w1 => juristref05_May.calls k0 nm false mr w1 hm)
 have HCP := Lib.hid hcp
 have HRD := Lib.hid hrd
 have HI := Lib.hid hI
 have HT0 := Lib.hid h
 have hBw0 : B ≤ w.heap.size := Nat.le_trans h.gb (Nat.le_of_lt h.lt)
 have HBX := Lib.hid (And.intro ((Below.refl w.heap.size w).alloc (Nat.le_refl _) (.cells (Fd.cells ⟨nm, .slice A3 la.length c3, rs, df⟩).toArray 72)) (RowB.new w (Fd.cells ⟨nm, .slice A3 la.length c3, rs, df⟩) 72))
 clear h hm hcp hrd hI
 go_enter Tryz.func26, Tryz.ntmps26
 go_wp2_with fail
 refine (HMC.out _).mono ?_; rintro e w1 ⟨rfl, hdr⟩
 have hb1 : Below w.heap.size w w1 := HBX.out.1.trans ((Drawn0.below hdr).mono (by simp))
 have hx1 : RowB w1 w.heap.size 72 (Fd.cells ⟨nm, .slice A3 la.length c3, rs, df⟩) := HBX.out.2.kept (S := fun _ => False) (Ch.ofBelow (Drawn0.below hdr)) (fun e => e)
 have HT := Lib.hid (HT0.out.below hb1)
 have HB1 := Lib.hid hb1
 have HX1 := Lib.hid hx1
 clear HMC hdr hb1 hx1 HBX
 have xl := HX1.out.lt
 have x0 : w1.cell? ⟨w.heap.size, 0, none⟩ = some (.string nm) := HX1.out.cell 0
 have x1 : w1.cell? ⟨w.heap.size, 1, none⟩ = some (.slice A3 la.length c3) := HX1.out.cell 1
 have x2 : w1.cell? ⟨w.heap.size, 2, none⟩ = some (.int .i64 rs) := HX1.out.cell 2
 have x3 : w1.cell? ⟨w.heap.size, 3, none⟩ = some (.bool df) := HX1.out.cell 3
 generalize hfb : w.heap.size = fb at *
 have HFB := Lib.hid hfb
 clear hfb
 cases mr
 case false =>
  go_wp2_with fail
  go_ret2
  exact Or.inl ⟨50, ⟨by decide, fun q => by cases q.1⟩, rfl, HT.out, by rw [HFB.out]; exact HB1.out⟩
 case true =>
 by_cases hl20 : 20 < la.length
 case pos =>
  have hl' : (20 : Int) < la.length := by omega
  have HNO := Lib.hid (show ¬ OkR r true nm rs la from fun q => by have := q.2.1; omega)
  go_wp2_with fail
  go_ret2
  exact Or.inl ⟨3, ⟨by decide, HNO.out⟩, rfl, HT.out, by rw [HFB.out]; exact HB1.out⟩
 case neg =>
 have hl' : ¬ (20 : Int) < la.length := by omega
 have HL20 := Lib.hid (show la.length ≤ 20 by omega)
 go_wp2_with fail
 go_loopw [6] (fun vi wr => ∃ k : Nat, vi = .int .i64 k ∧ k ≤ la.length ∧ wr = w1 ∧ Hid (∀ j, j < k → standB r (la.getD j 0) = true)) (fun vi _ => la.length - (intOf vi).toNat)
 case atStart => exact ⟨0, rfl, by omega, rfl, Lib.hid (fun j hj => by omega)⟩
 case round =>
  obtain ⟨k, rfl, hk, rfl, hall⟩ := hrel
  by_cases hkl : k < la.length
  case pos =>
   have hkl' : (k : Int) < la.length := by omega
   obtain ⟨ad, bb, oo, rfl, hadd, hbb, hcell⟩ := HRD.out k hkl
   have hcell1 : wr.cell? ⟨bb, oo, none⟩ = some (.int .i64 (la.getD k 0)) := by
    rw [← hcell]
    exact HB1.out.cell (p := ⟨bb, oo, none⟩) hbb
   have hzz : I64 (la.getD k 0) := by
    have : la.getD k 0 = la[k] := by simp [hkl]
    rw [this]
    exact HI.out _ (List.getElem_mem hkl)
   have HST := Lib.hid (stands_any HT.out (la.getD k 0) hzz)
   have HMEM := Lib.hid (show la.getD k 0 ∈ la by
    have : la.getD k 0 = la[k] := by simp [hkl]
    rw [this]; exact List.getElem_mem hkl)
   have HNX := Lib.hid (show standB r (la.getD k 0) = true → ∀ j, j < k + 1 → standB r (la.getD j 0) = true from fun q j hj => by
    by_cases e : j = k
    · subst e; exact q
    · exact hall.out j (by omega))
   generalize la.getD k 0 = z at *
   clear hcell hzz hall
   go_wp2_with fail
   refine HST.out.mono ?_; rintro e w2 ⟨rfl, rfl⟩
   clear HST
   cases hbv : standB r z
   · have HNO := Lib.hid (show ¬ OkR r true nm rs la from fun q => by have := q.2.2.1 z HMEM.out; rw [hbv] at this; cases this)
     clear hbv
     go_wp2_with fail
     go_ret2
     exact Or.inl ⟨7, ⟨by decide, HNO.out⟩, rfl, HT.out, by rw [HFB.out]; exact HB1.out⟩
   · have HN2 := Lib.hid (HNX.out hbv)
     clear hbv
     go_wp2_with fail
     go_roundw
     case rel => exact ⟨k + 1, by go_num, by omega, by trivial, HN2⟩
     case measure => simp [intOf]; omega
  case neg =>
  have hkl' : ¬ (k : Int) < la.length := by omega
  have HST := Lib.hid (stands_any HT.out rs hrs)
  have HAL := Lib.hid (show ∀ z ∈ la, standB r z = true from fun z hz => by
   obtain ⟨j, hj, e⟩ := List.mem_iff_getElem.1 hz
   have := hall.out j (by omega)
   have e2 : la.getD j 0 = la[j] := by simp [hj]
   rw [e2, e] at this; exact this)
  clear hall
  go_wp2_with fail
  refine HST.out.mono ?_; rintro e w2 ⟨rfl, rfl⟩
  clear HST
  cases hbv : standB r rs
  case false =>
   have HNO := Lib.hid (show ¬ OkR r true nm rs la from fun q => by have := q.2.2.2.1; rw [hbv] at this; cases this)
   clear hbv
   go_wp2_with fail
   go_ret2
   exact Or.inl ⟨7, ⟨by decide, HNO.out⟩, rfl, HT.out, by rw [HFB.out]; exact HB1.out⟩
  case true =>
  have HRS := Lib.hid hbv
  clear hbv
  have c1 := HT.out.c1
  have hgl := HT.out.lt
  have hs1 := HT.out.s1
  obtain ⟨ao, cap, hAe, _⟩ := own_slice HT.out.o1
  rw [hAe] at c1
  go_wp2_with fail
  have HF := Lib.hid (show ∀ w', Below w2.heap.size w2 w' → Calls Tryz.prog 64 #[.slice ao r.l1.length cap, .string nm] w' fun e w'' => e = .returned (.int .i64 (seekE nm r.l1 0)) ∧ Below w'.heap.size w' w'' from fun w' hb' => by
   have h1 := (HT.out.below hb').o1
   rw [hAe] at h1
   exact (find_any (w := w') _ r.l1 h1 HT.out.s1 nm).mono fun e w'' q => ⟨q.1, by rw [q.2]; exact Below.refl _ _⟩)
  refine wp_region_below (by kernel_rfl) (by kernel_rfl) ?_
  iterate 6 (refine wq_val (by rfl) (fun w' hw' => by obtain ⟨hc, hf⟩ := bcell hw'; go_simp; try rfl) ?_; (intro K hK; go_simp; refine hK _ ?_; clear hK K))
  (refine wq_call (by rfl) (fun w' hw' => by go_simp; try rfl) (fun w' hw' => call_below hw' (HF.out _ hw')) ?_; (intro K hK; go_simp; refine hK _ ?_; clear hK K))
  iterate 2 (refine wq_val (by rfl) (fun w' hw' => by obtain ⟨hc, hf⟩ := bcell hw'; go_simp; try rfl) ?_; (intro K hK; go_simp; refine hK _ ?_; clear hK K))
  refine wpQuiet_nil ?_; intro w4 hb4
  have HT4 := Lib.hid (HT.out.below hb4)
  have hb14 : Below fb w w4 := HB1.out.trans (hb4.mono (by omega))
  have hx4 := HX1.out.kept (S := fun _ => False) (Ch.ofBelow hb4) (fun e => e)
  have HB4 := Lib.hid hb14
  have HX4 := Lib.hid hx4
  clear x0 x1 x2 x3 c1 hgl xl HF hb4 hb14 hx4
  have c1 := HT4.out.c1
  have c2 := HT4.out.c2
  have hgl := HT4.out.lt
  have xl := HX4.out.lt
  rw [hAe] at c1
  clear HT
  have HT := HT4
  by_cases hfe : 0 ≤ seekE nm r.l1 0
  case pos =>
   have HNO := Lib.hid (show ¬ OkR r true nm rs la from fun q => by have := q.2.2.2.2.1; omega)
   go_wp2_with fail
   go_ret2
   exact Or.inl ⟨8, ⟨by decide, HNO.out⟩, rfl, HT.out, by rw [HFB.out]; exact HB4.out⟩
  case neg =>
  by_cases hlt : 2000 ≤ r.l1.length
  case pos =>
   have hlt' : (2000 : Int) ≤ r.l1.length := by omega
   have HNO := Lib.hid (show ¬ OkR r true nm rs la from fun q => by have := q.2.2.2.2.2; omega)
   go_wp2_with fail
   go_ret2
   exact Or.inl ⟨9, ⟨by decide, HNO.out⟩, rfl, HT.out, by rw [HFB.out]; exact HB4.out⟩
  case neg =>
  have hlt' : ¬ (2000 : Int) ≤ r.l1.length := by omega
  have HFN := Lib.hid (show seekE nm r.l1 0 < 0 by omega)
  have hltL : r.l1.length < 2000 := by omega
  have hlL : r.l1.length ≤ 2000 := by omega
  go_wp2_with fail
  have hAo := HT.out.o1
  rw [hAe] at hAo
  have hBw : B ≤ w4.heap.size := Nat.le_trans HT.out.gb (Nat.le_of_lt hgl)
  have hrow4 := HT.out.row
  rw [hAe] at hrow4
  have hneg : ∀ k, (Value.slice ao r.l1.length cap).ownBlock = some k → k ≠ g := fun k hk e => own_ne_row hAo hrow4 (by decide) (by rw [hk, e])
  have hnef : ∀ k, (Value.slice ao r.l1.length cap).ownBlock = some k → k ≠ fb := fun k hk e => own_ne_row hAo HX4.out (by decide) (by rw [hk, e])
  have rowK : ∀ w', CE (.slice ao r.l1.length cap) B r.l1.length (flatE r.l1) w4 w' → RowB w' g 88 [r.A0, .slice ao r.l1.length cap, .int .i64 r.dp] := fun w' h => hrow4.kept h.1 (fun e => hneg g e rfl)
  have fbK : ∀ w', CE (.slice ao r.l1.length cap) B r.l1.length (flatE r.l1) w4 w' → CellsAt w' fb 0 (Fd.cells ⟨nm, .slice A3 la.length c3, rs, df⟩) := fun w' h => (HX4.out.kept h.1 (fun e => hnef fb e rfl)).at
  have chK : ∀ w', CE (.slice ao r.l1.length cap) B r.l1.length (flatE r.l1) w4 w' → Ch (fun k => r.A1.ownBlock = some k) w w' := fun w' h => by rw [hAe]; exact Ch.trans (Ch.ofBelow (by rw [HFB.out]; exact HB4.out)) h.1
  have cellK : ∀ w', CE (.slice ao r.l1.length cap) B r.l1.length (flatE r.l1) w4 w' → w'.cell? ⟨g, 1, none⟩ = some (.slice ao r.l1.length cap) := fun w' h => (rowK w' h).cell 1
  have depK : ∀ w', CE (.slice ao r.l1.length cap) B r.l1.length (flatE r.l1) w4 w' → w'.cell? ⟨g, 2, none⟩ = some (.int .i64 r.dp) := fun w' h => (rowK w' h).cell 2
  have allocE : ∀ w', CE (.slice ao r.l1.length cap) B r.l1.length (flatE r.l1) w4 w' → ∀ ar, ArOk w' la ar → ZR g 1 (.slice ao r.l1.length cap) B r.l1.length (flatE r.l1) w4.heap.size (.agg (Fd.cells ⟨nm, .slice A3 la.length c3, rs, df⟩).toArray) la nm rs df r.dp 12 (w'.alloc (.cells (En.cells ⟨nm, ar, rs, df, r.dp, true⟩).toArray 147)) (.slice (some ⟨w'.heap.size, 0, none⟩) 1 1) ∧ CE (.slice ao r.l1.length cap) B r.l1.length (flatE r.l1) w4 (w'.alloc (.cells (En.cells ⟨nm, ar, rs, df, r.dp, true⟩).toArray 147)) ∧
   ∀ j u, j ≠ 12 → ZR g 1 (.slice ao r.l1.length cap) B r.l1.length (flatE r.l1) w4.heap.size (.agg (Fd.cells ⟨nm, .slice A3 la.length c3, rs, df⟩).toArray) la nm rs df r.dp j w' u → ZR g 1 (.slice ao r.l1.length cap) B r.l1.length (flatE r.l1) w4.heap.size (.agg (Fd.cells ⟨nm, .slice A3 la.length c3, rs, df⟩).toArray) la nm rs df r.dp j (w'.alloc (.cells (En.cells ⟨nm, ar, rs, df, r.dp, true⟩).toArray 147)) u := fun w' h ar ha =>
   ⟨⟨_, ar, World.ownsRow.alloc ha _, rfl, h.1.size, RowB.new _ _ _⟩, ⟨h.1.alloc _, h.2.alloc _⟩, ZR.keep (fun e => absurd rfl e) (fun _ v k ys hv => hv.alloc _) (fun _ _ hv => World.ownsRow.alloc hv _)⟩
  refine wp_region_flow3 14 (by kernel_rfl) (by kernel_rfl) ?_ (ZR g 1 (Value.slice ao r.l1.length cap) B r.l1.length (flatE r.l1) w4.heap.size (.agg (Fd.cells ⟨nm, .slice A3 la.length c3, rs, df⟩).toArray) la nm rs df r.dp) (CE (Value.slice ao r.l1.length cap) B r.l1.length (flatE r.l1) w4) ⟨(Ch.refl _ w4).drawn, hAo⟩ ?_ ?_
  · intro i o' d hi ho hd
    have : i = 0 ∨ i = 1 ∨ i = 2 ∨ i = 3 ∨ i = 4 ∨ i = 5 ∨ i = 6 ∨ i = 7 ∨ i = 8 ∨ i = 9 ∨ i = 10 ∨ i = 11 ∨ i = 12 ∨ i = 13 := by omega
    rcases this with rfl | rfl | rfl | rfl | rfl | rfl | rfl | rfl | rfl | rfl | rfl | rfl | rfl | rfl <;> (simp at ho; subst ho; simp at hd; subst hd; simp)
  · intro i o' hi ho
    have : i = 0 ∨ i = 1 ∨ i = 2 ∨ i = 3 ∨ i = 4 ∨ i = 5 ∨ i = 6 ∨ i = 7 ∨ i = 8 ∨ i = 9 ∨ i = 10 ∨ i = 11 ∨ i = 12 ∨ i = 13 := by omega
    rcases this with rfl | rfl | rfl | rfl | rfl | rfl | rfl | rfl | rfl | rfl | rfl | rfl | rfl | rfl <;> (simp at ho; subst ho; intro a w' hC hd hr; rw [if_pos (by rfl)])
    · have e0 : a.tmps.getD 0 undef = .pointer (some ⟨g, 0, none⟩) := hr 0 (free_of (by rfl))
      have e0' : a.tmps[0]?.getD undef = .pointer (some ⟨g, 0, none⟩) := by simpa using e0
      exact flow_val (v := .pointer (some ⟨g, 0, none⟩)) (by go_simp) ⟨rfl, hC, fun _ _ _ h => h⟩
    · have e0 : a.tmps.getD 0 undef = .pointer (some ⟨g, 0, none⟩) := hr 0 (free_of (by rfl))
      have e0' : a.tmps[0]?.getD undef = .pointer (some ⟨g, 0, none⟩) := by simpa using e0
      exact flow_val (v := .pointer (some ⟨g, 0, none⟩)) (by go_simp) ⟨rfl, hC, fun _ _ _ h => h⟩
    · have e53 : a.tmps.getD 53 undef = .pointer (some ⟨g, 0, none⟩) := hd ⟨1, .data⟩ (by simp) rfl _ _ rfl rfl
      have e53' : a.tmps[53]?.getD undef = .pointer (some ⟨g, 0, none⟩) := by simpa using e53
      exact flow_val (v := .pointer (some ⟨g, 0, none⟩)) (by go_simp) ⟨rfl, hC, fun _ _ _ h => h⟩
    · have e54 : a.tmps.getD 54 undef = .pointer (some ⟨g, 0, none⟩) := hd ⟨2, .data⟩ (by simp) rfl _ _ rfl rfl
      have e54' : a.tmps[54]?.getD undef = .pointer (some ⟨g, 0, none⟩) := by simpa using e54
      exact flow_val (v := .pointer (some ⟨g, 1, none⟩)) (by go_simp) ⟨rfl, hC, fun _ _ _ h => h⟩
    · have e55 : a.tmps.getD 55 undef = .pointer (some ⟨g, 1, none⟩) := hd ⟨3, .data⟩ (by simp) rfl _ _ rfl rfl
      have e55' : a.tmps[55]?.getD undef = .pointer (some ⟨g, 1, none⟩) := by simpa using e55
      have c0 : w'.cell? ⟨g, 1, none⟩ = some (Value.slice ao r.l1.length cap) := cellK w' hC
      exact flow_val (v := (Value.slice ao r.l1.length cap)) (by go_simp) ⟨rfl, hC, fun _ _ _ h => h⟩
    · have e3 : a.tmps.getD 3 undef = .pointer (some ⟨fb, 0, none⟩) := hr 3 (free_of (by rfl))
      exact flow_val (run_load_cells 72 (.tmp 3) rfl fb 0 e3 (Fd.cells ⟨nm, .slice A3 la.length c3, rs, df⟩) _ Tryz.underlying72 rfl (by kernel_rfl) (fbK w' hC)) ⟨rfl, hC, fun _ _ _ h => h⟩
    · have e5 : a.tmps.getD 57 undef = .agg #[.string nm, .slice A3 la.length c3, .int .i64 rs, .bool df] := hd ⟨5, .data⟩ (by simp) rfl _ _ rfl rfl
      have e5' : a.tmps[57]?.getD undef = .agg #[.string nm, .slice A3 la.length c3, .int .i64 rs, .bool df] := by simpa using e5
      refine flow_call (f := 24) (args := #[.agg #[.string nm, .slice A3 la.length c3, .int .i64 rs, .bool df]]) (by go_simp) ?_
      refine (HCP.out w' (chK w' hC)).mono fun e w'' hw => ?_
      obtain ⟨za, zb, rfl, hb, hza⟩ := hw
      exact ⟨_, rfl, ⟨_, hza, rfl⟩, ⟨hC.1.trans (Ch.ofBelow hb), ownsRow_ch (S := fun _ => False) hC.2 (Ch.ofBelow hb) (fun _ _ e => e)⟩, ZR.keep (fun _ ad cs _ hq => hq.kept (S := fun _ => False) (Ch.ofBelow hb) (fun e => e)) (fun _ v k ys hv => ownsRow_ch (S := fun _ => False) hv (Ch.ofBelow hb) (fun _ _ e => e)) (fun _ _ hv => ownsRow_ch (S := fun _ => False) hv (Ch.ofBelow hb) (fun _ _ e => e))⟩
    · have e0 : a.tmps.getD 0 undef = .pointer (some ⟨g, 0, none⟩) := hr 0 (free_of (by rfl))
      have e0' : a.tmps[0]?.getD undef = .pointer (some ⟨g, 0, none⟩) := by simpa using e0
      exact flow_val (v := .pointer (some ⟨g, 0, none⟩)) (by go_simp) ⟨rfl, hC, fun _ _ _ h => h⟩
    · have e59 : a.tmps.getD 59 undef = .pointer (some ⟨g, 0, none⟩) := hd ⟨7, .data⟩ (by simp) rfl _ _ rfl rfl
      have e59' : a.tmps[59]?.getD undef = .pointer (some ⟨g, 0, none⟩) := by simpa using e59
      exact flow_val (v := .pointer (some ⟨g, 0, none⟩)) (by go_simp) ⟨rfl, hC, fun _ _ _ h => h⟩
    · have e60 : a.tmps.getD 60 undef = .pointer (some ⟨g, 0, none⟩) := hd ⟨8, .data⟩ (by simp) rfl _ _ rfl rfl
      have e60' : a.tmps[60]?.getD undef = .pointer (some ⟨g, 0, none⟩) := by simpa using e60
      exact flow_val (v := .pointer (some ⟨g, 2, none⟩)) (by go_simp) ⟨rfl, hC, fun _ _ _ h => h⟩
    · have e61 : a.tmps.getD 61 undef = .pointer (some ⟨g, 2, none⟩) := hd ⟨9, .data⟩ (by simp) rfl _ _ rfl rfl
      have e61' : a.tmps[61]?.getD undef = .pointer (some ⟨g, 2, none⟩) := by simpa using e61
      have c2 : w'.cell? ⟨g, 2, none⟩ = some (.int .i64 r.dp) := depK w' hC
      exact flow_val (v := .int .i64 r.dp) (by go_simp) ⟨rfl, hC, fun _ _ _ h => h⟩
    · obtain ⟨ar, ha, e6⟩ : ∃ ar, ArOk w' la ar ∧ a.tmps.getD 58 undef = .agg #[.string nm, ar, .int .i64 rs, .bool df] := hd ⟨6, .data⟩ (by simp) rfl _ _ rfl rfl
      have e6' : a.tmps[58]?.getD undef = .agg #[.string nm, ar, .int .i64 rs, .bool df] := by simpa using e6
      have e62 : a.tmps.getD 62 undef = .int .i64 r.dp := hd ⟨10, .data⟩ (by simp) rfl _ _ rfl rfl
      have e62' : a.tmps[62]?.getD undef = .int .i64 r.dp := by simpa using e62
      obtain ⟨za, zb, rfl⟩ := ha.slice
      exact flow_val (v := .agg (En.cells ⟨nm, .slice za zb.1 zb.2, rs, df, r.dp, true⟩).toArray) (by go_simp; try rfl) ⟨⟨_, ha, rfl⟩, hC, fun _ _ _ h => h⟩
    · obtain ⟨ar, ha, e11⟩ : ∃ ar, ArOk w' la ar ∧ a.tmps.getD 63 undef = .agg (En.cells ⟨nm, ar, rs, df, r.dp, true⟩).toArray := hd ⟨11, .data⟩ (by simp) rfl _ _ rfl rfl
      have e11' : a.tmps[63]?.getD undef = .agg #[.string nm, ar, .int .i64 rs, .bool df, .int .i64 r.dp, .bool true] := by simpa [En.cells] using e11
      refine flow_new (v := .slice (some ⟨w'.heap.size, 0, none⟩) 1 1) (w' := w'.alloc (.cells (En.cells ⟨nm, ar, rs, df, r.dp, true⟩).toArray 147)) (by go_simp; try rfl) ?_
      exact allocE w' hC ar ha
    · have e56 : a.tmps.getD 56 undef = (Value.slice ao r.l1.length cap) := hd ⟨4, .data⟩ (by simp) rfl _ _ rfl rfl
      have e56' : a.tmps[56]?.getD undef = (Value.slice ao r.l1.length cap) := by simpa using e56
      obtain ⟨ad, ar, ha, h31a, h31b, h31c⟩ : ∃ ad ar, ArOk w' la ar ∧ a.tmps.getD 64 undef = .slice (some ⟨ad, 0, none⟩) 1 1 ∧ w4.heap.size ≤ ad ∧ RowB w' ad 147 (En.cells ⟨nm, ar, rs, df, r.dp, true⟩) := hd ⟨12, .data⟩ (by simp) rfl _ _ rfl rfl
      obtain ⟨v', w'', hr1, hr2⟩ := appE (o := 1) hC hAo hlL hBw ha (by obtain ⟨za, zb, rfl⟩ := ha.slice; rfl) h31b h31c
      exact flow_new (exec_append _ (.tmp 56) (.tmp 64) 86 rfl e56 h31a hr1) hr2
  · intro vs' w5 hC5 hZ
    have v0 : vs' 0 = .pointer (some ⟨g, 0, none⟩) := hZ 0 _ _ (by omega) rfl rfl
    obtain ⟨ar, ha, hoA', hatA'⟩ : ∃ ar, ArOk w5 la ar ∧ w5.ownsRow B 147 6 (vs' 13) (r.l1.length + 1) (flatE r.l1 ++ En.cells ⟨nm, ar, rs, df, r.dp, true⟩) ∧ ((vs' 13).ownBlock = (Value.slice ao r.l1.length cap).ownBlock ∨ ∃ g, (vs' 13).ownBlock = some g ∧ w4.heap.size ≤ g) := hZ 13 _ _ (by omega) rfl rfl
    have hrow5 := rowK _ hC5
    simp only [List.drop_succ_cons, List.drop_zero, List.take_succ_cons, List.take_zero, putAll, v0]
    obtain ⟨ao', cap', hAe', _⟩ := own_slice hoA'
    rw [hAe'] at hoA' hatA'
    simp only [hAe']
    have HP := Lib.hid (HT.out.put1 hltL (by rw [hAe]; exact hrow5) (by rw [hAe]; exact hC5.1) hoA' (by rw [hAe]; exact hatA'))
    have har5 := Lib.hid (show ArOk (w5.setCell ⟨g, 1, none⟩ (.slice ao' (r.l1.length + 1) cap')) la ar from ownsRow_setCell_other ha (a := ⟨g, 1, none⟩) (own_ne_row ha hrow5 (by decide)) _)
    have f5 := hrow5.free 1
    have hbl5 := hrow5.lt
    have c5 : w5.cell? ⟨g, 1, none⟩ = some (Value.slice ao r.l1.length cap) := hrow5.cell 1
    clear hZ hoA' hatA' hAe' v0 hrow5 ha
    go_wp2
    have c6 : (w5.setCell ⟨g, 1, none⟩ (.slice ao' (r.l1.length + 1) cap')).cell? ⟨g, 1, none⟩ = some (.slice ao' (r.l1.length + 1) cap') := HP.out.1.c1
    clear hC5 c5 f5
    go_wp2
    go_ret2
    exact Or.inr ⟨_, ar, ⟨⟨rfl, HL20.out, HAL.out, HRS.out, HFN.out, hltL⟩, har5.out⟩, HFN.out, hltL, by simp; try omega, HP.out.1, Ch.trans (Ch.ofBelow (by rw [HFB.out]; exact HB4.out)) HP.out.2⟩
end Go.Proofs.YtendekbckfpmgaaGreat
namespace Go.Proofs.YtendekbckfpmgaaGreat
open Go Go.RowKit Go.Proofs.YtendekbckfpmgaaGreatW.PrintWords Go.Proofs.YtendekbckfpmgaaGreat.PWorldMay
theorem row_ne_row {w : World} {b c : Nat} {t t' : TypeId} {vs us : List Value} (h : RowB w b t vs) (h' : RowB w c t' us) (hne : t ≠ t') : b ≠ c := by
 rintro rfl
 unfold RowB at h h'
 rw [h] at h'
 simp at h'
 exact hne h'.2
theorem apart_own {B B' : Nat} {w : World} {b g : Nat} {x y : Nm} {r : Rt} (h : STab B w b x y) (k : RTab B' w g r) : ∀ q, (Own b x q ∨ Own b y q) → ¬ ROwn g r q := by
 intro q hq hr
 have key : ∀ z : Nm, NmOk B w z → Own b z q → False := fun z hz hq => by
  rcases hr with rfl | e | e
  · rcases hq with e1 | e1 | e1 | e1
    · exact row_ne_row h.row k.row (by decide) e1.symm
    · exact own_ne_row hz.oA k.row (by decide) e1
    · exact row_ne_map k.row hz.oD e1
    · exact own_ne_row hz.oM k.row (by decide) e1
  · rcases hq with e1 | e1 | e1 | e1
    · subst e1; exact own_ne_row k.o0 h.row (by decide) e
    · exact own_ne hz.oA k.o0 (by decide) e1 e
    · subst e1; exact own_ne_map k.o0 hz.oD e
    · exact own_ne hz.oM k.o0 (by decide) e1 e
  · rcases hq with e1 | e1 | e1 | e1
    · subst e1; exact own_ne_row k.o1 h.row (by decide) e
    · exact own_ne hz.oA k.o1 (by decide) e1 e
    · subst e1; exact own_ne_map k.o1 hz.oD e
    · exact own_ne hz.oM k.o1 (by decide) e1 e
 rcases hq with hq | hq
 · exact key x h.okx hq
 · exact key y h.oky hq
theorem RTab.chg {B B' : Nat} {w w' : World} {b g : Nat} {x y : Nm} {r : Rt} (k : RTab B' w g r) (h : STab B w b x y) (hc : Chg b x y w w') : RTab B' w' g r :=
 k.ch hc (fun q hr hq => apart_own h k q hq hr)
theorem args_apart {B B' : Nat} {w : World} {g : Nat} {r : Rt} (k : RTab B w g r) {v : Value} {l : List Value} {n : Nat} (hv : w.ownsRow B' 43 1 v n l) : ∀ q, v.ownBlock = some q → ¬ ROwn g r q := by
 intro q hq hr
 rcases hr with rfl | e | e
 · exact own_ne_row hv k.row (by decide) hq
 · exact own_ne hv k.o0 (by decide) hq e
 · exact own_ne hv k.o1 (by decide) hq e
theorem NmOk.rch {B B' : Nat} {w w' : World} {b g : Nat} {x y z : Nm} {r : Rt} (hz : NmOk B w z) (_h : STab B w b x y) (k : RTab B' w g r) (hc : Ch (ROwn g r) w w') (ho : ∀ q, Own b z q → ¬ ROwn g r q) : NmOk B w' z :=
 hz.ch hc (fun q hq => ho q (Or.inr (Or.inl hq))) (fun q hq => ho q (Or.inr (Or.inr (Or.inr hq)))) (ho _ (Or.inr (Or.inr (Or.inl rfl)))) (fun _ _ hv => args_apart k hv)
theorem STab.rch {B B' : Nat} {w w' : World} {b g : Nat} {x y : Nm} {r : Rt} (h : STab B w b x y) (k : RTab B' w g r) (hc : Ch (ROwn g r) w w') : STab B w' b x y :=
 ⟨⟨h.row.kept hc (apart_own h k b (Or.inl (Or.inl rfl))), h.gb, h.okx.rch h k hc (fun q hq => apart_own h k q (Or.inl hq)), h.oky.rch h k hc (fun q hq => apart_own h k q (Or.inr hq)), h.nA, h.nM, h.nD⟩, h.ln⟩
end Go.Proofs.YtendekbckfpmgaaGreat
namespace Go.Proofs.YtendekbckfpmgaaGreat
open Go Go.RowKit Go.Proofs.YtendekbckfpmgaaGreatW.PrintWords Go.Proofs.YtendekbckfpmgaaGreat.PWorldMay Classical
def splits : List UInt8 → List UInt8 → List (List UInt8)
 | cur, [] => [cur]
 | cur, c :: r => if c = 32 then cur :: splits [] r else splits (cur ++ [c]) r
theorem bt_list (s : ByteArray) (i : Nat) (c : UInt8) (h : s.data.toList[i]? = some c) : bt s i = c.toNat := by
 obtain ⟨hl, he⟩ := List.getElem?_eq_some_iff.1 h
 have hs : i < s.size := by rw [Lib.size_eq]; exact hl
 rw [← bt_at s i (by simpa using hs)]
 obtain ⟨⟨l⟩⟩ := s
 have : l[i] = c := he
 simp only [Int.toNat_natCast]
 show ((l[i] : UInt8).toNat : Int) = _
 rw [this]
theorem among_scan (s ws : ByteArray) (hw : ws.size ≤ 1000) : ∀ (rest : List UInt8) (i fr k : Nat) (cur : List UInt8) (r : Bool), ws.data.toList.drop i = rest → fr ≤ i → i ≤ ws.size → (ws.data.toList.take i).drop fr = cur →
 juristref05_among.l0 k s ws fr i = some r → r = decide (s.data.toList ∈ splits cur rest)
 | rest, i, fr, 0, cur, r, _, _, _, _, h => by rw [juristref05_among.l0] at h; cases h
 | [], i, fr, k + 1, cur, r, hd, hf, hi, hc, h => by
  have hlen := Lib.size_eq ws
  have e : i = ws.size := by
   have := congrArg List.length hd
   simp at this; omega
  have hs : wrap64 ((i : Int) + 1) = ((i + 1 : Nat) : Int) := by unfold wrap64; omega
  rw [juristref05_among.l0, if_pos (by omega), if_pos (by omega)] at h
  cases k with
  | zero => rw [juristref05_among.j1] at h; cases h
  | succ k =>
   rw [juristref05_among.j1, if_pos rfl, if_pos (by omega), if_pos (by omega), if_pos (by omega)] at h
   have hx : (ws.extract ((fr : Int)).toNat ((i : Int)).toNat).toList = cur := by
    rw [Lib.toList_data, ← hc]; simp [ByteArray.data_extract, List.drop_take]
   rw [hx, Lib.toList_data] at h
   by_cases q : cur = s.data.toList
   · rw [if_pos q] at h
     have : r = true := by simpa using h.symm
     rw [this]; simp [splits, q]
   · rw [if_neg q] at h
     cases k with
     | zero => rw [juristref05_among.l0] at h; cases h
     | succ k =>
      rw [hs, juristref05_among.l0, if_neg (by omega)] at h
      have : r = false := by simpa using h.symm
      rw [this]; simp [splits, Ne.symm q]
 | c :: rest, i, fr, k + 1, cur, r, hd, hf, hi, hc, h => by
  have hlen := Lib.size_eq ws
  have hg : ws.data.toList[i]? = some c := by
   have := congrArg (fun l => l[0]?) hd
   simpa using this
  have hlt : i < ws.size := by rw [hlen]; exact (List.getElem?_eq_some_iff.1 hg).1
  have hs : wrap64 ((i : Int) + 1) = ((i + 1 : Nat) : Int) := by unfold wrap64; omega
  have hd' : ws.data.toList.drop (i + 1) = rest := by
   have := congrArg (List.drop 1) hd
   simpa using this
  have htk : ws.data.toList.take (i + 1) = ws.data.toList.take i ++ [c] := by rw [List.take_add_one, hg]; rfl
  have hb := bt_list ws i c hg
  rw [juristref05_among.l0, if_pos (by omega), if_neg (by omega), if_pos (by omega), if_pos (by omega), hb] at h
  cases k with
  | zero => rw [juristref05_among.j1] at h; cases h
  | succ k =>
   by_cases h32 : c = 32
   · subst h32
     have e1 : (((32 : UInt8).toNat : Int) == 32) = true := by decide
     rw [e1, juristref05_among.j1, if_pos rfl, if_pos (by omega), if_pos (by omega), if_pos (by omega)] at h
     have hx : (ws.extract ((fr : Int)).toNat ((i : Int)).toNat).toList = cur := by
      rw [Lib.toList_data, ← hc]; simp [ByteArray.data_extract, List.drop_take]
     rw [hx, Lib.toList_data] at h
     by_cases q : cur = s.data.toList
     · rw [if_pos q] at h
       have : r = true := by simpa using h.symm
       rw [this]; simp [splits, q]
     · rw [if_neg q, hs] at h
       have := among_scan s ws hw rest (i + 1) (i + 1) k [] r hd' (Nat.le_refl _) (by omega) (by simp) h
       rw [this]; simp [splits, Ne.symm q]
   · have e1 : ((c.toNat : Int) == 32) = false := by
      rw [beq_eq_false_iff_ne]; intro e; exact h32 (UInt8.toNat_inj.mp (by simpa using (by omega : c.toNat = 32)))
     rw [e1, juristref05_among.j1, if_neg (by decide), hs] at h
     have := among_scan s ws hw rest (i + 1) fr k (cur ++ [c]) r hd' (by omega) (by omega) (by rw [htk, ← hc, List.drop_append_of_le_length (by simp; omega)]) h
     rw [this]; simp [splits, h32]
theorem among_is (k : Nat) (s ws : ByteArray) (hw : ws.size ≤ 1000) (r : Bool) (h : juristref05_among.f k s ws = some r) : r = decide (s.data.toList ∈ splits [] ws.data.toList) :=
 among_scan s ws hw _ 0 0 k [] r rfl (Nat.le_refl _) (Nat.zero_le _) (by simp) h
theorem mem_words (s : ByteArray) (ws : List ByteArray) (l : List (List UInt8)) (h : l = ws.map (fun w => w.data.toList)) : s.data.toList ∈ l ↔ s ∈ ws := by
 subst h
 constructor
 · intro q
   obtain ⟨w, hw, e⟩ := List.mem_map.1 q
   have : w = s := ByteArray.ext (Array.ext' e)
   rw [← this]; exact hw
 · exact fun q => List.mem_map_of_mem q
theorem may_tail (s : ByteArray) (b : Bool) (ws : List ByteArray) (hws : b = true ∧ ws = [sBool, sInt] ∨ b = false ∧ ws = words17) : ∀ (m i k : Nat) (r : Bool), s.size - i = m → i ≤ s.size → s.size ≤ 1000 →
 juristref05_May.l0 k s b i = some r → r = (decide (∃ j, i ≤ j ∧ s.data.toList[j]? = some 32) || !decide (s ∈ ws))
 | m, i, 0, r, _, _, _, h => by rw [juristref05_May.l0] at h; cases h
 | 0, i, k + 1, r, g0, g1, g2, h => by
  have hlen := Lib.size_eq s
  have hno : ¬ ∃ j, i ≤ j ∧ s.data.toList[j]? = some 32 := fun ⟨j, hj, e⟩ => by have := (List.getElem?_eq_some_iff.1 e).1; omega
  rw [decide_eq_false hno, Bool.false_or]
  rw [juristref05_May.l0, if_neg (by omega)] at h
  rcases hws with ⟨rfl, rfl⟩ | ⟨rfl, rfl⟩
  · rw [if_pos rfl] at h
    obtain ⟨q, hq, e⟩ := Option.bind_eq_some_iff.1 h
    have := among_is _ _ _ (by decide) _ hq
    have hm := mem_words s [sBool, sInt] (splits [] (⟨#[66, 111, 111, 108, 32, 73, 110, 116]⟩ : ByteArray).data.toList) (by decide)
    simp only [Option.some.injEq] at e
    rw [← e, this]
    congr 1
    exact decide_eq_decide.2 hm
  · rw [if_neg (by decide)] at h
    obtain ⟨q, hq, e⟩ := Option.bind_eq_some_iff.1 h
    have := among_is _ _ _ (by decide) _ hq
    have hm := mem_words s words17 (splits [] (⟨#[116, 114, 117, 101, 32, 102, 97, 108, 115, 101, 32, 110, 111, 116, 32, 97, 110, 100, 32, 111, 114, 32, 120, 111, 114, 32, 61, 62, 32, 105, 116, 101, 32, 61, 32, 100, 105, 115, 116, 105, 110, 99, 116, 32, 43, 32, 45, 32, 42, 32, 60, 61, 32, 60, 32, 62, 61, 32, 62]⟩ : ByteArray).data.toList) (by decide)
    simp only [Option.some.injEq] at e
    rw [← e, this]
    congr 1
    exact decide_eq_decide.2 hm
 | m + 1, i, k + 1, r, g0, g1, g2, h => by
  have hlen := Lib.size_eq s
  have hlt : i < s.data.toList.length := by omega
  obtain ⟨c, hc⟩ : ∃ c, s.data.toList[i]? = some c := ⟨_, List.getElem?_eq_getElem hlt⟩
  have hb := bt_list s i c hc
  have hs : wrap64 ((i : Int) + 1) = ((i + 1 : Nat) : Int) := by unfold wrap64; omega
  rw [juristref05_May.l0, if_pos (by omega), if_pos (by omega), hb] at h
  by_cases h32 : c = 32
  · subst h32
    rw [if_pos (by decide)] at h
    have : r = true := by simpa using h.symm
    rw [this, decide_eq_true ⟨i, Nat.le_refl _, hc⟩]; rfl
  · rw [if_neg (by intro e; exact h32 (UInt8.toNat_inj.mp (by simpa using (by omega : c.toNat = 32)))), hs] at h
    rw [may_tail s b ws hws m (i + 1) k r (by omega) (by omega) g2 h]
    congr 1
    apply decide_eq_decide.2
    constructor
    · rintro ⟨j, hj, e⟩; exact ⟨j, by omega, e⟩
    · rintro ⟨j, hj, e⟩
      refine ⟨j, ?_, e⟩
      by_cases q : j = i
      · subst q; rw [hc] at e; simp at e; exact absurd e h32
      · omega
theorem no_blank : ∀ w ∈ [sBool, sInt] ++ (words17 ++ words13), ∀ c ∈ w.data.toList, c ≠ 32 := by decide
theorem may_is (k : Nat) (s : ByteArray) (b : Bool) (ws : List ByteArray) (hws : b = true ∧ ws = [sBool, sInt] ∨ b = false ∧ ws = words17) (r : Bool) (h : juristref05_May.f k s b = some r) : r = mayB s ws := by
 have hlen := Lib.size_eq s
 have hj0 : ∀ k r, juristref05_May.j0 k s b true = some r → r = false := fun k r h => by
  cases k with
  | zero => rw [juristref05_May.j0] at h; cases h
  | succ k => rw [juristref05_May.j0, if_pos rfl] at h; simpa using h.symm
 unfold juristref05_May.f at h
 cases hl : s.data.toList with
 | nil =>
  rw [if_pos (by rw [hlen, hl]; rfl)] at h
  rw [hj0 _ _ h]
  unfold mayB
  rw [Lib.toList_data, hl]; rfl
 | cons c t =>
  have hc : s.data.toList[0]? = some c := by rw [hl]; rfl
  have hb := bt_list s 0 c hc
  have hpos : 0 < s.size := by rw [hlen, hl]; simp
  have hmay : mayB s ws = (decide (s.size ≤ 1000) && (some c != some 46) && (some c != some 64) && !decide (0 ≤ idx s (ws ++ words13) 0)) := by
   unfold mayB; rw [Lib.toList_data, hl]; simp
  rw [if_neg (by omega)] at h
  by_cases h1 : (s.size : Int) > 1000
  · rw [if_pos h1] at h
    rw [hj0 _ _ h, hmay, decide_eq_false (by omega)]; rfl
  rw [if_neg h1, if_pos (by omega)] at h
  have hb' : bt s 0 = c.toNat := hb
  rw [hb'] at h
  by_cases h2 : c = 46
  · subst h2
    rw [if_pos (by decide)] at h
    rw [hj0 _ _ h, hmay]; simp
  rw [if_neg (by intro e; exact h2 (UInt8.toNat_inj.mp (by simpa using (by omega : c.toNat = 46))))] at h
  by_cases h3 : c = 64
  · subst h3
    rw [if_pos (by decide)] at h
    rw [hj0 _ _ h, hmay]; simp
  rw [if_neg (by intro e; exact h3 (UInt8.toNat_inj.mp (by simpa using (by omega : c.toNat = 64))))] at h
  obtain ⟨q, hq, e⟩ := Option.bind_eq_some_iff.1 h
  have hqs := among_is _ _ _ (by decide) _ hq
  have hm := mem_words s words13 (splits [] (⟨#[95, 32, 33, 32, 97, 115, 32, 108, 101, 116, 32, 101, 120, 105, 115, 116, 115, 32, 102, 111, 114, 97, 108, 108, 32, 109, 97, 116, 99, 104, 32, 112, 97, 114, 32, 66, 73, 78, 65, 82, 89, 32, 68, 69, 67, 73, 77, 65, 76, 32, 72, 69, 88, 65, 68, 69, 67, 73, 77, 65, 76, 32, 78, 85, 77, 69, 82, 65, 76, 32, 83, 84, 82, 73, 78, 71]⟩ : ByteArray).data.toList) (by decide)
  rw [decide_eq_decide.2 hm] at hqs
  have hidx : decide (0 ≤ idx s (ws ++ words13) 0) = decide (s ∈ ws ++ words13) := decide_eq_decide.2 (idx_neg s (ws ++ words13) 0 (Int.le_refl 0))
  rw [hmay, decide_eq_true (by omega), hidx]
  have e2 : (some c != some (46 : UInt8)) = true := by simp [h2]
  have e3 : (some c != some (64 : UInt8)) = true := by simp [h3]
  rw [e2, e3]
  by_cases hw : s ∈ words13
  · rw [decide_eq_true hw] at hqs
    subst hqs
    rw [hj0 _ _ e, decide_eq_true (List.mem_append_right _ hw)]; rfl
  · rw [decide_eq_false hw] at hqs
    subst hqs
    cases k with
    | zero => rw [juristref05_May.j0] at e; cases e
    | succ k =>
     rw [juristref05_May.j0, if_neg (by decide)] at e
     have ht := may_tail s b ws hws _ 0 k r rfl (Nat.zero_le _) (by omega) e
     rw [ht]
     by_cases hbl : ∃ j, 0 ≤ j ∧ s.data.toList[j]? = some 32
     · have hn : s ∉ ws ++ words13 := fun hmem => by
        obtain ⟨j, _, hj⟩ := hbl
        have : s ∈ [sBool, sInt] ++ (words17 ++ words13) := by
         rcases List.mem_append.1 hmem with q | q
         · rcases hws with ⟨_, rfl⟩ | ⟨_, rfl⟩
           · exact List.mem_append_left _ q
           · exact List.mem_append_right _ (List.mem_append_left _ q)
         · exact List.mem_append_right _ (List.mem_append_right _ q)
        exact no_blank s this 32 (List.mem_of_getElem? hj) rfl
       rw [decide_eq_true hbl, decide_eq_false hn]; rfl
     · rw [decide_eq_false hbl]
       have : decide (s ∈ ws ++ words13) = decide (s ∈ ws) := decide_eq_decide.2 ⟨fun q => (List.mem_append.1 q).resolve_right hw, List.mem_append_left _⟩
       rw [this]; rfl
end Go.Proofs.YtendekbckfpmgaaGreat
namespace Go.Proofs.YtendekbckfpmgaaGreat
open Go.RowKit
theorem add64n (x y c : Nat) (hc : c ≤ 1) (w : World) :
 (callFunc 137 #[.int .u64 x, .int .u64 y, .int .u64 c]).run Tryz.prog w =
  .ok (.value (.tuple #[.int .u64 (((x + y + c) % 18446744073709551616 : Nat) : Int), .int .u64 (((x + y + c) / 18446744073709551616 : Nat) : Int)])) w := by
 rw [run_callFunc_extern Tryz.func137 (by kernel_rfl) (by kernel_rfl) (by kernel_rfl) (e := add64Entry) (by kernel_rfl), run_add64 x y c (by omega) (by omega) (by omega) (by omega)]
 simp only [Result.andThen]
 congr 5 <;> omega
def W64 : Int := 18446744073709551616
def minI : Int := -9223372036854775808
def maxI : Int := 9223372036854775807
theorem add64 (x y c : Int) (hx : 0 ≤ x) (hy : 0 ≤ y) (hc0 : 0 ≤ c) (hc : c ≤ 1) (w : World) : (callFunc 137 #[.int .u64 x, .int .u64 y, .int .u64 c]).run Tryz.prog w =
 .ok (.value (.tuple #[.int .u64 ((x + y + c) % W64), .int .u64 ((x + y + c) / W64)])) w := by
 obtain ⟨x, rfl⟩ := Int.eq_ofNat_of_zero_le hx
 obtain ⟨y, rfl⟩ := Int.eq_ofNat_of_zero_le hy
 obtain ⟨c, rfl⟩ := Int.eq_ofNat_of_zero_le hc0
 refine (add64n x y c (by omega) w).trans ?_
 unfold W64
 congr 5 <;> omega
theorem add64_0 (x y : Int) (hx : 0 ≤ x) (hy : 0 ≤ y) (w : World) : (callFunc 137 #[.int .u64 x, .int .u64 y, .int .u64 0]).run Tryz.prog w =
 .ok (.value (.tuple #[.int .u64 ((x + y) % W64), .int .u64 ((x + y) / W64)])) w := by
 simpa using add64 x y 0 hx hy (Int.le_refl 0) (by decide) w
theorem u64_nonneg (x : Int) : 0 ≤ IntKind.u64.wrap x := by simp [IntKind.wrap, IntKind.signed, IntKind.bits]; omega
theorem idx4_0 (h0 h1 h2 h3 : Int) (w : World) : (Instr.index 213 (.agg #[.int .i64 h0, .int .i64 h1, .int .i64 h2, .int .i64 h3]) (.int .i64 0)).run Tryz.prog w = .ok (.int .i64 h0) w := by kernel_rfl
theorem idx4_1 (h0 h1 h2 h3 : Int) (w : World) : (Instr.index 213 (.agg #[.int .i64 h0, .int .i64 h1, .int .i64 h2, .int .i64 h3]) (.int .i64 1)).run Tryz.prog w = .ok (.int .i64 h1) w := by kernel_rfl
theorem idx4_2 (h0 h1 h2 h3 : Int) (w : World) : (Instr.index 213 (.agg #[.int .i64 h0, .int .i64 h1, .int .i64 h2, .int .i64 h3]) (.int .i64 2)).run Tryz.prog w = .ok (.int .i64 h2) w := by kernel_rfl
theorem idx4_3 (h0 h1 h2 h3 : Int) (w : World) : (Instr.index 213 (.agg #[.int .i64 h0, .int .i64 h1, .int .i64 h2, .int .i64 h3]) (.int .i64 3)).run Tryz.prog w = .ok (.int .i64 h3) w := by kernel_rfl
def botw (s : Int) : Int := s % W64
def topw (s : Int) : Int := s / W64 % W64
def carw (s h : Int) : Int := (botw s + IntKind.u64.wrap h) / W64
theorem botw_0 : botw 0 = 0 := by decide
theorem topw_0 : topw 0 = 0 := by decide
theorem stepB (s h : Int) (w : World) : (callFunc 137 #[.int .u64 (botw s), .int .u64 (IntKind.u64.wrap h), .int .u64 0]).run Tryz.prog w =
 .ok (.value (.tuple #[.int .u64 (botw (s + h)), .int .u64 (carw s h)])) w := by
 have e : botw (s + h) = (botw s + IntKind.u64.wrap h) % W64 := by rw [IntKind.wrap_u64]; unfold botw W64; omega
 rw [e]
 exact add64_0 _ _ (by unfold botw W64; omega) (u64_nonneg _) w
def cart (s h : Int) : Int := (topw s + IntKind.u64.wrap (h / 9223372036854775808) + carw s h) / W64
theorem stepT (s h : Int) (hh : I64 h) (w : World) : (callFunc 137 #[.int .u64 (topw s), .int .u64 (IntKind.u64.wrap (h / 9223372036854775808)), .int .u64 (carw s h)]).run Tryz.prog w =
 .ok (.value (.tuple #[.int .u64 (topw (s + h)), .int .u64 (cart s h)])) w := by
 obtain ⟨h1, h2⟩ := hh
 have e : topw (s + h) = (topw s + IntKind.u64.wrap (h / 9223372036854775808) + carw s h) % W64 := by
  unfold carw; rw [IntKind.wrap_u64, IntKind.wrap_u64]; unfold botw topw W64
  rcases (by omega : h / 9223372036854775808 = 0 ∨ h / 9223372036854775808 = -1) with e | e
  · rw [e]; omega
  · rw [e]; omega
 rw [e]
 exact add64 _ _ _ (by unfold topw W64; omega) (u64_nonneg _) (by unfold carw; rw [IntKind.wrap_u64]; unfold botw W64; omega) (by unfold carw; rw [IntKind.wrap_u64]; unfold botw W64; omega) w
theorem made_in (s : Int) (h0 : minI ≤ s) (h1 : s ≤ maxI) : wrap64 (botw s) = s ∧ wrap64 (topw s) = s / 9223372036854775808 := by
 unfold wrap64 botw topw W64; unfold minI at h0; unfold maxI at h1
 constructor
 · omega
 · rcases (by omega : s / 9223372036854775808 = 0 ∨ s / 9223372036854775808 = -1) with e | e
   · rw [e]; omega
   · rw [e]; omega
def Wide (s : Int) : Prop := -36893488147419103232 ≤ s ∧ s ≤ 36893488147419103232
theorem made_out (s : Int) (h : s < minI ∨ maxI < s) (hw : Wide s) : (wrap64 (topw s) == wrap64 (botw s) / 9223372036854775808) = false ∧ (wrap64 (topw s) < 0 ↔ s < 0) := by
 unfold wrap64 botw topw W64; unfold minI maxI at h; obtain ⟨a, b⟩ := hw
 constructor
 · rw [beq_eq_false_iff_ne]
   rcases (by omega : s / 18446744073709551616 = 0 ∨ s / 18446744073709551616 = -1 ∨ s / 18446744073709551616 = 1 ∨ s / 18446744073709551616 = -2 ∨ s / 18446744073709551616 = 2) with e | e | e | e | e <;> rw [e] <;> omega
 · rcases (by omega : s / 18446744073709551616 = 0 ∨ s / 18446744073709551616 = -1 ∨ s / 18446744073709551616 = 1 ∨ s / 18446744073709551616 = -2 ∨ s / 18446744073709551616 = 2) with e | e | e | e | e <;> rw [e] <;> omega
abbrev two (a b : Int) : Value := .agg #[.int .i64 a, .int .i64 b]
def madeHi (s : Int) : Int := if s < minI then minI else if maxI < s then maxI else s
def madeLo (s low : Int) : Int := if s < minI then 0 else if maxI < s then 0 else low
theorem side_t (w : World) : Calls Tryz.prog 138 #[.bool true] w fun e w' => e = .returned (two (-9223372036854775808) 0) ∧ Below w.heap.size w w' := by
 go_enter Tryz.func138, Tryz.ntmps138
 go_wp2
 refine bodyPost_ret (v := two (-9223372036854775808) 0) (by simp [results, Tryz.results138, go_sem]) rfl ⟨rfl, ?_⟩
 (repeat (first | (with_reducible exact Below.refl _ _) | ((with_reducible refine Below.alloc ?_ ?_ _); rotate_left; focus (first | (simp; done) | (simp; omega))) | ((with_reducible refine Below.setCell ?_ ?_ _); rotate_left; focus (first | (simp; done) | (simp; omega))) | (with_reducible refine Below.drew ?_) | (with_reducible refine Below.drewN' ?_ _)))
theorem side_f (w : World) : Calls Tryz.prog 138 #[.bool false] w fun e w' => e = .returned (two 9223372036854775807 0) ∧ Below w.heap.size w w' := by
 go_enter Tryz.func138, Tryz.ntmps138
 go_wp2
 refine bodyPost_ret (v := two 9223372036854775807 0) (by simp [results, Tryz.results138, go_sem]) rfl ⟨rfl, ?_⟩
 (repeat (first | (with_reducible exact Below.refl _ _) | ((with_reducible refine Below.alloc ?_ ?_ _); rotate_left; focus (first | (simp; done) | (simp; omega))) | ((with_reducible refine Below.setCell ?_ ?_ _); rotate_left; focus (first | (simp; done) | (simp; omega))) | (with_reducible refine Below.drew ?_) | (with_reducible refine Below.drewN' ?_ _)))
set_option maxRecDepth 100000 in
set_option maxHeartbeats 400000 in
theorem made_any (h0 h1 h2 h3 low : Int) (b0 : I64 h0) (b1 : I64 h1) (b2 : I64 h2) (b3 : I64 h3) (w : World) :
 Calls Tryz.prog 116 #[.agg #[.int .i64 h0, .int .i64 h1, .int .i64 h2, .int .i64 h3], .int .i64 low] w fun e w' =>
  e = .returned (two (madeHi (h0 + h1 + h2 + h3)) (madeLo (h0 + h1 + h2 + h3) low)) ∧ Below w.heap.size w w' := by
 have i0 := idx4_0 h0 h1 h2 h3
 have i1 := idx4_1 h0 h1 h2 h3
 have i2 := idx4_2 h0 h1 h2 h3
 have i3 := idx4_3 h0 h1 h2 h3
 go_enter Tryz.func116, Tryz.ntmps116
 go_wp2
 go_loop [5, 6, 12] (fun t b i => ∃ (k : Nat) (s : Int), k ≤ 4 ∧ i = .int .i64 k ∧ t = .int .u64 (topw s) ∧ b = .int .u64 (botw s) ∧
  ((k = 0 ∧ 0 = s) ∨ (k = 1 ∧ h0 = s) ∨ (k = 2 ∧ h0 + h1 = s) ∨ (k = 3 ∧ h0 + h1 + h2 = s) ∨ (k = 4 ∧ h0 + h1 + h2 + h3 = s))) (fun _ _ i => 4 - (intOf i).toNat)
 case atStart => exact ⟨0, 0, by omega, rfl, by rw [topw_0], by rw [botw_0], by simp⟩
 case round =>
  obtain ⟨k, s, hk, rfl, rfl, rfl, hs⟩ := hrel
  rcases hs with ⟨rfl, rfl⟩ | ⟨rfl, rfl⟩ | ⟨rfl, rfl⟩ | ⟨rfl, rfl⟩ | ⟨rfl, rfl⟩
  · have f := stepB 0 h0
    have g := stepT 0 h0 b0
    go_wp2
    refine ⟨⟨1, h0, by omega, rfl, rfl, rfl, by simp⟩, by simp [intOf]⟩
  · have f := stepB h0 h1
    have g := stepT h0 h1 b1
    go_wp2
    refine ⟨⟨2, h0 + h1, by omega, rfl, rfl, rfl, by simp⟩, by simp [intOf]⟩
  · have f := stepB (h0 + h1) h2
    have g := stepT (h0 + h1) h2 b2
    go_wp2
    refine ⟨⟨3, h0 + h1 + h2, by omega, rfl, rfl, rfl, by simp⟩, by simp [intOf]⟩
  · have f := stepB (h0 + h1 + h2) h3
    have g := stepT (h0 + h1 + h2) h3 b3
    go_wp2
    refine ⟨⟨4, h0 + h1 + h2 + h3, by omega, rfl, rfl, rfl, by simp⟩, by simp [intOf]⟩
  · have hW : Wide (h0 + h1 + h2 + h3) := by unfold Wide; obtain ⟨_, _⟩ := b0; obtain ⟨_, _⟩ := b1; obtain ⟨_, _⟩ := b2; obtain ⟨_, _⟩ := b3; omega
    generalize hsum : h0 + h1 + h2 + h3 = s at *
    have HS := Lib.hid hsum; clear hsum
    by_cases hin : minI ≤ s ∧ s ≤ maxI
    · obtain ⟨e1, e2⟩ := made_in s hin.1 hin.2
      go_wp2
      refine bodyPost_ret (v := two s low) (by simp [results, Tryz.results116, go_sem]) rfl ⟨?_, ?_⟩
      · rw [HS.out, show madeHi s = s by unfold madeHi; rw [if_neg (by omega), if_neg (by omega)], show madeLo s low = low by unfold madeLo; rw [if_neg (by omega), if_neg (by omega)]]
      · (repeat (first | (with_reducible exact Below.refl _ _) | ((with_reducible refine Below.alloc ?_ ?_ _); rotate_left; focus (first | (simp; done) | (simp; omega))) | ((with_reducible refine Below.setCell ?_ ?_ _); rotate_left; focus (first | (simp; done) | (simp; omega))) | (with_reducible refine Below.drew ?_) | (with_reducible refine Below.drewN' ?_ _)))
    · have ho : s < minI ∨ maxI < s := by omega
      obtain ⟨e1, e2⟩ := made_out s ho hW
      by_cases hs : s < 0
      · have e3 : decide (wrap64 (topw s) < 0) = true := by simpa using e2.2 hs
        have hlt : s < minI := by unfold minI maxI at *; omega
        clear e2
        go_wp2_with (go_at_call 138; refine (side_t _).mono ?_; rintro e w1 ⟨rfl, hb1⟩; obtain ⟨hc1, hf1⟩ := bcell hb1)
        refine bodyPost_ret (v := two (-9223372036854775808) 0) (by simp [results, Tryz.results116, go_sem, hc1]) rfl ⟨?_, ?_⟩
        · rw [HS.out, show madeHi s = minI by unfold madeHi; rw [if_pos hlt], show madeLo s low = 0 by unfold madeLo; rw [if_pos hlt]]; rfl
        · (repeat (first | (with_reducible exact Below.refl _ _) | ((with_reducible refine Below.alloc ?_ ?_ _); rotate_left; focus (first | (simp; done) | (simp; omega) | (have q0 := hb1.size; (try simp at q0); (try simp); omega))) | ((with_reducible refine Below.setCell ?_ ?_ _); rotate_left; focus (first | (simp; done) | (simp; omega) | (have q0 := hb1.size; (try simp at q0); (try simp); omega))) | (with_reducible refine Below.drew ?_) | (with_reducible refine Below.drewN' ?_ _) | (with_reducible refine Below.trans ?_ (hb1.mono ?_); rotate_left; focus (first | (simp; done) | (simp; omega) | (have q0 := hb1.size; (try simp at q0); (try simp); omega)))))
      · have e3 : decide (wrap64 (topw s) < 0) = false := by simpa using fun h => hs (e2.1 h)
        have hge : minI ≤ s := by unfold minI maxI at *; omega
        have hlt : maxI < s := by omega
        clear e2
        go_wp2_with (go_at_call 138; refine (side_f _).mono ?_; rintro e w1 ⟨rfl, hb1⟩; obtain ⟨hc1, hf1⟩ := bcell hb1)
        refine bodyPost_ret (v := two 9223372036854775807 0) (by simp [results, Tryz.results116, go_sem, hc1]) rfl ⟨?_, ?_⟩
        · rw [HS.out, show madeHi s = maxI by unfold madeHi; rw [if_neg (Int.not_lt.2 hge), if_pos hlt], show madeLo s low = 0 by unfold madeLo; rw [if_neg (Int.not_lt.2 hge), if_pos hlt]]; rfl
        · (repeat (first | (with_reducible exact Below.refl _ _) | ((with_reducible refine Below.alloc ?_ ?_ _); rotate_left; focus (first | (simp; done) | (simp; omega) | (have q0 := hb1.size; (try simp at q0); (try simp); omega))) | ((with_reducible refine Below.setCell ?_ ?_ _); rotate_left; focus (first | (simp; done) | (simp; omega) | (have q0 := hb1.size; (try simp at q0); (try simp); omega))) | (with_reducible refine Below.drew ?_) | (with_reducible refine Below.drewN' ?_ _) | (with_reducible refine Below.trans ?_ (hb1.mono ?_); rotate_left; focus (first | (simp; done) | (simp; omega) | (have q0 := hb1.size; (try simp at q0); (try simp); omega)))))
end Go.Proofs.YtendekbckfpmgaaGreat
namespace Go.Proofs.YtendekbckfpmgaaGreat
open Go.RowKit
def M62 : Int := 4611686018427387904
def val (hi lo : Int) : Int := hi * M62 + lo
def normHi (v : Int) : Int := madeHi (v / M62)
def normLo (v : Int) : Int := madeLo (v / M62) (v % M62)
theorem and62 (n : Int) : bits .and .i64 n 4611686018427387903 = n % 4611686018427387904 := by
 have h127 : (BitVec.ofInt 64 4611686018427387903).toNat = 2 ^ 62 - 1 := by decide
 have key : (BitVec.ofInt 64 n &&& BitVec.ofInt 64 4611686018427387903).toNat = (n % ((2 ^ 64 : Nat) : Int)).toNat % 2 ^ 62 := by
  rw [BitVec.toNat_and, BitVec.toNat_ofInt, h127, Nat.and_two_pow_sub_one_eq_mod]
 show IntKind.i64.wrap ((BitVec.ofInt 64 n &&& BitVec.ofInt 64 4611686018427387903).toNat : Nat) = n % 4611686018427387904
 rw [key, IntKind.wrap_i64]
 omega
theorem made_val (s q r : Int) (h0 : 0 ≤ r) (h1 : r < M62) (e : s = q * M62 + r) : madeHi q = normHi s ∧ madeLo q r = normLo s := by
 have hq : s / M62 = q := by unfold M62 at *; omega
 have hr : s % M62 = r := by unfold M62 at *; omega
 unfold normHi normLo; rw [hq, hr]; exact ⟨rfl, rfl⟩
theorem shr62 (x : Int) (h : I64 x) : I64 (x / 4611686018427387904) ∧ -2 ≤ x / 4611686018427387904 ∧ x / 4611686018427387904 ≤ 1 := by
 obtain ⟨_, _⟩ := h; unfold I64; omega
theorem low62 (x : Int) : 0 ≤ x % 4611686018427387904 ∧ x % 4611686018427387904 < 4611686018427387904 := by omega
theorem idM62 (x : Int) : x % 4611686018427387904 + 4611686018427387904 * (x / 4611686018427387904) = x := Int.emod_add_mul_ediv _ _
theorem normal_any (a b : Int) (ha : I64 a) (hb : I64 b) (w : World) : Calls Tryz.prog 123 #[two a b] w fun e w' => e = .returned (two (normHi (val a b)) (normLo (val a b))) ∧ Below w.heap.size w w' := by
 obtain ⟨s1, s2, s3⟩ := shr62 b hb
 obtain ⟨e1, e2⟩ := made_val (val a b) (a + b / 4611686018427387904) (b % 4611686018427387904) (low62 b).1 (low62 b).2 (by unfold val M62; have := idM62 b; omega)
 have E1 := Lib.hid e1; have E2 := Lib.hid e2; clear e1 e2 s2 s3
 go_enter Tryz.func123, Tryz.ntmps123
 go_wp2_with (go_at_call 116; refine (made_any _ _ _ _ _ ha s1 ⟨by decide, by decide⟩ ⟨by decide, by decide⟩ _).mono ?_; rintro e w1 ⟨rfl, hb1⟩; obtain ⟨hc1, hf1⟩ := bcell hb1)
 refine bodyPost_ret (v := two (madeHi (a + b / 4611686018427387904 + 0 + 0)) (madeLo (a + b / 4611686018427387904 + 0 + 0) (bits .and .i64 b 4611686018427387903))) (by simp [results, Tryz.results123, go_sem, hc1]) rfl ⟨?_, ?_⟩
 · rw [and62, Int.add_zero, Int.add_zero, E1.out, E2.out]
 · (repeat (first | (with_reducible exact Below.refl _ _) | ((with_reducible refine Below.alloc ?_ ?_ _); rotate_left; focus (first | (simp; done) | (simp; omega) | (have q0 := hb1.size; (try simp at q0); (try simp); omega))) | ((with_reducible refine Below.setCell ?_ ?_ _); rotate_left; focus (first | (simp; done) | (simp; omega) | (have q0 := hb1.size; (try simp at q0); (try simp); omega))) | (with_reducible refine Below.drew ?_) | (with_reducible refine Below.drewN' ?_ _) | (with_reducible refine Below.trans ?_ (hb1.mono ?_); rotate_left; focus (first | (simp; done) | (simp; omega) | (have q0 := hb1.size; (try simp at q0); (try simp); omega)))))
end Go.Proofs.YtendekbckfpmgaaGreat
