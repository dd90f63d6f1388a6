/- The reference's token: its contract, as the print tool states it. -/
import Derived.Test.YtmlkfgoiakcnhaaGreatDoorOneA
namespace Go.Proofs.YtmlkfgoiakcnhaaGreatDoor.PStackNone
open Go.RowKit Go.Proofs.YtmlkfgoiakcnhaaGreatDoorW.PrintWords Go.Proofs.YtmlkfgoiakcnhaaGreatDoorW.PrintLast Go.Proofs.YtmlkfgoiakcnhaaGreatDoorW.PrintMore
theorem juristref03_One.calls (k : Nat) (A0 : Option Addr) (c0 : Nat) (l0 : List Int) (a1 : Int) (r1 : Int) (r2 : ByteArray) (r3 : Int) (r4 : Int) (r5 : Int) (w : World) (hr0 : Kd.C (Kd.int .u8) w A0 l0.length l0) (hc0 : l0.length ≤ c0) (h : juristref03_One.f k l0 a1 = some (r1, r2, r3, r4, r5)) :
    Calls Tryz.prog 43 #[.slice A0 l0.length c0, .int .i64 a1] w fun e w' => e = .returned (.tuple #[.agg #[.int .u8 r1, .string r2, .int .i64 r3], .int .i64 r4, .int .i64 r5]) ∧ Below w.heap.size w w' :=
  one_walk k A0 c0 l0 a1 r1 r2 r3 r4 r5 w hr0 hc0 h
end Go.Proofs.YtmlkfgoiakcnhaaGreatDoor.PStackNone
