import Derived.Test.YtcledcfeddlomaaGreatDoorEvQ3
set_option linter.all false
set_option maxRecDepth 100000
namespace Go.Proofs.YtcledcfeddlomaaGreatDoor.Ev
open Go.RowKit
structure Vl where
 k : Int
 b : Bool
 n : Int
 s : List UInt8
abbrev Vl.cs (v : Vl) : List AV := [.lit (.int .i64 v.k), .lit (.bool v.b), .lit (.int .i64 v.n), .str v.s]
def encV (v : Vl) : AV := .agg v.cs
abbrev Row := List Vl
structure En where
 r : Row
 m : Int
structure Rl where
 n : List UInt8
 l : List En
structure Tm where
 x : List UInt8
 a : Bool
 v : Vl
structure Lt where
 no : Bool
 n : List UInt8
 l : List Tm
 o : Int
structure Ru where
 k : Int
 n : List UInt8
 h : List (List UInt8)
 a : Int
 f : List UInt8
 m : Int
 b : List Lt
theorem bares_map {α : Type} {f : α -> AV} (h : ∀ x, bare (f x) = true) : ∀ l : List α, bares (l.map f) = true
 | [] => rfl
 | x :: l => by simp only [List.map_cons, bares, h x, bares_map h l, Bool.and_self]
theorem nrms_mapf {α : Type} {f : α -> AV} (h : ∀ x, nrm (f x) = f x) : ∀ l : List α, nrms (l.map f) = l.map f
 | [] => rfl
 | x :: l => by simp only [List.map_cons, nrms, h x, nrms_mapf h l]
theorem bares_S (l : List (List UInt8)) : bares (l.map .str) = true := bares_map (fun _ => rfl) l
theorem nrms_S (l : List (List UInt8)) : nrms (l.map .str) = l.map .str := nrms_mapf (fun _ => rfl) l
theorem wrap_i64 {n : Int} (h1 : -9223372036854775808 <= n) (h2 : n <= 9223372036854775807) : IntKind.i64.wrap n = n := by
 rw [IntKind.wrap_i64]; omega
theorem wrap_succ {i : Nat} (h : i < 9223372036854775807) : IntKind.i64.wrap ((i : Int) + 1) = ((i + 1 : Nat) : Int) := by rw [wrap_i64 (by omega) (by omega)]; omega
def tr (b : Bool) : Int := bif b then 1 else 0
structure Ord {α : Type} (c : α -> α -> Int) : Prop where
 sw : ∀ a b, c b a = - c a b
 tr : ∀ a b d, c a b <= 0 -> c b d <= 0 -> c a d <= 0
section
variable {α : Type} {c : α -> α -> Int} (h : Ord c)
include h
theorem Ord.lt_le {a b d : α} (h1 : c a b < 0) (h2 : c b d <= 0) : c a d < 0 := by
 rcases Int.lt_or_le (c a d) 0 with h3 | h3
 ·exact h3
 ·have h4 : c d a <= 0 := by rw [h.sw a d]; omega
  have h5 := h.tr b d a h2 h4
  rw [h.sw a b] at h5; omega
theorem Ord.lt {a b d : α} (h1 : c a b < 0) (h2 : c b d < 0) : c a d < 0 := h.lt_le h1 (Int.le_of_lt h2)
end
end Go.Proofs.YtcledcfeddlomaaGreatDoor.Ev
