import Derived.Test.YtcledcfeddlomaaGreatDoorA3
set_option linter.all false
set_option maxRecDepth 100000
set_option maxHeartbeats 40000000
namespace Go.Proofs.YtcledcfeddlomaaGreatDoor.Ev
open Go Go.Proofs.YtcledcfeddlomaaGreatDoor.Ev Go.Proofs Go.Proofs.YtcledcfeddlomaaGreatDoor Go.Proofs.YtcledcfeddlomaaGreatDoor.Tab
def roneB (k : Int) (nm : List UInt8) (w : Int) (cs : List Cd) (ps : List (Int × Int)) (cl : List Int) (ag of : Int) (l r : Nd) : Bool :=
 bif decide (k = 1) then isNil l && (isNil r && (nameB nm && (decide (1 <= w) && (decide (w <= 40) && emptyB true false false false false nm w cs ps cl ag of)))) else
 bif decide (k = 2) then bif cs.all (fun x => condB x (rwideN l)) then !isNil l && (isNil r && (decide ((0 : Int) < cs.length) && emptyB false true false false false nm w cs ps cl ag of)) else false else
 bif decide (k = 3) then !isNil l && (!isNil r && (ps.all (fun x => pairB x (rwideN l) (rwideN r)) && (decide (IntKind.i64.wrap (rwideN l + rwideN r) <= 40) && emptyB false false true false false nm w cs ps cl ag of))) else
 bif decide (k = 4) then !isNil l && (!isNil r && (ps.all (fun x => pairB x (rwideN l) (rwideN r)) && emptyB false false true false false nm w cs ps cl ag of)) else
 bif decide (k = 5) then !isNil l && (isNil r && (decide ((0 : Int) < cl.length) && (decide ((cl.length : Int) <= 40) && (cl.all (fun x => colB x (rwideN l)) && emptyB false false false true false nm w cs ps cl ag of)))) else
 bif decide (k = 6) then !isNil l && (isNil r && emptyB false false false false false nm w cs ps cl ag of) else
 bif decide (k = 7) then !isNil l && (isNil r && (decide ((cl.length : Int) < 40) && (cl.all (fun x => colB x (rwideN l)) && (decide (ag <= 4) && (((decide (0 <= of) && (decide (of < rwideN l) && decide (2 <= ag))) || (decide (of = 0) && decide (ag = 1))) && emptyB false false false true true nm w cs ps cl ag of))))) else false
variable {m : Md} {k : Int} {nm : List UInt8} {w : Int} {cs : List Cd} {ps : List (Int × Int)} {cl : List Int} {ag of : Int} {l r : Nd}
theorem eqOne1 (hn : nm.length < 1000000) (hc : cs.length < 1000000) (hp : ps.length < 1000000) (hl : cl.length < 1000000) : iso tab fi45 m [encN (.mk 1 nm w cs ps cl ag of l r)] = some (.lit (.bool (roneB 1 nm w cs ps cl ag of l r))) := by
 refine iso_ret ?_
 have cW := fun m n H hs => @cRWide n m H hs
 have cN := fun m H hs => @cRName m nm H hs hn
 have cP := fun m k1 H hs => @cPairs m k1 ps (rwideN l) (rwideN r) H hs hp
 have cI := fun m k1 H hs => @cIn m k1 cl (rwideN l) H hs hl
 have cE := fun m H hs => @cEmpty1 m 1 nm w cs ps cl ag of l r H hs
 simp only [encN, ci] at cE
 unfold roneB
 generalize hE : emptyB true false false false false nm w cs ps cl ag of = e at cE
 cases b1 : isNil l with
 | false =>
  simp (maxSteps := 4000000) only [sG, seval, x45, stU, b45, Tryz.f45, encN, ci, pnE, pnF, dN, cW, List.length_map, Bool.not_true, Bool.not_false, Bool.true_or, Bool.false_or, Bool.true_and, Bool.false_and, Bool.and_false, decide_true, cond_true, cond_false, show decide ((1 : Int) = 2) = false from rfl, show decide ((1 : Int) = 3) = false from rfl, show decide ((1 : Int) = 4) = false from rfl, show decide ((1 : Int) = 5) = false from rfl, show decide ((1 : Int) = 6) = false from rfl, show decide ((1 : Int) = 7) = false from rfl, b1]
  try rfl
 | true =>
  cases b2 : isNil r with
  | false =>
   simp (maxSteps := 4000000) only [sG, seval, x45, stU, b45, Tryz.f45, encN, ci, pnE, pnF, dN, cW, List.length_map, Bool.not_true, Bool.not_false, Bool.true_or, Bool.false_or, Bool.true_and, Bool.false_and, Bool.and_false, decide_true, cond_true, cond_false, show decide ((1 : Int) = 2) = false from rfl, show decide ((1 : Int) = 3) = false from rfl, show decide ((1 : Int) = 4) = false from rfl, show decide ((1 : Int) = 5) = false from rfl, show decide ((1 : Int) = 6) = false from rfl, show decide ((1 : Int) = 7) = false from rfl, b1, b2]
   try rfl
  | true =>
   cases b3 : nameB nm with
   | false =>
    simp only [b3] at cN
    simp (maxSteps := 4000000) only [sG, seval, x45, stU, b45, Tryz.f45, encN, ci, pnE, pnF, dN, cW, List.length_map, Bool.not_true, Bool.not_false, Bool.true_or, Bool.false_or, Bool.true_and, Bool.false_and, Bool.and_false, decide_true, cond_true, cond_false, show decide ((1 : Int) = 2) = false from rfl, show decide ((1 : Int) = 3) = false from rfl, show decide ((1 : Int) = 4) = false from rfl, show decide ((1 : Int) = 5) = false from rfl, show decide ((1 : Int) = 6) = false from rfl, show decide ((1 : Int) = 7) = false from rfl, b1, b2, b3, cN]
    try rfl
   | true =>
    simp only [b3] at cN
    cases b4 : decide (1 <= w) with
    | false =>
     simp (maxSteps := 4000000) only [sG, seval, x45, stU, b45, Tryz.f45, encN, ci, pnE, pnF, dN, cW, List.length_map, Bool.not_true, Bool.not_false, Bool.true_or, Bool.false_or, Bool.true_and, Bool.false_and, Bool.and_false, decide_true, cond_true, cond_false, show decide ((1 : Int) = 2) = false from rfl, show decide ((1 : Int) = 3) = false from rfl, show decide ((1 : Int) = 4) = false from rfl, show decide ((1 : Int) = 5) = false from rfl, show decide ((1 : Int) = 6) = false from rfl, show decide ((1 : Int) = 7) = false from rfl, b1, b2, b3, b4, cN]
     try rfl
    | true =>
     cases b5 : decide (w <= 40) with
     | false =>
      simp (maxSteps := 4000000) only [sG, seval, x45, stU, b45, Tryz.f45, encN, ci, pnE, pnF, dN, cW, List.length_map, Bool.not_true, Bool.not_false, Bool.true_or, Bool.false_or, Bool.true_and, Bool.false_and, Bool.and_false, decide_true, cond_true, cond_false, show decide ((1 : Int) = 2) = false from rfl, show decide ((1 : Int) = 3) = false from rfl, show decide ((1 : Int) = 4) = false from rfl, show decide ((1 : Int) = 5) = false from rfl, show decide ((1 : Int) = 6) = false from rfl, show decide ((1 : Int) = 7) = false from rfl, b1, b2, b3, b4, b5, cN]
      try rfl
     | true =>
      simp (maxSteps := 4000000) only [sG, seval, x45, stU, b45, Tryz.f45, encN, ci, pnE, pnF, dN, cW, List.length_map, Bool.not_true, Bool.not_false, Bool.true_or, Bool.false_or, Bool.true_and, Bool.false_and, Bool.and_false, decide_true, cond_true, cond_false, show decide ((1 : Int) = 2) = false from rfl, show decide ((1 : Int) = 3) = false from rfl, show decide ((1 : Int) = 4) = false from rfl, show decide ((1 : Int) = 5) = false from rfl, show decide ((1 : Int) = 6) = false from rfl, show decide ((1 : Int) = 7) = false from rfl, b1, b2, b3, b4, b5, cN, cE]
      try rfl
theorem eqOne3 (hn : nm.length < 1000000) (hc : cs.length < 1000000) (hp : ps.length < 1000000) (hl : cl.length < 1000000) : iso tab fi45 m [encN (.mk 3 nm w cs ps cl ag of l r)] = some (.lit (.bool (roneB 3 nm w cs ps cl ag of l r))) := by
 refine iso_ret ?_
 have cW := fun m n H hs => @cRWide n m H hs
 have cN := fun m H hs => @cRName m nm H hs hn
 have cP := fun m k1 H hs => @cPairs m k1 ps (rwideN l) (rwideN r) H hs hp
 have cI := fun m k1 H hs => @cIn m k1 cl (rwideN l) H hs hl
 have cE := fun m H hs => @cEmpty3 m 3 nm w cs ps cl ag of l r H hs
 simp only [encN, ci] at cE
 unfold roneB
 generalize hE : emptyB false false true false false nm w cs ps cl ag of = e at cE
 cases b1 : isNil l with
 | true =>
  simp (maxSteps := 4000000) only [sG, seval, x45, stU, b45, Tryz.f45, encN, ci, pnE, pnF, dN, cW, List.length_map, Bool.not_true, Bool.not_false, Bool.true_or, Bool.false_or, Bool.true_and, Bool.false_and, Bool.and_false, decide_true, cond_true, cond_false, show decide ((3 : Int) = 1) = false from rfl, show decide ((3 : Int) = 2) = false from rfl, show decide ((3 : Int) = 4) = false from rfl, show decide ((3 : Int) = 5) = false from rfl, show decide ((3 : Int) = 6) = false from rfl, show decide ((3 : Int) = 7) = false from rfl, b1]
  try rfl
 | false =>
  cases b2 : isNil r with
  | true =>
   simp (maxSteps := 4000000) only [sG, seval, x45, stU, b45, Tryz.f45, encN, ci, pnE, pnF, dN, cW, List.length_map, Bool.not_true, Bool.not_false, Bool.true_or, Bool.false_or, Bool.true_and, Bool.false_and, Bool.and_false, decide_true, cond_true, cond_false, show decide ((3 : Int) = 1) = false from rfl, show decide ((3 : Int) = 2) = false from rfl, show decide ((3 : Int) = 4) = false from rfl, show decide ((3 : Int) = 5) = false from rfl, show decide ((3 : Int) = 6) = false from rfl, show decide ((3 : Int) = 7) = false from rfl, b1, b2]
   try rfl
  | false =>
   cases b3 : ps.all (fun x => pairB x (rwideN l) (rwideN r)) with
   | false =>
    simp only [b3] at cP
    simp (maxSteps := 4000000) only [sG, seval, x45, stU, b45, Tryz.f45, encN, ci, pnE, pnF, dN, cW, List.length_map, Bool.not_true, Bool.not_false, Bool.true_or, Bool.false_or, Bool.true_and, Bool.false_and, Bool.and_false, decide_true, cond_true, cond_false, show decide ((3 : Int) = 1) = false from rfl, show decide ((3 : Int) = 2) = false from rfl, show decide ((3 : Int) = 4) = false from rfl, show decide ((3 : Int) = 5) = false from rfl, show decide ((3 : Int) = 6) = false from rfl, show decide ((3 : Int) = 7) = false from rfl, b1, b2, b3, cP]
    try rfl
   | true =>
    simp only [b3] at cP
    cases b4 : decide (IntKind.i64.wrap (rwideN l + rwideN r) <= 40) with
    | false =>
     simp (maxSteps := 4000000) only [sG, seval, x45, stU, b45, Tryz.f45, encN, ci, pnE, pnF, dN, cW, List.length_map, Bool.not_true, Bool.not_false, Bool.true_or, Bool.false_or, Bool.true_and, Bool.false_and, Bool.and_false, decide_true, cond_true, cond_false, show decide ((3 : Int) = 1) = false from rfl, show decide ((3 : Int) = 2) = false from rfl, show decide ((3 : Int) = 4) = false from rfl, show decide ((3 : Int) = 5) = false from rfl, show decide ((3 : Int) = 6) = false from rfl, show decide ((3 : Int) = 7) = false from rfl, b1, b2, b3, b4, cP]
     try rfl
    | true =>
     simp (maxSteps := 4000000) only [sG, seval, x45, stU, b45, Tryz.f45, encN, ci, pnE, pnF, dN, cW, List.length_map, Bool.not_true, Bool.not_false, Bool.true_or, Bool.false_or, Bool.true_and, Bool.false_and, Bool.and_false, decide_true, cond_true, cond_false, show decide ((3 : Int) = 1) = false from rfl, show decide ((3 : Int) = 2) = false from rfl, show decide ((3 : Int) = 4) = false from rfl, show decide ((3 : Int) = 5) = false from rfl, show decide ((3 : Int) = 6) = false from rfl, show decide ((3 : Int) = 7) = false from rfl, b1, b2, b3, b4, cP, cE]
     try rfl
theorem eqOne4 (hn : nm.length < 1000000) (hc : cs.length < 1000000) (hp : ps.length < 1000000) (hl : cl.length < 1000000) : iso tab fi45 m [encN (.mk 4 nm w cs ps cl ag of l r)] = some (.lit (.bool (roneB 4 nm w cs ps cl ag of l r))) := by
 refine iso_ret ?_
 have cW := fun m n H hs => @cRWide n m H hs
 have cN := fun m H hs => @cRName m nm H hs hn
 have cP := fun m k1 H hs => @cPairs m k1 ps (rwideN l) (rwideN r) H hs hp
 have cI := fun m k1 H hs => @cIn m k1 cl (rwideN l) H hs hl
 have cE := fun m H hs => @cEmpty3 m 4 nm w cs ps cl ag of l r H hs
 simp only [encN, ci] at cE
 unfold roneB
 generalize hE : emptyB false false true false false nm w cs ps cl ag of = e at cE
 cases b1 : isNil l with
 | true =>
  simp (maxSteps := 4000000) only [sG, seval, x45, stU, b45, Tryz.f45, encN, ci, pnE, pnF, dN, cW, List.length_map, Bool.not_true, Bool.not_false, Bool.true_or, Bool.false_or, Bool.true_and, Bool.false_and, Bool.and_false, decide_true, cond_true, cond_false, show decide ((4 : Int) = 1) = false from rfl, show decide ((4 : Int) = 2) = false from rfl, show decide ((4 : Int) = 3) = false from rfl, show decide ((4 : Int) = 5) = false from rfl, show decide ((4 : Int) = 6) = false from rfl, show decide ((4 : Int) = 7) = false from rfl, b1]
  try rfl
 | false =>
  cases b2 : isNil r with
  | true =>
   simp (maxSteps := 4000000) only [sG, seval, x45, stU, b45, Tryz.f45, encN, ci, pnE, pnF, dN, cW, List.length_map, Bool.not_true, Bool.not_false, Bool.true_or, Bool.false_or, Bool.true_and, Bool.false_and, Bool.and_false, decide_true, cond_true, cond_false, show decide ((4 : Int) = 1) = false from rfl, show decide ((4 : Int) = 2) = false from rfl, show decide ((4 : Int) = 3) = false from rfl, show decide ((4 : Int) = 5) = false from rfl, show decide ((4 : Int) = 6) = false from rfl, show decide ((4 : Int) = 7) = false from rfl, b1, b2]
   try rfl
  | false =>
   cases b3 : ps.all (fun x => pairB x (rwideN l) (rwideN r)) with
   | false =>
    simp only [b3] at cP
    simp (maxSteps := 4000000) only [sG, seval, x45, stU, b45, Tryz.f45, encN, ci, pnE, pnF, dN, cW, List.length_map, Bool.not_true, Bool.not_false, Bool.true_or, Bool.false_or, Bool.true_and, Bool.false_and, Bool.and_false, decide_true, cond_true, cond_false, show decide ((4 : Int) = 1) = false from rfl, show decide ((4 : Int) = 2) = false from rfl, show decide ((4 : Int) = 3) = false from rfl, show decide ((4 : Int) = 5) = false from rfl, show decide ((4 : Int) = 6) = false from rfl, show decide ((4 : Int) = 7) = false from rfl, b1, b2, b3, cP]
    try rfl
   | true =>
    simp only [b3] at cP
    simp (maxSteps := 4000000) only [sG, seval, x45, stU, b45, Tryz.f45, encN, ci, pnE, pnF, dN, cW, List.length_map, Bool.not_true, Bool.not_false, Bool.true_or, Bool.false_or, Bool.true_and, Bool.false_and, Bool.and_false, decide_true, cond_true, cond_false, show decide ((4 : Int) = 1) = false from rfl, show decide ((4 : Int) = 2) = false from rfl, show decide ((4 : Int) = 3) = false from rfl, show decide ((4 : Int) = 5) = false from rfl, show decide ((4 : Int) = 6) = false from rfl, show decide ((4 : Int) = 7) = false from rfl, b1, b2, b3, cP, cE]
    try rfl
theorem eqOne5 (hn : nm.length < 1000000) (hc : cs.length < 1000000) (hp : ps.length < 1000000) (hl : cl.length < 1000000) : iso tab fi45 m [encN (.mk 5 nm w cs ps cl ag of l r)] = some (.lit (.bool (roneB 5 nm w cs ps cl ag of l r))) := by
 refine iso_ret ?_
 have cW := fun m n H hs => @cRWide n m H hs
 have cN := fun m H hs => @cRName m nm H hs hn
 have cP := fun m k1 H hs => @cPairs m k1 ps (rwideN l) (rwideN r) H hs hp
 have cI := fun m k1 H hs => @cIn m k1 cl (rwideN l) H hs hl
 have cE := fun m H hs => @cEmpty5 m 5 nm w cs ps cl ag of l r H hs
 simp only [encN, ci] at cE
 unfold roneB
 generalize hE : emptyB false false false true false nm w cs ps cl ag of = e at cE
 cases b1 : isNil l with
 | true =>
  simp (maxSteps := 4000000) only [sG, seval, x45, stU, b45, Tryz.f45, encN, ci, pnE, pnF, dN, cW, List.length_map, Bool.not_true, Bool.not_false, Bool.true_or, Bool.false_or, Bool.true_and, Bool.false_and, Bool.and_false, decide_true, cond_true, cond_false, show decide ((5 : Int) = 1) = false from rfl, show decide ((5 : Int) = 2) = false from rfl, show decide ((5 : Int) = 3) = false from rfl, show decide ((5 : Int) = 4) = false from rfl, show decide ((5 : Int) = 6) = false from rfl, show decide ((5 : Int) = 7) = false from rfl, b1]
  try rfl
 | false =>
  cases b2 : isNil r with
  | false =>
   simp (maxSteps := 4000000) only [sG, seval, x45, stU, b45, Tryz.f45, encN, ci, pnE, pnF, dN, cW, List.length_map, Bool.not_true, Bool.not_false, Bool.true_or, Bool.false_or, Bool.true_and, Bool.false_and, Bool.and_false, decide_true, cond_true, cond_false, show decide ((5 : Int) = 1) = false from rfl, show decide ((5 : Int) = 2) = false from rfl, show decide ((5 : Int) = 3) = false from rfl, show decide ((5 : Int) = 4) = false from rfl, show decide ((5 : Int) = 6) = false from rfl, show decide ((5 : Int) = 7) = false from rfl, b1, b2]
   try rfl
  | true =>
   cases b3 : decide ((0 : Int) < cl.length) with
   | false =>
    simp (maxSteps := 4000000) only [sG, seval, x45, stU, b45, Tryz.f45, encN, ci, pnE, pnF, dN, cW, List.length_map, Bool.not_true, Bool.not_false, Bool.true_or, Bool.false_or, Bool.true_and, Bool.false_and, Bool.and_false, decide_true, cond_true, cond_false, show decide ((5 : Int) = 1) = false from rfl, show decide ((5 : Int) = 2) = false from rfl, show decide ((5 : Int) = 3) = false from rfl, show decide ((5 : Int) = 4) = false from rfl, show decide ((5 : Int) = 6) = false from rfl, show decide ((5 : Int) = 7) = false from rfl, b1, b2, b3]
    try rfl
   | true =>
    cases b4 : decide ((cl.length : Int) <= 40) with
    | false =>
     simp (maxSteps := 4000000) only [sG, seval, x45, stU, b45, Tryz.f45, encN, ci, pnE, pnF, dN, cW, List.length_map, Bool.not_true, Bool.not_false, Bool.true_or, Bool.false_or, Bool.true_and, Bool.false_and, Bool.and_false, decide_true, cond_true, cond_false, show decide ((5 : Int) = 1) = false from rfl, show decide ((5 : Int) = 2) = false from rfl, show decide ((5 : Int) = 3) = false from rfl, show decide ((5 : Int) = 4) = false from rfl, show decide ((5 : Int) = 6) = false from rfl, show decide ((5 : Int) = 7) = false from rfl, b1, b2, b3, b4]
     try rfl
    | true =>
     cases b5 : cl.all (fun x => colB x (rwideN l)) with
     | false =>
      simp only [b5] at cI
      simp (maxSteps := 4000000) only [sG, seval, x45, stU, b45, Tryz.f45, encN, ci, pnE, pnF, dN, cW, List.length_map, Bool.not_true, Bool.not_false, Bool.true_or, Bool.false_or, Bool.true_and, Bool.false_and, Bool.and_false, decide_true, cond_true, cond_false, show decide ((5 : Int) = 1) = false from rfl, show decide ((5 : Int) = 2) = false from rfl, show decide ((5 : Int) = 3) = false from rfl, show decide ((5 : Int) = 4) = false from rfl, show decide ((5 : Int) = 6) = false from rfl, show decide ((5 : Int) = 7) = false from rfl, b1, b2, b3, b4, b5, cI]
      try rfl
     | true =>
      simp only [b5] at cI
      simp (maxSteps := 4000000) only [sG, seval, x45, stU, b45, Tryz.f45, encN, ci, pnE, pnF, dN, cW, List.length_map, Bool.not_true, Bool.not_false, Bool.true_or, Bool.false_or, Bool.true_and, Bool.false_and, Bool.and_false, decide_true, cond_true, cond_false, show decide ((5 : Int) = 1) = false from rfl, show decide ((5 : Int) = 2) = false from rfl, show decide ((5 : Int) = 3) = false from rfl, show decide ((5 : Int) = 4) = false from rfl, show decide ((5 : Int) = 6) = false from rfl, show decide ((5 : Int) = 7) = false from rfl, b1, b2, b3, b4, b5, cI, cE]
      try rfl
theorem eqOne6 (hn : nm.length < 1000000) (hc : cs.length < 1000000) (hp : ps.length < 1000000) (hl : cl.length < 1000000) : iso tab fi45 m [encN (.mk 6 nm w cs ps cl ag of l r)] = some (.lit (.bool (roneB 6 nm w cs ps cl ag of l r))) := by
 refine iso_ret ?_
 have cW := fun m n H hs => @cRWide n m H hs
 have cN := fun m H hs => @cRName m nm H hs hn
 have cP := fun m k1 H hs => @cPairs m k1 ps (rwideN l) (rwideN r) H hs hp
 have cI := fun m k1 H hs => @cIn m k1 cl (rwideN l) H hs hl
 have cE := fun m H hs => @cEmpty6 m 6 nm w cs ps cl ag of l r H hs
 simp only [encN, ci] at cE
 unfold roneB
 generalize hE : emptyB false false false false false nm w cs ps cl ag of = e at cE
 cases b1 : isNil l with
 | true =>
  simp (maxSteps := 4000000) only [sG, seval, x45, stU, b45, Tryz.f45, encN, ci, pnE, pnF, dN, cW, List.length_map, Bool.not_true, Bool.not_false, Bool.true_or, Bool.false_or, Bool.true_and, Bool.false_and, Bool.and_false, decide_true, cond_true, cond_false, show decide ((6 : Int) = 1) = false from rfl, show decide ((6 : Int) = 2) = false from rfl, show decide ((6 : Int) = 3) = false from rfl, show decide ((6 : Int) = 4) = false from rfl, show decide ((6 : Int) = 5) = false from rfl, show decide ((6 : Int) = 7) = false from rfl, b1]
  try rfl
 | false =>
  cases b2 : isNil r with
  | false =>
   simp (maxSteps := 4000000) only [sG, seval, x45, stU, b45, Tryz.f45, encN, ci, pnE, pnF, dN, cW, List.length_map, Bool.not_true, Bool.not_false, Bool.true_or, Bool.false_or, Bool.true_and, Bool.false_and, Bool.and_false, decide_true, cond_true, cond_false, show decide ((6 : Int) = 1) = false from rfl, show decide ((6 : Int) = 2) = false from rfl, show decide ((6 : Int) = 3) = false from rfl, show decide ((6 : Int) = 4) = false from rfl, show decide ((6 : Int) = 5) = false from rfl, show decide ((6 : Int) = 7) = false from rfl, b1, b2]
   try rfl
  | true =>
   simp (maxSteps := 4000000) only [sG, seval, x45, stU, b45, Tryz.f45, encN, ci, pnE, pnF, dN, cW, List.length_map, Bool.not_true, Bool.not_false, Bool.true_or, Bool.false_or, Bool.true_and, Bool.false_and, Bool.and_false, decide_true, cond_true, cond_false, show decide ((6 : Int) = 1) = false from rfl, show decide ((6 : Int) = 2) = false from rfl, show decide ((6 : Int) = 3) = false from rfl, show decide ((6 : Int) = 4) = false from rfl, show decide ((6 : Int) = 5) = false from rfl, show decide ((6 : Int) = 7) = false from rfl, b1, b2, cE]
   try rfl
theorem eqOne7 (hn : nm.length < 1000000) (hc : cs.length < 1000000) (hp : ps.length < 1000000) (hl : cl.length < 1000000) : iso tab fi45 m [encN (.mk 7 nm w cs ps cl ag of l r)] = some (.lit (.bool (roneB 7 nm w cs ps cl ag of l r))) := by
 refine iso_ret ?_
 have cW := fun m n H hs => @cRWide n m H hs
 have cN := fun m H hs => @cRName m nm H hs hn
 have cP := fun m k1 H hs => @cPairs m k1 ps (rwideN l) (rwideN r) H hs hp
 have cI := fun m k1 H hs => @cIn m k1 cl (rwideN l) H hs hl
 have cE := fun m H hs => @cEmpty7 m 7 nm w cs ps cl ag of l r H hs
 simp only [encN, ci] at cE
 unfold roneB
 generalize hE : emptyB false false false true true nm w cs ps cl ag of = e at cE
 cases o1 : decide (0 <= of) with
 | false =>
  cases o4 : decide (of = 0) with
  | false =>
   cases b1 : isNil l with
   | true =>
    simp (maxSteps := 4000000) only [sG, seval, x45, stU, b45, Tryz.f45, encN, ci, pnE, pnF, dN, cW, List.length_map, Bool.not_true, Bool.not_false, Bool.true_or, Bool.false_or, Bool.true_and, Bool.false_and, Bool.and_false, decide_true, cond_true, cond_false, show decide ((7 : Int) = 1) = false from rfl, show decide ((7 : Int) = 2) = false from rfl, show decide ((7 : Int) = 3) = false from rfl, show decide ((7 : Int) = 4) = false from rfl, show decide ((7 : Int) = 5) = false from rfl, show decide ((7 : Int) = 6) = false from rfl, o1, o4, b1]
    try rfl
   | false =>
    cases b2 : isNil r with
    | false =>
     simp (maxSteps := 4000000) only [sG, seval, x45, stU, b45, Tryz.f45, encN, ci, pnE, pnF, dN, cW, List.length_map, Bool.not_true, Bool.not_false, Bool.true_or, Bool.false_or, Bool.true_and, Bool.false_and, Bool.and_false, decide_true, cond_true, cond_false, show decide ((7 : Int) = 1) = false from rfl, show decide ((7 : Int) = 2) = false from rfl, show decide ((7 : Int) = 3) = false from rfl, show decide ((7 : Int) = 4) = false from rfl, show decide ((7 : Int) = 5) = false from rfl, show decide ((7 : Int) = 6) = false from rfl, o1, o4, b1, b2]
     try rfl
    | true =>
     cases b3 : decide ((cl.length : Int) < 40) with
     | false =>
      simp (maxSteps := 4000000) only [sG, seval, x45, stU, b45, Tryz.f45, encN, ci, pnE, pnF, dN, cW, List.length_map, Bool.not_true, Bool.not_false, Bool.true_or, Bool.false_or, Bool.true_and, Bool.false_and, Bool.and_false, decide_true, cond_true, cond_false, show decide ((7 : Int) = 1) = false from rfl, show decide ((7 : Int) = 2) = false from rfl, show decide ((7 : Int) = 3) = false from rfl, show decide ((7 : Int) = 4) = false from rfl, show decide ((7 : Int) = 5) = false from rfl, show decide ((7 : Int) = 6) = false from rfl, o1, o4, b1, b2, b3]
      try rfl
     | true =>
      cases b4 : cl.all (fun x => colB x (rwideN l)) with
      | false =>
       simp only [b4] at cI
       simp (maxSteps := 4000000) only [sG, seval, x45, stU, b45, Tryz.f45, encN, ci, pnE, pnF, dN, cW, List.length_map, Bool.not_true, Bool.not_false, Bool.true_or, Bool.false_or, Bool.true_and, Bool.false_and, Bool.and_false, decide_true, cond_true, cond_false, show decide ((7 : Int) = 1) = false from rfl, show decide ((7 : Int) = 2) = false from rfl, show decide ((7 : Int) = 3) = false from rfl, show decide ((7 : Int) = 4) = false from rfl, show decide ((7 : Int) = 5) = false from rfl, show decide ((7 : Int) = 6) = false from rfl, o1, o4, b1, b2, b3, b4, cI]
       try rfl
      | true =>
       simp only [b4] at cI
       cases b5 : decide (ag <= 4) with
       | false =>
        simp (maxSteps := 4000000) only [sG, seval, x45, stU, b45, Tryz.f45, encN, ci, pnE, pnF, dN, cW, List.length_map, Bool.not_true, Bool.not_false, Bool.true_or, Bool.false_or, Bool.true_and, Bool.false_and, Bool.and_false, decide_true, cond_true, cond_false, show decide ((7 : Int) = 1) = false from rfl, show decide ((7 : Int) = 2) = false from rfl, show decide ((7 : Int) = 3) = false from rfl, show decide ((7 : Int) = 4) = false from rfl, show decide ((7 : Int) = 5) = false from rfl, show decide ((7 : Int) = 6) = false from rfl, o1, o4, b1, b2, b3, b4, b5, cI]
        try rfl
       | true =>
        simp (maxSteps := 4000000) only [sG, seval, x45, stU, b45, Tryz.f45, encN, ci, pnE, pnF, dN, cW, List.length_map, Bool.not_true, Bool.not_false, Bool.true_or, Bool.false_or, Bool.true_and, Bool.false_and, Bool.and_false, decide_true, cond_true, cond_false, show decide ((7 : Int) = 1) = false from rfl, show decide ((7 : Int) = 2) = false from rfl, show decide ((7 : Int) = 3) = false from rfl, show decide ((7 : Int) = 4) = false from rfl, show decide ((7 : Int) = 5) = false from rfl, show decide ((7 : Int) = 6) = false from rfl, o1, o4, b1, b2, b3, b4, b5, cI, cE]
        try rfl
  | true =>
   cases o5 : decide (ag = 1) with
   | false =>
    cases b1 : isNil l with
    | true =>
     simp (maxSteps := 4000000) only [sG, seval, x45, stU, b45, Tryz.f45, encN, ci, pnE, pnF, dN, cW, List.length_map, Bool.not_true, Bool.not_false, Bool.true_or, Bool.false_or, Bool.true_and, Bool.false_and, Bool.and_false, decide_true, cond_true, cond_false, show decide ((7 : Int) = 1) = false from rfl, show decide ((7 : Int) = 2) = false from rfl, show decide ((7 : Int) = 3) = false from rfl, show decide ((7 : Int) = 4) = false from rfl, show decide ((7 : Int) = 5) = false from rfl, show decide ((7 : Int) = 6) = false from rfl, o1, o4, o5, b1]
     try rfl
    | false =>
     cases b2 : isNil r with
     | false =>
      simp (maxSteps := 4000000) only [sG, seval, x45, stU, b45, Tryz.f45, encN, ci, pnE, pnF, dN, cW, List.length_map, Bool.not_true, Bool.not_false, Bool.true_or, Bool.false_or, Bool.true_and, Bool.false_and, Bool.and_false, decide_true, cond_true, cond_false, show decide ((7 : Int) = 1) = false from rfl, show decide ((7 : Int) = 2) = false from rfl, show decide ((7 : Int) = 3) = false from rfl, show decide ((7 : Int) = 4) = false from rfl, show decide ((7 : Int) = 5) = false from rfl, show decide ((7 : Int) = 6) = false from rfl, o1, o4, o5, b1, b2]
      try rfl
     | true =>
      cases b3 : decide ((cl.length : Int) < 40) with
      | false =>
       simp (maxSteps := 4000000) only [sG, seval, x45, stU, b45, Tryz.f45, encN, ci, pnE, pnF, dN, cW, List.length_map, Bool.not_true, Bool.not_false, Bool.true_or, Bool.false_or, Bool.true_and, Bool.false_and, Bool.and_false, decide_true, cond_true, cond_false, show decide ((7 : Int) = 1) = false from rfl, show decide ((7 : Int) = 2) = false from rfl, show decide ((7 : Int) = 3) = false from rfl, show decide ((7 : Int) = 4) = false from rfl, show decide ((7 : Int) = 5) = false from rfl, show decide ((7 : Int) = 6) = false from rfl, o1, o4, o5, b1, b2, b3]
       try rfl
      | true =>
       cases b4 : cl.all (fun x => colB x (rwideN l)) with
       | false =>
        simp only [b4] at cI
        simp (maxSteps := 4000000) only [sG, seval, x45, stU, b45, Tryz.f45, encN, ci, pnE, pnF, dN, cW, List.length_map, Bool.not_true, Bool.not_false, Bool.true_or, Bool.false_or, Bool.true_and, Bool.false_and, Bool.and_false, decide_true, cond_true, cond_false, show decide ((7 : Int) = 1) = false from rfl, show decide ((7 : Int) = 2) = false from rfl, show decide ((7 : Int) = 3) = false from rfl, show decide ((7 : Int) = 4) = false from rfl, show decide ((7 : Int) = 5) = false from rfl, show decide ((7 : Int) = 6) = false from rfl, o1, o4, o5, b1, b2, b3, b4, cI]
        try rfl
       | true =>
        simp only [b4] at cI
        cases b5 : decide (ag <= 4) with
        | false =>
         simp (maxSteps := 4000000) only [sG, seval, x45, stU, b45, Tryz.f45, encN, ci, pnE, pnF, dN, cW, List.length_map, Bool.not_true, Bool.not_false, Bool.true_or, Bool.false_or, Bool.true_and, Bool.false_and, Bool.and_false, decide_true, cond_true, cond_false, show decide ((7 : Int) = 1) = false from rfl, show decide ((7 : Int) = 2) = false from rfl, show decide ((7 : Int) = 3) = false from rfl, show decide ((7 : Int) = 4) = false from rfl, show decide ((7 : Int) = 5) = false from rfl, show decide ((7 : Int) = 6) = false from rfl, o1, o4, o5, b1, b2, b3, b4, b5, cI]
         try rfl
        | true =>
         simp (maxSteps := 4000000) only [sG, seval, x45, stU, b45, Tryz.f45, encN, ci, pnE, pnF, dN, cW, List.length_map, Bool.not_true, Bool.not_false, Bool.true_or, Bool.false_or, Bool.true_and, Bool.false_and, Bool.and_false, decide_true, cond_true, cond_false, show decide ((7 : Int) = 1) = false from rfl, show decide ((7 : Int) = 2) = false from rfl, show decide ((7 : Int) = 3) = false from rfl, show decide ((7 : Int) = 4) = false from rfl, show decide ((7 : Int) = 5) = false from rfl, show decide ((7 : Int) = 6) = false from rfl, o1, o4, o5, b1, b2, b3, b4, b5, cI, cE]
         try rfl
   | true =>
    cases b1 : isNil l with
    | true =>
     simp (maxSteps := 4000000) only [sG, seval, x45, stU, b45, Tryz.f45, encN, ci, pnE, pnF, dN, cW, List.length_map, Bool.not_true, Bool.not_false, Bool.true_or, Bool.false_or, Bool.true_and, Bool.false_and, Bool.and_false, decide_true, cond_true, cond_false, show decide ((7 : Int) = 1) = false from rfl, show decide ((7 : Int) = 2) = false from rfl, show decide ((7 : Int) = 3) = false from rfl, show decide ((7 : Int) = 4) = false from rfl, show decide ((7 : Int) = 5) = false from rfl, show decide ((7 : Int) = 6) = false from rfl, o1, o4, o5, b1]
     try rfl
    | false =>
     cases b2 : isNil r with
     | false =>
      simp (maxSteps := 4000000) only [sG, seval, x45, stU, b45, Tryz.f45, encN, ci, pnE, pnF, dN, cW, List.length_map, Bool.not_true, Bool.not_false, Bool.true_or, Bool.false_or, Bool.true_and, Bool.false_and, Bool.and_false, decide_true, cond_true, cond_false, show decide ((7 : Int) = 1) = false from rfl, show decide ((7 : Int) = 2) = false from rfl, show decide ((7 : Int) = 3) = false from rfl, show decide ((7 : Int) = 4) = false from rfl, show decide ((7 : Int) = 5) = false from rfl, show decide ((7 : Int) = 6) = false from rfl, o1, o4, o5, b1, b2]
      try rfl
     | true =>
      cases b3 : decide ((cl.length : Int) < 40) with
      | false =>
       simp (maxSteps := 4000000) only [sG, seval, x45, stU, b45, Tryz.f45, encN, ci, pnE, pnF, dN, cW, List.length_map, Bool.not_true, Bool.not_false, Bool.true_or, Bool.false_or, Bool.true_and, Bool.false_and, Bool.and_false, decide_true, cond_true, cond_false, show decide ((7 : Int) = 1) = false from rfl, show decide ((7 : Int) = 2) = false from rfl, show decide ((7 : Int) = 3) = false from rfl, show decide ((7 : Int) = 4) = false from rfl, show decide ((7 : Int) = 5) = false from rfl, show decide ((7 : Int) = 6) = false from rfl, o1, o4, o5, b1, b2, b3]
       try rfl
      | true =>
       cases b4 : cl.all (fun x => colB x (rwideN l)) with
       | false =>
        simp only [b4] at cI
        simp (maxSteps := 4000000) only [sG, seval, x45, stU, b45, Tryz.f45, encN, ci, pnE, pnF, dN, cW, List.length_map, Bool.not_true, Bool.not_false, Bool.true_or, Bool.false_or, Bool.true_and, Bool.false_and, Bool.and_false, decide_true, cond_true, cond_false, show decide ((7 : Int) = 1) = false from rfl, show decide ((7 : Int) = 2) = false from rfl, show decide ((7 : Int) = 3) = false from rfl, show decide ((7 : Int) = 4) = false from rfl, show decide ((7 : Int) = 5) = false from rfl, show decide ((7 : Int) = 6) = false from rfl, o1, o4, o5, b1, b2, b3, b4, cI]
        try rfl
       | true =>
        simp only [b4] at cI
        cases b5 : decide (ag <= 4) with
        | false =>
         simp (maxSteps := 4000000) only [sG, seval, x45, stU, b45, Tryz.f45, encN, ci, pnE, pnF, dN, cW, List.length_map, Bool.not_true, Bool.not_false, Bool.true_or, Bool.false_or, Bool.true_and, Bool.false_and, Bool.and_false, decide_true, cond_true, cond_false, show decide ((7 : Int) = 1) = false from rfl, show decide ((7 : Int) = 2) = false from rfl, show decide ((7 : Int) = 3) = false from rfl, show decide ((7 : Int) = 4) = false from rfl, show decide ((7 : Int) = 5) = false from rfl, show decide ((7 : Int) = 6) = false from rfl, o1, o4, o5, b1, b2, b3, b4, b5, cI]
         try rfl
        | true =>
         simp (maxSteps := 4000000) only [sG, seval, x45, stU, b45, Tryz.f45, encN, ci, pnE, pnF, dN, cW, List.length_map, Bool.not_true, Bool.not_false, Bool.true_or, Bool.false_or, Bool.true_and, Bool.false_and, Bool.and_false, decide_true, cond_true, cond_false, show decide ((7 : Int) = 1) = false from rfl, show decide ((7 : Int) = 2) = false from rfl, show decide ((7 : Int) = 3) = false from rfl, show decide ((7 : Int) = 4) = false from rfl, show decide ((7 : Int) = 5) = false from rfl, show decide ((7 : Int) = 6) = false from rfl, o1, o4, o5, b1, b2, b3, b4, b5, cI, cE]
         try rfl
 | true =>
  cases o2 : decide (of < rwideN l) with
  | false =>
   cases o4 : decide (of = 0) with
   | false =>
    cases b1 : isNil l with
    | true =>
     simp (maxSteps := 4000000) only [sG, seval, x45, stU, b45, Tryz.f45, encN, ci, pnE, pnF, dN, cW, List.length_map, Bool.not_true, Bool.not_false, Bool.true_or, Bool.false_or, Bool.true_and, Bool.false_and, Bool.and_false, decide_true, cond_true, cond_false, show decide ((7 : Int) = 1) = false from rfl, show decide ((7 : Int) = 2) = false from rfl, show decide ((7 : Int) = 3) = false from rfl, show decide ((7 : Int) = 4) = false from rfl, show decide ((7 : Int) = 5) = false from rfl, show decide ((7 : Int) = 6) = false from rfl, o1, o2, o4, b1]
     try rfl
    | false =>
     cases b2 : isNil r with
     | false =>
      simp (maxSteps := 4000000) only [sG, seval, x45, stU, b45, Tryz.f45, encN, ci, pnE, pnF, dN, cW, List.length_map, Bool.not_true, Bool.not_false, Bool.true_or, Bool.false_or, Bool.true_and, Bool.false_and, Bool.and_false, decide_true, cond_true, cond_false, show decide ((7 : Int) = 1) = false from rfl, show decide ((7 : Int) = 2) = false from rfl, show decide ((7 : Int) = 3) = false from rfl, show decide ((7 : Int) = 4) = false from rfl, show decide ((7 : Int) = 5) = false from rfl, show decide ((7 : Int) = 6) = false from rfl, o1, o2, o4, b1, b2]
      try rfl
     | true =>
      cases b3 : decide ((cl.length : Int) < 40) with
      | false =>
       simp (maxSteps := 4000000) only [sG, seval, x45, stU, b45, Tryz.f45, encN, ci, pnE, pnF, dN, cW, List.length_map, Bool.not_true, Bool.not_false, Bool.true_or, Bool.false_or, Bool.true_and, Bool.false_and, Bool.and_false, decide_true, cond_true, cond_false, show decide ((7 : Int) = 1) = false from rfl, show decide ((7 : Int) = 2) = false from rfl, show decide ((7 : Int) = 3) = false from rfl, show decide ((7 : Int) = 4) = false from rfl, show decide ((7 : Int) = 5) = false from rfl, show decide ((7 : Int) = 6) = false from rfl, o1, o2, o4, b1, b2, b3]
       try rfl
      | true =>
       cases b4 : cl.all (fun x => colB x (rwideN l)) with
       | false =>
        simp only [b4] at cI
        simp (maxSteps := 4000000) only [sG, seval, x45, stU, b45, Tryz.f45, encN, ci, pnE, pnF, dN, cW, List.length_map, Bool.not_true, Bool.not_false, Bool.true_or, Bool.false_or, Bool.true_and, Bool.false_and, Bool.and_false, decide_true, cond_true, cond_false, show decide ((7 : Int) = 1) = false from rfl, show decide ((7 : Int) = 2) = false from rfl, show decide ((7 : Int) = 3) = false from rfl, show decide ((7 : Int) = 4) = false from rfl, show decide ((7 : Int) = 5) = false from rfl, show decide ((7 : Int) = 6) = false from rfl, o1, o2, o4, b1, b2, b3, b4, cI]
        try rfl
       | true =>
        simp only [b4] at cI
        cases b5 : decide (ag <= 4) with
        | false =>
         simp (maxSteps := 4000000) only [sG, seval, x45, stU, b45, Tryz.f45, encN, ci, pnE, pnF, dN, cW, List.length_map, Bool.not_true, Bool.not_false, Bool.true_or, Bool.false_or, Bool.true_and, Bool.false_and, Bool.and_false, decide_true, cond_true, cond_false, show decide ((7 : Int) = 1) = false from rfl, show decide ((7 : Int) = 2) = false from rfl, show decide ((7 : Int) = 3) = false from rfl, show decide ((7 : Int) = 4) = false from rfl, show decide ((7 : Int) = 5) = false from rfl, show decide ((7 : Int) = 6) = false from rfl, o1, o2, o4, b1, b2, b3, b4, b5, cI]
         try rfl
        | true =>
         simp (maxSteps := 4000000) only [sG, seval, x45, stU, b45, Tryz.f45, encN, ci, pnE, pnF, dN, cW, List.length_map, Bool.not_true, Bool.not_false, Bool.true_or, Bool.false_or, Bool.true_and, Bool.false_and, Bool.and_false, decide_true, cond_true, cond_false, show decide ((7 : Int) = 1) = false from rfl, show decide ((7 : Int) = 2) = false from rfl, show decide ((7 : Int) = 3) = false from rfl, show decide ((7 : Int) = 4) = false from rfl, show decide ((7 : Int) = 5) = false from rfl, show decide ((7 : Int) = 6) = false from rfl, o1, o2, o4, b1, b2, b3, b4, b5, cI, cE]
         try rfl
   | true =>
    cases o5 : decide (ag = 1) with
    | false =>
     cases b1 : isNil l with
     | true =>
      simp (maxSteps := 4000000) only [sG, seval, x45, stU, b45, Tryz.f45, encN, ci, pnE, pnF, dN, cW, List.length_map, Bool.not_true, Bool.not_false, Bool.true_or, Bool.false_or, Bool.true_and, Bool.false_and, Bool.and_false, decide_true, cond_true, cond_false, show decide ((7 : Int) = 1) = false from rfl, show decide ((7 : Int) = 2) = false from rfl, show decide ((7 : Int) = 3) = false from rfl, show decide ((7 : Int) = 4) = false from rfl, show decide ((7 : Int) = 5) = false from rfl, show decide ((7 : Int) = 6) = false from rfl, o1, o2, o4, o5, b1]
      try rfl
     | false =>
      cases b2 : isNil r with
      | false =>
       simp (maxSteps := 4000000) only [sG, seval, x45, stU, b45, Tryz.f45, encN, ci, pnE, pnF, dN, cW, List.length_map, Bool.not_true, Bool.not_false, Bool.true_or, Bool.false_or, Bool.true_and, Bool.false_and, Bool.and_false, decide_true, cond_true, cond_false, show decide ((7 : Int) = 1) = false from rfl, show decide ((7 : Int) = 2) = false from rfl, show decide ((7 : Int) = 3) = false from rfl, show decide ((7 : Int) = 4) = false from rfl, show decide ((7 : Int) = 5) = false from rfl, show decide ((7 : Int) = 6) = false from rfl, o1, o2, o4, o5, b1, b2]
       try rfl
      | true =>
       cases b3 : decide ((cl.length : Int) < 40) with
       | false =>
        simp (maxSteps := 4000000) only [sG, seval, x45, stU, b45, Tryz.f45, encN, ci, pnE, pnF, dN, cW, List.length_map, Bool.not_true, Bool.not_false, Bool.true_or, Bool.false_or, Bool.true_and, Bool.false_and, Bool.and_false, decide_true, cond_true, cond_false, show decide ((7 : Int) = 1) = false from rfl, show decide ((7 : Int) = 2) = false from rfl, show decide ((7 : Int) = 3) = false from rfl, show decide ((7 : Int) = 4) = false from rfl, show decide ((7 : Int) = 5) = false from rfl, show decide ((7 : Int) = 6) = false from rfl, o1, o2, o4, o5, b1, b2, b3]
        try rfl
       | true =>
        cases b4 : cl.all (fun x => colB x (rwideN l)) with
        | false =>
         simp only [b4] at cI
         simp (maxSteps := 4000000) only [sG, seval, x45, stU, b45, Tryz.f45, encN, ci, pnE, pnF, dN, cW, List.length_map, Bool.not_true, Bool.not_false, Bool.true_or, Bool.false_or, Bool.true_and, Bool.false_and, Bool.and_false, decide_true, cond_true, cond_false, show decide ((7 : Int) = 1) = false from rfl, show decide ((7 : Int) = 2) = false from rfl, show decide ((7 : Int) = 3) = false from rfl, show decide ((7 : Int) = 4) = false from rfl, show decide ((7 : Int) = 5) = false from rfl, show decide ((7 : Int) = 6) = false from rfl, o1, o2, o4, o5, b1, b2, b3, b4, cI]
         try rfl
        | true =>
         simp only [b4] at cI
         cases b5 : decide (ag <= 4) with
         | false =>
          simp (maxSteps := 4000000) only [sG, seval, x45, stU, b45, Tryz.f45, encN, ci, pnE, pnF, dN, cW, List.length_map, Bool.not_true, Bool.not_false, Bool.true_or, Bool.false_or, Bool.true_and, Bool.false_and, Bool.and_false, decide_true, cond_true, cond_false, show decide ((7 : Int) = 1) = false from rfl, show decide ((7 : Int) = 2) = false from rfl, show decide ((7 : Int) = 3) = false from rfl, show decide ((7 : Int) = 4) = false from rfl, show decide ((7 : Int) = 5) = false from rfl, show decide ((7 : Int) = 6) = false from rfl, o1, o2, o4, o5, b1, b2, b3, b4, b5, cI]
          try rfl
         | true =>
          simp (maxSteps := 4000000) only [sG, seval, x45, stU, b45, Tryz.f45, encN, ci, pnE, pnF, dN, cW, List.length_map, Bool.not_true, Bool.not_false, Bool.true_or, Bool.false_or, Bool.true_and, Bool.false_and, Bool.and_false, decide_true, cond_true, cond_false, show decide ((7 : Int) = 1) = false from rfl, show decide ((7 : Int) = 2) = false from rfl, show decide ((7 : Int) = 3) = false from rfl, show decide ((7 : Int) = 4) = false from rfl, show decide ((7 : Int) = 5) = false from rfl, show decide ((7 : Int) = 6) = false from rfl, o1, o2, o4, o5, b1, b2, b3, b4, b5, cI, cE]
          try rfl
    | true =>
     cases b1 : isNil l with
     | true =>
      simp (maxSteps := 4000000) only [sG, seval, x45, stU, b45, Tryz.f45, encN, ci, pnE, pnF, dN, cW, List.length_map, Bool.not_true, Bool.not_false, Bool.true_or, Bool.false_or, Bool.true_and, Bool.false_and, Bool.and_false, decide_true, cond_true, cond_false, show decide ((7 : Int) = 1) = false from rfl, show decide ((7 : Int) = 2) = false from rfl, show decide ((7 : Int) = 3) = false from rfl, show decide ((7 : Int) = 4) = false from rfl, show decide ((7 : Int) = 5) = false from rfl, show decide ((7 : Int) = 6) = false from rfl, o1, o2, o4, o5, b1]
      try rfl
     | false =>
      cases b2 : isNil r with
      | false =>
       simp (maxSteps := 4000000) only [sG, seval, x45, stU, b45, Tryz.f45, encN, ci, pnE, pnF, dN, cW, List.length_map, Bool.not_true, Bool.not_false, Bool.true_or, Bool.false_or, Bool.true_and, Bool.false_and, Bool.and_false, decide_true, cond_true, cond_false, show decide ((7 : Int) = 1) = false from rfl, show decide ((7 : Int) = 2) = false from rfl, show decide ((7 : Int) = 3) = false from rfl, show decide ((7 : Int) = 4) = false from rfl, show decide ((7 : Int) = 5) = false from rfl, show decide ((7 : Int) = 6) = false from rfl, o1, o2, o4, o5, b1, b2]
       try rfl
      | true =>
       cases b3 : decide ((cl.length : Int) < 40) with
       | false =>
        simp (maxSteps := 4000000) only [sG, seval, x45, stU, b45, Tryz.f45, encN, ci, pnE, pnF, dN, cW, List.length_map, Bool.not_true, Bool.not_false, Bool.true_or, Bool.false_or, Bool.true_and, Bool.false_and, Bool.and_false, decide_true, cond_true, cond_false, show decide ((7 : Int) = 1) = false from rfl, show decide ((7 : Int) = 2) = false from rfl, show decide ((7 : Int) = 3) = false from rfl, show decide ((7 : Int) = 4) = false from rfl, show decide ((7 : Int) = 5) = false from rfl, show decide ((7 : Int) = 6) = false from rfl, o1, o2, o4, o5, b1, b2, b3]
        try rfl
       | true =>
        cases b4 : cl.all (fun x => colB x (rwideN l)) with
        | false =>
         simp only [b4] at cI
         simp (maxSteps := 4000000) only [sG, seval, x45, stU, b45, Tryz.f45, encN, ci, pnE, pnF, dN, cW, List.length_map, Bool.not_true, Bool.not_false, Bool.true_or, Bool.false_or, Bool.true_and, Bool.false_and, Bool.and_false, decide_true, cond_true, cond_false, show decide ((7 : Int) = 1) = false from rfl, show decide ((7 : Int) = 2) = false from rfl, show decide ((7 : Int) = 3) = false from rfl, show decide ((7 : Int) = 4) = false from rfl, show decide ((7 : Int) = 5) = false from rfl, show decide ((7 : Int) = 6) = false from rfl, o1, o2, o4, o5, b1, b2, b3, b4, cI]
         try rfl
        | true =>
         simp only [b4] at cI
         cases b5 : decide (ag <= 4) with
         | false =>
          simp (maxSteps := 4000000) only [sG, seval, x45, stU, b45, Tryz.f45, encN, ci, pnE, pnF, dN, cW, List.length_map, Bool.not_true, Bool.not_false, Bool.true_or, Bool.false_or, Bool.true_and, Bool.false_and, Bool.and_false, decide_true, cond_true, cond_false, show decide ((7 : Int) = 1) = false from rfl, show decide ((7 : Int) = 2) = false from rfl, show decide ((7 : Int) = 3) = false from rfl, show decide ((7 : Int) = 4) = false from rfl, show decide ((7 : Int) = 5) = false from rfl, show decide ((7 : Int) = 6) = false from rfl, o1, o2, o4, o5, b1, b2, b3, b4, b5, cI]
          try rfl
         | true =>
          simp (maxSteps := 4000000) only [sG, seval, x45, stU, b45, Tryz.f45, encN, ci, pnE, pnF, dN, cW, List.length_map, Bool.not_true, Bool.not_false, Bool.true_or, Bool.false_or, Bool.true_and, Bool.false_and, Bool.and_false, decide_true, cond_true, cond_false, show decide ((7 : Int) = 1) = false from rfl, show decide ((7 : Int) = 2) = false from rfl, show decide ((7 : Int) = 3) = false from rfl, show decide ((7 : Int) = 4) = false from rfl, show decide ((7 : Int) = 5) = false from rfl, show decide ((7 : Int) = 6) = false from rfl, o1, o2, o4, o5, b1, b2, b3, b4, b5, cI, cE]
          try rfl
  | true =>
   cases o3 : decide (2 <= ag) with
   | false =>
    cases o4 : decide (of = 0) with
    | false =>
     cases b1 : isNil l with
     | true =>
      simp (maxSteps := 4000000) only [sG, seval, x45, stU, b45, Tryz.f45, encN, ci, pnE, pnF, dN, cW, List.length_map, Bool.not_true, Bool.not_false, Bool.true_or, Bool.false_or, Bool.true_and, Bool.false_and, Bool.and_false, decide_true, cond_true, cond_false, show decide ((7 : Int) = 1) = false from rfl, show decide ((7 : Int) = 2) = false from rfl, show decide ((7 : Int) = 3) = false from rfl, show decide ((7 : Int) = 4) = false from rfl, show decide ((7 : Int) = 5) = false from rfl, show decide ((7 : Int) = 6) = false from rfl, o1, o2, o3, o4, b1]
      try rfl
     | false =>
      cases b2 : isNil r with
      | false =>
       simp (maxSteps := 4000000) only [sG, seval, x45, stU, b45, Tryz.f45, encN, ci, pnE, pnF, dN, cW, List.length_map, Bool.not_true, Bool.not_false, Bool.true_or, Bool.false_or, Bool.true_and, Bool.false_and, Bool.and_false, decide_true, cond_true, cond_false, show decide ((7 : Int) = 1) = false from rfl, show decide ((7 : Int) = 2) = false from rfl, show decide ((7 : Int) = 3) = false from rfl, show decide ((7 : Int) = 4) = false from rfl, show decide ((7 : Int) = 5) = false from rfl, show decide ((7 : Int) = 6) = false from rfl, o1, o2, o3, o4, b1, b2]
       try rfl
      | true =>
       cases b3 : decide ((cl.length : Int) < 40) with
       | false =>
        simp (maxSteps := 4000000) only [sG, seval, x45, stU, b45, Tryz.f45, encN, ci, pnE, pnF, dN, cW, List.length_map, Bool.not_true, Bool.not_false, Bool.true_or, Bool.false_or, Bool.true_and, Bool.false_and, Bool.and_false, decide_true, cond_true, cond_false, show decide ((7 : Int) = 1) = false from rfl, show decide ((7 : Int) = 2) = false from rfl, show decide ((7 : Int) = 3) = false from rfl, show decide ((7 : Int) = 4) = false from rfl, show decide ((7 : Int) = 5) = false from rfl, show decide ((7 : Int) = 6) = false from rfl, o1, o2, o3, o4, b1, b2, b3]
        try rfl
       | true =>
        cases b4 : cl.all (fun x => colB x (rwideN l)) with
        | false =>
         simp only [b4] at cI
         simp (maxSteps := 4000000) only [sG, seval, x45, stU, b45, Tryz.f45, encN, ci, pnE, pnF, dN, cW, List.length_map, Bool.not_true, Bool.not_false, Bool.true_or, Bool.false_or, Bool.true_and, Bool.false_and, Bool.and_false, decide_true, cond_true, cond_false, show decide ((7 : Int) = 1) = false from rfl, show decide ((7 : Int) = 2) = false from rfl, show decide ((7 : Int) = 3) = false from rfl, show decide ((7 : Int) = 4) = false from rfl, show decide ((7 : Int) = 5) = false from rfl, show decide ((7 : Int) = 6) = false from rfl, o1, o2, o3, o4, b1, b2, b3, b4, cI]
         try rfl
        | true =>
         simp only [b4] at cI
         cases b5 : decide (ag <= 4) with
         | false =>
          simp (maxSteps := 4000000) only [sG, seval, x45, stU, b45, Tryz.f45, encN, ci, pnE, pnF, dN, cW, List.length_map, Bool.not_true, Bool.not_false, Bool.true_or, Bool.false_or, Bool.true_and, Bool.false_and, Bool.and_false, decide_true, cond_true, cond_false, show decide ((7 : Int) = 1) = false from rfl, show decide ((7 : Int) = 2) = false from rfl, show decide ((7 : Int) = 3) = false from rfl, show decide ((7 : Int) = 4) = false from rfl, show decide ((7 : Int) = 5) = false from rfl, show decide ((7 : Int) = 6) = false from rfl, o1, o2, o3, o4, b1, b2, b3, b4, b5, cI]
          try rfl
         | true =>
          simp (maxSteps := 4000000) only [sG, seval, x45, stU, b45, Tryz.f45, encN, ci, pnE, pnF, dN, cW, List.length_map, Bool.not_true, Bool.not_false, Bool.true_or, Bool.false_or, Bool.true_and, Bool.false_and, Bool.and_false, decide_true, cond_true, cond_false, show decide ((7 : Int) = 1) = false from rfl, show decide ((7 : Int) = 2) = false from rfl, show decide ((7 : Int) = 3) = false from rfl, show decide ((7 : Int) = 4) = false from rfl, show decide ((7 : Int) = 5) = false from rfl, show decide ((7 : Int) = 6) = false from rfl, o1, o2, o3, o4, b1, b2, b3, b4, b5, cI, cE]
          try rfl
    | true =>
     cases o5 : decide (ag = 1) with
     | false =>
      cases b1 : isNil l with
      | true =>
       simp (maxSteps := 4000000) only [sG, seval, x45, stU, b45, Tryz.f45, encN, ci, pnE, pnF, dN, cW, List.length_map, Bool.not_true, Bool.not_false, Bool.true_or, Bool.false_or, Bool.true_and, Bool.false_and, Bool.and_false, decide_true, cond_true, cond_false, show decide ((7 : Int) = 1) = false from rfl, show decide ((7 : Int) = 2) = false from rfl, show decide ((7 : Int) = 3) = false from rfl, show decide ((7 : Int) = 4) = false from rfl, show decide ((7 : Int) = 5) = false from rfl, show decide ((7 : Int) = 6) = false from rfl, o1, o2, o3, o4, o5, b1]
       try rfl
      | false =>
       cases b2 : isNil r with
       | false =>
        simp (maxSteps := 4000000) only [sG, seval, x45, stU, b45, Tryz.f45, encN, ci, pnE, pnF, dN, cW, List.length_map, Bool.not_true, Bool.not_false, Bool.true_or, Bool.false_or, Bool.true_and, Bool.false_and, Bool.and_false, decide_true, cond_true, cond_false, show decide ((7 : Int) = 1) = false from rfl, show decide ((7 : Int) = 2) = false from rfl, show decide ((7 : Int) = 3) = false from rfl, show decide ((7 : Int) = 4) = false from rfl, show decide ((7 : Int) = 5) = false from rfl, show decide ((7 : Int) = 6) = false from rfl, o1, o2, o3, o4, o5, b1, b2]
        try rfl
       | true =>
        cases b3 : decide ((cl.length : Int) < 40) with
        | false =>
         simp (maxSteps := 4000000) only [sG, seval, x45, stU, b45, Tryz.f45, encN, ci, pnE, pnF, dN, cW, List.length_map, Bool.not_true, Bool.not_false, Bool.true_or, Bool.false_or, Bool.true_and, Bool.false_and, Bool.and_false, decide_true, cond_true, cond_false, show decide ((7 : Int) = 1) = false from rfl, show decide ((7 : Int) = 2) = false from rfl, show decide ((7 : Int) = 3) = false from rfl, show decide ((7 : Int) = 4) = false from rfl, show decide ((7 : Int) = 5) = false from rfl, show decide ((7 : Int) = 6) = false from rfl, o1, o2, o3, o4, o5, b1, b2, b3]
         try rfl
        | true =>
         cases b4 : cl.all (fun x => colB x (rwideN l)) with
         | false =>
          simp only [b4] at cI
          simp (maxSteps := 4000000) only [sG, seval, x45, stU, b45, Tryz.f45, encN, ci, pnE, pnF, dN, cW, List.length_map, Bool.not_true, Bool.not_false, Bool.true_or, Bool.false_or, Bool.true_and, Bool.false_and, Bool.and_false, decide_true, cond_true, cond_false, show decide ((7 : Int) = 1) = false from rfl, show decide ((7 : Int) = 2) = false from rfl, show decide ((7 : Int) = 3) = false from rfl, show decide ((7 : Int) = 4) = false from rfl, show decide ((7 : Int) = 5) = false from rfl, show decide ((7 : Int) = 6) = false from rfl, o1, o2, o3, o4, o5, b1, b2, b3, b4, cI]
          try rfl
         | true =>
          simp only [b4] at cI
          cases b5 : decide (ag <= 4) with
          | false =>
           simp (maxSteps := 4000000) only [sG, seval, x45, stU, b45, Tryz.f45, encN, ci, pnE, pnF, dN, cW, List.length_map, Bool.not_true, Bool.not_false, Bool.true_or, Bool.false_or, Bool.true_and, Bool.false_and, Bool.and_false, decide_true, cond_true, cond_false, show decide ((7 : Int) = 1) = false from rfl, show decide ((7 : Int) = 2) = false from rfl, show decide ((7 : Int) = 3) = false from rfl, show decide ((7 : Int) = 4) = false from rfl, show decide ((7 : Int) = 5) = false from rfl, show decide ((7 : Int) = 6) = false from rfl, o1, o2, o3, o4, o5, b1, b2, b3, b4, b5, cI]
           try rfl
          | true =>
           simp (maxSteps := 4000000) only [sG, seval, x45, stU, b45, Tryz.f45, encN, ci, pnE, pnF, dN, cW, List.length_map, Bool.not_true, Bool.not_false, Bool.true_or, Bool.false_or, Bool.true_and, Bool.false_and, Bool.and_false, decide_true, cond_true, cond_false, show decide ((7 : Int) = 1) = false from rfl, show decide ((7 : Int) = 2) = false from rfl, show decide ((7 : Int) = 3) = false from rfl, show decide ((7 : Int) = 4) = false from rfl, show decide ((7 : Int) = 5) = false from rfl, show decide ((7 : Int) = 6) = false from rfl, o1, o2, o3, o4, o5, b1, b2, b3, b4, b5, cI, cE]
           try rfl
     | true =>
      cases b1 : isNil l with
      | true =>
       simp (maxSteps := 4000000) only [sG, seval, x45, stU, b45, Tryz.f45, encN, ci, pnE, pnF, dN, cW, List.length_map, Bool.not_true, Bool.not_false, Bool.true_or, Bool.false_or, Bool.true_and, Bool.false_and, Bool.and_false, decide_true, cond_true, cond_false, show decide ((7 : Int) = 1) = false from rfl, show decide ((7 : Int) = 2) = false from rfl, show decide ((7 : Int) = 3) = false from rfl, show decide ((7 : Int) = 4) = false from rfl, show decide ((7 : Int) = 5) = false from rfl, show decide ((7 : Int) = 6) = false from rfl, o1, o2, o3, o4, o5, b1]
       try rfl
      | false =>
       cases b2 : isNil r with
       | false =>
        simp (maxSteps := 4000000) only [sG, seval, x45, stU, b45, Tryz.f45, encN, ci, pnE, pnF, dN, cW, List.length_map, Bool.not_true, Bool.not_false, Bool.true_or, Bool.false_or, Bool.true_and, Bool.false_and, Bool.and_false, decide_true, cond_true, cond_false, show decide ((7 : Int) = 1) = false from rfl, show decide ((7 : Int) = 2) = false from rfl, show decide ((7 : Int) = 3) = false from rfl, show decide ((7 : Int) = 4) = false from rfl, show decide ((7 : Int) = 5) = false from rfl, show decide ((7 : Int) = 6) = false from rfl, o1, o2, o3, o4, o5, b1, b2]
        try rfl
       | true =>
        cases b3 : decide ((cl.length : Int) < 40) with
        | false =>
         simp (maxSteps := 4000000) only [sG, seval, x45, stU, b45, Tryz.f45, encN, ci, pnE, pnF, dN, cW, List.length_map, Bool.not_true, Bool.not_false, Bool.true_or, Bool.false_or, Bool.true_and, Bool.false_and, Bool.and_false, decide_true, cond_true, cond_false, show decide ((7 : Int) = 1) = false from rfl, show decide ((7 : Int) = 2) = false from rfl, show decide ((7 : Int) = 3) = false from rfl, show decide ((7 : Int) = 4) = false from rfl, show decide ((7 : Int) = 5) = false from rfl, show decide ((7 : Int) = 6) = false from rfl, o1, o2, o3, o4, o5, b1, b2, b3]
         try rfl
        | true =>
         cases b4 : cl.all (fun x => colB x (rwideN l)) with
         | false =>
          simp only [b4] at cI
          simp (maxSteps := 4000000) only [sG, seval, x45, stU, b45, Tryz.f45, encN, ci, pnE, pnF, dN, cW, List.length_map, Bool.not_true, Bool.not_false, Bool.true_or, Bool.false_or, Bool.true_and, Bool.false_and, Bool.and_false, decide_true, cond_true, cond_false, show decide ((7 : Int) = 1) = false from rfl, show decide ((7 : Int) = 2) = false from rfl, show decide ((7 : Int) = 3) = false from rfl, show decide ((7 : Int) = 4) = false from rfl, show decide ((7 : Int) = 5) = false from rfl, show decide ((7 : Int) = 6) = false from rfl, o1, o2, o3, o4, o5, b1, b2, b3, b4, cI]
          try rfl
         | true =>
          simp only [b4] at cI
          cases b5 : decide (ag <= 4) with
          | false =>
           simp (maxSteps := 4000000) only [sG, seval, x45, stU, b45, Tryz.f45, encN, ci, pnE, pnF, dN, cW, List.length_map, Bool.not_true, Bool.not_false, Bool.true_or, Bool.false_or, Bool.true_and, Bool.false_and, Bool.and_false, decide_true, cond_true, cond_false, show decide ((7 : Int) = 1) = false from rfl, show decide ((7 : Int) = 2) = false from rfl, show decide ((7 : Int) = 3) = false from rfl, show decide ((7 : Int) = 4) = false from rfl, show decide ((7 : Int) = 5) = false from rfl, show decide ((7 : Int) = 6) = false from rfl, o1, o2, o3, o4, o5, b1, b2, b3, b4, b5, cI]
           try rfl
          | true =>
           simp (maxSteps := 4000000) only [sG, seval, x45, stU, b45, Tryz.f45, encN, ci, pnE, pnF, dN, cW, List.length_map, Bool.not_true, Bool.not_false, Bool.true_or, Bool.false_or, Bool.true_and, Bool.false_and, Bool.and_false, decide_true, cond_true, cond_false, show decide ((7 : Int) = 1) = false from rfl, show decide ((7 : Int) = 2) = false from rfl, show decide ((7 : Int) = 3) = false from rfl, show decide ((7 : Int) = 4) = false from rfl, show decide ((7 : Int) = 5) = false from rfl, show decide ((7 : Int) = 6) = false from rfl, o1, o2, o3, o4, o5, b1, b2, b3, b4, b5, cI, cE]
           try rfl
   | true =>
    cases b1 : isNil l with
    | true =>
     simp (maxSteps := 4000000) only [sG, seval, x45, stU, b45, Tryz.f45, encN, ci, pnE, pnF, dN, cW, List.length_map, Bool.not_true, Bool.not_false, Bool.true_or, Bool.false_or, Bool.true_and, Bool.false_and, Bool.and_false, decide_true, cond_true, cond_false, show decide ((7 : Int) = 1) = false from rfl, show decide ((7 : Int) = 2) = false from rfl, show decide ((7 : Int) = 3) = false from rfl, show decide ((7 : Int) = 4) = false from rfl, show decide ((7 : Int) = 5) = false from rfl, show decide ((7 : Int) = 6) = false from rfl, o1, o2, o3, b1]
     try rfl
    | false =>
     cases b2 : isNil r with
     | false =>
      simp (maxSteps := 4000000) only [sG, seval, x45, stU, b45, Tryz.f45, encN, ci, pnE, pnF, dN, cW, List.length_map, Bool.not_true, Bool.not_false, Bool.true_or, Bool.false_or, Bool.true_and, Bool.false_and, Bool.and_false, decide_true, cond_true, cond_false, show decide ((7 : Int) = 1) = false from rfl, show decide ((7 : Int) = 2) = false from rfl, show decide ((7 : Int) = 3) = false from rfl, show decide ((7 : Int) = 4) = false from rfl, show decide ((7 : Int) = 5) = false from rfl, show decide ((7 : Int) = 6) = false from rfl, o1, o2, o3, b1, b2]
      try rfl
     | true =>
      cases b3 : decide ((cl.length : Int) < 40) with
      | false =>
       simp (maxSteps := 4000000) only [sG, seval, x45, stU, b45, Tryz.f45, encN, ci, pnE, pnF, dN, cW, List.length_map, Bool.not_true, Bool.not_false, Bool.true_or, Bool.false_or, Bool.true_and, Bool.false_and, Bool.and_false, decide_true, cond_true, cond_false, show decide ((7 : Int) = 1) = false from rfl, show decide ((7 : Int) = 2) = false from rfl, show decide ((7 : Int) = 3) = false from rfl, show decide ((7 : Int) = 4) = false from rfl, show decide ((7 : Int) = 5) = false from rfl, show decide ((7 : Int) = 6) = false from rfl, o1, o2, o3, b1, b2, b3]
       try rfl
      | true =>
       cases b4 : cl.all (fun x => colB x (rwideN l)) with
       | false =>
        simp only [b4] at cI
        simp (maxSteps := 4000000) only [sG, seval, x45, stU, b45, Tryz.f45, encN, ci, pnE, pnF, dN, cW, List.length_map, Bool.not_true, Bool.not_false, Bool.true_or, Bool.false_or, Bool.true_and, Bool.false_and, Bool.and_false, decide_true, cond_true, cond_false, show decide ((7 : Int) = 1) = false from rfl, show decide ((7 : Int) = 2) = false from rfl, show decide ((7 : Int) = 3) = false from rfl, show decide ((7 : Int) = 4) = false from rfl, show decide ((7 : Int) = 5) = false from rfl, show decide ((7 : Int) = 6) = false from rfl, o1, o2, o3, b1, b2, b3, b4, cI]
        try rfl
       | true =>
        simp only [b4] at cI
        cases b5 : decide (ag <= 4) with
        | false =>
         simp (maxSteps := 4000000) only [sG, seval, x45, stU, b45, Tryz.f45, encN, ci, pnE, pnF, dN, cW, List.length_map, Bool.not_true, Bool.not_false, Bool.true_or, Bool.false_or, Bool.true_and, Bool.false_and, Bool.and_false, decide_true, cond_true, cond_false, show decide ((7 : Int) = 1) = false from rfl, show decide ((7 : Int) = 2) = false from rfl, show decide ((7 : Int) = 3) = false from rfl, show decide ((7 : Int) = 4) = false from rfl, show decide ((7 : Int) = 5) = false from rfl, show decide ((7 : Int) = 6) = false from rfl, o1, o2, o3, b1, b2, b3, b4, b5, cI]
         try rfl
        | true =>
         simp (maxSteps := 4000000) only [sG, seval, x45, stU, b45, Tryz.f45, encN, ci, pnE, pnF, dN, cW, List.length_map, Bool.not_true, Bool.not_false, Bool.true_or, Bool.false_or, Bool.true_and, Bool.false_and, Bool.and_false, decide_true, cond_true, cond_false, show decide ((7 : Int) = 1) = false from rfl, show decide ((7 : Int) = 2) = false from rfl, show decide ((7 : Int) = 3) = false from rfl, show decide ((7 : Int) = 4) = false from rfl, show decide ((7 : Int) = 5) = false from rfl, show decide ((7 : Int) = 6) = false from rfl, o1, o2, o3, b1, b2, b3, b4, b5, cI, cE]
         try rfl
theorem eqOne0 (z1 : decide (k = 1) = false) (z2 : decide (k = 2) = false) (z3 : decide (k = 3) = false) (z4 : decide (k = 4) = false) (z5 : decide (k = 5) = false) (z6 : decide (k = 6) = false) (z7 : decide (k = 7) = false) : iso tab fi45 m [encN (.mk k nm w cs ps cl ag of l r)] = some (.lit (.bool (roneB k nm w cs ps cl ag of l r))) := by
 refine iso_ret ?_
 have cW := fun m n H hs => @cRWide n m H hs
 unfold roneB
 cases b1 : isNil l with
 | true => simp (maxSteps := 4000000) only [sG, seval, x45, stU, b45, Tryz.f45, encN, ci, pnE, pnF, dN, cW, List.length_map, Bool.not_true, Bool.not_false, Bool.true_or, Bool.false_or, Bool.true_and, Bool.false_and, Bool.and_false, decide_true, cond_true, cond_false,  z1, z2, z3, z4, z5, z6, z7, b1]
 | false => cases b2 : isNil r <;> simp (maxSteps := 4000000) only [sG, seval, x45, stU, b45, Tryz.f45, encN, ci, pnE, pnF, dN, cW, List.length_map, Bool.not_true, Bool.not_false, Bool.true_or, Bool.false_or, Bool.true_and, Bool.false_and, Bool.and_false, decide_true, cond_true, cond_false,  z1, z2, z3, z4, z5, z6, z7, b1, b2]
theorem loopOne2 {gl : Tr (Option AV)} {sd : Bool} (hc : cs.length < 1000000) : ∀ (j i : Nat) (t : Tr AV) (H : Tr AO) (hs : Nat), i + j = cs.length ->
  t.get .any 0 = encN (.mk 2 nm w cs ps cl ag of l r) -> t.get .any 3 = .lit (.int .i64 (rwideN l)) -> t.get .any 5 = .lit (.bool sd) -> t.get .any 6 = .lit (.int .i64 i) ->
  RetN (W tab none (fin tab fi45) (lpc fi45 0) (lpk fi45 0) ⟨t, 272, H, hs, [], ⟨true, true, gl⟩⟩) (.lit (.bool (bif (cs.drop i).all (fun x => condB x (rwideN l)) then sd && (decide ((0 : Int) < cs.length) && emptyB false true false false false nm w cs ps cl ag of) else false))) := by
 simp only [stU, stC, b45, Tryz.f45]
 intro j
 induction j with
 | zero =>
  intro i t H hs hi a0 a3 a5 a6
  have e1 : decide ((i : Int) < (cs).length) = false := dcF (by omega)
  have cE := fun m H hs => @cEmpty2 m 2 nm w cs ps cl ag of l r H hs
  simp only [encN, ci] at cE
  generalize hE : emptyB false true false false false nm w cs ps cl ag of = e at cE
  rw [W_loop, List.drop_of_length_le (by omega), List.all_nil, cond_true]
  cases sd with
  | false => simp (maxSteps := 4000000) only [sG, seval, x45, stU, b45, Tryz.f45, encN, ci, a0, a3, a5, a6, e1, List.length_map, Bool.false_and]
  | true =>
   cases b1 : decide ((0 : Int) < cs.length) with
   | false => simp (maxSteps := 4000000) only [sG, seval, x45, stU, b45, Tryz.f45, encN, ci, a0, a3, a5, a6, e1, b1, List.length_map, Bool.false_and, Bool.true_and]
   | true => simp (maxSteps := 4000000) only [sG, seval, x45, stU, b45, Tryz.f45, encN, ci, a0, a3, a5, a6, e1, b1, cE, List.length_map, Bool.false_and, Bool.true_and]
 | succ j ih =>
  intro i t H hs hi a0 a3 a5 a6
  have hlt : i < (cs).length := by omega
  obtain ⟨c, hv, e1, e3, e4, e6, e7⟩ := atS hlt
  have e5 := wrap_succ (i := i) (by omega)
  have cC := fun m H hs => @cRCond m c (rwideN l) H hs
  simp only [encC, ci, Vl.cs] at cC
  rw [W_loop, e6, List.all_cons]
  cases h1 : condB c (rwideN l) with
  | false =>
   simp only [h1] at cC
   simp (maxSteps := 4000000) only [sG, seval, x45, stU, b45, Tryz.f45, encN, encC, ci, Vl.cs, a0, a3, a5, a6, e1, e3, e4, e5, lG, cC, Bool.not_false, Bool.false_and, cond_false]
  | true =>
   simp only [h1] at cC
   simp (maxSteps := 4000000) only [sG, seval, x45, stU, b45, Tryz.f45, encN, encC, ci, Vl.cs, a0, a3, a5, a6, e1, e3, e4, e5, lG, cC, Bool.not_true, Bool.true_and]
   apply ih (i + 1) _ _ _ (by omega)
   all_goals simp only [sG, seval, encN, ci, a0, a3, a5, a6]
theorem eqOne2 (hn : nm.length < 1000000) (hc : cs.length < 1000000) (hp : ps.length < 1000000) (hl : cl.length < 1000000) : iso tab fi45 m [encN (.mk 2 nm w cs ps cl ag of l r)] = some (.lit (.bool (roneB 2 nm w cs ps cl ag of l r))) := by
 refine iso_ret ?_
 have cW := fun m n H hs => @cRWide n m H hs
 unfold roneB
 have L := fun sd => @loopOne2 nm w cs ps cl ag of l r m.gl sd hc cs.length 0
 simp only [stU, stC, b45, Tryz.f45, List.drop_zero] at L
 simp only [show decide ((2 : Int) = 1) = false from rfl, decide_true, cond_true, cond_false]
 cases b1 : isNil l with
 | true =>
  simp (maxSteps := 4000000) only [sG, seval, x45, stU, b45, Tryz.f45, encN, ci, pnE, pnF, dN, cW, List.length_map, Bool.not_true, Bool.not_false, Bool.true_or, Bool.false_or, Bool.true_and, Bool.false_and, Bool.and_false, decide_true, cond_true, cond_false,  show decide ((2 : Int) = 1) = false from rfl, show decide ((2 : Int) = 3) = false from rfl, show decide ((2 : Int) = 4) = false from rfl, show decide ((2 : Int) = 5) = false from rfl, show decide ((2 : Int) = 6) = false from rfl, show decide ((2 : Int) = 7) = false from rfl, b1]
  apply L false
  ·simp
  all_goals simp only [sG, seval, encN, ci]
  all_goals try rfl
 | false =>
  cases b2 : isNil r with
  | false =>
   simp (maxSteps := 4000000) only [sG, seval, x45, stU, b45, Tryz.f45, encN, ci, pnE, pnF, dN, cW, List.length_map, Bool.not_true, Bool.not_false, Bool.true_or, Bool.false_or, Bool.true_and, Bool.false_and, Bool.and_false, decide_true, cond_true, cond_false,  show decide ((2 : Int) = 1) = false from rfl, show decide ((2 : Int) = 3) = false from rfl, show decide ((2 : Int) = 4) = false from rfl, show decide ((2 : Int) = 5) = false from rfl, show decide ((2 : Int) = 6) = false from rfl, show decide ((2 : Int) = 7) = false from rfl, b1, b2]
   apply L false
   ·simp
   all_goals simp only [sG, seval, encN, ci]
   all_goals try rfl
  | true =>
   simp (maxSteps := 4000000) only [sG, seval, x45, stU, b45, Tryz.f45, encN, ci, pnE, pnF, dN, cW, List.length_map, Bool.not_true, Bool.not_false, Bool.true_or, Bool.false_or, Bool.true_and, Bool.false_and, Bool.and_false, decide_true, cond_true, cond_false,  show decide ((2 : Int) = 1) = false from rfl, show decide ((2 : Int) = 3) = false from rfl, show decide ((2 : Int) = 4) = false from rfl, show decide ((2 : Int) = 5) = false from rfl, show decide ((2 : Int) = 6) = false from rfl, show decide ((2 : Int) = 7) = false from rfl, b1, b2]
   apply L true
   ·simp
   all_goals simp only [sG, seval, encN, ci]
   all_goals try rfl
theorem cOne (hn : nm.length < 1000000) (hc : cs.length < 1000000) (hp : ps.length < 1000000) (hl : cl.length < 1000000) {H : Tr AO} {hs : Nat} : callF tab (evw tab) m 45 [encN (.mk k nm w cs ps cl ag of l r)] H hs = some (.lit (.bool (roneB k nm w cs ps cl ag of l r)), H, hs) := by
 refine callF_iso tcon rfl rfl (by simp only [bares, bare_N]; rfl) ?_
 simp only [nrms, nrm_N]
 by_cases h1 : k = 1
 ·subst h1; exact eqOne1 hn hc hp hl
 by_cases h2 : k = 2
 ·subst h2; exact eqOne2 hn hc hp hl
 by_cases h3 : k = 3
 ·subst h3; exact eqOne3 hn hc hp hl
 by_cases h4 : k = 4
 ·subst h4; exact eqOne4 hn hc hp hl
 by_cases h5 : k = 5
 ·subst h5; exact eqOne5 hn hc hp hl
 by_cases h6 : k = 6
 ·subst h6; exact eqOne6 hn hc hp hl
 by_cases h7 : k = 7
 ·subst h7; exact eqOne7 hn hc hp hl
 exact eqOne0 (decide_eq_false h1) (decide_eq_false h2) (decide_eq_false h3) (decide_eq_false h4) (decide_eq_false h5) (decide_eq_false h6) (decide_eq_false h7)
end Go.Proofs.YtcledcfeddlomaaGreatDoor.Ev
namespace Go.Proofs.YtcledcfeddlomaaGreatDoor.Ev
open Go Go.Proofs.YtcledcfeddlomaaGreatDoor.Ev Go.Proofs Go.Proofs.YtcledcfeddlomaaGreatDoor Go.Proofs.YtcledcfeddlomaaGreatDoor.Tab
def reachB : Nd -> Bool
 | .nil => true
 | .mk k nm w cs ps cl ag of l r => reachB l && (reachB r && roneB k nm w cs ps cl ag of l r)
theorem eqREach : ∀ (n : Nd) (m : Md), shortN n -> iso tab fi27 m [encN n] = some (.lit (.bool (reachB n))) := by
 intro n
 induction n with
 | nil =>
  intro m _
  refine iso_ret ?_
  simp only [sG, seval, x27, stU, b27, Tryz.f27, encN, reachB, dPN]
 | mk k nm w cs ps cl ag of l r ihl ihr =>
  intro m ⟨s1, s2, s3, s4, sl, sr⟩
  refine iso_ret ?_
  have c1 : ∀ m' H hs, callF tab (evw tab) m' 27 [encN l] H hs = some (.lit (.bool (reachB l)), H, hs) := fun m' H hs =>
   callF_iso tcon rfl rfl (by simp only [bares, bare_N]; rfl) (by simp only [nrms, nrm_N]; exact ihl m' sl)
  have c2 : ∀ m' H hs, callF tab (evw tab) m' 27 [encN r] H hs = some (.lit (.bool (reachB r)), H, hs) := fun m' H hs =>
   callF_iso tcon rfl rfl (by simp only [bares, bare_N]; rfl) (by simp only [nrms, nrm_N]; exact ihr m' sr)
  have c3 := fun m H hs => @cOne m k nm w cs ps cl ag of l r s1 s2 s3 s4 H hs
  simp only [encN] at c3
  rw [reachB]
  cases h1 : reachB l with
  | false => simp only [h1] at c1; simp (maxSteps := 4000000) only [sG, seval, x27, stU, b27, Tryz.f27, encN, dPN, dN, c1, Bool.false_and]
  | true =>
   simp only [h1] at c1
   cases h2 : reachB r with
   | false => simp only [h2] at c2; simp (maxSteps := 4000000) only [sG, seval, x27, stU, b27, Tryz.f27, encN, dPN, dN, c1, c2, Bool.true_and, Bool.false_and]
   | true =>
    simp only [h2] at c2
    simp (maxSteps := 4000000) only [sG, seval, x27, stU, b27, Tryz.f27, encN, dPN, dN, c1, c2, c3, Bool.true_and]
theorem cREach {n : Nd} {m : Md} {H : Tr AO} {hs : Nat} (h : shortN n) : callF tab (evw tab) m 27 [encN n] H hs = some (.lit (.bool (reachB n)), H, hs) :=
 callF_iso tcon rfl rfl (by simp only [bares, bare_N]; rfl) (by simp only [nrms, nrm_N]; exact eqREach n m h)
def rrightN (n : Nd) : Bool := !isNil n && (decide (rfewN n 400 <= 400) && reachB n)
theorem eqRRightN {m : Md} {n : Nd} (h : shortN n) : iso tab fi12 m [encN n] = some (.lit (.bool (rrightN n))) := by
 refine iso_ret ?_
 unfold rrightN
 have c1 := fun m H hs => @cRFew n m 400 H hs (by omega) (by omega)
 have c2 := fun m H hs => @cREach n m H hs h
 cases n with
 | nil => simp (maxSteps := 4000000) only [sG, seval, x12, stU, b12, Tryz.f12, encN, isNil, dPN, Bool.not_true, Bool.false_and]
 | mk k nm w cs ps cl ag of l r =>
  generalize hx : rfewN (.mk k nm w cs ps cl ag of l r) 400 = x at c1
  generalize hy : reachB (.mk k nm w cs ps cl ag of l r) = y at c2
  simp only [encN] at c1 c2
  cases h1 : decide (x <= 400) <;> simp (maxSteps := 4000000) only [sG, seval, x12, stU, b12, Tryz.f12, encN, isNil, dPN, h1, c1, c2, Bool.not_false, Bool.true_and, Bool.false_and]
theorem cRRightN {m : Md} {n : Nd} {H : Tr AO} {hs : Nat} (h : shortN n) : callF tab (evw tab) m 12 [encN n] H hs = some (.lit (.bool (rrightN n)), H, hs) :=
 callF_iso tcon rfl rfl (by simp only [bares, bare_N]; rfl) (by simp only [nrms, nrm_N]; exact eqRRightN h)
theorem fewN_eq : ∀ (n : Nd) (x : Int), -1 <= x -> fewN n x = max (-1) (x - cntN n)
 | .nil, x, h => by simp only [fewN, cntN]; omega
 | .mk k nm w cs ps cl ag of l r, x, h => by
  rw [fewN, cntN]
  by_cases hx : x < 0
  ·rw [decide_eq_true hx, cond_true]; omega
  ·rw [decide_eq_false hx, cond_false, fewN_eq l (x - 1) (by omega), fewN_eq r _ (by omega)]
   omega
theorem rfewN_eq : ∀ (n : Nd) (x : Int), -1 <= x -> rfewN n x = min ((cntN n : Nat) : Int) (x + 1)
 | .nil, x, h => by simp only [rfewN, cntN]; omega
 | .mk k nm w cs ps cl ag of l r, x, h => by
  rw [rfewN, cntN]
  by_cases hx : x < 0
  ·rw [decide_eq_true hx, cond_true]; omega
  ·have h1 := rfewN_eq l (x - 1) (by omega)
   have h2 := rfewN_eq r (x - (1 + rfewN l (x - 1))) (by omega)
   rw [decide_eq_false hx, cond_false]
   omega
def okK : Nd -> Prop
 | .nil => True
 | .mk k _ _ _ _ _ _ _ l r => k17 k /\ okK l /\ okK r
theorem wide_eq : ∀ {n : Nd}, okK n -> rwideN n = wideN n
 | .nil, _ => rfl
 | .mk k nm w cs ps cl ag of l r, ⟨hk, hl, hr⟩ => by
  have h1 := wide_eq hl
  have h2 := wide_eq hr
  rw [rwideN, wideN, h1, h2]
  rcases hk with rfl | rfl | rfl | rfl | rfl | rfl | rfl <;> rfl
theorem each_okK : ∀ {n : Nd}, eachB n = true -> okK n
 | .nil, _ => trivial
 | .mk k nm w cs ps cl ag of l r, h => by
  obtain ⟨h1, h2, _, h4, _⟩ := each_inv h
  exact ⟨h4, each_okK h1, each_okK h2⟩
theorem roneB_k {k : Int} {nm : List UInt8} {w : Int} {cs : List Cd} {ps : List (Int × Int)} {cl : List Int} {ag of : Int} {l r : Nd} (h : roneB k nm w cs ps cl ag of l r = true) : k17 k := by
 unfold roneB at h
 unfold k17
 by_cases h1 : k = 1
 ·exact .inl h1
 by_cases h2 : k = 2
 ·exact .inr (.inl h2)
 by_cases h3 : k = 3
 ·exact .inr (.inr (.inl h3))
 by_cases h4 : k = 4
 ·exact .inr (.inr (.inr (.inl h4)))
 by_cases h5 : k = 5
 ·exact .inr (.inr (.inr (.inr (.inl h5))))
 by_cases h6 : k = 6
 ·exact .inr (.inr (.inr (.inr (.inr (.inl h6)))))
 by_cases h7 : k = 7
 ·exact .inr (.inr (.inr (.inr (.inr (.inr h7)))))
 rw [decide_eq_false h1, decide_eq_false h2, decide_eq_false h3, decide_eq_false h4, decide_eq_false h5, decide_eq_false h6, decide_eq_false h7] at h
 simp at h
theorem one_eq {k : Int} {nm : List UInt8} {w : Int} {cs : List Cd} {ps : List (Int × Int)} {cl : List Int} {ag of : Int} {l r : Nd} (hl : rwideN l = wideN l) (hr : rwideN r = wideN r) : roneB k nm w cs ps cl ag of l r = (bareB k nm w cs ps cl ag of l r && fitsB k nm w cs ps cl ag of l r) := by
 by_cases hk : k17 k
 ·unfold roneB bareB fitsB emptyB colB
  rw [hl, hr]
  generalize cs.all (fun x => condB x (wideN l)) = a1
  generalize ps.all (fun x => pairB x (wideN l) (wideN r)) = a2
  generalize cl.all (fun x => decide (0 <= x) && decide (x < wideN l)) = a3
  generalize nameB nm = a4
  generalize (nm == []) = a5
  generalize isNil l = a6
  generalize isNil r = a7
  generalize wideN l = u
  generalize IntKind.i64.wrap (u + wideN r) = v
  rcases hk with rfl | rfl | rfl | rfl | rfl | rfl | rfl
  all_goals rw [Bool.eq_iff_iff]
  all_goals cases a1 <;> cases a2 <;> cases a3 <;> cases a4 <;> cases a5 <;> cases a6 <;> cases a7 <;> simp <;> grind
 ·have h1 : roneB k nm w cs ps cl ag of l r = false := by
   cases h : roneB k nm w cs ps cl ag of l r with
   | false => rfl
   | true => exact absurd (roneB_k h) hk
  have h2 : fitsB k nm w cs ps cl ag of l r = false := by
   cases h : fitsB k nm w cs ps cl ag of l r with
   | false => rfl
   | true => exact absurd (fitsB_k h) hk
  rw [h1, h2, Bool.and_false]
theorem reach_each : ∀ n : Nd, reachB n = eachB n
 | .nil => rfl
 | .mk k nm w cs ps cl ag of l r => by
  rw [reachB, eachB, reach_each l, reach_each r]
  cases h1 : eachB l with
  | false => rfl
  | true =>
   cases h2 : eachB r with
   | false => rfl
   | true => rw [one_eq (wide_eq (each_okK h1)) (wide_eq (each_okK h2))]
theorem right_eq (n : Nd) : rrightN n = rightN n := by
 unfold rrightN rightN
 rw [reach_each, rfewN_eq n 400 (by omega), fewN_eq n 400 (by omega)]
 have : decide (min ((cntN n : Nat) : Int) (400 + 1) <= 400) = decide (0 <= max (-1) (400 - ((cntN n : Nat) : Int))) := by
  rw [Bool.eq_iff_iff, decide_eq_true_iff, decide_eq_true_iff]; omega
 rw [this]
end Go.Proofs.YtcledcfeddlomaaGreatDoor.Ev
