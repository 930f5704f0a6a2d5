/- A part of the proof: what the functions that the law reaches compute. -/
import Derived.Test.YtgpckcnoinifiaaDec
section
namespace Go.Den
open Go
set_option linter.unusedVariables false
noncomputable section
theorem fuel_is : ∃ n : Nat, n = 1000000000000 := ⟨_, rfl⟩
def fuel : Nat := Classical.choose fuel_is
theorem fuel_eq : fuel = 1000000000000 := Classical.choose_spec fuel_is
abbrev iR (n : Int) : RD := .lit (.int .i64 n)
def w64 (n : Int) : Int := IntKind.wrap .i64 n
def wr (k : IntKind) (n : Int) : Int := IntKind.wrap k n
def bs (l : List UInt8) : ByteArray := ⟨⟨l⟩⟩
def nz {R : Type} (b : Int) (k : Option R) : Option R := match b == 0 with
  | true => none
  | false => k
def andI (k : IntKind) (a b : Int) : Int := k.wrap (BitVec.ofInt k.bits a &&& BitVec.ofInt k.bits b).toNat
def orI (k : IntKind) (a b : Int) : Int := k.wrap (BitVec.ofInt k.bits a ||| BitVec.ofInt k.bits b).toNat
def xorI (k : IntKind) (a b : Int) : Int := k.wrap (BitVec.ofInt k.bits a ^^^ BitVec.ofInt k.bits b).toNat
def lenOk (n eb : Nat) : Bool := decide (2 * n * eb ≤ 140737488355328 ∧ n ≤ 4611686018427387904)
def mkOk (n m : Int) (eb : Nat) : Bool := decide (0 ≤ n ∧ n = m ∧ n * eb ≤ 140737488355328 ∧ n ≤ 4611686018427387904) && true && true
def strOk (l h : Int) (n : Nat) : Bool := decide (0 ≤ l ∧ l ≤ h ∧ h ≤ n)
def slcOk (l h : Int) (n : Nat) (m : Int) (s : Bool) : Bool := decide (0 ≤ l ∧ l ≤ h ∧ h ≤ n ∧ m = n) && s
def eqN (h : Int) (n : Nat) : Bool := decide (h = n)
def idxOk (i : Int) (n : Nat) : Bool := decide (0 ≤ i ∧ i < n)
def catOk (a b : ByteArray) : Bool := decide (a.size + b.size ≤ 140737488355328)
def widthOk (k : Nat) (els : List (List RD)) : Bool := els.all fun e => Nat.beq e.length k
def appRo (sc : Bool) (k eb : Nat) (ys : List (List RD)) (m : Nat) : Bool := litIf sc ys && (ys.all fun e => Nat.beq e.length k) && decide (0 < m ∧ 2 * (ys.length + m) * eb ≤ 140737488355328 ∧ ys.length + m ≤ 4611686018427387904)
def bytesR (s : ByteArray) : List (List RD) := s.data.toList.map fun b => [.lit (.int .u8 b.toNat)]
def at_iu8 (els : List (List RD)) (i : Int) (k : Int → Option FR) : Option FR := at_ [.int .u8 0] els i fun c => match c with
  | [.lit (.int _ a1)] => k a1
  | _ => none
def part_iu8 (els : List (List RD)) (i j : Nat) (k : Int → Option FR) : Option FR := part_ [.int .u8 0] els i j 1 fun c => match c with
  | [.lit (.int _ a1)] => k a1
  | _ => none
def at_i (els : List (List RD)) (i : Int) (k : Int → Option FR) : Option FR := at_ [.int .i64 0] els i fun c => match c with
  | [.lit (.int _ a1)] => k a1
  | _ => none
def part_i (els : List (List RD)) (i j : Nat) (k : Int → Option FR) : Option FR := part_ [.int .i64 0] els i j 1 fun c => match c with
  | [.lit (.int _ a1)] => k a1
  | _ => none
def at_ib (els : List (List RD)) (i : Int) (k : Int → Bool → Option FR) : Option FR := at_ [.int .i64 0, .bool false] els i fun c => match c with
  | [.lit (.int _ a1), .lit (.bool a2)] => k a1 a2
  | _ => none
def part_ib (els : List (List RD)) (i j : Nat) (k : Int → Bool → Option FR) : Option FR := part_ [.int .i64 0, .bool false] els i j 2 fun c => match c with
  | [.lit (.int _ a1), .lit (.bool a2)] => k a1 a2
  | _ => none
def at_s (els : List (List RD)) (i : Int) (k : ByteArray → Option FR) : Option FR := at_ [.string (bs [])] els i fun c => match c with
  | [.lit (.string a1)] => k a1
  | _ => none
def part_s (els : List (List RD)) (i j : Nat) (k : ByteArray → Option FR) : Option FR := part_ [.string (bs [])] els i j 1 fun c => match c with
  | [.lit (.string a1)] => k a1
  | _ => none
def at_iiil (els : List (List RD)) (i : Int) (k : Int → Int → Int → Bool → List (List RD) → Option FR) : Option FR := at_ [.int .i64 0, .int .i64 0, .int .i64 0, .slice none 0 0] els i fun c => match c with
  | [.lit (.int _ a1), .lit (.int _ a2), .lit (.int _ a3), .sl a4t a4] => k a1 a2 a3 a4t a4
  | _ => none
def part_iiil (els : List (List RD)) (i j : Nat) (k : Int → Int → Int → Bool → List (List RD) → Option FR) : Option FR := part_ [.int .i64 0, .int .i64 0, .int .i64 0, .slice none 0 0] els i j 4 fun c => match c with
  | [.lit (.int _ a1), .lit (.int _ a2), .lit (.int _ a3), .sl a4t a4] => k a1 a2 a3 a4t a4
  | _ => none
def at_iis (els : List (List RD)) (i : Int) (k : Int → Int → ByteArray → Option FR) : Option FR := at_ [.int .i64 0, .int .i64 0, .string (bs [])] els i fun c => match c with
  | [.lit (.int _ a1), .lit (.int _ a2), .lit (.string a3)] => k a1 a2 a3
  | _ => none
def part_iis (els : List (List RD)) (i j : Nat) (k : Int → Int → ByteArray → Option FR) : Option FR := part_ [.int .i64 0, .int .i64 0, .string (bs [])] els i j 3 fun c => match c with
  | [.lit (.int _ a1), .lit (.int _ a2), .lit (.string a3)] => k a1 a2 a3
  | _ => none
def at_iiill (els : List (List RD)) (i : Int) (k : Int → Int → Int → Bool → List (List RD) → Bool → List (List RD) → Option FR) : Option FR := at_ [.int .i64 0, .int .i64 0, .int .i64 0, .slice none 0 0, .slice none 0 0] els i fun c => match c with
  | [.lit (.int _ a1), .lit (.int _ a2), .lit (.int _ a3), .sl a4t a4, .sl a5t a5] => k a1 a2 a3 a4t a4 a5t a5
  | _ => none
def part_iiill (els : List (List RD)) (i j : Nat) (k : Int → Int → Int → Bool → List (List RD) → Bool → List (List RD) → Option FR) : Option FR := part_ [.int .i64 0, .int .i64 0, .int .i64 0, .slice none 0 0, .slice none 0 0] els i j 5 fun c => match c with
  | [.lit (.int _ a1), .lit (.int _ a2), .lit (.int _ a3), .sl a4t a4, .sl a5t a5] => k a1 a2 a3 a4t a4 a5t a5
  | _ => none
def at_ilb (els : List (List RD)) (i : Int) (k : Int → Bool → List (List RD) → Bool → Option FR) : Option FR := at_ [.int .i64 0, .slice none 0 0, .bool false] els i fun c => match c with
  | [.lit (.int _ a1), .sl a2t a2, .lit (.bool a3)] => k a1 a2t a2 a3
  | _ => none
def part_ilb (els : List (List RD)) (i j : Nat) (k : Int → Bool → List (List RD) → Bool → Option FR) : Option FR := part_ [.int .i64 0, .slice none 0 0, .bool false] els i j 3 fun c => match c with
  | [.lit (.int _ a1), .sl a2t a2, .lit (.bool a3)] => k a1 a2t a2 a3
  | _ => none
def look_b (n : Int) (ents : List (Int × Value)) (k : Bool → Option FR) : Option FR := look_ (.bool false) n ents fun c => match c with
  | .lit (.bool a) => k a
  | _ => none
def at_l (els : List (List RD)) (i : Int) (k : Bool → List (List RD) → Option FR) : Option FR := at_ [.slice none 0 0] els i fun c => match c with
  | [.sl a1t a1] => k a1t a1
  | _ => none
def part_l (els : List (List RD)) (i j : Nat) (k : Bool → List (List RD) → Option FR) : Option FR := part_ [.slice none 0 0] els i j 1 fun c => match c with
  | [.sl a1t a1] => k a1t a1
  | _ => none
abbrev T_spec_l20Open := Bool → List (List RD) → (Bool → List (List RD) → Int → Option FR) → Option FR
def F_spec_l20Open   (p1t : Bool) (p1 : List (List RD)) (k0 : Bool → List (List RD) → Int → Option FR) : Option FR :=
  bif decide ((p1.length : Int) > 2000) then
    req (slcOk 0 2000 p1.length (p1.length : Int) true) <|
    bif eqN 2000 p1.length then
      k0 (p1t || false) p1 0
    else
      k0 (p1t && eqN 2000 p1.length) (p1.take 2000) 0
  else
    k0 p1t p1 0
def S_spec_l20Open : T_spec_l20Open := F_spec_l20Open 
def C_spec_l20Open (s : T_spec_l20Open) : SmC := fun args K =>
  lCons args fun a1_ t2_ => dRo a1_ fun d3_ => rSl d3_ fun p1t p1 => lNil t2_ <|
  s p1t p1 (fun r1t r1 r2 => K [] (.mut [.ro (.sl r1t r1), .ro (.lit (.int .i64 r2))]))
abbrev T_spec_HouseNew := Int → (Bool → List (List RD) → Int → Bool → List (List RD) → Option FR) → Option FR
def F_spec_HouseNew   (p1 : Int) (k0 : Bool → List (List RD) → Int → Bool → List (List RD) → Option FR) : Option FR :=
  k0 true ([]) 0 true ([[iR 0, iR 0, iR 0, .sl true ([]), .sl true ([])], [iR 0, iR 0, iR 0, .sl true ([]), .sl true ([])], [iR 0, iR 0, iR 0, .sl true ([]), .sl true ([])], [iR 0, iR 0, iR 0, .sl true ([]), .sl true ([])]])
def S_spec_HouseNew : T_spec_HouseNew := F_spec_HouseNew 
def C_spec_HouseNew (s : T_spec_HouseNew) : SmC := fun args K =>
  lCons args fun a1_ t2_ => dRo a1_ fun d3_ => rInt .i64 d3_ fun p1 => lNil t2_ <|
  s p1 (fun r1t r1 r2 r3t r3 => K [] (.agg [.own 4 r1t r1, .ro (.lit (.int .i64 r2)), .own 5 r3t r3]))
abbrev T_spec_l20Rd_pick := Bool → List (List RD) → Int → Int → (Bool → List (List RD) → Int → Int → Option FR) → Option FR
def F_spec_l20Rd_pick   (p1t : Bool) (p1 : List (List RD)) (p2 : Int) (p3 : Int) (k0 : Bool → List (List RD) → Int → Int → Option FR) : Option FR :=
  bif decide (p3 < 1) then
    k0 p1t p1 (w64 (p2 + 1)) 0
  else
    bif ((p1.length : Int) == 0) then
      k0 p1t p1 (w64 (p2 + 1)) 0
    else
      bif decide (w64 (w64 (p2 + 1) - 1) < (p1.length : Int)) then
        at_iu8 p1 (w64 (w64 (p2 + 1) - 1)) fun x1 =>
        nz p3 <|
        k0 p1t p1 (w64 (p2 + 1)) ((w64 (x1)).tmod p3)
      else
        nz (p1.length : Int) <|
        at_iu8 p1 ((w64 (w64 (p2 + 1) - 1)).tmod (p1.length : Int)) fun x2 =>
        nz (p1.length : Int) <|
        at_iu8 p1 ((w64 (w64 (w64 (w64 (p2 + 1) - 1) * 7) + 3)).tmod (p1.length : Int)) fun x3 =>
        nz (p1.length : Int) <|
        nz p3 <|
        k0 p1t p1 (w64 (p2 + 1)) ((xorI .i64 (w64 (w64 (w64 (w64 (w64 (x2) * 131) + w64 (w64 (x3) * 1117)) + w64 (w64 (w64 (p2 + 1) - 1) * 29)) + w64 (w64 ((w64 (w64 (p2 + 1) - 1)).tdiv (p1.length : Int)) * 53))) (w64 ((w64 (w64 (w64 (w64 (w64 (x2) * 131) + w64 (w64 (x3) * 1117)) + w64 (w64 (w64 (p2 + 1) - 1) * 29)) + w64 (w64 ((w64 (w64 (p2 + 1) - 1)).tdiv (p1.length : Int)) * 53))).tdiv 64))).tmod p3)
def S_spec_l20Rd_pick : T_spec_l20Rd_pick := F_spec_l20Rd_pick 
def C_spec_l20Rd_pick (s : T_spec_l20Rd_pick) : SmC := fun args K =>
  lCons args fun a1_ t2_ => dMut a1_ fun c3_ => lCons c3_ fun a4_ t5_ => dRo a4_ fun d6_ => rSl d6_ fun p1t p1 => lCons t5_ fun a7_ t8_ => dRo a7_ fun d9_ => rInt .i64 d9_ fun p2 => lNil t8_ <| lCons t2_ fun a10_ t11_ => dRo a10_ fun d12_ => rInt .i64 d12_ fun p3 => lNil t11_ <|
  s p1t p1 p2 p3 (fun r1t r1 r2 r3 => K [[.ro (.sl r1t r1), .ro (.lit (.int .i64 r2))]] (.ro (.lit (.int .i64 r3))))
abbrev T_spec_l20Rd_odd := Bool → List (List RD) → Int → Int → (Bool → List (List RD) → Int → Bool → Option FR) → Option FR
def F_spec_l20Rd_odd (s_spec_l20Rd_pick : T_spec_l20Rd_pick)  (p1t : Bool) (p1 : List (List RD)) (p2 : Int) (p3 : Int) (k0 : Bool → List (List RD) → Int → Bool → Option FR) : Option FR :=
  bif decide (p3 > 0) then
    s_spec_l20Rd_pick p1t p1 p2 p3 (fun r1t r1 r2 r3 =>
      bif (r3 == w64 (p3 - 1)) then
        k0 r1t r1 r2 true
      else
        k0 r1t r1 r2 false)
  else
    k0 p1t p1 p2 false
def S_spec_l20Rd_odd : T_spec_l20Rd_odd := F_spec_l20Rd_odd S_spec_l20Rd_pick
def C_spec_l20Rd_odd (s : T_spec_l20Rd_odd) : SmC := fun args K =>
  lCons args fun a1_ t2_ => dMut a1_ fun c3_ => lCons c3_ fun a4_ t5_ => dRo a4_ fun d6_ => rSl d6_ fun p1t p1 => lCons t5_ fun a7_ t8_ => dRo a7_ fun d9_ => rInt .i64 d9_ fun p2 => lNil t8_ <| lCons t2_ fun a10_ t11_ => dRo a10_ fun d12_ => rInt .i64 d12_ fun p3 => lNil t11_ <|
  s p1t p1 p2 p3 (fun r1t r1 r2 r3 => K [[.ro (.sl r1t r1), .ro (.lit (.int .i64 r2))]] (.ro (.lit (.bool r3))))
abbrev T_spec_l20Columns := Bool → List (List RD) → Int → Int → (Bool → List (List RD) → Int → Bool → List (List RD) → Option FR) → Option FR
abbrev TL_spec_l20Columns_0 := (Int → Bool → Bool → List (List RD) → Int → List (List RD) → Option FR) → Int → Bool → Int → Bool → List (List RD) → Int → List (List RD) → Option FR
def B_spec_l20Columns_0 (s_spec_l20Rd_pick : T_spec_l20Rd_pick)  (k0 : Int → Bool → Bool → List (List RD) → Int → List (List RD) → Option FR) (v4 : Int) (rc : Bool → Int → Bool → List (List RD) → Int → List (List RD) → Option FR) (v5t : Bool) (v6 : Int) (v7t : Bool) (v7 : List (List RD)) (v8 : Int) (v9 : List (List RD)) : Option FR :=
  bif decide (v6 > 0) then
    s_spec_l20Rd_pick v7t v7 v8 4 (fun r10t r10 r11 r12 =>
      req (idxOk r12 4) <|
      part_i ([[iR 1], [iR 1], [iR 2], [iR 3]]) r12.toNat 0 fun x13 =>
      s_spec_l20Rd_pick r10t r10 r11 3 (fun r14t r14 r15 r16 =>
        bif decide (r16 > 0) then
          req (lenOk (v9.length + 1) 16) <|
          rc false (w64 (v6 - 1)) r14t r14 r15 (v9 ++ ([[iR x13, .lit (.bool true)]]))
        else
          req (lenOk (v9.length + 1) 16) <|
          rc false (w64 (v6 - 1)) r14t r14 r15 (v9 ++ ([[iR x13, .lit (.bool false)]]))))
  else
    k0 v4 v5t v7t v7 v8 v9
def L_spec_l20Columns_0 (s_spec_l20Rd_pick : T_spec_l20Rd_pick)  (k0 : Int → Bool → Bool → List (List RD) → Int → List (List RD) → Option FR) (v4 : Int) : Nat → Bool → Int → Bool → List (List RD) → Int → List (List RD) → Option FR
  | 0, _, _, _, _, _, _ => none
  | n + 1, v5t, v6, v7t, v7, v8, v9 => B_spec_l20Columns_0 s_spec_l20Rd_pick k0 v4 (L_spec_l20Columns_0 s_spec_l20Rd_pick k0 v4 n) v5t v6 v7t v7 v8 v9
def F_spec_l20Columns (s_spec_l20Rd_pick : T_spec_l20Rd_pick) (s_spec_l20Rd_odd : T_spec_l20Rd_odd) (l0 : TL_spec_l20Columns_0) (p1t : Bool) (p1 : List (List RD)) (p2 : Int) (p3 : Int) (k0 : Bool → List (List RD) → Int → Bool → List (List RD) → Option FR) : Option FR :=
  s_spec_l20Rd_pick p1t p1 p2 3 (fun r1t r1 r2 r3 =>
    l0 (fun y22 y23t y24t y24 y25 y26 =>
      s_spec_l20Rd_odd y24t y24 y25 y22 (fun r27t r27 r28 r29 =>
        bif r29 then
          s_spec_l20Rd_pick r27t r27 r28 6 (fun r30t r30 r31 r32 =>
            req (lenOk (y26.length + 3) 16) <|
            k0 r30t r30 r31 false (y26 ++ ([[iR (w64 (r32 - 1)), .lit (.bool false)], [iR 1, .lit (.bool false)], [iR 1, .lit (.bool false)]])))
        else
          k0 r27t r27 r28 y23t y26)) p3 true (w64 (1 + r3)) r1t r1 r2 ([]))
def G_spec_l20Columns_0 : TL_spec_l20Columns_0 := fun k0 v4 v5t v6 v7t v7 v8 v9 => L_spec_l20Columns_0 S_spec_l20Rd_pick k0 v4 fuel v5t v6 v7t v7 v8 v9
def S_spec_l20Columns : T_spec_l20Columns := F_spec_l20Columns S_spec_l20Rd_pick S_spec_l20Rd_odd G_spec_l20Columns_0
def C_spec_l20Columns (s : T_spec_l20Columns) : SmC := fun args K =>
  lCons args fun a1_ t2_ => dMut a1_ fun c3_ => lCons c3_ fun a4_ t5_ => dRo a4_ fun d6_ => rSl d6_ fun p1t p1 => lCons t5_ fun a7_ t8_ => dRo a7_ fun d9_ => rInt .i64 d9_ fun p2 => lNil t8_ <| lCons t2_ fun a10_ t11_ => dRo a10_ fun d12_ => rInt .i64 d12_ fun p3 => lNil t11_ <|
  s p1t p1 p2 p3 (fun r1t r1 r2 r3t r3 => K [[.ro (.sl r1t r1), .ro (.lit (.int .i64 r2))]] (.own 2 r3t r3))
abbrev T_spec_l20Like := Bool → List (List RD) → Int → Int → Bool → (Bool → List (List RD) → Int → Int → Int → ByteArray → Option FR) → Option FR
def F_spec_l20Like (s_spec_l20Rd_pick : T_spec_l20Rd_pick)  (p1t : Bool) (p1 : List (List RD)) (p2 : Int) (p3 : Int) (p4 : Bool) (k0 : Bool → List (List RD) → Int → Int → Int → ByteArray → Option FR) : Option FR :=
  bif p4 then
    s_spec_l20Rd_pick p1t p1 p2 5 (fun r1t r1 r2 r3 =>
      bif (r3 == 0) then
        k0 r1t r1 r2 0 0 (bs [])
      else
        bif (p3 == 1) then
          s_spec_l20Rd_pick r1t r1 r2 4 (fun r4t r4 r5 r6 =>
            k0 r4t r4 r5 1 r6 (bs []))
        else
          bif (p3 == 2) then
            s_spec_l20Rd_pick r1t r1 r2 4 (fun r7t r7 r8 r9 =>
              req (idxOk r9 4) <|
              part_s ([[.lit (.string (bs []))], [.lit (.string (bs [97]))], [.lit (.string (bs [98]))], [.lit (.string (bs [97, 98]))]]) r9.toNat 0 fun x10 =>
              k0 r7t r7 r8 2 0 x10)
          else
            s_spec_l20Rd_pick r1t r1 r2 2 (fun r11t r11 r12 r13 =>
              k0 r11t r11 r12 3 r13 (bs [])))
  else
    bif (p3 == 1) then
      s_spec_l20Rd_pick p1t p1 p2 4 (fun r14t r14 r15 r16 =>
        k0 r14t r14 r15 1 r16 (bs []))
    else
      bif (p3 == 2) then
        s_spec_l20Rd_pick p1t p1 p2 4 (fun r17t r17 r18 r19 =>
          req (idxOk r19 4) <|
          part_s ([[.lit (.string (bs []))], [.lit (.string (bs [97]))], [.lit (.string (bs [98]))], [.lit (.string (bs [97, 98]))]]) r19.toNat 0 fun x20 =>
          k0 r17t r17 r18 2 0 x20)
      else
        s_spec_l20Rd_pick p1t p1 p2 2 (fun r21t r21 r22 r23 =>
          k0 r21t r21 r22 3 r23 (bs []))
def S_spec_l20Like : T_spec_l20Like := F_spec_l20Like S_spec_l20Rd_pick
def C_spec_l20Like (s : T_spec_l20Like) : SmC := fun args K =>
  lCons args fun a1_ t2_ => dMut a1_ fun c3_ => lCons c3_ fun a4_ t5_ => dRo a4_ fun d6_ => rSl d6_ fun p1t p1 => lCons t5_ fun a7_ t8_ => dRo a7_ fun d9_ => rInt .i64 d9_ fun p2 => lNil t8_ <| lCons t2_ fun a10_ t11_ => dAgg a10_ fun c12_ => lCons c12_ fun a13_ t14_ => dRo a13_ fun d15_ => rInt .i64 d15_ fun p3 => lCons t14_ fun a16_ t17_ => dRo a16_ fun d18_ => rBool d18_ fun p4 => lNil t17_ <| lNil t11_ <|
  s p1t p1 p2 p3 p4 (fun r1t r1 r2 r3 r4 r5 => K [[.ro (.sl r1t r1), .ro (.lit (.int .i64 r2))]] (.agg [.ro (.lit (.int .i64 r3)), .ro (.lit (.int .i64 r4)), .ro (.lit (.string r5))]))
abbrev T_spec_l20Value := Bool → List (List RD) → Int → Int → (Bool → List (List RD) → Int → Int → Int → ByteArray → Option FR) → Option FR
abbrev TL_spec_l20Value_j0 := (Bool → List (List RD) → Int → Int → Int → ByteArray → Option FR) → Int → Bool → List (List RD) → Int → Int → Int → ByteArray → Int → Int → ByteArray → Option FR
def B_spec_l20Value_j0 (s_spec_l20Rd_odd : T_spec_l20Rd_odd) (s_spec_l20Rd_pick : T_spec_l20Rd_pick)  (k0 : Bool → List (List RD) → Int → Int → Int → ByteArray → Option FR) (v4 : Int) (v5t : Bool) (v5 : List (List RD)) (v6 : Int) (v7 : Int) (v8 : Int) (v9 : ByteArray) (v10 : Int) (v11 : Int) (v12 : ByteArray) : Option FR :=
  s_spec_l20Rd_odd v5t v5 v6 v4 (fun r13t r13 r14 r15 =>
    bif r15 then
      s_spec_l20Rd_pick r13t r13 r14 4 (fun r16t r16 r17 r18 =>
        bif (r18 == 0) then
          k0 r16t r16 r17 v10 10000 v12
        else
          bif (r18 == 1) then
            req (catOk v12 (bs [97, 98, 99, 100, 101, 102, 103])) <|
            k0 r16t r16 r17 v10 v11 (v12 ++ (bs [97, 98, 99, 100, 101, 102, 103]))
          else
            bif (r18 == 2) then
              s_spec_l20Rd_pick r16t r16 r17 7 (fun r19t r19 r20 r21 =>
                k0 r19t r19 r20 (w64 (r21 - 1)) v11 v12)
            else
              req (catOk v12 (bs [65])) <|
              k0 r16t r16 r17 v10 v11 (v12 ++ (bs [65])))
    else
      k0 r13t r13 r14 v10 v11 v12)
abbrev TL_spec_l20Value_0 := (Int → Bool → List (List RD) → Int → Int → Int → ByteArray → Int → Int → ByteArray → Option FR) → Int → Int → Int → ByteArray → Int → Int → Int → Bool → List (List RD) → Int → ByteArray → Option FR
def B_spec_l20Value_0 (s_spec_l20Rd_pick : T_spec_l20Rd_pick)  (k0 : Int → Bool → List (List RD) → Int → Int → Int → ByteArray → Int → Int → ByteArray → Option FR) (v95 : Int) (v99 : Int) (v100 : Int) (v101 : ByteArray) (v102 : Int) (v103 : Int) (rc : Int → Bool → List (List RD) → Int → ByteArray → Option FR) (v96 : Int) (v97t : Bool) (v97 : List (List RD)) (v98 : Int) (v104 : ByteArray) : Option FR :=
  bif decide (v96 > 0) then
    s_spec_l20Rd_pick v97t v97 v98 3 (fun r105t r105 r106 r107 =>
      str_ ([[.lit (.int .u8 (wr .u8 (w64 (97 + r107))))]]) fun b108 =>
      req (catOk v104 (⟨⟨b108⟩⟩)) <|
      rc (w64 (v96 - 1)) r105t r105 r106 (v104 ++ (⟨⟨b108⟩⟩)))
  else
    k0 v95 v97t v97 v98 v99 v100 v101 v102 v103 v104
def L_spec_l20Value_0 (s_spec_l20Rd_pick : T_spec_l20Rd_pick)  (k0 : Int → Bool → List (List RD) → Int → Int → Int → ByteArray → Int → Int → ByteArray → Option FR) (v95 : Int) (v99 : Int) (v100 : Int) (v101 : ByteArray) (v102 : Int) (v103 : Int) : Nat → Int → Bool → List (List RD) → Int → ByteArray → Option FR
  | 0, _, _, _, _, _ => none
  | n + 1, v96, v97t, v97, v98, v104 => B_spec_l20Value_0 s_spec_l20Rd_pick k0 v95 v99 v100 v101 v102 v103 (L_spec_l20Value_0 s_spec_l20Rd_pick k0 v95 v99 v100 v101 v102 v103 n) v96 v97t v97 v98 v104
def F_spec_l20Value (s_spec_l20Rd_pick : T_spec_l20Rd_pick) (j0 : TL_spec_l20Value_j0) (l0 : TL_spec_l20Value_0) (p1t : Bool) (p1 : List (List RD)) (p2 : Int) (p3 : Int) (k0 : Bool → List (List RD) → Int → Int → Int → ByteArray → Option FR) : Option FR :=
  s_spec_l20Rd_pick p1t p1 p2 7 (fun r1t r1 r2 r3 =>
    bif (r3 == 0) then
      j0 (fun y27t y27 y28 y29 y30 y31 =>
        k0 y27t y27 y28 y29 y30 y31) p3 r1t r1 r2 0 0 (bs []) 0 0 (bs [])
    else
      bif (r3 == 1) then
        s_spec_l20Rd_pick r1t r1 r2 7 (fun r32t r32 r33 r34 =>
          s_spec_l20Rd_pick r32t r32 r33 8 (fun r35t r35 r36 r37 =>
            bif (r37 == 0) then
              s_spec_l20Rd_pick r35t r35 r36 5 (fun r38t r38 r39 r40 =>
                req (idxOk r40 5) <|
                part_i ([[iR 9999], [iR (-9999)], [iR 255], [iR 256], [iR (-256)]]) r40.toNat 0 fun x41 =>
                j0 (fun y42t y42 y43 y44 y45 y46 =>
                  k0 y42t y42 y43 y44 y45 y46) p3 r38t r38 r39 0 0 (bs []) 1 x41 (bs []))
            else
              j0 (fun y47t y47 y48 y49 y50 y51 =>
                k0 y47t y47 y48 y49 y50 y51) p3 r35t r35 r36 0 0 (bs []) 1 (w64 (r34 - 3)) (bs [])))
      else
        bif (r3 == 2) then
          s_spec_l20Rd_pick r1t r1 r2 7 (fun r52t r52 r53 r54 =>
            s_spec_l20Rd_pick r52t r52 r53 8 (fun r55t r55 r56 r57 =>
              bif (r57 == 0) then
                s_spec_l20Rd_pick r55t r55 r56 5 (fun r58t r58 r59 r60 =>
                  req (idxOk r60 5) <|
                  part_i ([[iR 9999], [iR (-9999)], [iR 255], [iR 256], [iR (-256)]]) r60.toNat 0 fun x61 =>
                  j0 (fun y62t y62 y63 y64 y65 y66 =>
                    k0 y62t y62 y63 y64 y65 y66) p3 r58t r58 r59 0 0 (bs []) 1 x61 (bs []))
              else
                j0 (fun y67t y67 y68 y69 y70 y71 =>
                  k0 y67t y67 y68 y69 y70 y71) p3 r55t r55 r56 0 0 (bs []) 1 (w64 (r54 - 3)) (bs [])))
        else
          bif (r3 == 3) then
            s_spec_l20Rd_pick r1t r1 r2 7 (fun r72t r72 r73 r74 =>
              s_spec_l20Rd_pick r72t r72 r73 8 (fun r75t r75 r76 r77 =>
                bif (r77 == 0) then
                  s_spec_l20Rd_pick r75t r75 r76 5 (fun r78t r78 r79 r80 =>
                    req (idxOk r80 5) <|
                    part_i ([[iR 9999], [iR (-9999)], [iR 255], [iR 256], [iR (-256)]]) r80.toNat 0 fun x81 =>
                    j0 (fun y82t y82 y83 y84 y85 y86 =>
                      k0 y82t y82 y83 y84 y85 y86) p3 r78t r78 r79 0 0 (bs []) 1 x81 (bs []))
                else
                  j0 (fun y87t y87 y88 y89 y90 y91 =>
                    k0 y87t y87 y88 y89 y90 y91) p3 r75t r75 r76 0 0 (bs []) 1 (w64 (r74 - 3)) (bs [])))
          else
            bif (r3 == 4) then
              s_spec_l20Rd_pick r1t r1 r2 4 (fun r92t r92 r93 r94 =>
                l0 (fun y118 y119t y119 y120 y121 y122 y123 y124 y125 y126 =>
                  j0 (fun y127t y127 y128 y129 y130 y131 =>
                    k0 y127t y127 y128 y129 y130 y131) y118 y119t y119 y120 y121 y122 y123 y124 y125 y126) p3 0 0 (bs []) 2 0 r94 r92t r92 r93 (bs []))
            else
              bif (r3 == 5) then
                s_spec_l20Rd_pick r1t r1 r2 4 (fun r132t r132 r133 r134 =>
                  l0 (fun y135 y136t y136 y137 y138 y139 y140 y141 y142 y143 =>
                    j0 (fun y144t y144 y145 y146 y147 y148 =>
                      k0 y144t y144 y145 y146 y147 y148) y135 y136t y136 y137 y138 y139 y140 y141 y142 y143) p3 0 0 (bs []) 2 0 r134 r132t r132 r133 (bs []))
              else
                s_spec_l20Rd_pick r1t r1 r2 2 (fun r149t r149 r150 r151 =>
                  j0 (fun y152t y152 y153 y154 y155 y156 =>
                    k0 y152t y152 y153 y154 y155 y156) p3 r149t r149 r150 0 0 (bs []) 3 r151 (bs [])))
def G_spec_l20Value_j0 : TL_spec_l20Value_j0 := B_spec_l20Value_j0 S_spec_l20Rd_odd S_spec_l20Rd_pick
def G_spec_l20Value_0 : TL_spec_l20Value_0 := fun k0 v95 v99 v100 v101 v102 v103 v96 v97t v97 v98 v104 => L_spec_l20Value_0 S_spec_l20Rd_pick k0 v95 v99 v100 v101 v102 v103 fuel v96 v97t v97 v98 v104
def S_spec_l20Value : T_spec_l20Value := F_spec_l20Value S_spec_l20Rd_pick G_spec_l20Value_j0 G_spec_l20Value_0
def C_spec_l20Value (s : T_spec_l20Value) : SmC := fun args K =>
  lCons args fun a1_ t2_ => dMut a1_ fun c3_ => lCons c3_ fun a4_ t5_ => dRo a4_ fun d6_ => rSl d6_ fun p1t p1 => lCons t5_ fun a7_ t8_ => dRo a7_ fun d9_ => rInt .i64 d9_ fun p2 => lNil t8_ <| lCons t2_ fun a10_ t11_ => dRo a10_ fun d12_ => rInt .i64 d12_ fun p3 => lNil t11_ <|
  s p1t p1 p2 p3 (fun r1t r1 r2 r3 r4 r5 => K [[.ro (.sl r1t r1), .ro (.lit (.int .i64 r2))]] (.agg [.ro (.lit (.int .i64 r3)), .ro (.lit (.int .i64 r4)), .ro (.lit (.string r5))]))
abbrev T_spec_l20Fit := Bool → List (List RD) → Int → Bool → List (List RD) → Int → (Bool → List (List RD) → Int → Bool → List (List RD) → Option FR) → Option FR
abbrev TL_spec_l20Fit_0 := (Int → Bool → Bool → List (List RD) → Int → List (List RD) → Option FR) → Bool → List (List RD) → Int → Bool → Int → Bool → List (List RD) → Int → List (List RD) → Option FR
def B_spec_l20Fit_0 (s_spec_l20Like : T_spec_l20Like)  (k0 : Int → Bool → Bool → List (List RD) → Int → List (List RD) → Option FR) (v1t : Bool) (v1 : List (List RD)) (v2 : Int) (rc : Bool → Int → Bool → List (List RD) → Int → List (List RD) → Option FR) (v3t : Bool) (v4 : Int) (v5t : Bool) (v5 : List (List RD)) (v6 : Int) (v7 : List (List RD)) : Option FR :=
  bif decide (v4 < (v1.length : Int)) then
    at_ib v1 v4 fun x8 x9 =>
    s_spec_l20Like v5t v5 v6 x8 x9 (fun r10t r10 r11 r12 r13 r14 =>
      req (lenOk (v7.length + 1) 32) <|
      rc false (w64 (v4 + 1)) r10t r10 r11 (v7 ++ ([[iR r12, iR r13, .lit (.string r14)]])))
  else
    k0 v2 v3t v5t v5 v6 v7
def L_spec_l20Fit_0 (s_spec_l20Like : T_spec_l20Like)  (k0 : Int → Bool → Bool → List (List RD) → Int → List (List RD) → Option FR) (v1t : Bool) (v1 : List (List RD)) (v2 : Int) : Nat → Bool → Int → Bool → List (List RD) → Int → List (List RD) → Option FR
  | 0, _, _, _, _, _, _ => none
  | n + 1, v3t, v4, v5t, v5, v6, v7 => B_spec_l20Fit_0 s_spec_l20Like k0 v1t v1 v2 (L_spec_l20Fit_0 s_spec_l20Like k0 v1t v1 v2 n) v3t v4 v5t v5 v6 v7
def F_spec_l20Fit (s_spec_l20Rd_odd : T_spec_l20Rd_odd) (s_spec_l20Rd_pick : T_spec_l20Rd_pick) (s_spec_l20Value : T_spec_l20Value) (l0 : TL_spec_l20Fit_0) (p1t : Bool) (p1 : List (List RD)) (p2 : Int) (p3t : Bool) (p3 : List (List RD)) (p4 : Int) (k0 : Bool → List (List RD) → Int → Bool → List (List RD) → Option FR) : Option FR :=
  l0 (fun y20 y21t y22t y22 y23 y24 =>
    s_spec_l20Rd_odd y22t y22 y23 y20 (fun r25t r25 r26 r27 =>
      bif r27 then
        s_spec_l20Rd_pick r25t r25 r26 3 (fun r28t r28 r29 r30 =>
          bif (r30 == 0) then
            req (lenOk (y24.length + 1) 32) <|
            k0 r28t r28 r29 false (y24 ++ ([[iR 0, iR 0, .lit (.string (bs []))]]))
          else
            bif (r30 == 1) then
              bif decide ((y24.length : Int) > 0) then
                s_spec_l20Rd_pick r28t r28 r29 (y24.length : Int) (fun r31t r31 r32 r33 =>
                  s_spec_l20Value r31t r31 r32 3 (fun r34t r34 r35 r36 r37 r38 =>
                    req (idxOk r33 y24.length) <|
                    put_ y24 r33.toNat 0 3 fun c39 =>
                    k0 r34t r34 r35 y21t (y24.set r33.toNat (splice c39 0 [iR r36, iR r37, .lit (.string r38)]))))
              else
                k0 r28t r28 r29 y21t y24
            else
              s_spec_l20Value r28t r28 r29 0 (fun r40t r40 r41 r42 r43 r44 =>
                s_spec_l20Value r40t r40 r41 0 (fun r45t r45 r46 r47 r48 r49 =>
                  s_spec_l20Value r45t r45 r46 0 (fun r50t r50 r51 r52 r53 r54 =>
                    req (lenOk (y24.length + 3) 32) <|
                    k0 r50t r50 r51 false (y24 ++ ([[iR r42, iR r43, .lit (.string r44)], [iR r47, iR r48, .lit (.string r49)], [iR r52, iR r53, .lit (.string r54)]]))))))
      else
        k0 r25t r25 r26 y21t y24)) p3t p3 p4 true 0 p1t p1 p2 ([])
def G_spec_l20Fit_0 : TL_spec_l20Fit_0 := fun k0 v1t v1 v2 v3t v4 v5t v5 v6 v7 => L_spec_l20Fit_0 S_spec_l20Like k0 v1t v1 v2 fuel v3t v4 v5t v5 v6 v7
def S_spec_l20Fit : T_spec_l20Fit := F_spec_l20Fit S_spec_l20Rd_odd S_spec_l20Rd_pick S_spec_l20Value G_spec_l20Fit_0
def C_spec_l20Fit (s : T_spec_l20Fit) : SmC := fun args K =>
  lCons args fun a1_ t2_ => dMut a1_ fun c3_ => lCons c3_ fun a4_ t5_ => dRo a4_ fun d6_ => rSl d6_ fun p1t p1 => lCons t5_ fun a7_ t8_ => dRo a7_ fun d9_ => rInt .i64 d9_ fun p2 => lNil t8_ <| lCons t2_ fun a10_ t11_ => dRo a10_ fun d12_ => rSl d12_ fun p3t p3 => lCons t11_ fun a13_ t14_ => dRo a13_ fun d15_ => rInt .i64 d15_ fun p4 => lNil t14_ <|
  s p1t p1 p2 p3t p3 p4 (fun r1t r1 r2 r3t r3 => K [[.ro (.sl r1t r1), .ro (.lit (.int .i64 r2))]] (.own 3 r3t r3))
abbrev T_spec_l20Any := Bool → List (List RD) → Int → Int → (Bool → List (List RD) → Int → Bool → List (List RD) → Option FR) → Option FR
def F_spec_l20Any (s_spec_l20Columns : T_spec_l20Columns) (s_spec_l20Fit : T_spec_l20Fit)  (p1t : Bool) (p1 : List (List RD)) (p2 : Int) (p3 : Int) (k0 : Bool → List (List RD) → Int → Bool → List (List RD) → Option FR) : Option FR :=
  s_spec_l20Columns p1t p1 p2 0 (fun r1t r1 r2 r3t r3 =>
    s_spec_l20Fit r1t r1 r2 r3t r3 p3 (fun r4t r4 r5 r6t r6 =>
      k0 r4t r4 r5 r6t r6))
def S_spec_l20Any : T_spec_l20Any := F_spec_l20Any S_spec_l20Columns S_spec_l20Fit
def C_spec_l20Any (s : T_spec_l20Any) : SmC := fun args K =>
  lCons args fun a1_ t2_ => dMut a1_ fun c3_ => lCons c3_ fun a4_ t5_ => dRo a4_ fun d6_ => rSl d6_ fun p1t p1 => lCons t5_ fun a7_ t8_ => dRo a7_ fun d9_ => rInt .i64 d9_ fun p2 => lNil t8_ <| lCons t2_ fun a10_ t11_ => dRo a10_ fun d12_ => rInt .i64 d12_ fun p3 => lNil t11_ <|
  s p1t p1 p2 p3 (fun r1t r1 r2 r3t r3 => K [[.ro (.sl r1t r1), .ro (.lit (.int .i64 r2))]] (.own 3 r3t r3))
abbrev T_spec_l20Small := Bool → List (List RD) → Int → (Bool → List (List RD) → Int → Bool → List (List RD) → Option FR) → Option FR
def F_spec_l20Small (s_spec_l20Rd_pick : T_spec_l20Rd_pick)  (p1t : Bool) (p1 : List (List RD)) (p2 : Int) (k0 : Bool → List (List RD) → Int → Bool → List (List RD) → Option FR) : Option FR :=
  s_spec_l20Rd_pick p1t p1 p2 4 (fun r1t r1 r2 r3 =>
    k0 r1t r1 r2 true ([[iR 1, iR r3, .lit (.string (bs []))]]))
def S_spec_l20Small : T_spec_l20Small := F_spec_l20Small S_spec_l20Rd_pick
def C_spec_l20Small (s : T_spec_l20Small) : SmC := fun args K =>
  lCons args fun a1_ t2_ => dMut a1_ fun c3_ => lCons c3_ fun a4_ t5_ => dRo a4_ fun d6_ => rSl d6_ fun p1t p1 => lCons t5_ fun a7_ t8_ => dRo a7_ fun d9_ => rInt .i64 d9_ fun p2 => lNil t8_ <| lNil t2_ <|
  s p1t p1 p2 (fun r1t r1 r2 r3t r3 => K [[.ro (.sl r1t r1), .ro (.lit (.int .i64 r2))]] (.own 3 r3t r3))
abbrev T_spec_l20Move := Bool → List (List RD) → Int → Int → (Bool → List (List RD) → Int → Int → Int → Int → Bool → List (List RD) → Option FR) → Option FR
def F_spec_l20Move (s_spec_l20Rd_pick : T_spec_l20Rd_pick) (s_spec_l20Rd_odd : T_spec_l20Rd_odd) (s_spec_l20Any : T_spec_l20Any) (s_spec_l20Small : T_spec_l20Small)  (p1t : Bool) (p1 : List (List RD)) (p2 : Int) (p3 : Int) (k0 : Bool → List (List RD) → Int → Int → Int → Int → Bool → List (List RD) → Option FR) : Option FR :=
  s_spec_l20Rd_pick p1t p1 p2 11 (fun r1t r1 r2 r3 =>
    req (idxOk r3 11) <|
    part_i ([[iR 1], [iR 1], [iR 2], [iR 2], [iR 3], [iR 3], [iR 3], [iR 4], [iR 5], [iR 5], [iR 6]]) r3.toNat 0 fun x4 =>
    s_spec_l20Rd_pick r1t r1 r2 4 (fun r5t r5 r6 r7 =>
      bif (x4 == 2) then
        s_spec_l20Rd_pick r5t r5 r6 3 (fun r8t r8 r9 r10 =>
          s_spec_l20Rd_odd r8t r8 r9 p3 (fun r11t r11 r12 r13 =>
            bif r13 then
              s_spec_l20Rd_pick r11t r11 r12 4 (fun r14t r14 r15 r16 =>
                bif (r16 == 0) then
                  s_spec_l20Rd_pick r14t r14 r15 9 (fun r17t r17 r18 r19 =>
                    k0 r17t r17 r18 r19 r7 r10 true ([]))
                else
                  bif (r16 == 1) then
                    s_spec_l20Rd_pick r14t r14 r15 7 (fun r20t r20 r21 r22 =>
                      k0 r20t r20 r21 x4 (w64 (r22 - 1)) r10 true ([]))
                  else
                    bif (r16 == 2) then
                      s_spec_l20Rd_pick r14t r14 r15 8 (fun r23t r23 r24 r25 =>
                        k0 r23t r23 r24 x4 r7 (w64 (r25 - 1)) true ([]))
                    else
                      s_spec_l20Any r14t r14 r15 2 (fun r26t r26 r27 r28t r28 =>
                        k0 r26t r26 r27 x4 r7 r10 r28t r28))
            else
              k0 r11t r11 r12 x4 r7 r10 true ([])))
      else
        bif (x4 == 4) then
          s_spec_l20Rd_pick r5t r5 r6 3 (fun r29t r29 r30 r31 =>
            s_spec_l20Rd_odd r29t r29 r30 p3 (fun r32t r32 r33 r34 =>
              bif r34 then
                s_spec_l20Rd_pick r32t r32 r33 4 (fun r35t r35 r36 r37 =>
                  bif (r37 == 0) then
                    s_spec_l20Rd_pick r35t r35 r36 9 (fun r38t r38 r39 r40 =>
                      k0 r38t r38 r39 r40 r7 r31 true ([]))
                  else
                    bif (r37 == 1) then
                      s_spec_l20Rd_pick r35t r35 r36 7 (fun r41t r41 r42 r43 =>
                        k0 r41t r41 r42 x4 (w64 (r43 - 1)) r31 true ([]))
                    else
                      bif (r37 == 2) then
                        s_spec_l20Rd_pick r35t r35 r36 8 (fun r44t r44 r45 r46 =>
                          k0 r44t r44 r45 x4 r7 (w64 (r46 - 1)) true ([]))
                      else
                        s_spec_l20Any r35t r35 r36 2 (fun r47t r47 r48 r49t r49 =>
                          k0 r47t r47 r48 x4 r7 r31 r49t r49))
              else
                k0 r32t r32 r33 x4 r7 r31 true ([])))
        else
          bif (x4 == 3) then
            s_spec_l20Rd_pick r5t r5 r6 3 (fun r50t r50 r51 r52 =>
              s_spec_l20Small r50t r50 r51 (fun r53t r53 r54 r55t r55 =>
                s_spec_l20Rd_odd r53t r53 r54 p3 (fun r56t r56 r57 r58 =>
                  bif r58 then
                    s_spec_l20Rd_pick r56t r56 r57 4 (fun r59t r59 r60 r61 =>
                      bif (r61 == 0) then
                        s_spec_l20Rd_pick r59t r59 r60 9 (fun r62t r62 r63 r64 =>
                          k0 r62t r62 r63 r64 r7 r52 r55t r55)
                      else
                        bif (r61 == 1) then
                          s_spec_l20Rd_pick r59t r59 r60 7 (fun r65t r65 r66 r67 =>
                            k0 r65t r65 r66 x4 (w64 (r67 - 1)) r52 r55t r55)
                        else
                          bif (r61 == 2) then
                            s_spec_l20Rd_pick r59t r59 r60 8 (fun r68t r68 r69 r70 =>
                              k0 r68t r68 r69 x4 r7 (w64 (r70 - 1)) r55t r55)
                          else
                            s_spec_l20Any r59t r59 r60 2 (fun r71t r71 r72 r73t r73 =>
                              k0 r71t r71 r72 x4 r7 r52 r73t r73))
                  else
                    k0 r56t r56 r57 x4 r7 r52 r55t r55)))
          else
            s_spec_l20Rd_odd r5t r5 r6 p3 (fun r74t r74 r75 r76 =>
              bif r76 then
                s_spec_l20Rd_pick r74t r74 r75 4 (fun r77t r77 r78 r79 =>
                  bif (r79 == 0) then
                    s_spec_l20Rd_pick r77t r77 r78 9 (fun r80t r80 r81 r82 =>
                      k0 r80t r80 r81 r82 r7 0 true ([]))
                  else
                    bif (r79 == 1) then
                      s_spec_l20Rd_pick r77t r77 r78 7 (fun r83t r83 r84 r85 =>
                        k0 r83t r83 r84 x4 (w64 (r85 - 1)) 0 true ([]))
                    else
                      bif (r79 == 2) then
                        s_spec_l20Rd_pick r77t r77 r78 8 (fun r86t r86 r87 r88 =>
                          k0 r86t r86 r87 x4 r7 (w64 (r88 - 1)) true ([]))
                      else
                        s_spec_l20Any r77t r77 r78 2 (fun r89t r89 r90 r91t r91 =>
                          k0 r89t r89 r90 x4 r7 0 r91t r91))
              else
                k0 r74t r74 r75 x4 r7 0 true ([]))))
def S_spec_l20Move : T_spec_l20Move := F_spec_l20Move S_spec_l20Rd_pick S_spec_l20Rd_odd S_spec_l20Any S_spec_l20Small
def C_spec_l20Move (s : T_spec_l20Move) : SmC := fun args K =>
  lCons args fun a1_ t2_ => dMut a1_ fun c3_ => lCons c3_ fun a4_ t5_ => dRo a4_ fun d6_ => rSl d6_ fun p1t p1 => lCons t5_ fun a7_ t8_ => dRo a7_ fun d9_ => rInt .i64 d9_ fun p2 => lNil t8_ <| lCons t2_ fun a10_ t11_ => dRo a10_ fun d12_ => rInt .i64 d12_ fun p3 => lNil t11_ <|
  s p1t p1 p2 p3 (fun r1t r1 r2 r3 r4 r5 r6t r6 => K [[.ro (.sl r1t r1), .ro (.lit (.int .i64 r2))]] (.agg [.ro (.lit (.int .i64 r3)), .ro (.lit (.int .i64 r4)), .ro (.lit (.int .i64 r5)), .own 3 r6t r6]))
abbrev T_spec_l20Moves := Bool → List (List RD) → Int → Int → Int → (Bool → List (List RD) → Int → Bool → List (List RD) → Option FR) → Option FR
abbrev TL_spec_l20Moves_0 := (Bool → Bool → List (List RD) → Int → List (List RD) → Option FR) → Int → Bool → Int → Bool → List (List RD) → Int → List (List RD) → Option FR
def B_spec_l20Moves_0 (s_spec_l20Move : T_spec_l20Move)  (k0 : Bool → Bool → List (List RD) → Int → List (List RD) → Option FR) (v4 : Int) (rc : Bool → Int → Bool → List (List RD) → Int → List (List RD) → Option FR) (v5t : Bool) (v6 : Int) (v7t : Bool) (v7 : List (List RD)) (v8 : Int) (v9 : List (List RD)) : Option FR :=
  bif decide (v6 > 0) then
    s_spec_l20Move v7t v7 v8 v4 (fun r10t r10 r11 r12 r13 r14 r15t r15 =>
      req (lenOk (v9.length + 1) 48) <|
      rc false (w64 (v6 - 1)) r10t r10 r11 (v9 ++ ([[iR r12, iR r13, iR r14, .sl r15t r15]])))
  else
    k0 v5t v7t v7 v8 v9
def L_spec_l20Moves_0 (s_spec_l20Move : T_spec_l20Move)  (k0 : Bool → Bool → List (List RD) → Int → List (List RD) → Option FR) (v4 : Int) : Nat → Bool → Int → Bool → List (List RD) → Int → List (List RD) → Option FR
  | 0, _, _, _, _, _, _ => none
  | n + 1, v5t, v6, v7t, v7, v8, v9 => B_spec_l20Moves_0 s_spec_l20Move k0 v4 (L_spec_l20Moves_0 s_spec_l20Move k0 v4 n) v5t v6 v7t v7 v8 v9
def F_spec_l20Moves (s_spec_l20Rd_pick : T_spec_l20Rd_pick) (l0 : TL_spec_l20Moves_0) (p1t : Bool) (p1 : List (List RD)) (p2 : Int) (p3 : Int) (p4 : Int) (k0 : Bool → List (List RD) → Int → Bool → List (List RD) → Option FR) : Option FR :=
  s_spec_l20Rd_pick p1t p1 p2 (w64 (p3 + 1)) (fun r1t r1 r2 r3 =>
    l0 (fun y20t y21t y21 y22 y23 =>
      k0 y21t y21 y22 y20t y23) p4 true r3 r1t r1 r2 ([]))
def G_spec_l20Moves_0 : TL_spec_l20Moves_0 := fun k0 v4 v5t v6 v7t v7 v8 v9 => L_spec_l20Moves_0 S_spec_l20Move k0 v4 fuel v5t v6 v7t v7 v8 v9
def S_spec_l20Moves : T_spec_l20Moves := F_spec_l20Moves S_spec_l20Rd_pick G_spec_l20Moves_0
def C_spec_l20Moves (s : T_spec_l20Moves) : SmC := fun args K =>
  lCons args fun a1_ t2_ => dMut a1_ fun c3_ => lCons c3_ fun a4_ t5_ => dRo a4_ fun d6_ => rSl d6_ fun p1t p1 => lCons t5_ fun a7_ t8_ => dRo a7_ fun d9_ => rInt .i64 d9_ fun p2 => lNil t8_ <| lCons t2_ fun a10_ t11_ => dRo a10_ fun d12_ => rInt .i64 d12_ fun p3 => lCons t11_ fun a13_ t14_ => dRo a13_ fun d15_ => rInt .i64 d15_ fun p4 => lNil t14_ <|
  s p1t p1 p2 p3 p4 (fun r1t r1 r2 r3t r3 => K [[.ro (.sl r1t r1), .ro (.lit (.int .i64 r2))]] (.own 4 r3t r3))
abbrev T_spec_l1In := Int → Int → Int → (Bool → Option FR) → Option FR
def F_spec_l1In   (p1 : Int) (p2 : Int) (p3 : Int) (k0 : Bool → Option FR) : Option FR :=
  bif decide (p1 ≥ p2) then
    bif decide (p1 ≤ p3) then
      k0 true
    else
      k0 false
  else
    k0 false
def S_spec_l1In : T_spec_l1In := F_spec_l1In 
def C_spec_l1In (s : T_spec_l1In) : SmC := fun args K =>
  lCons args fun a1_ t2_ => dRo a1_ fun d3_ => rInt .i64 d3_ fun p1 => lCons t2_ fun a4_ t5_ => dRo a4_ fun d6_ => rInt .i64 d6_ fun p2 => lCons t5_ fun a7_ t8_ => dRo a7_ fun d9_ => rInt .i64 d9_ fun p3 => lNil t8_ <|
  s p1 p2 p3 (fun r1 => K [] (.ro (.lit (.bool r1))))
abbrev T_spec_l1Text := ByteArray → (Bool → Option FR) → Option FR
abbrev TL_spec_l1Text_0 := (Bool → Option FR) → (ByteArray → Option FR) → ByteArray → Int → Option FR
def B_spec_l1Text_0   (k0 : Bool → Option FR) (k1 : ByteArray → Option FR) (v1 : ByteArray) (rc : Int → Option FR) (v2 : Int) : Option FR :=
  bif decide (v2 < (v1.size : Int)) then
    chr_ v1 v2 fun b3 =>
    bif decide ((b3.toNat : Int) < 97) then
      k0 false
    else
      chr_ v1 v2 fun b4 =>
      bif decide ((b4.toNat : Int) > 122) then
        k0 false
      else
        rc (w64 (v2 + 1))
  else
    k1 v1
def L_spec_l1Text_0   (k0 : Bool → Option FR) (k1 : ByteArray → Option FR) (v1 : ByteArray) : Nat → Int → Option FR
  | 0, _ => none
  | n + 1, v2 => B_spec_l1Text_0 k0 k1 v1 (L_spec_l1Text_0 k0 k1 v1 n) v2
def F_spec_l1Text  (l0 : TL_spec_l1Text_0) (p1 : ByteArray) (k0 : Bool → Option FR) : Option FR :=
  l0 (fun y7 =>
    k0 y7) (fun y8 =>
    bif decide ((y8.size : Int) ≤ 6) then
      k0 true
    else
      k0 false) p1 0
def G_spec_l1Text_0 : TL_spec_l1Text_0 := fun k0 k1 v1 v2 => L_spec_l1Text_0  k0 k1 v1 fuel v2
def S_spec_l1Text : T_spec_l1Text := F_spec_l1Text G_spec_l1Text_0
def C_spec_l1Text (s : T_spec_l1Text) : SmC := fun args K =>
  lCons args fun a1_ t2_ => dRo a1_ fun d3_ => rStr d3_ fun p1 => lNil t2_ <|
  s p1 (fun r1 => K [] (.ro (.lit (.bool r1))))
abbrev T_spec_ValueOk := Int → Int → ByteArray → (Bool → Option FR) → Option FR
def F_spec_ValueOk (s_spec_l1In : T_spec_l1In) (s_spec_l1Text : T_spec_l1Text)  (p1 : Int) (p2 : Int) (p3 : ByteArray) (k0 : Bool → Option FR) : Option FR :=
  bif (p1 == 0) then
    bif (p2 == 0) then
      bif (p3.toList == (bs []).toList) then
        k0 true
      else
        k0 false
    else
      k0 false
  else
    bif (p1 == 1) then
      s_spec_l1In p2 (-9999) 9999 (fun r1 =>
        bif r1 then
          bif (p3.toList == (bs []).toList) then
            k0 true
          else
            k0 false
        else
          k0 false)
    else
      bif (p1 == 2) then
        bif (p2 == 0) then
          s_spec_l1Text p3 (fun r2 =>
            bif r2 then
              k0 true
            else
              k0 false)
        else
          k0 false
      else
        bif (p1 == 3) then
          s_spec_l1In p2 0 1 (fun r3 =>
            bif r3 then
              bif (p3.toList == (bs []).toList) then
                k0 true
              else
                k0 false
            else
              k0 false)
        else
          k0 false
def S_spec_ValueOk : T_spec_ValueOk := F_spec_ValueOk S_spec_l1In S_spec_l1Text
def C_spec_ValueOk (s : T_spec_ValueOk) : SmC := fun args K =>
  lCons args fun a1_ t2_ => dAgg a1_ fun c3_ => lCons c3_ fun a4_ t5_ => dRo a4_ fun d6_ => rInt .i64 d6_ fun p1 => lCons t5_ fun a7_ t8_ => dRo a7_ fun d9_ => rInt .i64 d9_ fun p2 => lCons t8_ fun a10_ t11_ => dRo a10_ fun d12_ => rStr d12_ fun p3 => lNil t11_ <| lNil t2_ <|
  s p1 p2 p3 (fun r1 => K [] (.ro (.lit (.bool r1))))
abbrev T_spec_RowOk := Bool → List (List RD) → (Bool → Option FR) → Option FR
abbrev TL_spec_RowOk_0 := (Bool → Option FR) → (Bool → List (List RD) → Option FR) → Bool → List (List RD) → Int → Option FR
def B_spec_RowOk_0 (s_spec_ValueOk : T_spec_ValueOk)  (k0 : Bool → Option FR) (k1 : Bool → List (List RD) → Option FR) (v1t : Bool) (v1 : List (List RD)) (rc : Int → Option FR) (v2 : Int) : Option FR :=
  bif decide (v2 < (v1.length : Int)) then
    at_iis v1 v2 fun x3 x4 x5 =>
    s_spec_ValueOk x3 x4 x5 (fun r6 =>
      bif r6 then
        rc (w64 (v2 + 1))
      else
        k0 false)
  else
    k1 v1t v1
def L_spec_RowOk_0 (s_spec_ValueOk : T_spec_ValueOk)  (k0 : Bool → Option FR) (k1 : Bool → List (List RD) → Option FR) (v1t : Bool) (v1 : List (List RD)) : Nat → Int → Option FR
  | 0, _ => none
  | n + 1, v2 => B_spec_RowOk_0 s_spec_ValueOk k0 k1 v1t v1 (L_spec_RowOk_0 s_spec_ValueOk k0 k1 v1t v1 n) v2
def F_spec_RowOk  (l0 : TL_spec_RowOk_0) (p1t : Bool) (p1 : List (List RD)) (k0 : Bool → Option FR) : Option FR :=
  l0 (fun y9 =>
    k0 y9) (fun y10t y10 =>
    bif decide ((y10.length : Int) ≤ 4) then
      k0 true
    else
      k0 false) p1t p1 0
def G_spec_RowOk_0 : TL_spec_RowOk_0 := fun k0 k1 v1t v1 v2 => L_spec_RowOk_0 S_spec_ValueOk k0 k1 v1t v1 fuel v2
def S_spec_RowOk : T_spec_RowOk := F_spec_RowOk G_spec_RowOk_0
def C_spec_RowOk (s : T_spec_RowOk) : SmC := fun args K =>
  lCons args fun a1_ t2_ => dRo a1_ fun d3_ => rSl d3_ fun p1t p1 => lNil t2_ <|
  s p1t p1 (fun r1 => K [] (.ro (.lit (.bool r1))))
abbrev T_spec_l13Version := Int → Int → Int → Bool → List (List RD) → (Bool → Option FR) → Option FR
def F_spec_l13Version (s_spec_l1In : T_spec_l1In) (s_spec_RowOk : T_spec_RowOk)  (p1 : Int) (p2 : Int) (p3 : Int) (p4t : Bool) (p4 : List (List RD)) (k0 : Bool → Option FR) : Option FR :=
  s_spec_l1In p1 0 4 (fun r1 =>
    bif r1 then
      s_spec_l1In p2 1 40 (fun r2 =>
        bif r2 then
          bif (p3 == 0) then
            s_spec_RowOk p4t p4 (fun r3 =>
              bif r3 then
                k0 true
              else
                k0 false)
          else
            s_spec_l1In p3 (w64 (p2 + 1)) 40 (fun r4 =>
              bif r4 then
                s_spec_RowOk p4t p4 (fun r5 =>
                  bif r5 then
                    k0 true
                  else
                    k0 false)
              else
                k0 false)
        else
          k0 false)
    else
      k0 false)
def S_spec_l13Version : T_spec_l13Version := F_spec_l13Version S_spec_l1In S_spec_RowOk
def C_spec_l13Version (s : T_spec_l13Version) : SmC := fun args K =>
  lCons args fun a1_ t2_ => dAgg a1_ fun c3_ => lCons c3_ fun a4_ t5_ => dRo a4_ fun d6_ => rInt .i64 d6_ fun p1 => lCons t5_ fun a7_ t8_ => dRo a7_ fun d9_ => rInt .i64 d9_ fun p2 => lCons t8_ fun a10_ t11_ => dRo a10_ fun d12_ => rInt .i64 d12_ fun p3 => lCons t11_ fun a13_ t14_ => dRo a13_ fun d15_ => rSl d15_ fun p4t p4 => lNil t14_ <| lNil t2_ <|
  s p1 p2 p3 p4t p4 (fun r1 => K [] (.ro (.lit (.bool r1))))
abbrev T_spec_VersionsOk := Bool → List (List RD) → (Bool → Option FR) → Option FR
abbrev TL_spec_VersionsOk_0 := (Bool → Option FR) → (Bool → List (List RD) → Option FR) → Bool → List (List RD) → Int → Option FR
def B_spec_VersionsOk_0 (s_spec_l13Version : T_spec_l13Version)  (k0 : Bool → Option FR) (k1 : Bool → List (List RD) → Option FR) (v1t : Bool) (v1 : List (List RD)) (rc : Int → Option FR) (v2 : Int) : Option FR :=
  bif decide (v2 < (v1.length : Int)) then
    at_iiil v1 v2 fun x3 x4 x5 x6t x6 =>
    s_spec_l13Version x3 x4 x5 x6t x6 (fun r7 =>
      bif r7 then
        bif decide (v2 > 0) then
          at_iiil v1 (w64 (v2 - 1)) fun x8 x9 x10 x11t x11 =>
          at_iiil v1 v2 fun x12 x13 x14 x15t x15 =>
          bif decide (x8 ≥ x12) then
            at_iiil v1 (w64 (v2 - 1)) fun x16 x17 x18 x19t x19 =>
            at_iiil v1 v2 fun x20 x21 x22 x23t x23 =>
            bif decide (x16 > x20) then
              k0 false
            else
              at_iiil v1 (w64 (v2 - 1)) fun x24 x25 x26 x27t x27 =>
              bif (x26 == 0) then
                k0 false
              else
                at_iiil v1 (w64 (v2 - 1)) fun x28 x29 x30 x31t x31 =>
                at_iiil v1 v2 fun x32 x33 x34 x35t x35 =>
                bif decide (x30 > x33) then
                  k0 false
                else
                  rc (w64 (v2 + 1))
          else
            rc (w64 (v2 + 1))
        else
          rc (w64 (v2 + 1))
      else
        k0 false)
  else
    k1 v1t v1
def L_spec_VersionsOk_0 (s_spec_l13Version : T_spec_l13Version)  (k0 : Bool → Option FR) (k1 : Bool → List (List RD) → Option FR) (v1t : Bool) (v1 : List (List RD)) : Nat → Int → Option FR
  | 0, _ => none
  | n + 1, v2 => B_spec_VersionsOk_0 s_spec_l13Version k0 k1 v1t v1 (L_spec_VersionsOk_0 s_spec_l13Version k0 k1 v1t v1 n) v2
def F_spec_VersionsOk  (l0 : TL_spec_VersionsOk_0) (p1t : Bool) (p1 : List (List RD)) (k0 : Bool → Option FR) : Option FR :=
  l0 (fun y38 =>
    k0 y38) (fun y39t y39 =>
    bif decide ((y39.length : Int) ≤ 60) then
      k0 true
    else
      k0 false) p1t p1 0
def G_spec_VersionsOk_0 : TL_spec_VersionsOk_0 := fun k0 k1 v1t v1 v2 => L_spec_VersionsOk_0 S_spec_l13Version k0 k1 v1t v1 fuel v2
def S_spec_VersionsOk : T_spec_VersionsOk := F_spec_VersionsOk G_spec_VersionsOk_0
def C_spec_VersionsOk (s : T_spec_VersionsOk) : SmC := fun args K =>
  lCons args fun a1_ t2_ => dRo a1_ fun d3_ => rSl d3_ fun p1t p1 => lNil t2_ <|
  s p1t p1 (fun r1 => K [] (.ro (.lit (.bool r1))))
abbrev T_spec_LastTurn := Bool → List (List RD) → Int → (Int → Option FR) → Option FR
abbrev TL_spec_LastTurn_0 := (Int → Option FR) → Bool → List (List RD) → Int → Int → Int → Option FR
def B_spec_LastTurn_0 (s_spec_VersionsOk : T_spec_VersionsOk)  (k0 : Int → Option FR) (v1t : Bool) (v1 : List (List RD)) (v2 : Int) (rc : Int → Int → Option FR) (v3 : Int) (v4 : Int) : Option FR :=
  bif decide (v4 < (v1.length : Int)) then
    s_spec_VersionsOk v1t v1 (fun r5 =>
      bif r5 then
        at_iiil v1 v4 fun x6 x7 x8 x9t x9 =>
        bif (x6 == v2) then
          at_iiil v1 v4 fun x10 x11 x12 x13t x13 =>
          at_iiil v1 v4 fun x14 x15 x16 x17t x17 =>
          rc (if x16 > (if x11 > v3 then x11 else v3) then x16 else (if x11 > v3 then x11 else v3)) (w64 (v4 + 1))
        else
          rc v3 (w64 (v4 + 1))
      else
        k0 v3)
  else
    k0 v3
def L_spec_LastTurn_0 (s_spec_VersionsOk : T_spec_VersionsOk)  (k0 : Int → Option FR) (v1t : Bool) (v1 : List (List RD)) (v2 : Int) : Nat → Int → Int → Option FR
  | 0, _, _ => none
  | n + 1, v3, v4 => B_spec_LastTurn_0 s_spec_VersionsOk k0 v1t v1 v2 (L_spec_LastTurn_0 s_spec_VersionsOk k0 v1t v1 v2 n) v3 v4
def F_spec_LastTurn  (l0 : TL_spec_LastTurn_0) (p1t : Bool) (p1 : List (List RD)) (p2 : Int) (k0 : Int → Option FR) : Option FR :=
  l0 (fun y19 =>
    k0 y19) p1t p1 p2 0 0
def G_spec_LastTurn_0 : TL_spec_LastTurn_0 := fun k0 v1t v1 v2 v3 v4 => L_spec_LastTurn_0 S_spec_VersionsOk k0 v1t v1 v2 fuel v3 v4
def S_spec_LastTurn : T_spec_LastTurn := F_spec_LastTurn G_spec_LastTurn_0
def C_spec_LastTurn (s : T_spec_LastTurn) : SmC := fun args K =>
  lCons args fun a1_ t2_ => dRo a1_ fun d3_ => rSl d3_ fun p1t p1 => lCons t2_ fun a4_ t5_ => dRo a4_ fun d6_ => rInt .i64 d6_ fun p2 => lNil t5_ <|
  s p1t p1 p2 (fun r1 => K [] (.ro (.lit (.int .i64 r1))))
abbrev T_spec_l14Reads := Bool → List (List RD) → (Bool → Option FR) → Option FR
abbrev TL_spec_l14Reads_0 := (Bool → Option FR) → Option FR → Bool → List (List RD) → Int → Option FR
def B_spec_l14Reads_0 (s_spec_l1In : T_spec_l1In)  (k0 : Bool → Option FR) (k1 : Option FR) (v1t : Bool) (v1 : List (List RD)) (rc : Int → Option FR) (v2 : Int) : Option FR :=
  bif decide (v2 < (v1.length : Int)) then
    at_i v1 v2 fun x3 =>
    s_spec_l1In x3 0 4 (fun r4 =>
      bif r4 then
        bif decide (v2 > 0) then
          at_i v1 (w64 (v2 - 1)) fun x5 =>
          at_i v1 v2 fun x6 =>
          bif decide (x5 ≥ x6) then
            k0 false
          else
            rc (w64 (v2 + 1))
        else
          rc (w64 (v2 + 1))
      else
        k0 false)
  else
    k1
def L_spec_l14Reads_0 (s_spec_l1In : T_spec_l1In)  (k0 : Bool → Option FR) (k1 : Option FR) (v1t : Bool) (v1 : List (List RD)) : Nat → Int → Option FR
  | 0, _ => none
  | n + 1, v2 => B_spec_l14Reads_0 s_spec_l1In k0 k1 v1t v1 (L_spec_l14Reads_0 s_spec_l1In k0 k1 v1t v1 n) v2
def F_spec_l14Reads  (l0 : TL_spec_l14Reads_0) (p1t : Bool) (p1 : List (List RD)) (k0 : Bool → Option FR) : Option FR :=
  l0 (fun y8 =>
    k0 y8) (
    k0 true) p1t p1 0
def G_spec_l14Reads_0 : TL_spec_l14Reads_0 := fun k0 k1 v1t v1 v2 => L_spec_l14Reads_0 S_spec_l1In k0 k1 v1t v1 fuel v2
def S_spec_l14Reads : T_spec_l14Reads := F_spec_l14Reads G_spec_l14Reads_0
def C_spec_l14Reads (s : T_spec_l14Reads) : SmC := fun args K =>
  lCons args fun a1_ t2_ => dRo a1_ fun d3_ => rSl d3_ fun p1t p1 => lNil t2_ <|
  s p1t p1 (fun r1 => K [] (.ro (.lit (.bool r1))))
abbrev T_spec_WritesOk := Bool → List (List RD) → (Bool → Option FR) → Option FR
abbrev TL_spec_WritesOk_0 := (Bool → Option FR) → Option FR → Bool → List (List RD) → Int → Option FR
def B_spec_WritesOk_0 (s_spec_l1In : T_spec_l1In) (s_spec_RowOk : T_spec_RowOk)  (k0 : Bool → Option FR) (k1 : Option FR) (v1t : Bool) (v1 : List (List RD)) (rc : Int → Option FR) (v2 : Int) : Option FR :=
  bif decide (v2 < (v1.length : Int)) then
    at_ilb v1 v2 fun x3 x4t x4 x5 =>
    s_spec_l1In x3 0 4 (fun r6 =>
      bif r6 then
        s_spec_RowOk x4t x4 (fun r7 =>
          bif r7 then
            bif x5 then
              bif decide ((x4.length : Int) > 0) then
                k0 false
              else
                bif decide (v2 > 0) then
                  at_ilb v1 (w64 (v2 - 1)) fun x8 x9t x9 x10 =>
                  bif decide (x8 ≥ x3) then
                    k0 false
                  else
                    rc (w64 (v2 + 1))
                else
                  rc (w64 (v2 + 1))
            else
              bif decide (v2 > 0) then
                at_ilb v1 (w64 (v2 - 1)) fun x11 x12t x12 x13 =>
                bif decide (x11 ≥ x3) then
                  k0 false
                else
                  rc (w64 (v2 + 1))
              else
                rc (w64 (v2 + 1))
          else
            k0 false)
      else
        k0 false)
  else
    k1
def L_spec_WritesOk_0 (s_spec_l1In : T_spec_l1In) (s_spec_RowOk : T_spec_RowOk)  (k0 : Bool → Option FR) (k1 : Option FR) (v1t : Bool) (v1 : List (List RD)) : Nat → Int → Option FR
  | 0, _ => none
  | n + 1, v2 => B_spec_WritesOk_0 s_spec_l1In s_spec_RowOk k0 k1 v1t v1 (L_spec_WritesOk_0 s_spec_l1In s_spec_RowOk k0 k1 v1t v1 n) v2
def F_spec_WritesOk  (l0 : TL_spec_WritesOk_0) (p1t : Bool) (p1 : List (List RD)) (k0 : Bool → Option FR) : Option FR :=
  l0 (fun y15 =>
    k0 y15) (
    k0 true) p1t p1 0
def G_spec_WritesOk_0 : TL_spec_WritesOk_0 := fun k0 k1 v1t v1 v2 => L_spec_WritesOk_0 S_spec_l1In S_spec_RowOk k0 k1 v1t v1 fuel v2
def S_spec_WritesOk : T_spec_WritesOk := F_spec_WritesOk G_spec_WritesOk_0
def C_spec_WritesOk (s : T_spec_WritesOk) : SmC := fun args K =>
  lCons args fun a1_ t2_ => dRo a1_ fun d3_ => rSl d3_ fun p1t p1 => lNil t2_ <|
  s p1t p1 (fun r1 => K [] (.ro (.lit (.bool r1))))
abbrev T_spec_l14Txn := Int → Int → Int → Bool → List (List RD) → Bool → List (List RD) → Int → (Bool → Option FR) → Option FR
abbrev TL_spec_l14Txn_j0 := (Bool → Option FR) → Int → Bool → Int → Int → Int → Bool → List (List RD) → Bool → List (List RD) → Option FR
def B_spec_l14Txn_j0 (s_spec_l1In : T_spec_l1In) (s_spec_l14Reads : T_spec_l14Reads) (s_spec_WritesOk : T_spec_WritesOk)  (k0 : Bool → Option FR) (v1 : Int) (v2 : Bool) (v3 : Int) (v4 : Int) (v5 : Int) (v6t : Bool) (v6 : List (List RD)) (v7t : Bool) (v7 : List (List RD)) : Option FR :=
  bif (v3 == 0) then
    bif v2 then
      bif (v5 == 0) then
        k0 true
      else
        k0 false
    else
      k0 false
  else
    bif (v3 == 1) then
      s_spec_l1In v4 0 v1 (fun r8 =>
        bif r8 then
          bif (v5 == 0) then
            s_spec_l14Reads v6t v6 (fun r9 =>
              bif r9 then
                s_spec_WritesOk v7t v7 (fun r10 =>
                  bif r10 then
                    k0 true
                  else
                    k0 false)
              else
                k0 false)
          else
            k0 false
        else
          k0 false)
    else
      bif (v3 == 3) then
        s_spec_l1In v4 0 v1 (fun r11 =>
          bif r11 then
            bif (v5 == 0) then
              s_spec_l14Reads v6t v6 (fun r12 =>
                bif r12 then
                  s_spec_WritesOk v7t v7 (fun r13 =>
                    bif r13 then
                      k0 true
                    else
                      k0 false)
                else
                  k0 false)
            else
              k0 false
          else
            k0 false)
      else
        bif (v3 == 2) then
          s_spec_l1In v4 0 v1 (fun r14 =>
            bif r14 then
              s_spec_l1In v5 (w64 (v4 + 1)) v1 (fun r15 =>
                bif r15 then
                  s_spec_l14Reads v6t v6 (fun r16 =>
                    bif r16 then
                      s_spec_WritesOk v7t v7 (fun r17 =>
                        bif r17 then
                          k0 true
                        else
                          k0 false)
                    else
                      k0 false)
                else
                  k0 false)
            else
              k0 false)
        else
          k0 false
def F_spec_l14Txn  (j0 : TL_spec_l14Txn_j0) (p1 : Int) (p2 : Int) (p3 : Int) (p4t : Bool) (p4 : List (List RD)) (p5t : Bool) (p5 : List (List RD)) (p6 : Int) (k0 : Bool → Option FR) : Option FR :=
  bif ((p4.length : Int) == 0) then
    bif ((p5.length : Int) == 0) then
      bif (p2 == 0) then
        j0 (fun y19 =>
          k0 y19) p6 true p1 p2 p3 p4t p4 p5t p5
      else
        j0 (fun y20 =>
          k0 y20) p6 false p1 p2 p3 p4t p4 p5t p5
    else
      j0 (fun y21 =>
        k0 y21) p6 false p1 p2 p3 p4t p4 p5t p5
  else
    j0 (fun y22 =>
      k0 y22) p6 false p1 p2 p3 p4t p4 p5t p5
def G_spec_l14Txn_j0 : TL_spec_l14Txn_j0 := B_spec_l14Txn_j0 S_spec_l1In S_spec_l14Reads S_spec_WritesOk
def S_spec_l14Txn : T_spec_l14Txn := F_spec_l14Txn G_spec_l14Txn_j0
def C_spec_l14Txn (s : T_spec_l14Txn) : SmC := fun args K =>
  lCons args fun a1_ t2_ => dAgg a1_ fun c3_ => lCons c3_ fun a4_ t5_ => dRo a4_ fun d6_ => rInt .i64 d6_ fun p1 => lCons t5_ fun a7_ t8_ => dRo a7_ fun d9_ => rInt .i64 d9_ fun p2 => lCons t8_ fun a10_ t11_ => dRo a10_ fun d12_ => rInt .i64 d12_ fun p3 => lCons t11_ fun a13_ t14_ => dRo a13_ fun d15_ => rSl d15_ fun p4t p4 => lCons t14_ fun a16_ t17_ => dRo a16_ fun d18_ => rSl d18_ fun p5t p5 => lNil t17_ <| lCons t2_ fun a19_ t20_ => dRo a19_ fun d21_ => rInt .i64 d21_ fun p6 => lNil t20_ <|
  s p1 p2 p3 p4t p4 p5t p5 p6 (fun r1 => K [] (.ro (.lit (.bool r1))))
abbrev T_spec_HouseOk := Bool → List (List RD) → Int → Bool → List (List RD) → (Bool → Option FR) → Option FR
abbrev TL_spec_HouseOk_0 := (Bool → Option FR) → (Bool → List (List RD) → Int → Bool → List (List RD) → Option FR) → Bool → List (List RD) → Int → Bool → List (List RD) → Int → Option FR
def B_spec_HouseOk_0 (s_spec_LastTurn : T_spec_LastTurn)  (k0 : Bool → Option FR) (k1 : Bool → List (List RD) → Int → Bool → List (List RD) → Option FR) (v4t : Bool) (v4 : List (List RD)) (v5 : Int) (v6t : Bool) (v6 : List (List RD)) (rc : Int → Option FR) (v3 : Int) : Option FR :=
  bif decide (v3 < 5) then
    s_spec_LastTurn v4t v4 v3 (fun r7 =>
      bif decide (r7 > v5) then
        k0 false
      else
        rc (w64 (v3 + 1)))
  else
    k1 v4t v4 v5 v6t v6
def L_spec_HouseOk_0 (s_spec_LastTurn : T_spec_LastTurn)  (k0 : Bool → Option FR) (k1 : Bool → List (List RD) → Int → Bool → List (List RD) → Option FR) (v4t : Bool) (v4 : List (List RD)) (v5 : Int) (v6t : Bool) (v6 : List (List RD)) : Nat → Int → Option FR
  | 0, _ => none
  | n + 1, v3 => B_spec_HouseOk_0 s_spec_LastTurn k0 k1 v4t v4 v5 v6t v6 (L_spec_HouseOk_0 s_spec_LastTurn k0 k1 v4t v4 v5 v6t v6 n) v3
abbrev TL_spec_HouseOk_1 := (Bool → Option FR) → (Int → Bool → List (List RD) → Int → Bool → List (List RD) → Option FR) → Int → Bool → List (List RD) → Int → Bool → List (List RD) → Int → Option FR
def B_spec_HouseOk_1   (k0 : Bool → Option FR) (k1 : Int → Bool → List (List RD) → Int → Bool → List (List RD) → Option FR) (v26 : Int) (v28t : Bool) (v28 : List (List RD)) (v29 : Int) (v30t : Bool) (v30 : List (List RD)) (rc : Int → Option FR) (v27 : Int) : Option FR :=
  bif decide (v27 < v26) then
    at_iiill v30 v26 fun x31 x32 x33 x34t x34 x35t x35 =>
    bif (x31 == 2) then
      at_iiill v30 v27 fun x36 x37 x38 x39t x39 x40t x40 =>
      bif (x36 == 2) then
        at_iiill v30 v26 fun x41 x42 x43 x44t x44 x45t x45 =>
        at_iiill v30 v27 fun x46 x47 x48 x49t x49 x50t x50 =>
        bif (x43 == x48) then
          k0 false
        else
          rc (w64 (v27 + 1))
      else
        rc (w64 (v27 + 1))
    else
      rc (w64 (v27 + 1))
  else
    k1 v26 v28t v28 v29 v30t v30
def L_spec_HouseOk_1   (k0 : Bool → Option FR) (k1 : Int → Bool → List (List RD) → Int → Bool → List (List RD) → Option FR) (v26 : Int) (v28t : Bool) (v28 : List (List RD)) (v29 : Int) (v30t : Bool) (v30 : List (List RD)) : Nat → Int → Option FR
  | 0, _ => none
  | n + 1, v27 => B_spec_HouseOk_1 k0 k1 v26 v28t v28 v29 v30t v30 (L_spec_HouseOk_1 k0 k1 v26 v28t v28 v29 v30t v30 n) v27
abbrev TL_spec_HouseOk_2 := (Bool → Option FR) → Option FR → Int → Bool → List (List RD) → Int → Bool → List (List RD) → Option FR
def B_spec_HouseOk_2 (s_spec_l14Txn : T_spec_l14Txn) (l1 : TL_spec_HouseOk_1) (k0 : Bool → Option FR) (k1 : Option FR)  (rc : Int → Bool → List (List RD) → Int → Bool → List (List RD) → Option FR) (v16 : Int) (v17t : Bool) (v17 : List (List RD)) (v18 : Int) (v19t : Bool) (v19 : List (List RD)) : Option FR :=
  bif decide (v16 < 4) then
    at_iiill v19 v16 fun x20 x21 x22 x23t x23 x24t x24 =>
    s_spec_l14Txn x20 x21 x22 x23t x23 x24t x24 v18 (fun r25 =>
      bif r25 then
        l1 (fun y56 =>
          k0 y56) (fun y57 y58t y58 y59 y60t y60 =>
          rc (w64 (y57 + 1)) y58t y58 y59 y60t y60) v16 v17t v17 v18 v19t v19 0
      else
        k0 false)
  else
    k1
def L_spec_HouseOk_2 (s_spec_l14Txn : T_spec_l14Txn) (l1 : TL_spec_HouseOk_1) (k0 : Bool → Option FR) (k1 : Option FR)  : Nat → Int → Bool → List (List RD) → Int → Bool → List (List RD) → Option FR
  | 0, _, _, _, _, _, _ => none
  | n + 1, v16, v17t, v17, v18, v19t, v19 => B_spec_HouseOk_2 s_spec_l14Txn l1 k0 k1 (L_spec_HouseOk_2 s_spec_l14Txn l1 k0 k1 n) v16 v17t v17 v18 v19t v19
def F_spec_HouseOk (s_spec_VersionsOk : T_spec_VersionsOk) (s_spec_l1In : T_spec_l1In) (l2 : TL_spec_HouseOk_2) (l0 : TL_spec_HouseOk_0) (p1t : Bool) (p1 : List (List RD)) (p2 : Int) (p3t : Bool) (p3 : List (List RD)) (k0 : Bool → Option FR) : Option FR :=
  s_spec_VersionsOk p1t p1 (fun r1 =>
    bif r1 then
      s_spec_l1In p2 0 40 (fun r2 =>
        bif r2 then
          bif ((p3.length : Int) != 4) then
            k0 false
          else
            l0 (fun y12 =>
              k0 y12) (fun y13t y13 y14 y15t y15 =>
              l2 (fun y62 =>
                k0 y62) (
                k0 true) 0 y13t y13 y14 y15t y15) p1t p1 p2 p3t p3 0
        else
          k0 false)
    else
      k0 false)
def G_spec_HouseOk_0 : TL_spec_HouseOk_0 := fun k0 k1 v4t v4 v5 v6t v6 v3 => L_spec_HouseOk_0 S_spec_LastTurn k0 k1 v4t v4 v5 v6t v6 fuel v3
def G_spec_HouseOk_1 : TL_spec_HouseOk_1 := fun k0 k1 v26 v28t v28 v29 v30t v30 v27 => L_spec_HouseOk_1  k0 k1 v26 v28t v28 v29 v30t v30 fuel v27
def G_spec_HouseOk_2 : TL_spec_HouseOk_2 := fun k0 k1 v16 v17t v17 v18 v19t v19 => L_spec_HouseOk_2 S_spec_l14Txn G_spec_HouseOk_1 k0 k1 fuel v16 v17t v17 v18 v19t v19
def S_spec_HouseOk : T_spec_HouseOk := F_spec_HouseOk S_spec_VersionsOk S_spec_l1In G_spec_HouseOk_2 G_spec_HouseOk_0
def C_spec_HouseOk (s : T_spec_HouseOk) : SmC := fun args K =>
  lCons args fun a1_ t2_ => dAgg a1_ fun c3_ => lCons c3_ fun a4_ t5_ => dRo a4_ fun d6_ => rSl d6_ fun p1t p1 => lCons t5_ fun a7_ t8_ => dRo a7_ fun d9_ => rInt .i64 d9_ fun p2 => lCons t8_ fun a10_ t11_ => dRo a10_ fun d12_ => rSl d12_ fun p3t p3 => lNil t11_ <| lNil t2_ <|
  s p1t p1 p2 p3t p3 (fun r1 => K [] (.ro (.lit (.bool r1))))
abbrev T_spec_l3Own := Bool → List (List RD) → (Bool → List (List RD) → Option FR) → Option FR
def F_spec_l3Own   (p1t : Bool) (p1 : List (List RD)) (k0 : Bool → List (List RD) → Option FR) : Option FR :=
  req (widthOk 3 p1) <|
  req (allLit p1) <|
  req (lenOk (0 + p1.length) 32) <|
  k0 false ([] ++ p1)
def S_spec_l3Own : T_spec_l3Own := F_spec_l3Own 
def C_spec_l3Own (s : T_spec_l3Own) : SmC := fun args K =>
  lCons args fun a1_ t2_ => dRo a1_ fun d3_ => rSl d3_ fun p1t p1 => lNil t2_ <|
  s p1t p1 (fun r1t r1 => K [] (.own 3 r1t r1))
abbrev T_spec_l13Copy := Bool → List (List RD) → (Bool → List (List RD) → Option FR) → Option FR
abbrev TL_spec_l13Copy_0 := (Bool → List (List RD) → Option FR) → Bool → List (List RD) → Bool → Int → List (List RD) → Option FR
def B_spec_l13Copy_0 (s_spec_l3Own : T_spec_l3Own)  (k0 : Bool → List (List RD) → Option FR) (v1t : Bool) (v1 : List (List RD)) (rc : Bool → Int → List (List RD) → Option FR) (v2t : Bool) (v3 : Int) (v4 : List (List RD)) : Option FR :=
  bif decide (v3 < (v1.length : Int)) then
    at_iiil v1 v3 fun x5 x6 x7 x8t x8 =>
    s_spec_l3Own x8t x8 (fun r9t r9 =>
      req (lenOk (v4.length + 1) 48) <|
      rc false (w64 (v3 + 1)) (v4 ++ ([[iR x5, iR x6, iR x7, .sl r9t r9]])))
  else
    k0 v2t v4
def L_spec_l13Copy_0 (s_spec_l3Own : T_spec_l3Own)  (k0 : Bool → List (List RD) → Option FR) (v1t : Bool) (v1 : List (List RD)) : Nat → Bool → Int → List (List RD) → Option FR
  | 0, _, _, _ => none
  | n + 1, v2t, v3, v4 => B_spec_l13Copy_0 s_spec_l3Own k0 v1t v1 (L_spec_l13Copy_0 s_spec_l3Own k0 v1t v1 n) v2t v3 v4
def F_spec_l13Copy  (l0 : TL_spec_l13Copy_0) (p1t : Bool) (p1 : List (List RD)) (k0 : Bool → List (List RD) → Option FR) : Option FR :=
  l0 (fun y12t y13 =>
    k0 y12t y13) p1t p1 true 0 ([])
def G_spec_l13Copy_0 : TL_spec_l13Copy_0 := fun k0 v1t v1 v2t v3 v4 => L_spec_l13Copy_0 S_spec_l3Own k0 v1t v1 fuel v2t v3 v4
def S_spec_l13Copy : T_spec_l13Copy := F_spec_l13Copy G_spec_l13Copy_0
def C_spec_l13Copy (s : T_spec_l13Copy) : SmC := fun args K =>
  lCons args fun a1_ t2_ => dRo a1_ fun d3_ => rSl d3_ fun p1t p1 => lNil t2_ <|
  s p1t p1 (fun r1t r1 => K [] (.own 4 r1t r1))
abbrev T_spec_l14Writes := Bool → List (List RD) → (Bool → List (List RD) → Option FR) → Option FR
abbrev TL_spec_l14Writes_0 := (Bool → List (List RD) → Option FR) → Bool → List (List RD) → Bool → Int → List (List RD) → Option FR
def B_spec_l14Writes_0 (s_spec_l3Own : T_spec_l3Own)  (k0 : Bool → List (List RD) → Option FR) (v1t : Bool) (v1 : List (List RD)) (rc : Bool → Int → List (List RD) → Option FR) (v2t : Bool) (v3 : Int) (v4 : List (List RD)) : Option FR :=
  bif decide (v3 < (v1.length : Int)) then
    at_ilb v1 v3 fun x5 x6t x6 x7 =>
    s_spec_l3Own x6t x6 (fun r8t r8 =>
      req (lenOk (v4.length + 1) 40) <|
      rc false (w64 (v3 + 1)) (v4 ++ ([[iR x5, .sl r8t r8, .lit (.bool x7)]])))
  else
    k0 v2t v4
def L_spec_l14Writes_0 (s_spec_l3Own : T_spec_l3Own)  (k0 : Bool → List (List RD) → Option FR) (v1t : Bool) (v1 : List (List RD)) : Nat → Bool → Int → List (List RD) → Option FR
  | 0, _, _, _ => none
  | n + 1, v2t, v3, v4 => B_spec_l14Writes_0 s_spec_l3Own k0 v1t v1 (L_spec_l14Writes_0 s_spec_l3Own k0 v1t v1 n) v2t v3 v4
def F_spec_l14Writes  (l0 : TL_spec_l14Writes_0) (p1t : Bool) (p1 : List (List RD)) (k0 : Bool → List (List RD) → Option FR) : Option FR :=
  l0 (fun y11t y12 =>
    k0 y11t y12) p1t p1 true 0 ([])
def G_spec_l14Writes_0 : TL_spec_l14Writes_0 := fun k0 v1t v1 v2t v3 v4 => L_spec_l14Writes_0 S_spec_l3Own k0 v1t v1 fuel v2t v3 v4
def S_spec_l14Writes : T_spec_l14Writes := F_spec_l14Writes G_spec_l14Writes_0
def C_spec_l14Writes (s : T_spec_l14Writes) : SmC := fun args K =>
  lCons args fun a1_ t2_ => dRo a1_ fun d3_ => rSl d3_ fun p1t p1 => lNil t2_ <|
  s p1t p1 (fun r1t r1 => K [] (.own 3 r1t r1))
abbrev T_spec_l14Copy := Bool → List (List RD) → Int → Bool → List (List RD) → (Bool → List (List RD) → Int → Bool → List (List RD) → Option FR) → Option FR
abbrev TL_spec_l14Copy_0 := (Bool → Int → Bool → List (List RD) → List (List RD) → Bool → Int → Bool → List (List RD) → List (List RD) → Option FR) → Bool → List (List RD) → Int → Bool → List (List RD) → Bool → Int → Bool → List (List RD) → List (List RD) → Bool → Int → List (List RD) → Int → Bool → List (List RD) → Option FR
def B_spec_l14Copy_0 (s_spec_l14Writes : T_spec_l14Writes)  (k0 : Bool → Int → Bool → List (List RD) → List (List RD) → Bool → Int → Bool → List (List RD) → List (List RD) → Option FR) (v3t : Bool) (v3 : List (List RD)) (v4 : Int) (v5t : Bool) (v5 : List (List RD)) (v6t : Bool) (v7 : Int) (v8t : Bool) (v9 : List (List RD)) (v10 : List (List RD)) (v11t : Bool) (v12 : Int) (v14 : List (List RD)) (rc : Int → Bool → List (List RD) → Option FR) (v2 : Int) (v13t : Bool) (v15 : List (List RD)) : Option FR :=
  bif decide (v2 < (v5.length : Int)) then
    at_iiill v5 v2 fun x16 x17 x18 x19t x19 x20t x20 =>
    req (widthOk 1 x19) <|
    req (allLit x19) <|
    req (lenOk (0 + x19.length) 8) <|
    s_spec_l14Writes x20t x20 (fun r21t r21 =>
      req (lenOk (v15.length + 1) 72) <|
      rc (w64 (v2 + 1)) false (v15 ++ ([[iR x16, iR x17, iR x18, .sl false ([] ++ x19), .sl r21t r21]])))
  else
    k0 v6t v7 v8t v9 v10 v11t v12 v13t v14 v15
def L_spec_l14Copy_0 (s_spec_l14Writes : T_spec_l14Writes)  (k0 : Bool → Int → Bool → List (List RD) → List (List RD) → Bool → Int → Bool → List (List RD) → List (List RD) → Option FR) (v3t : Bool) (v3 : List (List RD)) (v4 : Int) (v5t : Bool) (v5 : List (List RD)) (v6t : Bool) (v7 : Int) (v8t : Bool) (v9 : List (List RD)) (v10 : List (List RD)) (v11t : Bool) (v12 : Int) (v14 : List (List RD)) : Nat → Int → Bool → List (List RD) → Option FR
  | 0, _, _, _ => none
  | n + 1, v2, v13t, v15 => B_spec_l14Copy_0 s_spec_l14Writes k0 v3t v3 v4 v5t v5 v6t v7 v8t v9 v10 v11t v12 v14 (L_spec_l14Copy_0 s_spec_l14Writes k0 v3t v3 v4 v5t v5 v6t v7 v8t v9 v10 v11t v12 v14 n) v2 v13t v15
def F_spec_l14Copy (s_spec_l13Copy : T_spec_l13Copy) (l0 : TL_spec_l14Copy_0) (p1t : Bool) (p1 : List (List RD)) (p2 : Int) (p3t : Bool) (p3 : List (List RD)) (k0 : Bool → List (List RD) → Int → Bool → List (List RD) → Option FR) : Option FR :=
  s_spec_l13Copy p1t p1 (fun r1t r1 =>
    l0 (fun y32t y33 y34t y35 y36 y37t y38 y39t y40 y41 =>
      k0 y37t y40 y38 y39t y41) p1t p1 p2 p3t p3 true 0 true ([]) ([]) r1t p2 r1 0 true ([]))
def G_spec_l14Copy_0 : TL_spec_l14Copy_0 := fun k0 v3t v3 v4 v5t v5 v6t v7 v8t v9 v10 v11t v12 v14 v2 v13t v15 => L_spec_l14Copy_0 S_spec_l14Writes k0 v3t v3 v4 v5t v5 v6t v7 v8t v9 v10 v11t v12 v14 fuel v2 v13t v15
def S_spec_l14Copy : T_spec_l14Copy := F_spec_l14Copy S_spec_l13Copy G_spec_l14Copy_0
def C_spec_l14Copy (s : T_spec_l14Copy) : SmC := fun args K =>
  lCons args fun a1_ t2_ => dAgg a1_ fun c3_ => lCons c3_ fun a4_ t5_ => dRo a4_ fun d6_ => rSl d6_ fun p1t p1 => lCons t5_ fun a7_ t8_ => dRo a7_ fun d9_ => rInt .i64 d9_ fun p2 => lCons t8_ fun a10_ t11_ => dRo a10_ fun d12_ => rSl d12_ fun p3t p3 => lNil t11_ <| lNil t2_ <|
  s p1t p1 p2 p3t p3 (fun r1t r1 r2 r3t r3 => K [] (.agg [.own 4 r1t r1, .ro (.lit (.int .i64 r2)), .own 5 r3t r3]))
abbrev T_spec_l14Own := Int → Int → Int → Bool → List (List RD) → Bool → List (List RD) → Int → (Int → Option FR) → Option FR
abbrev TL_spec_l14Own_0 := (Int → Option FR) → Option FR → Int → Int → Int → Int → Bool → List (List RD) → Bool → List (List RD) → Int → Option FR
def B_spec_l14Own_0   (k0 : Int → Option FR) (k1 : Option FR) (v1 : Int) (v3 : Int) (v4 : Int) (v5 : Int) (v6t : Bool) (v6 : List (List RD)) (v7t : Bool) (v7 : List (List RD)) (rc : Int → Option FR) (v2 : Int) : Option FR :=
  bif decide (v2 < (v7.length : Int)) then
    at_ilb v7 v2 fun x8 x9t x9 x10 =>
    bif (x8 == v1) then
      k0 v2
    else
      rc (w64 (v2 + 1))
  else
    k1
def L_spec_l14Own_0   (k0 : Int → Option FR) (k1 : Option FR) (v1 : Int) (v3 : Int) (v4 : Int) (v5 : Int) (v6t : Bool) (v6 : List (List RD)) (v7t : Bool) (v7 : List (List RD)) : Nat → Int → Option FR
  | 0, _ => none
  | n + 1, v2 => B_spec_l14Own_0 k0 k1 v1 v3 v4 v5 v6t v6 v7t v7 (L_spec_l14Own_0 k0 k1 v1 v3 v4 v5 v6t v6 v7t v7 n) v2
def F_spec_l14Own  (l0 : TL_spec_l14Own_0) (p1 : Int) (p2 : Int) (p3 : Int) (p4t : Bool) (p4 : List (List RD)) (p5t : Bool) (p5 : List (List RD)) (p6 : Int) (k0 : Int → Option FR) : Option FR :=
  l0 (fun y12 =>
    k0 y12) (
    k0 (-1)) p6 p1 p2 p3 p4t p4 p5t p5 0
def G_spec_l14Own_0 : TL_spec_l14Own_0 := fun k0 k1 v1 v3 v4 v5 v6t v6 v7t v7 v2 => L_spec_l14Own_0  k0 k1 v1 v3 v4 v5 v6t v6 v7t v7 fuel v2
def S_spec_l14Own : T_spec_l14Own := F_spec_l14Own G_spec_l14Own_0
def C_spec_l14Own (s : T_spec_l14Own) : SmC := fun args K =>
  lCons args fun a1_ t2_ => dAgg a1_ fun c3_ => lCons c3_ fun a4_ t5_ => dRo a4_ fun d6_ => rInt .i64 d6_ fun p1 => lCons t5_ fun a7_ t8_ => dRo a7_ fun d9_ => rInt .i64 d9_ fun p2 => lCons t8_ fun a10_ t11_ => dRo a10_ fun d12_ => rInt .i64 d12_ fun p3 => lCons t11_ fun a13_ t14_ => dRo a13_ fun d15_ => rSl d15_ fun p4t p4 => lCons t14_ fun a16_ t17_ => dRo a16_ fun d18_ => rSl d18_ fun p5t p5 => lNil t17_ <| lCons t2_ fun a19_ t20_ => dRo a19_ fun d21_ => rInt .i64 d21_ fun p6 => lNil t20_ <|
  s p1 p2 p3 p4t p4 p5t p5 p6 (fun r1 => K [] (.ro (.lit (.int .i64 r1))))
abbrev T_spec_l14Note := Bool → List (List RD) → Int → (Bool → List (List RD) → Option FR) → Option FR
abbrev TL_spec_l14Note_0 := (Int → Bool → Bool → List (List RD) → Option FR) → Bool → List (List RD) → Int → Bool → Bool → Int → List (List RD) → Option FR
def B_spec_l14Note_0   (k0 : Int → Bool → Bool → List (List RD) → Option FR) (v1t : Bool) (v1 : List (List RD)) (v2 : Int) (rc : Bool → Bool → Int → List (List RD) → Option FR) (v3t : Bool) (v4 : Bool) (v5 : Int) (v6 : List (List RD)) : Option FR :=
  bif decide (v5 < (v1.length : Int)) then
    at_i v1 v5 fun x7 =>
    bif decide (x7 ≥ v2) then
      bif v4 then
        at_i v1 v5 fun x8 =>
        bif (x8 != v2) then
          at_i v1 v5 fun x9 =>
          req (lenOk (v6.length + 1) 8) <|
          rc false v4 (w64 (v5 + 1)) (v6 ++ ([[iR x9]]))
        else
          rc v3t v4 (w64 (v5 + 1)) v6
      else
        req (lenOk (v6.length + 1) 8) <|
        at_i v1 v5 fun x10 =>
        bif (x10 != v2) then
          at_i v1 v5 fun x11 =>
          req (lenOk ((v6 ++ ([[iR v2]])).length + 1) 8) <|
          rc false true (w64 (v5 + 1)) ((v6 ++ ([[iR v2]])) ++ ([[iR x11]]))
        else
          rc false true (w64 (v5 + 1)) (v6 ++ ([[iR v2]]))
    else
      at_i v1 v5 fun x12 =>
      bif (x12 != v2) then
        at_i v1 v5 fun x13 =>
        req (lenOk (v6.length + 1) 8) <|
        rc false v4 (w64 (v5 + 1)) (v6 ++ ([[iR x13]]))
      else
        rc v3t v4 (w64 (v5 + 1)) v6
  else
    k0 v2 v3t v4 v6
def L_spec_l14Note_0   (k0 : Int → Bool → Bool → List (List RD) → Option FR) (v1t : Bool) (v1 : List (List RD)) (v2 : Int) : Nat → Bool → Bool → Int → List (List RD) → Option FR
  | 0, _, _, _, _ => none
  | n + 1, v3t, v4, v5, v6 => B_spec_l14Note_0 k0 v1t v1 v2 (L_spec_l14Note_0 k0 v1t v1 v2 n) v3t v4 v5 v6
def F_spec_l14Note  (l0 : TL_spec_l14Note_0) (p1t : Bool) (p1 : List (List RD)) (p2 : Int) (k0 : Bool → List (List RD) → Option FR) : Option FR :=
  l0 (fun y18 y19t y20 y21 =>
    bif y20 then
      k0 y19t y21
    else
      req (lenOk (y21.length + 1) 8) <|
      k0 false (y21 ++ ([[iR y18]]))) p1t p1 p2 true false 0 ([])
def G_spec_l14Note_0 : TL_spec_l14Note_0 := fun k0 v1t v1 v2 v3t v4 v5 v6 => L_spec_l14Note_0  k0 v1t v1 v2 fuel v3t v4 v5 v6
def S_spec_l14Note : T_spec_l14Note := F_spec_l14Note G_spec_l14Note_0
def C_spec_l14Note (s : T_spec_l14Note) : SmC := fun args K =>
  lCons args fun a1_ t2_ => dRo a1_ fun d3_ => rSl d3_ fun p1t p1 => lCons t2_ fun a4_ t5_ => dRo a4_ fun d6_ => rInt .i64 d6_ fun p2 => lNil t5_ <|
  s p1t p1 p2 (fun r1t r1 => K [] (.own 1 r1t r1))
abbrev T_spec_l14Put := Bool → List (List RD) → Int → Bool → List (List RD) → Bool → (Bool → List (List RD) → Option FR) → Option FR
abbrev TL_spec_l14Put_0 := (Bool → Bool → Int → Bool → List (List RD) → Bool → List (List RD) → Option FR) → Bool → List (List RD) → Int → Bool → List (List RD) → Bool → Bool → Bool → Int → List (List RD) → Option FR
def B_spec_l14Put_0   (k0 : Bool → Bool → Int → Bool → List (List RD) → Bool → List (List RD) → Option FR) (v1t : Bool) (v1 : List (List RD)) (v5 : Int) (v6t : Bool) (v6 : List (List RD)) (v7 : Bool) (rc : Bool → Bool → Int → List (List RD) → Option FR) (v2t : Bool) (v3 : Bool) (v4 : Int) (v8 : List (List RD)) : Option FR :=
  bif decide (v4 < (v1.length : Int)) then
    at_ilb v1 v4 fun x9 x10t x10 x11 =>
    bif decide (x9 ≥ v5) then
      bif v3 then
        at_ilb v1 v4 fun x12 x13t x13 x14 =>
        bif (x12 != v5) then
          at_ilb v1 v4 fun x15 x16t x16 x17 =>
          req (lenOk (v8.length + 1) 40) <|
          rc false v3 (w64 (v4 + 1)) (v8 ++ ([[iR x15, .sl x16t x16, .lit (.bool x17)]]))
        else
          rc v2t v3 (w64 (v4 + 1)) v8
      else
        req (lenOk (v8.length + 1) 40) <|
        at_ilb v1 v4 fun x18 x19t x19 x20 =>
        bif (x18 != v5) then
          at_ilb v1 v4 fun x21 x22t x22 x23 =>
          req (lenOk ((v8 ++ ([[iR v5, .sl v6t v6, .lit (.bool v7)]])).length + 1) 40) <|
          rc false true (w64 (v4 + 1)) ((v8 ++ ([[iR v5, .sl v6t v6, .lit (.bool v7)]])) ++ ([[iR x21, .sl x22t x22, .lit (.bool x23)]]))
        else
          rc false true (w64 (v4 + 1)) (v8 ++ ([[iR v5, .sl v6t v6, .lit (.bool v7)]]))
    else
      at_ilb v1 v4 fun x24 x25t x25 x26 =>
      bif (x24 != v5) then
        at_ilb v1 v4 fun x27 x28t x28 x29 =>
        req (lenOk (v8.length + 1) 40) <|
        rc false v3 (w64 (v4 + 1)) (v8 ++ ([[iR x27, .sl x28t x28, .lit (.bool x29)]]))
      else
        rc v2t v3 (w64 (v4 + 1)) v8
  else
    k0 v2t v3 v5 v6t v6 v7 v8
def L_spec_l14Put_0   (k0 : Bool → Bool → Int → Bool → List (List RD) → Bool → List (List RD) → Option FR) (v1t : Bool) (v1 : List (List RD)) (v5 : Int) (v6t : Bool) (v6 : List (List RD)) (v7 : Bool) : Nat → Bool → Bool → Int → List (List RD) → Option FR
  | 0, _, _, _, _ => none
  | n + 1, v2t, v3, v4, v8 => B_spec_l14Put_0 k0 v1t v1 v5 v6t v6 v7 (L_spec_l14Put_0 k0 v1t v1 v5 v6t v6 v7 n) v2t v3 v4 v8
def F_spec_l14Put  (l0 : TL_spec_l14Put_0) (p1t : Bool) (p1 : List (List RD)) (p2 : Int) (p3t : Bool) (p3 : List (List RD)) (p4 : Bool) (k0 : Bool → List (List RD) → Option FR) : Option FR :=
  l0 (fun y36t y37 y38 y39t y39 y40 y41 =>
    bif y37 then
      k0 y36t y41
    else
      req (lenOk (y41.length + 1) 40) <|
      k0 false (y41 ++ ([[iR y38, .sl y39t y39, .lit (.bool y40)]]))) p1t p1 p2 p3t p3 p4 true false 0 ([])
def G_spec_l14Put_0 : TL_spec_l14Put_0 := fun k0 v1t v1 v5 v6t v6 v7 v2t v3 v4 v8 => L_spec_l14Put_0  k0 v1t v1 v5 v6t v6 v7 fuel v2t v3 v4 v8
def S_spec_l14Put : T_spec_l14Put := F_spec_l14Put G_spec_l14Put_0
def C_spec_l14Put (s : T_spec_l14Put) : SmC := fun args K =>
  lCons args fun a1_ t2_ => dRo a1_ fun d3_ => rSl d3_ fun p1t p1 => lCons t2_ fun a4_ t5_ => dAgg a4_ fun c6_ => lCons c6_ fun a7_ t8_ => dRo a7_ fun d9_ => rInt .i64 d9_ fun p2 => lCons t8_ fun a10_ t11_ => dRo a10_ fun d12_ => rSl d12_ fun p3t p3 => lCons t11_ fun a13_ t14_ => dRo a13_ fun d15_ => rBool d15_ fun p4 => lNil t14_ <| lNil t5_ <|
  s p1t p1 p2 p3t p3 p4 (fun r1t r1 => K [] (.shal 3 r1t r1))
abbrev T_spec_l14Late := Bool → List (List RD) → Int → Bool → List (List RD) → Int → Int → Int → Bool → List (List RD) → Bool → List (List RD) → (Bool → Option FR) → Option FR
abbrev TL_spec_l14Late_0 := (Int → Bool → Bool → List (List RD) → Int → Bool → List (List RD) → Int → Int → Int → Bool → List (List RD) → Bool → List (List RD) → Option FR) → Int → Int → Bool → List (List RD) → Int → Bool → List (List RD) → Int → Int → Int → Bool → List (List RD) → Bool → List (List RD) → Bool → Int → Option FR
def B_spec_l14Late_0 (s_spec_l14Own : T_spec_l14Own)  (k0 : Int → Bool → Bool → List (List RD) → Int → Bool → List (List RD) → Int → Int → Int → Bool → List (List RD) → Bool → List (List RD) → Option FR) (v14 : Int) (v15 : Int) (v18t : Bool) (v18 : List (List RD)) (v19 : Int) (v20t : Bool) (v20 : List (List RD)) (v21 : Int) (v22 : Int) (v23 : Int) (v24t : Bool) (v24 : List (List RD)) (v25t : Bool) (v25 : List (List RD)) (rc : Bool → Int → Option FR) (v16 : Bool) (v17 : Int) : Option FR :=
  bif decide (v17 < (v20.length : Int)) then
    bif v16 then
      rc true (w64 (v17 + 1))
    else
      at_iiill v20 v17 fun x26 x27 x28 x29t x29 x30t x30 =>
      bif (x26 == 2) then
        at_iiill v20 v17 fun x31 x32 x33 x34t x34 x35t x35 =>
        bif decide (x33 > v22) then
          at_iiill v20 v17 fun x36 x37 x38 x39t x39 x40t x40 =>
          s_spec_l14Own x36 x37 x38 x39t x39 x40t x40 v15 (fun r41 =>
            bif decide (r41 ≥ 0) then
              rc true (w64 (v17 + 1))
            else
              rc false (w64 (v17 + 1)))
        else
          rc false (w64 (v17 + 1))
      else
        rc false (w64 (v17 + 1))
  else
    k0 v14 v16 v18t v18 v19 v20t v20 v21 v22 v23 v24t v24 v25t v25
def L_spec_l14Late_0 (s_spec_l14Own : T_spec_l14Own)  (k0 : Int → Bool → Bool → List (List RD) → Int → Bool → List (List RD) → Int → Int → Int → Bool → List (List RD) → Bool → List (List RD) → Option FR) (v14 : Int) (v15 : Int) (v18t : Bool) (v18 : List (List RD)) (v19 : Int) (v20t : Bool) (v20 : List (List RD)) (v21 : Int) (v22 : Int) (v23 : Int) (v24t : Bool) (v24 : List (List RD)) (v25t : Bool) (v25 : List (List RD)) : Nat → Bool → Int → Option FR
  | 0, _, _ => none
  | n + 1, v16, v17 => B_spec_l14Late_0 s_spec_l14Own k0 v14 v15 v18t v18 v19 v20t v20 v21 v22 v23 v24t v24 v25t v25 (L_spec_l14Late_0 s_spec_l14Own k0 v14 v15 v18t v18 v19 v20t v20 v21 v22 v23 v24t v24 v25t v25 n) v16 v17
abbrev TL_spec_l14Late_1 := (Bool → Option FR) → Option FR → Int → Bool → List (List RD) → Int → Bool → List (List RD) → Int → Int → Int → Bool → List (List RD) → Bool → List (List RD) → Option FR
def B_spec_l14Late_1 (s_spec_LastTurn : T_spec_LastTurn) (l0 : TL_spec_l14Late_0) (k0 : Bool → Option FR) (k1 : Option FR)  (rc : Int → Bool → List (List RD) → Int → Bool → List (List RD) → Int → Int → Int → Bool → List (List RD) → Bool → List (List RD) → Option FR) (v1 : Int) (v2t : Bool) (v2 : List (List RD)) (v3 : Int) (v4t : Bool) (v4 : List (List RD)) (v5 : Int) (v6 : Int) (v7 : Int) (v8t : Bool) (v8 : List (List RD)) (v9t : Bool) (v9 : List (List RD)) : Option FR :=
  bif decide (v1 < (v9.length : Int)) then
    at_ilb v9 v1 fun x10 x11t x11 x12 =>
    s_spec_LastTurn v2t v2 x10 (fun r13 =>
      bif decide (r13 > v6) then
        l0 (fun y52 y53 y54t y54 y55 y56t y56 y57 y58 y59 y60t y60 y61t y61 =>
          bif y53 then
            k0 true
          else
            rc (w64 (y52 + 1)) y54t y54 y55 y56t y56 y57 y58 y59 y60t y60 y61t y61) v1 x10 v2t v2 v3 v4t v4 v5 v6 v7 v8t v8 v9t v9 true 0
      else
        l0 (fun y62 y63 y64t y64 y65 y66t y66 y67 y68 y69 y70t y70 y71t y71 =>
          bif y63 then
            k0 true
          else
            rc (w64 (y62 + 1)) y64t y64 y65 y66t y66 y67 y68 y69 y70t y70 y71t y71) v1 x10 v2t v2 v3 v4t v4 v5 v6 v7 v8t v8 v9t v9 false 0)
  else
    k1
def L_spec_l14Late_1 (s_spec_LastTurn : T_spec_LastTurn) (l0 : TL_spec_l14Late_0) (k0 : Bool → Option FR) (k1 : Option FR)  : Nat → Int → Bool → List (List RD) → Int → Bool → List (List RD) → Int → Int → Int → Bool → List (List RD) → Bool → List (List RD) → Option FR
  | 0, _, _, _, _, _, _, _, _, _, _, _, _, _ => none
  | n + 1, v1, v2t, v2, v3, v4t, v4, v5, v6, v7, v8t, v8, v9t, v9 => B_spec_l14Late_1 s_spec_LastTurn l0 k0 k1 (L_spec_l14Late_1 s_spec_LastTurn l0 k0 k1 n) v1 v2t v2 v3 v4t v4 v5 v6 v7 v8t v8 v9t v9
def F_spec_l14Late  (l1 : TL_spec_l14Late_1) (p1t : Bool) (p1 : List (List RD)) (p2 : Int) (p3t : Bool) (p3 : List (List RD)) (p4 : Int) (p5 : Int) (p6 : Int) (p7t : Bool) (p7 : List (List RD)) (p8t : Bool) (p8 : List (List RD)) (k0 : Bool → Option FR) : Option FR :=
  l1 (fun y73 =>
    k0 y73) (
    k0 false) 0 p1t p1 p2 p3t p3 p4 p5 p6 p7t p7 p8t p8
def G_spec_l14Late_0 : TL_spec_l14Late_0 := fun k0 v14 v15 v18t v18 v19 v20t v20 v21 v22 v23 v24t v24 v25t v25 v16 v17 => L_spec_l14Late_0 S_spec_l14Own k0 v14 v15 v18t v18 v19 v20t v20 v21 v22 v23 v24t v24 v25t v25 fuel v16 v17
def G_spec_l14Late_1 : TL_spec_l14Late_1 := fun k0 k1 v1 v2t v2 v3 v4t v4 v5 v6 v7 v8t v8 v9t v9 => L_spec_l14Late_1 S_spec_LastTurn G_spec_l14Late_0 k0 k1 fuel v1 v2t v2 v3 v4t v4 v5 v6 v7 v8t v8 v9t v9
def S_spec_l14Late : T_spec_l14Late := F_spec_l14Late G_spec_l14Late_1
def C_spec_l14Late (s : T_spec_l14Late) : SmC := fun args K =>
  lCons args fun a1_ t2_ => dAgg a1_ fun c3_ => lCons c3_ fun a4_ t5_ => dRo a4_ fun d6_ => rSl d6_ fun p1t p1 => lCons t5_ fun a7_ t8_ => dRo a7_ fun d9_ => rInt .i64 d9_ fun p2 => lCons t8_ fun a10_ t11_ => dRo a10_ fun d12_ => rSl d12_ fun p3t p3 => lNil t11_ <| lCons t2_ fun a13_ t14_ => dAgg a13_ fun c15_ => lCons c15_ fun a16_ t17_ => dRo a16_ fun d18_ => rInt .i64 d18_ fun p4 => lCons t17_ fun a19_ t20_ => dRo a19_ fun d21_ => rInt .i64 d21_ fun p5 => lCons t20_ fun a22_ t23_ => dRo a22_ fun d24_ => rInt .i64 d24_ fun p6 => lCons t23_ fun a25_ t26_ => dRo a25_ fun d27_ => rSl d27_ fun p7t p7 => lCons t26_ fun a28_ t29_ => dRo a28_ fun d30_ => rSl d30_ fun p8t p8 => lNil t29_ <| lNil t14_ <|
  s p1t p1 p2 p3t p3 p4 p5 p6 p7t p7 p8t p8 (fun r1 => K [] (.ro (.lit (.bool r1))))
abbrev T_spec_l13Written := Bool → List (List RD) → Int → Bool → List (List RD) → Bool → Int → (Bool → List (List RD) → Option FR) → Option FR
abbrev TL_spec_l13Written_0 := (Int → Bool → Bool → Int → Bool → List (List RD) → Bool → List (List RD) → Option FR) → Bool → List (List RD) → Int → Int → Bool → List (List RD) → Bool → Bool → Bool → Int → List (List RD) → Option FR
def B_spec_l13Written_0 (s_spec_l3Own : T_spec_l3Own)  (k0 : Int → Bool → Bool → Int → Bool → List (List RD) → Bool → List (List RD) → Option FR) (v1t : Bool) (v1 : List (List RD)) (v2 : Int) (v6 : Int) (v7t : Bool) (v7 : List (List RD)) (v8 : Bool) (rc : Bool → Bool → Int → List (List RD) → Option FR) (v3t : Bool) (v4 : Bool) (v5 : Int) (v9 : List (List RD)) : Option FR :=
  bif decide (v5 < (v1.length : Int)) then
    at_iiil v1 v5 fun x10 x11 x12 x13t x13 =>
    bif decide (x10 > v6) then
      bif v4 then
        bif (x10 == v6) then
          bif (x12 == 0) then
            req (lenOk (v9.length + 1) 48) <|
            rc false v4 (w64 (v5 + 1)) (v9 ++ ([[iR x10, iR x11, iR v2, .sl x13t x13]]))
          else
            req (lenOk (v9.length + 1) 48) <|
            rc false v4 (w64 (v5 + 1)) (v9 ++ ([[iR x10, iR x11, iR x12, .sl x13t x13]]))
        else
          req (lenOk (v9.length + 1) 48) <|
          rc false v4 (w64 (v5 + 1)) (v9 ++ ([[iR x10, iR x11, iR x12, .sl x13t x13]]))
      else
        s_spec_l3Own v7t v7 (fun r14t r14 =>
          req (lenOk (v9.length + 1) 48) <|
          bif (x10 == v6) then
            bif (x12 == 0) then
              req (lenOk ((v9 ++ ([[iR v6, iR v2, iR 0, .sl r14t r14]])).length + 1) 48) <|
              rc false true (w64 (v5 + 1)) ((v9 ++ ([[iR v6, iR v2, iR 0, .sl r14t r14]])) ++ ([[iR x10, iR x11, iR v2, .sl x13t x13]]))
            else
              req (lenOk ((v9 ++ ([[iR v6, iR v2, iR 0, .sl r14t r14]])).length + 1) 48) <|
              rc false true (w64 (v5 + 1)) ((v9 ++ ([[iR v6, iR v2, iR 0, .sl r14t r14]])) ++ ([[iR x10, iR x11, iR x12, .sl x13t x13]]))
          else
            req (lenOk ((v9 ++ ([[iR v6, iR v2, iR 0, .sl r14t r14]])).length + 1) 48) <|
            rc false true (w64 (v5 + 1)) ((v9 ++ ([[iR v6, iR v2, iR 0, .sl r14t r14]])) ++ ([[iR x10, iR x11, iR x12, .sl x13t x13]])))
    else
      bif (x10 == v6) then
        bif (x12 == 0) then
          req (lenOk (v9.length + 1) 48) <|
          rc false v4 (w64 (v5 + 1)) (v9 ++ ([[iR x10, iR x11, iR v2, .sl x13t x13]]))
        else
          req (lenOk (v9.length + 1) 48) <|
          rc false v4 (w64 (v5 + 1)) (v9 ++ ([[iR x10, iR x11, iR x12, .sl x13t x13]]))
      else
        req (lenOk (v9.length + 1) 48) <|
        rc false v4 (w64 (v5 + 1)) (v9 ++ ([[iR x10, iR x11, iR x12, .sl x13t x13]]))
  else
    k0 v2 v3t v4 v6 v7t v7 v8 v9
def L_spec_l13Written_0 (s_spec_l3Own : T_spec_l3Own)  (k0 : Int → Bool → Bool → Int → Bool → List (List RD) → Bool → List (List RD) → Option FR) (v1t : Bool) (v1 : List (List RD)) (v2 : Int) (v6 : Int) (v7t : Bool) (v7 : List (List RD)) (v8 : Bool) : Nat → Bool → Bool → Int → List (List RD) → Option FR
  | 0, _, _, _, _ => none
  | n + 1, v3t, v4, v5, v9 => B_spec_l13Written_0 s_spec_l3Own k0 v1t v1 v2 v6 v7t v7 v8 (L_spec_l13Written_0 s_spec_l3Own k0 v1t v1 v2 v6 v7t v7 v8 n) v3t v4 v5 v9
def F_spec_l13Written (s_spec_l3Own : T_spec_l3Own) (l0 : TL_spec_l13Written_0) (p1t : Bool) (p1 : List (List RD)) (p2 : Int) (p3t : Bool) (p3 : List (List RD)) (p4 : Bool) (p5 : Int) (k0 : Bool → List (List RD) → Option FR) : Option FR :=
  bif p4 then
    l0 (fun y22 y23t y24 y25 y26t y26 y27 y28 =>
      bif y24 then
        k0 y23t y28
      else
        s_spec_l3Own y26t y26 (fun r29t r29 =>
          req (lenOk (y28.length + 1) 48) <|
          k0 false (y28 ++ ([[iR y25, iR y22, iR 0, .sl r29t r29]])))) p1t p1 p5 p2 p3t p3 p4 true true 0 ([])
  else
    l0 (fun y30 y31t y32 y33 y34t y34 y35 y36 =>
      bif y32 then
        k0 y31t y36
      else
        s_spec_l3Own y34t y34 (fun r37t r37 =>
          req (lenOk (y36.length + 1) 48) <|
          k0 false (y36 ++ ([[iR y33, iR y30, iR 0, .sl r37t r37]])))) p1t p1 p5 p2 p3t p3 p4 true false 0 ([])
def G_spec_l13Written_0 : TL_spec_l13Written_0 := fun k0 v1t v1 v2 v6 v7t v7 v8 v3t v4 v5 v9 => L_spec_l13Written_0 S_spec_l3Own k0 v1t v1 v2 v6 v7t v7 v8 fuel v3t v4 v5 v9
def S_spec_l13Written : T_spec_l13Written := F_spec_l13Written S_spec_l3Own G_spec_l13Written_0
def C_spec_l13Written (s : T_spec_l13Written) : SmC := fun args K =>
  lCons args fun a1_ t2_ => dRo a1_ fun d3_ => rSl d3_ fun p1t p1 => lCons t2_ fun a4_ t5_ => dAgg a4_ fun c6_ => lCons c6_ fun a7_ t8_ => dRo a7_ fun d9_ => rInt .i64 d9_ fun p2 => lCons t8_ fun a10_ t11_ => dRo a10_ fun d12_ => rSl d12_ fun p3t p3 => lCons t11_ fun a13_ t14_ => dRo a13_ fun d15_ => rBool d15_ fun p4 => lNil t14_ <| lCons t5_ fun a16_ t17_ => dRo a16_ fun d18_ => rInt .i64 d18_ fun p5 => lNil t17_ <|
  s p1t p1 p2 p3t p3 p4 p5 (fun r1t r1 => K [] (.shal 4 r1t r1))
abbrev T_spec_WrittenAt := Bool → List (List RD) → Bool → List (List RD) → Int → (Bool → List (List RD) → Bool → Option FR) → Option FR
abbrev TL_spec_WrittenAt_0 := (Bool → Bool → List (List RD) → Option FR) → (Bool → List (List RD) → Bool → List (List RD) → Int → Option FR) → Bool → List (List RD) → Bool → List (List RD) → Int → Int → Option FR
def B_spec_WrittenAt_0 (s_spec_LastTurn : T_spec_LastTurn)  (k0 : Bool → Bool → List (List RD) → Option FR) (k1 : Bool → List (List RD) → Bool → List (List RD) → Int → Option FR) (v4t : Bool) (v4 : List (List RD)) (v5t : Bool) (v5 : List (List RD)) (v6 : Int) (rc : Int → Option FR) (v7 : Int) : Option FR :=
  bif decide (v7 < 5) then
    s_spec_LastTurn v4t v4 v7 (fun r8 =>
      bif decide (r8 ≥ v6) then
        k0 true false ([])
      else
        rc (w64 (v7 + 1)))
  else
    k1 v4t v4 v5t v5 v6
def L_spec_WrittenAt_0 (s_spec_LastTurn : T_spec_LastTurn)  (k0 : Bool → Bool → List (List RD) → Option FR) (k1 : Bool → List (List RD) → Bool → List (List RD) → Int → Option FR) (v4t : Bool) (v4 : List (List RD)) (v5t : Bool) (v5 : List (List RD)) (v6 : Int) : Nat → Int → Option FR
  | 0, _ => none
  | n + 1, v7 => B_spec_WrittenAt_0 s_spec_LastTurn k0 k1 v4t v4 v5t v5 v6 (L_spec_WrittenAt_0 s_spec_LastTurn k0 k1 v4t v4 v5t v5 v6 n) v7
abbrev TL_spec_WrittenAt_1 := (Bool → List (List RD) → Option FR) → Bool → List (List RD) → Int → Bool → Int → List (List RD) → Option FR
def B_spec_WrittenAt_1 (s_spec_l13Written : T_spec_l13Written)  (k0 : Bool → List (List RD) → Option FR) (v22t : Bool) (v22 : List (List RD)) (v23 : Int) (rc : Bool → Int → List (List RD) → Option FR) (v24t : Bool) (v25 : Int) (v26 : List (List RD)) : Option FR :=
  bif decide (v25 < (v22.length : Int)) then
    at_ilb v22 v25 fun x27 x28t x28 x29 =>
    s_spec_l13Written v24t v26 x27 x28t x28 x29 v23 (fun r30t r30 =>
      rc r30t (w64 (v25 + 1)) r30)
  else
    k0 v24t v26
def L_spec_WrittenAt_1 (s_spec_l13Written : T_spec_l13Written)  (k0 : Bool → List (List RD) → Option FR) (v22t : Bool) (v22 : List (List RD)) (v23 : Int) : Nat → Bool → Int → List (List RD) → Option FR
  | 0, _, _, _ => none
  | n + 1, v24t, v25, v26 => B_spec_WrittenAt_1 s_spec_l13Written k0 v22t v22 v23 (L_spec_WrittenAt_1 s_spec_l13Written k0 v22t v22 v23 n) v24t v25 v26
def F_spec_WrittenAt (s_spec_VersionsOk : T_spec_VersionsOk) (s_spec_WritesOk : T_spec_WritesOk) (s_spec_l1In : T_spec_l1In) (s_spec_l13Copy : T_spec_l13Copy) (l1 : TL_spec_WrittenAt_1) (l0 : TL_spec_WrittenAt_0) (p1t : Bool) (p1 : List (List RD)) (p2t : Bool) (p2 : List (List RD)) (p3 : Int) (k0 : Bool → List (List RD) → Bool → Option FR) : Option FR :=
  s_spec_VersionsOk p1t p1 (fun r1 =>
    bif r1 then
      s_spec_WritesOk p2t p2 (fun r2 =>
        bif r2 then
          s_spec_l1In p3 1 40 (fun r3 =>
            bif r3 then
              l0 (fun y15t y16 y17 =>
                k0 y15t y17 y16) (fun y18t y18 y19t y19 y20 =>
                s_spec_l13Copy y18t y18 (fun r21t r21 =>
                  l1 (fun y33t y34 =>
                    bif decide ((y34.length : Int) > 60) then
                      k0 true ([]) false
                    else
                      k0 y33t y34 true) y19t y19 y20 r21t 0 r21)) p1t p1 p2t p2 p3 0
            else
              k0 true ([]) false)
        else
          k0 true ([]) false)
    else
      k0 true ([]) false)
def G_spec_WrittenAt_0 : TL_spec_WrittenAt_0 := fun k0 k1 v4t v4 v5t v5 v6 v7 => L_spec_WrittenAt_0 S_spec_LastTurn k0 k1 v4t v4 v5t v5 v6 fuel v7
def G_spec_WrittenAt_1 : TL_spec_WrittenAt_1 := fun k0 v22t v22 v23 v24t v25 v26 => L_spec_WrittenAt_1 S_spec_l13Written k0 v22t v22 v23 fuel v24t v25 v26
def S_spec_WrittenAt : T_spec_WrittenAt := F_spec_WrittenAt S_spec_VersionsOk S_spec_WritesOk S_spec_l1In S_spec_l13Copy G_spec_WrittenAt_1 G_spec_WrittenAt_0
def C_spec_WrittenAt (s : T_spec_WrittenAt) : SmC := fun args K =>
  lCons args fun a1_ t2_ => dRo a1_ fun d3_ => rSl d3_ fun p1t p1 => lCons t2_ fun a4_ t5_ => dRo a4_ fun d6_ => rSl d6_ fun p2t p2 => lCons t5_ fun a7_ t8_ => dRo a7_ fun d9_ => rInt .i64 d9_ fun p3 => lNil t8_ <|
  s p1t p1 p2t p2 p3 (fun r1t r1 r2 => K [] (.tup [.shal 4 r1t r1, .ro (.lit (.bool r2))]))
abbrev T_spec_HouseStep := Bool → List (List RD) → Int → Bool → List (List RD) → Int → Int → Int → Bool → List (List RD) → (Bool → List (List RD) → Int → Bool → List (List RD) → Int → Option FR) → Option FR
abbrev TL_spec_HouseStep_j0 := (Int → Bool → Int → Bool → List (List RD) → List (List RD) → Option FR) → Bool → List (List RD) → Int → Bool → List (List RD) → Int → Int → Int → Bool → List (List RD) → Bool → Int → Bool → List (List RD) → List (List RD) → Bool → Int → Bool → List (List RD) → List (List RD) → Option FR
def B_spec_HouseStep_j0 (s_spec_l14Own : T_spec_l14Own) (s_spec_l14Note : T_spec_l14Note) (s_spec_l3Own : T_spec_l3Own) (s_spec_l14Put : T_spec_l14Put) (s_spec_l14Late : T_spec_l14Late) (s_spec_WrittenAt : T_spec_WrittenAt)  (k0 : Int → Bool → Int → Bool → List (List RD) → List (List RD) → Option FR) (v8t : Bool) (v8 : List (List RD)) (v9 : Int) (v10t : Bool) (v10 : List (List RD)) (v11 : Int) (v12 : Int) (v13 : Int) (v14t : Bool) (v14 : List (List RD)) (v15t : Bool) (v16 : Int) (v17t : Bool) (v18 : List (List RD)) (v19 : List (List RD)) (v20t : Bool) (v21 : Int) (v22t : Bool) (v23 : List (List RD)) (v24 : List (List RD)) : Option FR :=
  req (idxOk v12 v24.length) <|
  part_iiill v24 v12.toNat 0 fun x25 x26 x27 x28t x28 x29t x29 =>
  bif (v11 == 1) then
    bif (x25 == 0) then
      req (idxOk v12 v24.length) <|
      put_ v24 v12.toNat 0 5 fun c30 =>
      k0 1 v20t v21 v22t v23 (v24.set v12.toNat (splice c30 0 [iR 1, iR v9, iR 0, .sl true ([]), .sl true ([])]))
    else
      bif (x25 != 1) then
        k0 0 v20t v21 v22t v23 v24
      else
        bif (v11 == 2) then
          s_spec_l14Own x25 x26 x27 x28t x28 x29t x29 v13 (fun r31 =>
            bif decide (r31 < 0) then
              s_spec_l14Note x28t x28 v13 (fun r32t r32 =>
                req (idxOk v12 v24.length) <|
                put_ v24 v12.toNat 0 5 fun c33 =>
                k0 1 v20t v21 v22t v23 (v24.set v12.toNat (splice c33 0 [iR x25, iR x26, iR x27, .sl r32t r32, .sl x29t x29])))
            else
              req (idxOk v12 v24.length) <|
              put_ v24 v12.toNat 0 5 fun c34 =>
              k0 1 v20t v21 v22t v23 (v24.set v12.toNat (splice c34 0 [iR x25, iR x26, iR x27, .sl x28t x28, .sl x29t x29])))
        else
          bif (v11 == 3) then
            s_spec_l3Own v14t v14 (fun r35t r35 =>
              s_spec_l14Put x29t x29 v13 r35t r35 false (fun r36t r36 =>
                req (idxOk v12 v24.length) <|
                put_ v24 v12.toNat 0 5 fun c37 =>
                k0 1 v20t v21 v22t v23 (v24.set v12.toNat (splice c37 0 [iR x25, iR x26, iR x27, .sl x28t x28, .sl r36t r36]))))
          else
            bif (v11 == 4) then
              s_spec_l14Put x29t x29 v13 true ([]) true (fun r38t r38 =>
                req (idxOk v12 v24.length) <|
                put_ v24 v12.toNat 0 5 fun c39 =>
                k0 1 v20t v21 v22t v23 (v24.set v12.toNat (splice c39 0 [iR x25, iR x26, iR x27, .sl x28t x28, .sl r38t r38])))
            else
              bif (v11 == 6) then
                req (idxOk v12 v24.length) <|
                put_ v24 v12.toNat 0 5 fun c40 =>
                k0 1 v20t v21 v22t v23 (v24.set v12.toNat (splice c40 0 [iR 3, iR x26, iR x27, .sl x28t x28, .sl x29t x29]))
              else
                bif (v11 == 5) then
                  s_spec_l14Late v8t v8 v9 v10t v10 x25 x26 x27 x28t x28 x29t x29 (fun r41 =>
                    bif r41 then
                      req (idxOk v12 v24.length) <|
                      put_ v24 v12.toNat 0 5 fun c42 =>
                      k0 2 v20t v21 v22t v23 (v24.set v12.toNat (splice c42 0 [iR 3, iR x26, iR x27, .sl x28t x28, .sl x29t x29]))
                    else
                      bif (v11 == 5) then
                        s_spec_WrittenAt v8t v8 x29t x29 (w64 (v9 + 1)) (fun r43t r43 r44 =>
                          bif r44 then
                            req (idxOk v12 v24.length) <|
                            put_ v24 v12.toNat 0 5 fun c45 =>
                            k0 1 r43t (w64 (v9 + 1)) v22t r43 (v24.set v12.toNat (splice c45 0 [iR 2, iR x26, iR (w64 (v9 + 1)), .sl x28t x28, .sl x29t x29]))
                          else
                            k0 0 v20t v21 v22t v23 v24)
                      else
                        k0 0 v20t v21 v22t v23 v24)
                else
                  bif (v11 == 5) then
                    s_spec_WrittenAt v8t v8 x29t x29 (w64 (v9 + 1)) (fun r46t r46 r47 =>
                      bif r47 then
                        req (idxOk v12 v24.length) <|
                        put_ v24 v12.toNat 0 5 fun c48 =>
                        k0 1 r46t (w64 (v9 + 1)) v22t r46 (v24.set v12.toNat (splice c48 0 [iR 2, iR x26, iR (w64 (v9 + 1)), .sl x28t x28, .sl x29t x29]))
                      else
                        k0 0 v20t v21 v22t v23 v24)
                  else
                    k0 0 v20t v21 v22t v23 v24
  else
    bif (x25 != 1) then
      k0 0 v20t v21 v22t v23 v24
    else
      bif (v11 == 2) then
        s_spec_l14Own x25 x26 x27 x28t x28 x29t x29 v13 (fun r49 =>
          bif decide (r49 < 0) then
            s_spec_l14Note x28t x28 v13 (fun r50t r50 =>
              req (idxOk v12 v24.length) <|
              put_ v24 v12.toNat 0 5 fun c51 =>
              k0 1 v20t v21 v22t v23 (v24.set v12.toNat (splice c51 0 [iR x25, iR x26, iR x27, .sl r50t r50, .sl x29t x29])))
          else
            req (idxOk v12 v24.length) <|
            put_ v24 v12.toNat 0 5 fun c52 =>
            k0 1 v20t v21 v22t v23 (v24.set v12.toNat (splice c52 0 [iR x25, iR x26, iR x27, .sl x28t x28, .sl x29t x29])))
      else
        bif (v11 == 3) then
          s_spec_l3Own v14t v14 (fun r53t r53 =>
            s_spec_l14Put x29t x29 v13 r53t r53 false (fun r54t r54 =>
              req (idxOk v12 v24.length) <|
              put_ v24 v12.toNat 0 5 fun c55 =>
              k0 1 v20t v21 v22t v23 (v24.set v12.toNat (splice c55 0 [iR x25, iR x26, iR x27, .sl x28t x28, .sl r54t r54]))))
        else
          bif (v11 == 4) then
            s_spec_l14Put x29t x29 v13 true ([]) true (fun r56t r56 =>
              req (idxOk v12 v24.length) <|
              put_ v24 v12.toNat 0 5 fun c57 =>
              k0 1 v20t v21 v22t v23 (v24.set v12.toNat (splice c57 0 [iR x25, iR x26, iR x27, .sl x28t x28, .sl r56t r56])))
          else
            bif (v11 == 6) then
              req (idxOk v12 v24.length) <|
              put_ v24 v12.toNat 0 5 fun c58 =>
              k0 1 v20t v21 v22t v23 (v24.set v12.toNat (splice c58 0 [iR 3, iR x26, iR x27, .sl x28t x28, .sl x29t x29]))
            else
              bif (v11 == 5) then
                s_spec_l14Late v8t v8 v9 v10t v10 x25 x26 x27 x28t x28 x29t x29 (fun r59 =>
                  bif r59 then
                    req (idxOk v12 v24.length) <|
                    put_ v24 v12.toNat 0 5 fun c60 =>
                    k0 2 v20t v21 v22t v23 (v24.set v12.toNat (splice c60 0 [iR 3, iR x26, iR x27, .sl x28t x28, .sl x29t x29]))
                  else
                    bif (v11 == 5) then
                      s_spec_WrittenAt v8t v8 x29t x29 (w64 (v9 + 1)) (fun r61t r61 r62 =>
                        bif r62 then
                          req (idxOk v12 v24.length) <|
                          put_ v24 v12.toNat 0 5 fun c63 =>
                          k0 1 r61t (w64 (v9 + 1)) v22t r61 (v24.set v12.toNat (splice c63 0 [iR 2, iR x26, iR (w64 (v9 + 1)), .sl x28t x28, .sl x29t x29]))
                        else
                          k0 0 v20t v21 v22t v23 v24)
                    else
                      k0 0 v20t v21 v22t v23 v24)
              else
                bif (v11 == 5) then
                  s_spec_WrittenAt v8t v8 x29t x29 (w64 (v9 + 1)) (fun r64t r64 r65 =>
                    bif r65 then
                      req (idxOk v12 v24.length) <|
                      put_ v24 v12.toNat 0 5 fun c66 =>
                      k0 1 r64t (w64 (v9 + 1)) v22t r64 (v24.set v12.toNat (splice c66 0 [iR 2, iR x26, iR (w64 (v9 + 1)), .sl x28t x28, .sl x29t x29]))
                    else
                      k0 0 v20t v21 v22t v23 v24)
                else
                  k0 0 v20t v21 v22t v23 v24
def F_spec_HouseStep (s_spec_HouseOk : T_spec_HouseOk) (s_spec_l14Copy : T_spec_l14Copy) (s_spec_l1In : T_spec_l1In) (s_spec_RowOk : T_spec_RowOk) (j0 : TL_spec_HouseStep_j0) (p1t : Bool) (p1 : List (List RD)) (p2 : Int) (p3t : Bool) (p3 : List (List RD)) (p4 : Int) (p5 : Int) (p6 : Int) (p7t : Bool) (p7 : List (List RD)) (k0 : Bool → List (List RD) → Int → Bool → List (List RD) → Int → Option FR) : Option FR :=
  s_spec_HouseOk p1t p1 p2 p3t p3 (fun r1 =>
    bif r1 then
      s_spec_l14Copy p1t p1 p2 p3t p3 (fun r2t r2 r3 r4t r4 =>
        s_spec_l1In p5 0 3 (fun r5 =>
          bif r5 then
            s_spec_l1In p6 0 4 (fun r6 =>
              bif r6 then
                s_spec_RowOk p7t p7 (fun r7 =>
                  bif r7 then
                    bif (p4 != 3) then
                      bif decide ((p7.length : Int) > 0) then
                        k0 r2t r2 r3 r4t r4 0
                      else
                        bif (p4 != 3) then
                          bif (p4 != 4) then
                            bif (p4 != 2) then
                              bif (p6 != 0) then
                                k0 r2t r2 r3 r4t r4 0
                              else
                                j0 (fun y73 y74t y75 y76t y77 y78 =>
                                  k0 y74t y77 y75 y76t y78 y73) p1t p1 p2 p3t p3 p4 p5 p6 p7t p7 true 0 true ([]) ([]) r2t r3 r4t r2 r4
                            else
                              j0 (fun y79 y80t y81 y82t y83 y84 =>
                                k0 y80t y83 y81 y82t y84 y79) p1t p1 p2 p3t p3 p4 p5 p6 p7t p7 true 0 true ([]) ([]) r2t r3 r4t r2 r4
                          else
                            j0 (fun y85 y86t y87 y88t y89 y90 =>
                              k0 y86t y89 y87 y88t y90 y85) p1t p1 p2 p3t p3 p4 p5 p6 p7t p7 true 0 true ([]) ([]) r2t r3 r4t r2 r4
                        else
                          j0 (fun y91 y92t y93 y94t y95 y96 =>
                            k0 y92t y95 y93 y94t y96 y91) p1t p1 p2 p3t p3 p4 p5 p6 p7t p7 true 0 true ([]) ([]) r2t r3 r4t r2 r4
                    else
                      bif (p4 != 3) then
                        bif (p4 != 4) then
                          bif (p4 != 2) then
                            bif (p6 != 0) then
                              k0 r2t r2 r3 r4t r4 0
                            else
                              j0 (fun y97 y98t y99 y100t y101 y102 =>
                                k0 y98t y101 y99 y100t y102 y97) p1t p1 p2 p3t p3 p4 p5 p6 p7t p7 true 0 true ([]) ([]) r2t r3 r4t r2 r4
                          else
                            j0 (fun y103 y104t y105 y106t y107 y108 =>
                              k0 y104t y107 y105 y106t y108 y103) p1t p1 p2 p3t p3 p4 p5 p6 p7t p7 true 0 true ([]) ([]) r2t r3 r4t r2 r4
                        else
                          j0 (fun y109 y110t y111 y112t y113 y114 =>
                            k0 y110t y113 y111 y112t y114 y109) p1t p1 p2 p3t p3 p4 p5 p6 p7t p7 true 0 true ([]) ([]) r2t r3 r4t r2 r4
                      else
                        j0 (fun y115 y116t y117 y118t y119 y120 =>
                          k0 y116t y119 y117 y118t y120 y115) p1t p1 p2 p3t p3 p4 p5 p6 p7t p7 true 0 true ([]) ([]) r2t r3 r4t r2 r4
                  else
                    k0 r2t r2 r3 r4t r4 0)
              else
                k0 r2t r2 r3 r4t r4 0)
          else
            k0 r2t r2 r3 r4t r4 0))
    else
      k0 true ([]) 0 true ([]) 0)
def G_spec_HouseStep_j0 : TL_spec_HouseStep_j0 := B_spec_HouseStep_j0 S_spec_l14Own S_spec_l14Note S_spec_l3Own S_spec_l14Put S_spec_l14Late S_spec_WrittenAt
def S_spec_HouseStep : T_spec_HouseStep := F_spec_HouseStep S_spec_HouseOk S_spec_l14Copy S_spec_l1In S_spec_RowOk G_spec_HouseStep_j0
def C_spec_HouseStep (s : T_spec_HouseStep) : SmC := fun args K =>
  lCons args fun a1_ t2_ => dAgg a1_ fun c3_ => lCons c3_ fun a4_ t5_ => dRo a4_ fun d6_ => rSl d6_ fun p1t p1 => lCons t5_ fun a7_ t8_ => dRo a7_ fun d9_ => rInt .i64 d9_ fun p2 => lCons t8_ fun a10_ t11_ => dRo a10_ fun d12_ => rSl d12_ fun p3t p3 => lNil t11_ <| lCons t2_ fun a13_ t14_ => dAgg a13_ fun c15_ => lCons c15_ fun a16_ t17_ => dRo a16_ fun d18_ => rInt .i64 d18_ fun p4 => lCons t17_ fun a19_ t20_ => dRo a19_ fun d21_ => rInt .i64 d21_ fun p5 => lCons t20_ fun a22_ t23_ => dRo a22_ fun d24_ => rInt .i64 d24_ fun p6 => lCons t23_ fun a25_ t26_ => dRo a25_ fun d27_ => rSl d27_ fun p7t p7 => lNil t26_ <| lNil t14_ <|
  s p1t p1 p2 p3t p3 p4 p5 p6 p7t p7 (fun r1t r1 r2 r3t r3 r4 => K [] (.tup [.agg [.shal 4 r1t r1, .ro (.lit (.int .i64 r2)), .shal 5 r3t r3], .ro (.lit (.int .i64 r4))]))
abbrev T_spec_HouseRun := Bool → List (List RD) → Int → Bool → List (List RD) → Bool → List (List RD) → (Bool → List (List RD) → Int → Bool → List (List RD) → Option FR) → Option FR
abbrev TL_spec_HouseRun_0 := (Bool → Int → Bool → List (List RD) → List (List RD) → Bool → Int → Bool → List (List RD) → List (List RD) → Option FR) → Bool → List (List RD) → Bool → Int → Bool → List (List RD) → List (List RD) → Int → Bool → Int → Bool → List (List RD) → List (List RD) → Option FR
def B_spec_HouseRun_0 (s_spec_HouseStep : T_spec_HouseStep)  (k0 : Bool → Int → Bool → List (List RD) → List (List RD) → Bool → Int → Bool → List (List RD) → List (List RD) → Option FR) (v5t : Bool) (v5 : List (List RD)) (v7t : Bool) (v8 : Int) (v9t : Bool) (v10 : List (List RD)) (v11 : List (List RD)) (rc : Int → Bool → Int → Bool → List (List RD) → List (List RD) → Option FR) (v6 : Int) (v12t : Bool) (v13 : Int) (v14t : Bool) (v15 : List (List RD)) (v16 : List (List RD)) : Option FR :=
  bif decide (v6 < (v5.length : Int)) then
    at_iiil v5 v6 fun x17 x18 x19 x20t x20 =>
    s_spec_HouseStep v12t v15 v13 v14t v16 x17 x18 x19 x20t x20 (fun r21t r21 r22 r23t r23 r24 =>
      rc (w64 (v6 + 1)) r21t r22 r23t r21 r23)
  else
    k0 v7t v8 v9t v10 v11 v12t v13 v14t v15 v16
def L_spec_HouseRun_0 (s_spec_HouseStep : T_spec_HouseStep)  (k0 : Bool → Int → Bool → List (List RD) → List (List RD) → Bool → Int → Bool → List (List RD) → List (List RD) → Option FR) (v5t : Bool) (v5 : List (List RD)) (v7t : Bool) (v8 : Int) (v9t : Bool) (v10 : List (List RD)) (v11 : List (List RD)) : Nat → Int → Bool → Int → Bool → List (List RD) → List (List RD) → Option FR
  | 0, _, _, _, _, _, _ => none
  | n + 1, v6, v12t, v13, v14t, v15, v16 => B_spec_HouseRun_0 s_spec_HouseStep k0 v5t v5 v7t v8 v9t v10 v11 (L_spec_HouseRun_0 s_spec_HouseStep k0 v5t v5 v7t v8 v9t v10 v11 n) v6 v12t v13 v14t v15 v16
def F_spec_HouseRun (s_spec_HouseOk : T_spec_HouseOk) (s_spec_l14Copy : T_spec_l14Copy) (l0 : TL_spec_HouseRun_0) (p1t : Bool) (p1 : List (List RD)) (p2 : Int) (p3t : Bool) (p3 : List (List RD)) (p4t : Bool) (p4 : List (List RD)) (k0 : Bool → List (List RD) → Int → Bool → List (List RD) → Option FR) : Option FR :=
  s_spec_HouseOk p1t p1 p2 p3t p3 (fun r1 =>
    bif r1 then
      s_spec_l14Copy p1t p1 p2 p3t p3 (fun r2t r2 r3 r4t r4 =>
        l0 (fun y35t y36 y37t y38 y39 y40t y41 y42t y43 y44 =>
          k0 y40t y43 y41 y42t y44) p4t p4 true 0 true ([]) ([]) 0 r2t r3 r4t r2 r4)
    else
      k0 true ([]) 0 true ([]))
def G_spec_HouseRun_0 : TL_spec_HouseRun_0 := fun k0 v5t v5 v7t v8 v9t v10 v11 v6 v12t v13 v14t v15 v16 => L_spec_HouseRun_0 S_spec_HouseStep k0 v5t v5 v7t v8 v9t v10 v11 fuel v6 v12t v13 v14t v15 v16
def S_spec_HouseRun : T_spec_HouseRun := F_spec_HouseRun S_spec_HouseOk S_spec_l14Copy G_spec_HouseRun_0
def C_spec_HouseRun (s : T_spec_HouseRun) : SmC := fun args K =>
  lCons args fun a1_ t2_ => dAgg a1_ fun c3_ => lCons c3_ fun a4_ t5_ => dRo a4_ fun d6_ => rSl d6_ fun p1t p1 => lCons t5_ fun a7_ t8_ => dRo a7_ fun d9_ => rInt .i64 d9_ fun p2 => lCons t8_ fun a10_ t11_ => dRo a10_ fun d12_ => rSl d12_ fun p3t p3 => lNil t11_ <| lCons t2_ fun a13_ t14_ => dRo a13_ fun d15_ => rSl d15_ fun p4t p4 => lNil t14_ <|
  s p1t p1 p2 p3t p3 p4t p4 (fun r1t r1 r2 r3t r3 => K [] (.agg [.shal 4 r1t r1, .ro (.lit (.int .i64 r2)), .shal 5 r3t r3]))
abbrev T_spec_l20House := Bool → List (List RD) → Int → Int → (Bool → List (List RD) → Int → Bool → List (List RD) → Int → Bool → List (List RD) → Option FR) → (Bool → List (List RD) → Int → Bool → List (List RD) → Int → Bool → List (List RD) → Option FR) → Option FR
def F_spec_l20House (s_spec_HouseNew : T_spec_HouseNew) (s_spec_l20Moves : T_spec_l20Moves) (s_spec_HouseRun : T_spec_HouseRun) (s_spec_l20Rd_odd : T_spec_l20Rd_odd) (s_spec_l20Rd_pick : T_spec_l20Rd_pick)  (p1t : Bool) (p1 : List (List RD)) (p2 : Int) (p3 : Int) (k0 : Bool → List (List RD) → Int → Bool → List (List RD) → Int → Bool → List (List RD) → Option FR) (k1 : Bool → List (List RD) → Int → Bool → List (List RD) → Int → Bool → List (List RD) → Option FR) : Option FR :=
  s_spec_HouseNew 0 (fun r1t r1 r2 r3t r3 =>
    s_spec_l20Moves p1t p1 p2 24 0 (fun r4t r4 r5 r6t r6 =>
      s_spec_HouseRun r1t r1 r2 r3t r3 r6t r6 (fun r7t r7 r8 r9t r9 =>
        s_spec_l20Rd_odd r4t r4 r5 p3 (fun r10t r10 r11 r12 =>
          bif r12 then
            s_spec_l20Rd_pick r10t r10 r11 5 (fun r13t r13 r14 r15 =>
              bif (r15 == 0) then
                s_spec_l20Rd_pick r13t r13 r14 50 (fun r16t r16 r17 r18 =>
                  k0 r16t r16 r17 r7t r7 (w64 (r18 - 1)) r9t r9)
              else
                bif (r15 == 1) then
                  s_spec_l20Rd_pick r13t r13 r14 4 (fun r19t r19 r20 r21 =>
                    s_spec_l20Rd_pick r19t r19 r20 6 (fun r22t r22 r23 r24 =>
                      req (idxOk r21 r9.length) <|
                      put_ r9 r21.toNat 0 1 fun c25 =>
                      k0 r22t r22 r23 r7t r7 r8 r9t (r9.set r21.toNat (splice c25 0 [iR (w64 (r24 - 1))]))))
                else
                  bif (r15 == 2) then
                    s_spec_l20Rd_pick r13t r13 r14 4 (fun r26t r26 r27 r28 =>
                      s_spec_l20Rd_pick r26t r26 r27 5 (fun r29t r29 r30 r31 =>
                        req (idxOk r28 r9.length) <|
                        put_ r9 r28.toNat 2 1 fun c32 =>
                        k0 r29t r29 r30 r7t r7 r8 r9t (r9.set r28.toNat (splice c32 2 [iR r31]))))
                  else
                    bif (r15 == 3) then
                      s_spec_l20Rd_pick r13t r13 r14 4 (fun r33t r33 r34 r35 =>
                        req (slcOk 0 r35 r9.length (r9.length : Int) true) <|
                        bif eqN r35 r9.length then
                          k0 r33t r33 r34 r7t r7 r8 (r9t || false) r9
                        else
                          k1 r33t r33 r34 r7t r7 r8 (r9t && eqN r35 r9.length) ((r9.drop 0).take (r35.toNat - 0)))
                    else
                      req (idxOk 0 r9.length) <|
                      put_ r9 0 3 1 fun c36 =>
                      k0 r13t r13 r14 r7t r7 r8 r9t (r9.set 0 (splice c36 3 [.sl true ([[iR 2], [iR 1]])])))
          else
            k0 r10t r10 r11 r7t r7 r8 r9t r9))))
def S_spec_l20House : T_spec_l20House := F_spec_l20House S_spec_HouseNew S_spec_l20Moves S_spec_HouseRun S_spec_l20Rd_odd S_spec_l20Rd_pick
def C_spec_l20House (s : T_spec_l20House) : SmC := fun args K =>
  lCons args fun a1_ t2_ => dMut a1_ fun c3_ => lCons c3_ fun a4_ t5_ => dRo a4_ fun d6_ => rSl d6_ fun p1t p1 => lCons t5_ fun a7_ t8_ => dRo a7_ fun d9_ => rInt .i64 d9_ fun p2 => lNil t8_ <| lCons t2_ fun a10_ t11_ => dRo a10_ fun d12_ => rInt .i64 d12_ fun p3 => lNil t11_ <|
  s p1t p1 p2 p3 (fun r1t r1 r2 r3t r3 r4 r5t r5 => K [[.ro (.sl r1t r1), .ro (.lit (.int .i64 r2))]] (.agg [.shal 4 r3t r3, .ro (.lit (.int .i64 r4)), .shal 5 r5t r5])) (fun r1t r1 r2 r3t r3 r4 r5t r5 => K [[.ro (.sl r1t r1), .ro (.lit (.int .i64 r2))]] (.agg [.shal 4 r3t r3, .ro (.lit (.int .i64 r4)), .ro (.sl r5t r5)]))
abbrev T_spec_DrawRowsNow := Bool → List (List RD) → (Bool → List (List RD) → Int → Bool → List (List RD) → Option FR) → Option FR
def F_spec_DrawRowsNow (s_spec_l20Open : T_spec_l20Open) (s_spec_l20House : T_spec_l20House)  (p1t : Bool) (p1 : List (List RD)) (k0 : Bool → List (List RD) → Int → Bool → List (List RD) → Option FR) : Option FR :=
  s_spec_l20Open p1t p1 (fun r1t r1 r2 =>
    s_spec_l20House r1t r1 r2 9 (fun r3t r3 r4 r5t r5 r6 r7t r7 =>
      k0 r5t r5 r6 r7t r7) (fun r8t r8 r9 r10t r10 r11 r12t r12 =>
      k0 r10t r10 r11 r12t r12))
def S_spec_DrawRowsNow : T_spec_DrawRowsNow := F_spec_DrawRowsNow S_spec_l20Open S_spec_l20House
def C_spec_DrawRowsNow (s : T_spec_DrawRowsNow) : SmC := fun args K =>
  lCons args fun a1_ t2_ => dRo a1_ fun d3_ => rSl d3_ fun p1t p1 => lNil t2_ <|
  s p1t p1 (fun r1t r1 r2 r3t r3 => K [] (.agg [.shal 4 r1t r1, .ro (.lit (.int .i64 r2)), .ro (.sl r3t r3)]))
abbrev T_impl_between := Int → Int → Int → (Bool → Option FR) → Option FR
def F_impl_between   (p1 : Int) (p2 : Int) (p3 : Int) (k0 : Bool → Option FR) : Option FR :=
  bif decide (p1 ≥ p2) then
    bif decide (p1 ≤ p3) then
      k0 true
    else
      k0 false
  else
    k0 false
def S_impl_between : T_impl_between := F_impl_between 
def C_impl_between (s : T_impl_between) : SmC := fun args K =>
  lCons args fun a1_ t2_ => dRo a1_ fun d3_ => rInt .i64 d3_ fun p1 => lCons t2_ fun a4_ t5_ => dRo a4_ fun d6_ => rInt .i64 d6_ fun p2 => lCons t5_ fun a7_ t8_ => dRo a7_ fun d9_ => rInt .i64 d9_ fun p3 => lNil t8_ <|
  s p1 p2 p3 (fun r1 => K [] (.ro (.lit (.bool r1))))
abbrev T_impl_keyOk := Int → (Bool → Option FR) → Option FR
def F_impl_keyOk (s_impl_between : T_impl_between)  (p1 : Int) (k0 : Bool → Option FR) : Option FR :=
  s_impl_between p1 0 4 (fun r1 =>
    bif r1 then
      k0 true
    else
      k0 false)
def S_impl_keyOk : T_impl_keyOk := F_impl_keyOk S_impl_between
def C_impl_keyOk (s : T_impl_keyOk) : SmC := fun args K =>
  lCons args fun a1_ t2_ => dRo a1_ fun d3_ => rInt .i64 d3_ fun p1 => lNil t2_ <|
  s p1 (fun r1 => K [] (.ro (.lit (.bool r1))))
abbrev T_impl_letters := ByteArray → (Bool → Option FR) → Option FR
abbrev TL_impl_letters_0 := (Bool → Option FR) → Option FR → Bool → List (List RD) → Int → Int → Option FR
def B_impl_letters_0 (s_impl_between : T_impl_between)  (k0 : Bool → Option FR) (k1 : Option FR) (v1t : Bool) (v1 : List (List RD)) (v2 : Int) (rc : Int → Option FR) (v3 : Int) : Option FR :=
  bif decide (v3 < v2) then
    at_iu8 v1 v3 fun x4 =>
    s_impl_between (w64 (x4)) 97 122 (fun r5 =>
      bif r5 then
        rc (w64 (v3 + 1))
      else
        k0 false)
  else
    k1
def L_impl_letters_0 (s_impl_between : T_impl_between)  (k0 : Bool → Option FR) (k1 : Option FR) (v1t : Bool) (v1 : List (List RD)) (v2 : Int) : Nat → Int → Option FR
  | 0, _ => none
  | n + 1, v3 => B_impl_letters_0 s_impl_between k0 k1 v1t v1 v2 (L_impl_letters_0 s_impl_between k0 k1 v1t v1 v2 n) v3
def F_impl_letters  (l0 : TL_impl_letters_0) (p1 : ByteArray) (k0 : Bool → Option FR) : Option FR :=
  l0 (fun y7 =>
    k0 y7) (
    k0 true) false (bytesR p1) ((bytesR p1).length : Int) 0
def G_impl_letters_0 : TL_impl_letters_0 := fun k0 k1 v1t v1 v2 v3 => L_impl_letters_0 S_impl_between k0 k1 v1t v1 v2 fuel v3
def S_impl_letters : T_impl_letters := F_impl_letters G_impl_letters_0
def C_impl_letters (s : T_impl_letters) : SmC := fun args K =>
  lCons args fun a1_ t2_ => dRo a1_ fun d3_ => rStr d3_ fun p1 => lNil t2_ <|
  s p1 (fun r1 => K [] (.ro (.lit (.bool r1))))
abbrev T_impl_Value_ok := Int → Int → ByteArray → (Bool → Option FR) → Option FR
def F_impl_Value_ok (s_impl_between : T_impl_between) (s_impl_letters : T_impl_letters)  (p1 : Int) (p2 : Int) (p3 : ByteArray) (k0 : Bool → Option FR) : Option FR :=
  bif (p1 == 0) then
    bif ((p1 == 0) && ((p2 == 0) && ((p3 == (bs [])) && true))) then
      k0 true
    else
      k0 false
  else
    bif (p1 == 1) then
      bif (p3.toList == (bs []).toList) then
        s_impl_between p2 (-9999) 9999 (fun r1 =>
          bif r1 then
            k0 true
          else
            k0 false)
      else
        k0 false
    else
      bif (p1 == 2) then
        bif (p2 == 0) then
          bif decide ((p3.size : Int) ≤ 6) then
            s_impl_letters p3 (fun r2 =>
              bif r2 then
                k0 true
              else
                k0 false)
          else
            k0 false
        else
          k0 false
      else
        bif (p1 == 3) then
          bif (p3.toList == (bs []).toList) then
            s_impl_between p2 0 1 (fun r3 =>
              bif r3 then
                k0 true
              else
                k0 false)
          else
            k0 false
        else
          k0 false
def S_impl_Value_ok : T_impl_Value_ok := F_impl_Value_ok S_impl_between S_impl_letters
def C_impl_Value_ok (s : T_impl_Value_ok) : SmC := fun args K =>
  lCons args fun a1_ t2_ => dAgg a1_ fun c3_ => lCons c3_ fun a4_ t5_ => dRo a4_ fun d6_ => rInt .i64 d6_ fun p1 => lCons t5_ fun a7_ t8_ => dRo a7_ fun d9_ => rInt .i64 d9_ fun p2 => lCons t8_ fun a10_ t11_ => dRo a10_ fun d12_ => rStr d12_ fun p3 => lNil t11_ <| lNil t2_ <|
  s p1 p2 p3 (fun r1 => K [] (.ro (.lit (.bool r1))))
abbrev T_impl_RowOk_1 := Int → Int → ByteArray → (Bool → Option FR) → Option FR
def F_impl_RowOk_1 (s_impl_Value_ok : T_impl_Value_ok)  (p1 : Int) (p2 : Int) (p3 : ByteArray) (k0 : Bool → Option FR) : Option FR :=
  s_impl_Value_ok p1 p2 p3 (fun r1 =>
    bif r1 then
      k0 false
    else
      k0 true)
def S_impl_RowOk_1 : T_impl_RowOk_1 := F_impl_RowOk_1 S_impl_Value_ok
def C_impl_RowOk_1 (s : T_impl_RowOk_1) : SmC := fun args K =>
  lCons args fun a1_ t2_ => dAgg a1_ fun c3_ => lCons c3_ fun a4_ t5_ => dRo a4_ fun d6_ => rInt .i64 d6_ fun p1 => lCons t5_ fun a7_ t8_ => dRo a7_ fun d9_ => rInt .i64 d9_ fun p2 => lCons t8_ fun a10_ t11_ => dRo a10_ fun d12_ => rStr d12_ fun p3 => lNil t11_ <| lNil t2_ <|
  s p1 p2 p3 (fun r1 => K [] (.ro (.lit (.bool r1))))
abbrev T_slices_IndexFunc_Limpl_Value_impl_Value := Bool → List (List RD) → (Int → Option FR) → Option FR
abbrev TL_slices_IndexFunc_Limpl_Value_impl_Value_0 := (Int → Option FR) → Option FR → Bool → List (List RD) → Int → Int → Option FR
def B_slices_IndexFunc_Limpl_Value_impl_Value_0 (s_impl_RowOk_1 : T_impl_RowOk_1)  (k0 : Int → Option FR) (k1 : Option FR) (v1t : Bool) (v1 : List (List RD)) (v2 : Int) (rc : Int → Option FR) (v3 : Int) : Option FR :=
  bif decide (v3 < v2) then
    at_iis v1 v3 fun x4 x5 x6 =>
    s_impl_RowOk_1 x4 x5 x6 (fun r7 =>
      bif r7 then
        k0 v3
      else
        rc (w64 (v3 + 1)))
  else
    k1
def L_slices_IndexFunc_Limpl_Value_impl_Value_0 (s_impl_RowOk_1 : T_impl_RowOk_1)  (k0 : Int → Option FR) (k1 : Option FR) (v1t : Bool) (v1 : List (List RD)) (v2 : Int) : Nat → Int → Option FR
  | 0, _ => none
  | n + 1, v3 => B_slices_IndexFunc_Limpl_Value_impl_Value_0 s_impl_RowOk_1 k0 k1 v1t v1 v2 (L_slices_IndexFunc_Limpl_Value_impl_Value_0 s_impl_RowOk_1 k0 k1 v1t v1 v2 n) v3
def F_slices_IndexFunc_Limpl_Value_impl_Value  (l0 : TL_slices_IndexFunc_Limpl_Value_impl_Value_0) (p1t : Bool) (p1 : List (List RD)) (k0 : Int → Option FR) : Option FR :=
  l0 (fun y9 =>
    k0 y9) (
    k0 (-1)) p1t p1 (p1.length : Int) 0
def G_slices_IndexFunc_Limpl_Value_impl_Value_0 : TL_slices_IndexFunc_Limpl_Value_impl_Value_0 := fun k0 k1 v1t v1 v2 v3 => L_slices_IndexFunc_Limpl_Value_impl_Value_0 S_impl_RowOk_1 k0 k1 v1t v1 v2 fuel v3
def S_slices_IndexFunc_Limpl_Value_impl_Value : T_slices_IndexFunc_Limpl_Value_impl_Value := F_slices_IndexFunc_Limpl_Value_impl_Value G_slices_IndexFunc_Limpl_Value_impl_Value_0
def C_slices_IndexFunc_Limpl_Value_impl_Value (s : T_slices_IndexFunc_Limpl_Value_impl_Value) : SmC := fun args K =>
  lCons args fun a1_ t2_ => dRo a1_ fun d3_ => rSl d3_ fun p1t p1 => lCons t2_ fun a4_ t5_ => dRo a4_ fun d6_ => rFn 79 d6_ fun c7_ => lNil c7_ <| lNil t5_ <|
  s p1t p1 (fun r1 => K [] (.ro (.lit (.int .i64 r1))))
abbrev T_slices_ContainsFunc_Limpl_Value_impl_Value := Bool → List (List RD) → (Bool → Option FR) → Option FR
def F_slices_ContainsFunc_Limpl_Value_impl_Value (s_slices_IndexFunc_Limpl_Value_impl_Value : T_slices_IndexFunc_Limpl_Value_impl_Value)  (p1t : Bool) (p1 : List (List RD)) (k0 : Bool → Option FR) : Option FR :=
  s_slices_IndexFunc_Limpl_Value_impl_Value p1t p1 (fun r1 =>
    bif decide (r1 ≥ 0) then
      k0 true
    else
      k0 false)
def S_slices_ContainsFunc_Limpl_Value_impl_Value : T_slices_ContainsFunc_Limpl_Value_impl_Value := F_slices_ContainsFunc_Limpl_Value_impl_Value S_slices_IndexFunc_Limpl_Value_impl_Value
def C_slices_ContainsFunc_Limpl_Value_impl_Value (s : T_slices_ContainsFunc_Limpl_Value_impl_Value) : SmC := fun args K =>
  lCons args fun a1_ t2_ => dRo a1_ fun d3_ => rSl d3_ fun p1t p1 => lCons t2_ fun a4_ t5_ => dRo a4_ fun d6_ => rFn 79 d6_ fun c7_ => lNil c7_ <| lNil t5_ <|
  s p1t p1 (fun r1 => K [] (.ro (.lit (.bool r1))))
abbrev T_impl_RowOk := Bool → List (List RD) → (Bool → Option FR) → Option FR
def F_impl_RowOk (s_slices_ContainsFunc_Limpl_Value_impl_Value : T_slices_ContainsFunc_Limpl_Value_impl_Value)  (p1t : Bool) (p1 : List (List RD)) (k0 : Bool → Option FR) : Option FR :=
  bif decide ((p1.length : Int) ≤ 4) then
    s_slices_ContainsFunc_Limpl_Value_impl_Value p1t p1 (fun r1 =>
      bif r1 then
        k0 false
      else
        k0 true)
  else
    k0 false
def S_impl_RowOk : T_impl_RowOk := F_impl_RowOk S_slices_ContainsFunc_Limpl_Value_impl_Value
def C_impl_RowOk (s : T_impl_RowOk) : SmC := fun args K =>
  lCons args fun a1_ t2_ => dRo a1_ fun d3_ => rSl d3_ fun p1t p1 => lNil t2_ <|
  s p1t p1 (fun r1 => K [] (.ro (.lit (.bool r1))))
abbrev T_impl_VersionsOk := Bool → List (List RD) → (Bool → Option FR) → Option FR
abbrev TL_impl_VersionsOk_0 := (Bool → Option FR) → (Bool → List (List RD) → Option FR) → Bool → List (List RD) → Bool → List (List RD) → Int → Int → Option FR
def B_impl_VersionsOk_0 (s_impl_keyOk : T_impl_keyOk) (s_impl_between : T_impl_between) (s_impl_RowOk : T_impl_RowOk)  (k0 : Bool → Option FR) (k1 : Bool → List (List RD) → Option FR) (v1t : Bool) (v1 : List (List RD)) (v2t : Bool) (v2 : List (List RD)) (v3 : Int) (rc : Int → Option FR) (v4 : Int) : Option FR :=
  bif decide (v4 < v3) then
    at_iiil v2 v4 fun x5 x6 x7 x8t x8 =>
    s_impl_keyOk x5 (fun r9 =>
      bif r9 then
        s_impl_between x6 1 40 (fun r10 =>
          bif r10 then
            bif (x7 != 0) then
              s_impl_between x7 (w64 (x6 + 1)) 40 (fun r11 =>
                bif r11 then
                  s_impl_RowOk x8t x8 (fun r12 =>
                    bif r12 then
                      bif (v4 == 0) then
                        rc (w64 (v4 + 1))
                      else
                        at_iiil v1 (w64 (v4 - 1)) fun x13 x14 x15 x16t x16 =>
                        bif decide (x13 > x5) then
                          k0 false
                        else
                          bif (x13 == x5) then
                            bif decide (x14 ≥ x6) then
                              k0 false
                            else
                              bif (x15 == 0) then
                                k0 false
                              else
                                bif decide (x15 > x6) then
                                  k0 false
                                else
                                  rc (w64 (v4 + 1))
                          else
                            rc (w64 (v4 + 1))
                    else
                      k0 false)
                else
                  k0 false)
            else
              s_impl_RowOk x8t x8 (fun r17 =>
                bif r17 then
                  bif (v4 == 0) then
                    rc (w64 (v4 + 1))
                  else
                    at_iiil v1 (w64 (v4 - 1)) fun x18 x19 x20 x21t x21 =>
                    bif decide (x18 > x5) then
                      k0 false
                    else
                      bif (x18 == x5) then
                        bif decide (x19 ≥ x6) then
                          k0 false
                        else
                          bif (x20 == 0) then
                            k0 false
                          else
                            bif decide (x20 > x6) then
                              k0 false
                            else
                              rc (w64 (v4 + 1))
                      else
                        rc (w64 (v4 + 1))
                else
                  k0 false)
          else
            k0 false)
      else
        k0 false)
  else
    k1 v1t v1
def L_impl_VersionsOk_0 (s_impl_keyOk : T_impl_keyOk) (s_impl_between : T_impl_between) (s_impl_RowOk : T_impl_RowOk)  (k0 : Bool → Option FR) (k1 : Bool → List (List RD) → Option FR) (v1t : Bool) (v1 : List (List RD)) (v2t : Bool) (v2 : List (List RD)) (v3 : Int) : Nat → Int → Option FR
  | 0, _ => none
  | n + 1, v4 => B_impl_VersionsOk_0 s_impl_keyOk s_impl_between s_impl_RowOk k0 k1 v1t v1 v2t v2 v3 (L_impl_VersionsOk_0 s_impl_keyOk s_impl_between s_impl_RowOk k0 k1 v1t v1 v2t v2 v3 n) v4
def F_impl_VersionsOk  (l0 : TL_impl_VersionsOk_0) (p1t : Bool) (p1 : List (List RD)) (k0 : Bool → Option FR) : Option FR :=
  l0 (fun y24 =>
    k0 y24) (fun y25t y25 =>
    bif decide ((y25.length : Int) ≤ 60) then
      k0 true
    else
      k0 false) p1t p1 p1t p1 (p1.length : Int) 0
def G_impl_VersionsOk_0 : TL_impl_VersionsOk_0 := fun k0 k1 v1t v1 v2t v2 v3 v4 => L_impl_VersionsOk_0 S_impl_keyOk S_impl_between S_impl_RowOk k0 k1 v1t v1 v2t v2 v3 fuel v4
def S_impl_VersionsOk : T_impl_VersionsOk := F_impl_VersionsOk G_impl_VersionsOk_0
def C_impl_VersionsOk (s : T_impl_VersionsOk) : SmC := fun args K =>
  lCons args fun a1_ t2_ => dRo a1_ fun d3_ => rSl d3_ fun p1t p1 => lNil t2_ <|
  s p1t p1 (fun r1 => K [] (.ro (.lit (.bool r1))))
abbrev T_impl_lastTurn := Bool → List (List RD) → Int → (Int → Option FR) → Option FR
abbrev TL_impl_lastTurn_0 := (Int → Option FR) → Int → Bool → List (List RD) → Int → Int → Int → Option FR
def B_impl_lastTurn_0   (k0 : Int → Option FR) (v1 : Int) (v3t : Bool) (v3 : List (List RD)) (v4 : Int) (rc : Int → Int → Option FR) (v2 : Int) (v5 : Int) : Option FR :=
  bif decide (v5 < v4) then
    at_iiil v3 v5 fun x6 x7 x8 x9t x9 =>
    bif (x6 == v1) then
      rc (if x8 > (if x7 > v2 then x7 else v2) then x8 else (if x7 > v2 then x7 else v2)) (w64 (v5 + 1))
    else
      rc v2 (w64 (v5 + 1))
  else
    k0 v2
def L_impl_lastTurn_0   (k0 : Int → Option FR) (v1 : Int) (v3t : Bool) (v3 : List (List RD)) (v4 : Int) : Nat → Int → Int → Option FR
  | 0, _, _ => none
  | n + 1, v2, v5 => B_impl_lastTurn_0 k0 v1 v3t v3 v4 (L_impl_lastTurn_0 k0 v1 v3t v3 v4 n) v2 v5
def F_impl_lastTurn  (l0 : TL_impl_lastTurn_0) (p1t : Bool) (p1 : List (List RD)) (p2 : Int) (k0 : Int → Option FR) : Option FR :=
  l0 (fun y11 =>
    k0 y11) p2 p1t p1 (p1.length : Int) 0 0
def G_impl_lastTurn_0 : TL_impl_lastTurn_0 := fun k0 v1 v3t v3 v4 v2 v5 => L_impl_lastTurn_0  k0 v1 v3t v3 v4 fuel v2 v5
def S_impl_lastTurn : T_impl_lastTurn := F_impl_lastTurn G_impl_lastTurn_0
def C_impl_lastTurn (s : T_impl_lastTurn) : SmC := fun args K =>
  lCons args fun a1_ t2_ => dRo a1_ fun d3_ => rSl d3_ fun p1t p1 => lCons t2_ fun a4_ t5_ => dRo a4_ fun d6_ => rInt .i64 d6_ fun p2 => lNil t5_ <|
  s p1t p1 p2 (fun r1 => K [] (.ro (.lit (.int .i64 r1))))
abbrev T_impl_turnAny := Bool → List (List RD) → (Int → Option FR) → Option FR
abbrev TL_impl_turnAny_0 := (Int → Option FR) → Bool → List (List RD) → Int → Int → Option FR
def B_impl_turnAny_0 (s_impl_lastTurn : T_impl_lastTurn)  (k0 : Int → Option FR) (v1t : Bool) (v1 : List (List RD)) (rc : Int → Int → Option FR) (v2 : Int) (v3 : Int) : Option FR :=
  bif decide (v3 < 5) then
    s_impl_lastTurn v1t v1 v3 (fun r4 =>
      rc (if r4 > v2 then r4 else v2) (w64 (v3 + 1)))
  else
    k0 v2
def L_impl_turnAny_0 (s_impl_lastTurn : T_impl_lastTurn)  (k0 : Int → Option FR) (v1t : Bool) (v1 : List (List RD)) : Nat → Int → Int → Option FR
  | 0, _, _ => none
  | n + 1, v2, v3 => B_impl_turnAny_0 s_impl_lastTurn k0 v1t v1 (L_impl_turnAny_0 s_impl_lastTurn k0 v1t v1 n) v2 v3
def F_impl_turnAny  (l0 : TL_impl_turnAny_0) (p1t : Bool) (p1 : List (List RD)) (k0 : Int → Option FR) : Option FR :=
  l0 (fun y6 =>
    k0 y6) p1t p1 0 0
def G_impl_turnAny_0 : TL_impl_turnAny_0 := fun k0 v1t v1 v2 v3 => L_impl_turnAny_0 S_impl_lastTurn k0 v1t v1 fuel v2 v3
def S_impl_turnAny : T_impl_turnAny := F_impl_turnAny G_impl_turnAny_0
def C_impl_turnAny (s : T_impl_turnAny) : SmC := fun args K =>
  lCons args fun a1_ t2_ => dRo a1_ fun d3_ => rSl d3_ fun p1t p1 => lNil t2_ <|
  s p1t p1 (fun r1 => K [] (.ro (.lit (.int .i64 r1))))
abbrev T_impl_rising := Bool → List (List RD) → Int → Int → (Bool → Option FR) → Option FR
abbrev TL_impl_rising_0 := (Bool → Option FR) → Option FR → Bool → List (List RD) → Int → Int → Bool → List (List RD) → Int → Int → Option FR
def B_impl_rising_0 (s_impl_between : T_impl_between)  (k0 : Bool → Option FR) (k1 : Option FR) (v1t : Bool) (v1 : List (List RD)) (v2 : Int) (v3 : Int) (v4t : Bool) (v4 : List (List RD)) (v5 : Int) (rc : Int → Option FR) (v6 : Int) : Option FR :=
  bif decide (v6 < v5) then
    at_i v4 v6 fun x7 =>
    s_impl_between x7 v2 v3 (fun r8 =>
      bif r8 then
        bif decide (v6 > 0) then
          at_i v1 (w64 (v6 - 1)) fun x9 =>
          bif decide (x9 ≥ x7) then
            k0 false
          else
            rc (w64 (v6 + 1))
        else
          rc (w64 (v6 + 1))
      else
        k0 false)
  else
    k1
def L_impl_rising_0 (s_impl_between : T_impl_between)  (k0 : Bool → Option FR) (k1 : Option FR) (v1t : Bool) (v1 : List (List RD)) (v2 : Int) (v3 : Int) (v4t : Bool) (v4 : List (List RD)) (v5 : Int) : Nat → Int → Option FR
  | 0, _ => none
  | n + 1, v6 => B_impl_rising_0 s_impl_between k0 k1 v1t v1 v2 v3 v4t v4 v5 (L_impl_rising_0 s_impl_between k0 k1 v1t v1 v2 v3 v4t v4 v5 n) v6
def F_impl_rising  (l0 : TL_impl_rising_0) (p1t : Bool) (p1 : List (List RD)) (p2 : Int) (p3 : Int) (k0 : Bool → Option FR) : Option FR :=
  l0 (fun y11 =>
    k0 y11) (
    k0 true) p1t p1 p2 p3 p1t p1 (p1.length : Int) 0
def G_impl_rising_0 : TL_impl_rising_0 := fun k0 k1 v1t v1 v2 v3 v4t v4 v5 v6 => L_impl_rising_0 S_impl_between k0 k1 v1t v1 v2 v3 v4t v4 v5 fuel v6
def S_impl_rising : T_impl_rising := F_impl_rising G_impl_rising_0
def C_impl_rising (s : T_impl_rising) : SmC := fun args K =>
  lCons args fun a1_ t2_ => dRo a1_ fun d3_ => rSl d3_ fun p1t p1 => lCons t2_ fun a4_ t5_ => dRo a4_ fun d6_ => rInt .i64 d6_ fun p2 => lCons t5_ fun a7_ t8_ => dRo a7_ fun d9_ => rInt .i64 d9_ fun p3 => lNil t8_ <|
  s p1t p1 p2 p3 (fun r1 => K [] (.ro (.lit (.bool r1))))
abbrev T_impl_WritesOk := Bool → List (List RD) → (Bool → Option FR) → Option FR
abbrev TL_impl_WritesOk_0 := (Bool → Option FR) → (Bool → List (List RD) → Option FR) → Bool → List (List RD) → Bool → List (List RD) → Int → Int → Option FR
def B_impl_WritesOk_0 (s_impl_keyOk : T_impl_keyOk) (s_impl_RowOk : T_impl_RowOk)  (k0 : Bool → Option FR) (k1 : Bool → List (List RD) → Option FR) (v1t : Bool) (v1 : List (List RD)) (v2t : Bool) (v2 : List (List RD)) (v3 : Int) (rc : Int → Option FR) (v4 : Int) : Option FR :=
  bif decide (v4 < v3) then
    at_ilb v2 v4 fun x5 x6t x6 x7 =>
    s_impl_keyOk x5 (fun r8 =>
      bif r8 then
        s_impl_RowOk x6t x6 (fun r9 =>
          bif r9 then
            bif x7 then
              bif decide ((x6.length : Int) > 0) then
                k0 false
              else
                bif decide (v4 > 0) then
                  at_ilb v1 (w64 (v4 - 1)) fun x10 x11t x11 x12 =>
                  bif decide (x10 ≥ x5) then
                    k0 false
                  else
                    rc (w64 (v4 + 1))
                else
                  rc (w64 (v4 + 1))
            else
              bif decide (v4 > 0) then
                at_ilb v1 (w64 (v4 - 1)) fun x13 x14t x14 x15 =>
                bif decide (x13 ≥ x5) then
                  k0 false
                else
                  rc (w64 (v4 + 1))
              else
                rc (w64 (v4 + 1))
          else
            k0 false)
      else
        k0 false)
  else
    k1 v1t v1
def L_impl_WritesOk_0 (s_impl_keyOk : T_impl_keyOk) (s_impl_RowOk : T_impl_RowOk)  (k0 : Bool → Option FR) (k1 : Bool → List (List RD) → Option FR) (v1t : Bool) (v1 : List (List RD)) (v2t : Bool) (v2 : List (List RD)) (v3 : Int) : Nat → Int → Option FR
  | 0, _ => none
  | n + 1, v4 => B_impl_WritesOk_0 s_impl_keyOk s_impl_RowOk k0 k1 v1t v1 v2t v2 v3 (L_impl_WritesOk_0 s_impl_keyOk s_impl_RowOk k0 k1 v1t v1 v2t v2 v3 n) v4
def F_impl_WritesOk  (l0 : TL_impl_WritesOk_0) (p1t : Bool) (p1 : List (List RD)) (k0 : Bool → Option FR) : Option FR :=
  l0 (fun y18 =>
    k0 y18) (fun y19t y19 =>
    bif decide ((y19.length : Int) ≤ 5) then
      k0 true
    else
      k0 false) p1t p1 p1t p1 (p1.length : Int) 0
def G_impl_WritesOk_0 : TL_impl_WritesOk_0 := fun k0 k1 v1t v1 v2t v2 v3 v4 => L_impl_WritesOk_0 S_impl_keyOk S_impl_RowOk k0 k1 v1t v1 v2t v2 v3 fuel v4
def S_impl_WritesOk : T_impl_WritesOk := F_impl_WritesOk G_impl_WritesOk_0
def C_impl_WritesOk (s : T_impl_WritesOk) : SmC := fun args K =>
  lCons args fun a1_ t2_ => dRo a1_ fun d3_ => rSl d3_ fun p1t p1 => lNil t2_ <|
  s p1t p1 (fun r1 => K [] (.ro (.lit (.bool r1))))
abbrev T_impl_Txn_ok := Int → Int → Int → Bool → List (List RD) → Bool → List (List RD) → Int → (Bool → Option FR) → Option FR
def F_impl_Txn_ok (s_impl_between : T_impl_between) (s_impl_rising : T_impl_rising) (s_impl_WritesOk : T_impl_WritesOk)  (p1 : Int) (p2 : Int) (p3 : Int) (p4t : Bool) (p4 : List (List RD)) (p5t : Bool) (p5 : List (List RD)) (p6 : Int) (k0 : Bool → Option FR) : Option FR :=
  bif (p1 == 0) then
    bif (p2 == 0) then
      bif (p3 == 0) then
        bif ((p4.length : Int) == 0) then
          bif ((p5.length : Int) == 0) then
            k0 true
          else
            k0 false
        else
          k0 false
      else
        k0 false
    else
      k0 false
  else
    bif (p1 == 2) then
      s_impl_between p3 (w64 (p2 + 1)) p6 (fun r1 =>
        bif r1 then
          s_impl_between p2 0 p6 (fun r2 =>
            bif r2 then
              s_impl_rising p4t p4 0 4 (fun r3 =>
                bif r3 then
                  s_impl_WritesOk p5t p5 (fun r4 =>
                    bif r4 then
                      k0 true
                    else
                      k0 false)
                else
                  k0 false)
            else
              k0 false)
        else
          k0 false)
    else
      bif (p1 == 1) then
        bif (p3 != 0) then
          k0 false
        else
          s_impl_between p2 0 p6 (fun r5 =>
            bif r5 then
              s_impl_rising p4t p4 0 4 (fun r6 =>
                bif r6 then
                  s_impl_WritesOk p5t p5 (fun r7 =>
                    bif r7 then
                      k0 true
                    else
                      k0 false)
                else
                  k0 false)
            else
              k0 false)
      else
        bif (p1 == 3) then
          bif (p3 != 0) then
            k0 false
          else
            s_impl_between p2 0 p6 (fun r8 =>
              bif r8 then
                s_impl_rising p4t p4 0 4 (fun r9 =>
                  bif r9 then
                    s_impl_WritesOk p5t p5 (fun r10 =>
                      bif r10 then
                        k0 true
                      else
                        k0 false)
                  else
                    k0 false)
              else
                k0 false)
        else
          k0 false
def S_impl_Txn_ok : T_impl_Txn_ok := F_impl_Txn_ok S_impl_between S_impl_rising S_impl_WritesOk
def C_impl_Txn_ok (s : T_impl_Txn_ok) : SmC := fun args K =>
  lCons args fun a1_ t2_ => dAgg a1_ fun c3_ => lCons c3_ fun a4_ t5_ => dRo a4_ fun d6_ => rInt .i64 d6_ fun p1 => lCons t5_ fun a7_ t8_ => dRo a7_ fun d9_ => rInt .i64 d9_ fun p2 => lCons t8_ fun a10_ t11_ => dRo a10_ fun d12_ => rInt .i64 d12_ fun p3 => lCons t11_ fun a13_ t14_ => dRo a13_ fun d15_ => rSl d15_ fun p4t p4 => lCons t14_ fun a16_ t17_ => dRo a16_ fun d18_ => rSl d18_ fun p5t p5 => lNil t17_ <| lCons t2_ fun a19_ t20_ => dRo a19_ fun d21_ => rInt .i64 d21_ fun p6 => lNil t20_ <|
  s p1 p2 p3 p4t p4 p5t p5 p6 (fun r1 => K [] (.ro (.lit (.bool r1))))
abbrev T_impl_HouseOk := Bool → List (List RD) → Int → Bool → List (List RD) → (Bool → Option FR) → Option FR
abbrev TL_impl_HouseOk_0 := (Bool → Option FR) → Option FR → Bool → List (List RD) → Int → Bool → List (List RD) → Int → Bool → List (List RD) → Int → List (Int × Value) → Option FR
def B_impl_HouseOk_0 (s_impl_Txn_ok : T_impl_Txn_ok)  (k0 : Bool → Option FR) (k1 : Option FR) (v4t : Bool) (v4 : List (List RD)) (v5 : Int) (v7t : Bool) (v7 : List (List RD)) (v8 : Int) (v9t : Bool) (v9 : List (List RD)) (rc : Int → List (Int × Value) → Option FR) (v6 : Int) (v10m : List (Int × Value)) : Option FR :=
  bif decide (v6 < v5) then
    at_iiill v4 v6 fun x11 x12 x13 x14t x14 x15t x15 =>
    s_impl_Txn_ok x11 x12 x13 x14t x14 x15t x15 v8 (fun r16 =>
      bif r16 then
        bif (x11 == 2) then
          look_b x13 v10m fun x17 =>
          bif x17 then
            k0 false
          else
            bif (x11 == 2) then
              rc (w64 (v6 + 1)) (entPut x13 (.bool true) v10m)
            else
              rc (w64 (v6 + 1)) v10m
        else
          bif (x11 == 2) then
            rc (w64 (v6 + 1)) (entPut x13 (.bool true) v10m)
          else
            rc (w64 (v6 + 1)) v10m
      else
        k0 false)
  else
    k1
def L_impl_HouseOk_0 (s_impl_Txn_ok : T_impl_Txn_ok)  (k0 : Bool → Option FR) (k1 : Option FR) (v4t : Bool) (v4 : List (List RD)) (v5 : Int) (v7t : Bool) (v7 : List (List RD)) (v8 : Int) (v9t : Bool) (v9 : List (List RD)) : Nat → Int → List (Int × Value) → Option FR
  | 0, _, _ => none
  | n + 1, v6, v10m => B_impl_HouseOk_0 s_impl_Txn_ok k0 k1 v4t v4 v5 v7t v7 v8 v9t v9 (L_impl_HouseOk_0 s_impl_Txn_ok k0 k1 v4t v4 v5 v7t v7 v8 v9t v9 n) v6 v10m
def F_impl_HouseOk (s_impl_VersionsOk : T_impl_VersionsOk) (s_impl_between : T_impl_between) (s_impl_turnAny : T_impl_turnAny) (l0 : TL_impl_HouseOk_0) (p1t : Bool) (p1 : List (List RD)) (p2 : Int) (p3t : Bool) (p3 : List (List RD)) (k0 : Bool → Option FR) : Option FR :=
  s_impl_VersionsOk p1t p1 (fun r1 =>
    bif r1 then
      s_impl_between p2 0 40 (fun r2 =>
        bif r2 then
          s_impl_turnAny p1t p1 (fun r3 =>
            bif decide (r3 > p2) then
              k0 false
            else
              bif ((p3.length : Int) != 4) then
                k0 false
              else
                l0 (fun y19 =>
                  k0 y19) (
                  k0 true) p3t p3 (p3.length : Int) p1t p1 p2 p3t p3 0 ([]))
        else
          k0 false)
    else
      k0 false)
def G_impl_HouseOk_0 : TL_impl_HouseOk_0 := fun k0 k1 v4t v4 v5 v7t v7 v8 v9t v9 v6 v10m => L_impl_HouseOk_0 S_impl_Txn_ok k0 k1 v4t v4 v5 v7t v7 v8 v9t v9 fuel v6 v10m
def S_impl_HouseOk : T_impl_HouseOk := F_impl_HouseOk S_impl_VersionsOk S_impl_between S_impl_turnAny G_impl_HouseOk_0
def C_impl_HouseOk (s : T_impl_HouseOk) : SmC := fun args K =>
  lCons args fun a1_ t2_ => dAgg a1_ fun c3_ => lCons c3_ fun a4_ t5_ => dRo a4_ fun d6_ => rSl d6_ fun p1t p1 => lCons t5_ fun a7_ t8_ => dRo a7_ fun d9_ => rInt .i64 d9_ fun p2 => lCons t8_ fun a10_ t11_ => dRo a10_ fun d12_ => rSl d12_ fun p3t p3 => lNil t11_ <| lNil t2_ <|
  s p1t p1 p2 p3t p3 (fun r1 => K [] (.ro (.lit (.bool r1))))
abbrev T_impl_seen := Bool → List (List RD) → Int → Int → (Int → Int → Int → Bool → List (List RD) → Bool → Option FR) → Option FR
abbrev TL_impl_seen_0 := (Bool → Int → Int → Int → Bool → List (List RD) → Option FR) → (Int → Int → Int → Bool → List (List RD) → Option FR) → Int → Int → Bool → List (List RD) → Int → Int → Int → Int → Bool → List (List RD) → Int → Option FR
def B_impl_seen_0   (k0 : Bool → Int → Int → Int → Bool → List (List RD) → Option FR) (k1 : Int → Int → Int → Bool → List (List RD) → Option FR) (v1 : Int) (v2 : Int) (v3t : Bool) (v3 : List (List RD)) (v4 : Int) (v6 : Int) (v7 : Int) (v8 : Int) (v9t : Bool) (v10 : List (List RD)) (rc : Int → Option FR) (v5 : Int) : Option FR :=
  bif decide (v5 < v4) then
    at_iiil v3 v5 fun x11 x12 x13 x14t x14 =>
    bif (x11 == v1) then
      bif decide (x12 ≤ v2) then
        bif (x13 == 0) then
          k0 true x11 x12 x13 x14t x14
        else
          bif decide (x13 > v2) then
            k0 true x11 x12 x13 x14t x14
          else
            rc (w64 (v5 + 1))
      else
        rc (w64 (v5 + 1))
    else
      rc (w64 (v5 + 1))
  else
    k1 v6 v7 v8 v9t v10
def L_impl_seen_0   (k0 : Bool → Int → Int → Int → Bool → List (List RD) → Option FR) (k1 : Int → Int → Int → Bool → List (List RD) → Option FR) (v1 : Int) (v2 : Int) (v3t : Bool) (v3 : List (List RD)) (v4 : Int) (v6 : Int) (v7 : Int) (v8 : Int) (v9t : Bool) (v10 : List (List RD)) : Nat → Int → Option FR
  | 0, _ => none
  | n + 1, v5 => B_impl_seen_0 k0 k1 v1 v2 v3t v3 v4 v6 v7 v8 v9t v10 (L_impl_seen_0 k0 k1 v1 v2 v3t v3 v4 v6 v7 v8 v9t v10 n) v5
def F_impl_seen  (l0 : TL_impl_seen_0) (p1t : Bool) (p1 : List (List RD)) (p2 : Int) (p3 : Int) (k0 : Int → Int → Int → Bool → List (List RD) → Bool → Option FR) : Option FR :=
  l0 (fun y25 y26 y27 y28 y29t y29 =>
    k0 y26 y27 y28 y29t y29 y25) (fun y30 y31 y32 y33t y34 =>
    k0 0 0 0 true ([]) false) p2 p3 p1t p1 (p1.length : Int) 0 0 0 true ([]) 0
def G_impl_seen_0 : TL_impl_seen_0 := fun k0 k1 v1 v2 v3t v3 v4 v6 v7 v8 v9t v10 v5 => L_impl_seen_0  k0 k1 v1 v2 v3t v3 v4 v6 v7 v8 v9t v10 fuel v5
def S_impl_seen : T_impl_seen := F_impl_seen G_impl_seen_0
def C_impl_seen (s : T_impl_seen) : SmC := fun args K =>
  lCons args fun a1_ t2_ => dRo a1_ fun d3_ => rSl d3_ fun p1t p1 => lCons t2_ fun a4_ t5_ => dRo a4_ fun d6_ => rInt .i64 d6_ fun p2 => lCons t5_ fun a7_ t8_ => dRo a7_ fun d9_ => rInt .i64 d9_ fun p3 => lNil t8_ <|
  s p1t p1 p2 p3 (fun r1 r2 r3 r4t r4 r5 => K [] (.tup [.agg [.ro (.lit (.int .i64 r1)), .ro (.lit (.int .i64 r2)), .ro (.lit (.int .i64 r3)), .ro (.sl r4t r4)], .ro (.lit (.bool r5))]))
abbrev T_slices_Clip_Limpl_Value_impl_Value := Bool → List (List RD) → (Bool → List (List RD) → Option FR) → Option FR
def F_slices_Clip_Limpl_Value_impl_Value   (p1t : Bool) (p1 : List (List RD)) (k0 : Bool → List (List RD) → Option FR) : Option FR :=
  req (slcOk 0 (p1.length : Int) p1.length (p1.length : Int) true) <|
  bif eqN (p1.length : Int) p1.length then
    k0 (p1t || true) p1
  else
    k0 (eqN (p1.length : Int) p1.length) (p1.take ((p1.length : Int).toNat))
def S_slices_Clip_Limpl_Value_impl_Value : T_slices_Clip_Limpl_Value_impl_Value := F_slices_Clip_Limpl_Value_impl_Value 
def C_slices_Clip_Limpl_Value_impl_Value (s : T_slices_Clip_Limpl_Value_impl_Value) : SmC := fun args K =>
  lCons args fun a1_ t2_ => dRo a1_ fun d3_ => rSl d3_ fun p1t p1 => lNil t2_ <|
  s p1t p1 (fun r1t r1 => K [] (.ro (.sl r1t r1)))
abbrev T_impl_clone_impl_Value := Bool → List (List RD) → (Bool → List (List RD) → Option FR) → Option FR
def F_impl_clone_impl_Value (s_slices_Clip_Limpl_Value_impl_Value : T_slices_Clip_Limpl_Value_impl_Value)  (p1t : Bool) (p1 : List (List RD)) (k0 : Bool → List (List RD) → Option FR) : Option FR :=
  bif ((p1.length : Int) == 0) then
    k0 true ([])
  else
    req (widthOk 3 p1) <|
    req (allLit p1) <|
    req (lenOk p1.length 32) <|
    s_slices_Clip_Limpl_Value_impl_Value false p1 (fun r1t r1 =>
      k0 r1t r1)
def S_impl_clone_impl_Value : T_impl_clone_impl_Value := F_impl_clone_impl_Value S_slices_Clip_Limpl_Value_impl_Value
def C_impl_clone_impl_Value (s : T_impl_clone_impl_Value) : SmC := fun args K =>
  lCons args fun a1_ t2_ => dRo a1_ fun d3_ => rSl d3_ fun p1t p1 => lNil t2_ <|
  s p1t p1 (fun r1t r1 => K [] (.ro (.sl r1t r1)))
abbrev T_slices_Clip_LLimpl_Value_Limpl_Value := Bool → List (List RD) → (Bool → List (List RD) → Option FR) → Option FR
def F_slices_Clip_LLimpl_Value_Limpl_Value   (p1t : Bool) (p1 : List (List RD)) (k0 : Bool → List (List RD) → Option FR) : Option FR :=
  req (slcOk 0 (p1.length : Int) p1.length (p1.length : Int) true) <|
  bif eqN (p1.length : Int) p1.length then
    k0 (p1t || true) p1
  else
    k0 (eqN (p1.length : Int) p1.length) (p1.take ((p1.length : Int).toNat))
def S_slices_Clip_LLimpl_Value_Limpl_Value : T_slices_Clip_LLimpl_Value_Limpl_Value := F_slices_Clip_LLimpl_Value_Limpl_Value 
def C_slices_Clip_LLimpl_Value_Limpl_Value (s : T_slices_Clip_LLimpl_Value_Limpl_Value) : SmC := fun args K =>
  lCons args fun a1_ t2_ => dRo a1_ fun d3_ => rSl d3_ fun p1t p1 => lNil t2_ <|
  s p1t p1 (fun r1t r1 => K [] (.ro (.sl r1t r1)))
abbrev T_impl_rowsCopy := Bool → List (List RD) → (Bool → List (List RD) → Option FR) → Option FR
abbrev TL_impl_rowsCopy_0 := (Bool → List (List RD) → Option FR) → Bool → List (List RD) → Int → Bool → Int → List (List RD) → Option FR
def B_impl_rowsCopy_0 (s_impl_clone_impl_Value : T_impl_clone_impl_Value)  (k0 : Bool → List (List RD) → Option FR) (v2t : Bool) (v2 : List (List RD)) (v3 : Int) (rc : Bool → Int → List (List RD) → Option FR) (v1t : Bool) (v4 : Int) (v5 : List (List RD)) : Option FR :=
  bif decide (v4 < v3) then
    at_l v2 v4 fun x6t x6 =>
    s_impl_clone_impl_Value x6t x6 (fun r7t r7 =>
      req (lenOk (v5.length + 1) 24) <|
      rc false (w64 (v4 + 1)) (v5 ++ ([[.sl r7t r7]])))
  else
    k0 v1t v5
def L_impl_rowsCopy_0 (s_impl_clone_impl_Value : T_impl_clone_impl_Value)  (k0 : Bool → List (List RD) → Option FR) (v2t : Bool) (v2 : List (List RD)) (v3 : Int) : Nat → Bool → Int → List (List RD) → Option FR
  | 0, _, _, _ => none
  | n + 1, v1t, v4, v5 => B_impl_rowsCopy_0 s_impl_clone_impl_Value k0 v2t v2 v3 (L_impl_rowsCopy_0 s_impl_clone_impl_Value k0 v2t v2 v3 n) v1t v4 v5
def F_impl_rowsCopy (s_slices_Clip_LLimpl_Value_Limpl_Value : T_slices_Clip_LLimpl_Value_Limpl_Value) (l0 : TL_impl_rowsCopy_0) (p1t : Bool) (p1 : List (List RD)) (k0 : Bool → List (List RD) → Option FR) : Option FR :=
  l0 (fun y10t y11 =>
    s_slices_Clip_LLimpl_Value_Limpl_Value y10t y11 (fun r12t r12 =>
      k0 r12t r12)) p1t p1 (p1.length : Int) true 0 ([])
def G_impl_rowsCopy_0 : TL_impl_rowsCopy_0 := fun k0 v2t v2 v3 v1t v4 v5 => L_impl_rowsCopy_0 S_impl_clone_impl_Value k0 v2t v2 v3 fuel v1t v4 v5
def S_impl_rowsCopy : T_impl_rowsCopy := F_impl_rowsCopy S_slices_Clip_LLimpl_Value_Limpl_Value G_impl_rowsCopy_0
def C_impl_rowsCopy (s : T_impl_rowsCopy) : SmC := fun args K =>
  lCons args fun a1_ t2_ => dRo a1_ fun d3_ => rSl d3_ fun p1t p1 => lNil t2_ <|
  s p1t p1 (fun r1t r1 => K [] (.ro (.sl r1t r1)))
abbrev T_impl_RowsAt := Bool → List (List RD) → Int → (Bool → List (List RD) → Option FR) → Option FR
abbrev TL_impl_RowsAt_0 := (Bool → List (List RD) → Option FR) → Bool → List (List RD) → Int → Bool → Int → List (List RD) → Option FR
def B_impl_RowsAt_0 (s_impl_seen : T_impl_seen)  (k0 : Bool → List (List RD) → Option FR) (v2t : Bool) (v2 : List (List RD)) (v3 : Int) (rc : Bool → Int → List (List RD) → Option FR) (v4t : Bool) (v5 : Int) (v6 : List (List RD)) : Option FR :=
  bif decide (v5 < 5) then
    s_impl_seen v2t v2 v5 v3 (fun r7 r8 r9 r10t r10 r11 =>
      bif r11 then
        req (lenOk (v6.length + 1) 24) <|
        rc false (w64 (v5 + 1)) (v6 ++ ([[.sl r10t r10]]))
      else
        rc v4t (w64 (v5 + 1)) v6)
  else
    k0 v4t v6
def L_impl_RowsAt_0 (s_impl_seen : T_impl_seen)  (k0 : Bool → List (List RD) → Option FR) (v2t : Bool) (v2 : List (List RD)) (v3 : Int) : Nat → Bool → Int → List (List RD) → Option FR
  | 0, _, _, _ => none
  | n + 1, v4t, v5, v6 => B_impl_RowsAt_0 s_impl_seen k0 v2t v2 v3 (L_impl_RowsAt_0 s_impl_seen k0 v2t v2 v3 n) v4t v5 v6
def F_impl_RowsAt (s_impl_VersionsOk : T_impl_VersionsOk) (s_impl_rowsCopy : T_impl_rowsCopy) (l0 : TL_impl_RowsAt_0) (p1t : Bool) (p1 : List (List RD)) (p2 : Int) (k0 : Bool → List (List RD) → Option FR) : Option FR :=
  s_impl_VersionsOk p1t p1 (fun r1 =>
    bif r1 then
      l0 (fun y14t y15 =>
        s_impl_rowsCopy y14t y15 (fun r16t r16 =>
          k0 r16t r16)) p1t p1 p2 true 0 ([])
    else
      k0 true ([]))
def G_impl_RowsAt_0 : TL_impl_RowsAt_0 := fun k0 v2t v2 v3 v4t v5 v6 => L_impl_RowsAt_0 S_impl_seen k0 v2t v2 v3 fuel v4t v5 v6
def S_impl_RowsAt : T_impl_RowsAt := F_impl_RowsAt S_impl_VersionsOk S_impl_rowsCopy G_impl_RowsAt_0
def C_impl_RowsAt (s : T_impl_RowsAt) : SmC := fun args K =>
  lCons args fun a1_ t2_ => dRo a1_ fun d3_ => rSl d3_ fun p1t p1 => lCons t2_ fun a4_ t5_ => dRo a4_ fun d6_ => rInt .i64 d6_ fun p2 => lNil t5_ <|
  s p1t p1 p2 (fun r1t r1 => K [] (.ro (.sl r1t r1)))
abbrev T_impl_RowsNow := Bool → List (List RD) → Int → Bool → List (List RD) → (Bool → List (List RD) → Option FR) → Option FR
def F_impl_RowsNow (s_impl_HouseOk : T_impl_HouseOk) (s_impl_RowsAt : T_impl_RowsAt)  (p1t : Bool) (p1 : List (List RD)) (p2 : Int) (p3t : Bool) (p3 : List (List RD)) (k0 : Bool → List (List RD) → Option FR) : Option FR :=
  s_impl_HouseOk p1t p1 p2 p3t p3 (fun r1 =>
    bif r1 then
      s_impl_RowsAt p1t p1 p2 (fun r2t r2 =>
        k0 r2t r2)
    else
      k0 true ([]))
def S_impl_RowsNow : T_impl_RowsNow := F_impl_RowsNow S_impl_HouseOk S_impl_RowsAt
def C_impl_RowsNow (s : T_impl_RowsNow) : SmC := fun args K =>
  lCons args fun a1_ t2_ => dAgg a1_ fun c3_ => lCons c3_ fun a4_ t5_ => dRo a4_ fun d6_ => rSl d6_ fun p1t p1 => lCons t5_ fun a7_ t8_ => dRo a7_ fun d9_ => rInt .i64 d9_ fun p2 => lCons t8_ fun a10_ t11_ => dRo a10_ fun d12_ => rSl d12_ fun p3t p3 => lNil t11_ <| lNil t2_ <|
  s p1t p1 p2 p3t p3 (fun r1t r1 => K [] (.ro (.sl r1t r1)))
abbrev T_spec_l13Seen := Int → Int → Int → Bool → List (List RD) → Int → (Bool → Option FR) → Option FR
def F_spec_l13Seen   (p1 : Int) (p2 : Int) (p3 : Int) (p4t : Bool) (p4 : List (List RD)) (p5 : Int) (k0 : Bool → Option FR) : Option FR :=
  bif decide (p2 ≤ p5) then
    bif (p3 == 0) then
      k0 true
    else
      bif decide (p5 < p3) then
        k0 true
      else
        k0 false
  else
    k0 false
def S_spec_l13Seen : T_spec_l13Seen := F_spec_l13Seen 
def C_spec_l13Seen (s : T_spec_l13Seen) : SmC := fun args K =>
  lCons args fun a1_ t2_ => dAgg a1_ fun c3_ => lCons c3_ fun a4_ t5_ => dRo a4_ fun d6_ => rInt .i64 d6_ fun p1 => lCons t5_ fun a7_ t8_ => dRo a7_ fun d9_ => rInt .i64 d9_ fun p2 => lCons t8_ fun a10_ t11_ => dRo a10_ fun d12_ => rInt .i64 d12_ fun p3 => lCons t11_ fun a13_ t14_ => dRo a13_ fun d15_ => rSl d15_ fun p4t p4 => lNil t14_ <| lCons t2_ fun a16_ t17_ => dRo a16_ fun d18_ => rInt .i64 d18_ fun p5 => lNil t17_ <|
  s p1 p2 p3 p4t p4 p5 (fun r1 => K [] (.ro (.lit (.bool r1))))
abbrev T_spec_SeenAt := Bool → List (List RD) → Int → Int → (Bool → List (List RD) → Bool → Option FR) → Option FR
abbrev TL_spec_SeenAt_0 := (Bool → Bool → List (List RD) → Option FR) → Option FR → Bool → List (List RD) → Int → Int → Int → Option FR
def B_spec_SeenAt_0 (s_spec_VersionsOk : T_spec_VersionsOk) (s_spec_l13Seen : T_spec_l13Seen) (s_spec_l3Own : T_spec_l3Own)  (k0 : Bool → Bool → List (List RD) → Option FR) (k1 : Option FR) (v1t : Bool) (v1 : List (List RD)) (v2 : Int) (v3 : Int) (rc : Int → Option FR) (v4 : Int) : Option FR :=
  bif decide (v4 < (v1.length : Int)) then
    s_spec_VersionsOk v1t v1 (fun r5 =>
      bif r5 then
        at_iiil v1 v4 fun x6 x7 x8 x9t x9 =>
        bif (x6 == v2) then
          at_iiil v1 v4 fun x10 x11 x12 x13t x13 =>
          s_spec_l13Seen x10 x11 x12 x13t x13 v3 (fun r14 =>
            bif r14 then
              at_iiil v1 v4 fun x15 x16 x17 x18t x18 =>
              s_spec_l3Own x18t x18 (fun r19t r19 =>
                k0 r19t true r19)
            else
              rc (w64 (v4 + 1)))
        else
          rc (w64 (v4 + 1))
      else
        k1)
  else
    k1
def L_spec_SeenAt_0 (s_spec_VersionsOk : T_spec_VersionsOk) (s_spec_l13Seen : T_spec_l13Seen) (s_spec_l3Own : T_spec_l3Own)  (k0 : Bool → Bool → List (List RD) → Option FR) (k1 : Option FR) (v1t : Bool) (v1 : List (List RD)) (v2 : Int) (v3 : Int) : Nat → Int → Option FR
  | 0, _ => none
  | n + 1, v4 => B_spec_SeenAt_0 s_spec_VersionsOk s_spec_l13Seen s_spec_l3Own k0 k1 v1t v1 v2 v3 (L_spec_SeenAt_0 s_spec_VersionsOk s_spec_l13Seen s_spec_l3Own k0 k1 v1t v1 v2 v3 n) v4
def F_spec_SeenAt  (l0 : TL_spec_SeenAt_0) (p1t : Bool) (p1 : List (List RD)) (p2 : Int) (p3 : Int) (k0 : Bool → List (List RD) → Bool → Option FR) : Option FR :=
  l0 (fun y23t y24 y25 =>
    k0 y23t y25 y24) (
    k0 true ([]) false) p1t p1 p2 p3 0
def G_spec_SeenAt_0 : TL_spec_SeenAt_0 := fun k0 k1 v1t v1 v2 v3 v4 => L_spec_SeenAt_0 S_spec_VersionsOk S_spec_l13Seen S_spec_l3Own k0 k1 v1t v1 v2 v3 fuel v4
def S_spec_SeenAt : T_spec_SeenAt := F_spec_SeenAt G_spec_SeenAt_0
def C_spec_SeenAt (s : T_spec_SeenAt) : SmC := fun args K =>
  lCons args fun a1_ t2_ => dRo a1_ fun d3_ => rSl d3_ fun p1t p1 => lCons t2_ fun a4_ t5_ => dRo a4_ fun d6_ => rInt .i64 d6_ fun p2 => lCons t5_ fun a7_ t8_ => dRo a7_ fun d9_ => rInt .i64 d9_ fun p3 => lNil t8_ <|
  s p1t p1 p2 p3 (fun r1t r1 r2 => K [] (.tup [.own 3 r1t r1, .ro (.lit (.bool r2))]))
abbrev T_spec_RowsAt := Bool → List (List RD) → Int → (Bool → List (List RD) → Option FR) → Option FR
abbrev TL_spec_RowsAt_0 := (Bool → List (List RD) → Option FR) → Bool → List (List RD) → Int → Bool → Int → List (List RD) → Option FR
def B_spec_RowsAt_0 (s_spec_SeenAt : T_spec_SeenAt)  (k0 : Bool → List (List RD) → Option FR) (v1t : Bool) (v1 : List (List RD)) (v2 : Int) (rc : Bool → Int → List (List RD) → Option FR) (v3t : Bool) (v4 : Int) (v5 : List (List RD)) : Option FR :=
  bif decide (v4 < 5) then
    s_spec_SeenAt v1t v1 v4 v2 (fun r6t r6 r7 =>
      bif r7 then
        req (lenOk (v5.length + 1) 24) <|
        rc false (w64 (v4 + 1)) (v5 ++ ([[.sl r6t r6]]))
      else
        rc v3t (w64 (v4 + 1)) v5)
  else
    k0 v3t v5
def L_spec_RowsAt_0 (s_spec_SeenAt : T_spec_SeenAt)  (k0 : Bool → List (List RD) → Option FR) (v1t : Bool) (v1 : List (List RD)) (v2 : Int) : Nat → Bool → Int → List (List RD) → Option FR
  | 0, _, _, _ => none
  | n + 1, v3t, v4, v5 => B_spec_RowsAt_0 s_spec_SeenAt k0 v1t v1 v2 (L_spec_RowsAt_0 s_spec_SeenAt k0 v1t v1 v2 n) v3t v4 v5
def F_spec_RowsAt  (l0 : TL_spec_RowsAt_0) (p1t : Bool) (p1 : List (List RD)) (p2 : Int) (k0 : Bool → List (List RD) → Option FR) : Option FR :=
  l0 (fun y10t y11 =>
    k0 y10t y11) p1t p1 p2 true 0 ([])
def G_spec_RowsAt_0 : TL_spec_RowsAt_0 := fun k0 v1t v1 v2 v3t v4 v5 => L_spec_RowsAt_0 S_spec_SeenAt k0 v1t v1 v2 fuel v3t v4 v5
def S_spec_RowsAt : T_spec_RowsAt := F_spec_RowsAt G_spec_RowsAt_0
def C_spec_RowsAt (s : T_spec_RowsAt) : SmC := fun args K =>
  lCons args fun a1_ t2_ => dRo a1_ fun d3_ => rSl d3_ fun p1t p1 => lCons t2_ fun a4_ t5_ => dRo a4_ fun d6_ => rInt .i64 d6_ fun p2 => lNil t5_ <|
  s p1t p1 p2 (fun r1t r1 => K [] (.own 1 r1t r1))
abbrev T_spec_RowsNow := Bool → List (List RD) → Int → Bool → List (List RD) → (Bool → List (List RD) → Option FR) → Option FR
def F_spec_RowsNow (s_spec_HouseOk : T_spec_HouseOk) (s_spec_RowsAt : T_spec_RowsAt)  (p1t : Bool) (p1 : List (List RD)) (p2 : Int) (p3t : Bool) (p3 : List (List RD)) (k0 : Bool → List (List RD) → Option FR) : Option FR :=
  s_spec_HouseOk p1t p1 p2 p3t p3 (fun r1 =>
    bif r1 then
      s_spec_RowsAt p1t p1 p2 (fun r2t r2 =>
        k0 r2t r2)
    else
      k0 true ([]))
def S_spec_RowsNow : T_spec_RowsNow := F_spec_RowsNow S_spec_HouseOk S_spec_RowsAt
def C_spec_RowsNow (s : T_spec_RowsNow) : SmC := fun args K =>
  lCons args fun a1_ t2_ => dAgg a1_ fun c3_ => lCons c3_ fun a4_ t5_ => dRo a4_ fun d6_ => rSl d6_ fun p1t p1 => lCons t5_ fun a7_ t8_ => dRo a7_ fun d9_ => rInt .i64 d9_ fun p2 => lCons t8_ fun a10_ t11_ => dRo a10_ fun d12_ => rSl d12_ fun p3t p3 => lNil t11_ <| lNil t2_ <|
  s p1t p1 p2 p3t p3 (fun r1t r1 => K [] (.own 1 r1t r1))
abbrev T_laws_sameRow := Bool → List (List RD) → Bool → List (List RD) → (Bool → Option FR) → Option FR
abbrev TL_laws_sameRow_0 := (Bool → Option FR) → Option FR → Bool → List (List RD) → Bool → List (List RD) → Int → Option FR
def B_laws_sameRow_0   (k0 : Bool → Option FR) (k1 : Option FR) (v1t : Bool) (v1 : List (List RD)) (v2t : Bool) (v2 : List (List RD)) (rc : Int → Option FR) (v3 : Int) : Option FR :=
  bif decide (v3 < (v1.length : Int)) then
    at_iis v1 v3 fun x4 x5 x6 =>
    at_iis v2 v3 fun x7 x8 x9 =>
    bif (!((x4 == x7) && ((x5 == x8) && ((x6 == x9) && true)))) then
      k0 false
    else
      rc (w64 (v3 + 1))
  else
    k1
def L_laws_sameRow_0   (k0 : Bool → Option FR) (k1 : Option FR) (v1t : Bool) (v1 : List (List RD)) (v2t : Bool) (v2 : List (List RD)) : Nat → Int → Option FR
  | 0, _ => none
  | n + 1, v3 => B_laws_sameRow_0 k0 k1 v1t v1 v2t v2 (L_laws_sameRow_0 k0 k1 v1t v1 v2t v2 n) v3
def F_laws_sameRow  (l0 : TL_laws_sameRow_0) (p1t : Bool) (p1 : List (List RD)) (p2t : Bool) (p2 : List (List RD)) (k0 : Bool → Option FR) : Option FR :=
  bif ((p1.length : Int) != (p2.length : Int)) then
    k0 false
  else
    l0 (fun y11 =>
      k0 y11) (
      k0 true) p1t p1 p2t p2 0
def G_laws_sameRow_0 : TL_laws_sameRow_0 := fun k0 k1 v1t v1 v2t v2 v3 => L_laws_sameRow_0  k0 k1 v1t v1 v2t v2 fuel v3
def S_laws_sameRow : T_laws_sameRow := F_laws_sameRow G_laws_sameRow_0
def C_laws_sameRow (s : T_laws_sameRow) : SmC := fun args K =>
  lCons args fun a1_ t2_ => dRo a1_ fun d3_ => rSl d3_ fun p1t p1 => lCons t2_ fun a4_ t5_ => dRo a4_ fun d6_ => rSl d6_ fun p2t p2 => lNil t5_ <|
  s p1t p1 p2t p2 (fun r1 => K [] (.ro (.lit (.bool r1))))
abbrev T_laws_sameRows := Bool → List (List RD) → Bool → List (List RD) → (Bool → Option FR) → Option FR
abbrev TL_laws_sameRows_0 := (Bool → Option FR) → Option FR → Bool → List (List RD) → Bool → List (List RD) → Int → Option FR
def B_laws_sameRows_0 (s_laws_sameRow : T_laws_sameRow)  (k0 : Bool → Option FR) (k1 : Option FR) (v1t : Bool) (v1 : List (List RD)) (v2t : Bool) (v2 : List (List RD)) (rc : Int → Option FR) (v3 : Int) : Option FR :=
  bif decide (v3 < (v1.length : Int)) then
    at_l v1 v3 fun x4t x4 =>
    at_l v2 v3 fun x5t x5 =>
    s_laws_sameRow x4t x4 x5t x5 (fun r6 =>
      bif r6 then
        rc (w64 (v3 + 1))
      else
        k0 false)
  else
    k1
def L_laws_sameRows_0 (s_laws_sameRow : T_laws_sameRow)  (k0 : Bool → Option FR) (k1 : Option FR) (v1t : Bool) (v1 : List (List RD)) (v2t : Bool) (v2 : List (List RD)) : Nat → Int → Option FR
  | 0, _ => none
  | n + 1, v3 => B_laws_sameRows_0 s_laws_sameRow k0 k1 v1t v1 v2t v2 (L_laws_sameRows_0 s_laws_sameRow k0 k1 v1t v1 v2t v2 n) v3
def F_laws_sameRows  (l0 : TL_laws_sameRows_0) (p1t : Bool) (p1 : List (List RD)) (p2t : Bool) (p2 : List (List RD)) (k0 : Bool → Option FR) : Option FR :=
  bif ((p1.length : Int) != (p2.length : Int)) then
    k0 false
  else
    l0 (fun y8 =>
      k0 y8) (
      k0 true) p1t p1 p2t p2 0
def G_laws_sameRows_0 : TL_laws_sameRows_0 := fun k0 k1 v1t v1 v2t v2 v3 => L_laws_sameRows_0 S_laws_sameRow k0 k1 v1t v1 v2t v2 fuel v3
def S_laws_sameRows : T_laws_sameRows := F_laws_sameRows G_laws_sameRows_0
def C_laws_sameRows (s : T_laws_sameRows) : SmC := fun args K =>
  lCons args fun a1_ t2_ => dRo a1_ fun d3_ => rSl d3_ fun p1t p1 => lCons t2_ fun a4_ t5_ => dRo a4_ fun d6_ => rSl d6_ fun p2t p2 => lNil t5_ <|
  s p1t p1 p2t p2 (fun r1 => K [] (.ro (.lit (.bool r1))))
abbrev T_impl_ValueOk := Int → Int → ByteArray → (Bool → Option FR) → Option FR
def F_impl_ValueOk (s_impl_Value_ok : T_impl_Value_ok)  (p1 : Int) (p2 : Int) (p3 : ByteArray) (k0 : Bool → Option FR) : Option FR :=
  s_impl_Value_ok p1 p2 p3 (fun r1 =>
    bif r1 then
      k0 true
    else
      k0 false)
def S_impl_ValueOk : T_impl_ValueOk := F_impl_ValueOk S_impl_Value_ok
def C_impl_ValueOk (s : T_impl_ValueOk) : SmC := fun args K =>
  lCons args fun a1_ t2_ => dAgg a1_ fun c3_ => lCons c3_ fun a4_ t5_ => dRo a4_ fun d6_ => rInt .i64 d6_ fun p1 => lCons t5_ fun a7_ t8_ => dRo a7_ fun d9_ => rInt .i64 d9_ fun p2 => lCons t8_ fun a10_ t11_ => dRo a10_ fun d12_ => rStr d12_ fun p3 => lNil t11_ <| lNil t2_ <|
  s p1 p2 p3 (fun r1 => K [] (.ro (.lit (.bool r1))))
abbrev T_laws_alive := (Bool → Option FR) → Option FR
def F_laws_alive (s_impl_ValueOk : T_impl_ValueOk)   (k0 : Bool → Option FR) : Option FR :=
  s_impl_ValueOk 1 3 (bs []) (fun r1 =>
    bif r1 then
      s_impl_ValueOk 9 0 (bs []) (fun r2 =>
        bif r2 then
          k0 false
        else
          k0 true)
    else
      k0 false)
def S_laws_alive : T_laws_alive := F_laws_alive S_impl_ValueOk
def C_laws_alive (s : T_laws_alive) : SmC := fun args K =>
  lNil args <|
  s  (fun r1 => K [] (.ro (.lit (.bool r1))))
abbrev T_laws_FnRowsNow := Bool → List (List RD) → (Bool → Option FR) → Option FR
def F_laws_FnRowsNow (s_spec_DrawRowsNow : T_spec_DrawRowsNow) (s_impl_RowsNow : T_impl_RowsNow) (s_spec_RowsNow : T_spec_RowsNow) (s_laws_sameRows : T_laws_sameRows) (s_impl_HouseOk : T_impl_HouseOk) (s_impl_RowsAt : T_impl_RowsAt) (s_laws_alive : T_laws_alive)  (p1t : Bool) (p1 : List (List RD)) (k0 : Bool → Option FR) : Option FR :=
  bif decide ((p1.length : Int) > 1048576) then
    k0 true
  else
    s_spec_DrawRowsNow p1t p1 (fun r1t r1 r2 r3t r3 =>
      s_impl_RowsNow r1t r1 r2 r3t r3 (fun r4t r4 =>
        s_spec_RowsNow r1t r1 r2 r3t r3 (fun r5t r5 =>
          s_laws_sameRows r4t r4 r5t r5 (fun r6 =>
            bif r6 then
              s_impl_HouseOk r1t r1 r2 r3t r3 (fun r7 =>
                bif r7 then
                  s_impl_RowsAt r1t r1 r2 (fun r8t r8 =>
                    s_laws_sameRows r4t r4 r8t r8 (fun r9 =>
                      bif r9 then
                        s_impl_RowsAt r1t r1 (w64 (r2 + 1)) (fun r10t r10 =>
                          s_laws_sameRows r4t r4 r10t r10 (fun r11 =>
                            bif r11 then
                              s_laws_alive (fun r12 =>
                                bif r12 then
                                  k0 true
                                else
                                  k0 false)
                            else
                              k0 false))
                      else
                        k0 false))
                else
                  bif ((r4.length : Int) == 0) then
                    s_laws_alive (fun r13 =>
                      bif r13 then
                        k0 true
                      else
                        k0 false)
                  else
                    k0 false)
            else
              k0 false))))
def S_laws_FnRowsNow : T_laws_FnRowsNow := F_laws_FnRowsNow S_spec_DrawRowsNow S_impl_RowsNow S_spec_RowsNow S_laws_sameRows S_impl_HouseOk S_impl_RowsAt S_laws_alive
def C_laws_FnRowsNow (s : T_laws_FnRowsNow) : SmC := fun args K =>
  lCons args fun a1_ t2_ => dRo a1_ fun d3_ => rSl d3_ fun p1t p1 => lNil t2_ <|
  s p1t p1 (fun r1 => K [] (.ro (.lit (.bool r1))))
end
end Go.Den
end
