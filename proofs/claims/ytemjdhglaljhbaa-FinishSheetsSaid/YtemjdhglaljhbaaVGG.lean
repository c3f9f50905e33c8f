/- The functions that are taken as given (each is proved elsewhere), and the evaluator's environment with them. -/
import Derived.Test.YtemjdhglaljhbaaVEval
import Derived.Test.YtemjdhglaljhbaaVSeat
namespace Go.Proofs.Ytemjdhglaljhbaa
open Go.V

/-- math/bits.Sub64. -/
def sub64 : List X → St → Option (Va × St × Bool)
  | [.c (.int _ x), .c (.int _ y), .c (.int _ b)], S =>
    if b.toNat ≤ 1 then some (.t [.c (.int .u64 (((x.toNat + 2 ^ 64 - y.toNat - b.toNat) % 2 ^ 64 : Nat) : Int)), .c (.int .u64 (if x.toNat < y.toNat + b.toNat then 1 else 0))], S, true) else none
  | _, _ => none
/-- math/bits.Len64. -/
def len64 : List X → St → Option (Va × St × Bool)
  | [.c (.int .u64 x)], S => if 0 ≤ x ∧ x < 2 ^ 64 then some (.x (.c (.int .i64 (if x.toNat = 0 then 0 else (x.toNat.log2 : Int) + 1))), S, true) else none
  | _, _ => none
def intsOf : List C → Option (List Int)
  | [] => some []
  | .int .i64 n :: l => (intsOf l).map (n :: ·)
  | _ => none
def rngsOf : List C → Option (List (Int × Int))
  | [] => some []
  | .int .i64 a :: .int .i64 b :: l => (rngsOf l).map ((a, b) :: ·)
  | _ => none
/-- Is a range from one number to another one? -/
def spanS (r : Int × Int) (lo hi : Int) : Bool := decide (lo ≤ r.1) && decide (r.1 ≤ r.2) && decide (r.2 ≤ hi)
def ascS : Int → List Int → Bool
  | _, [] => true
  | p, n :: l => decide (p < n) && ascS n l
def treatedS (many : Nat) (t : (Int × Int) × List Int) : Bool := ascS (-1) t.2 && t.2.all (· < (many : Int)) && spanS t.1 0 10000000
/-- What two pieces are apart. -/
def apartSum (bs : List (Int × Int)) (a b : (Int × Int) × List Int) : Int × Int :=
  (List.range bs.length).foldl (fun x (i : Nat) =>
    let r := (bs[i]?).getD (0, 0)
    if a.2.contains (i : Int) && !b.2.contains (i : Int) then (x.1 - r.2, x.2 - r.1)
    else if b.2.contains (i : Int) && !a.2.contains (i : Int) then (x.1 + r.1, x.2 + r.2) else x) (a.1.1 - b.1.2, a.1.2 - b.1.1)
def apartS (bs : List (Int × Int)) (a b : (Int × Int) × List Int) : (Int × Int) × Int :=
  if 60 < bs.length then ((0, 0), 5)
  else if !(bs.all fun r => spanS r 0 10000000) || !treatedS bs.length a || !treatedS bs.length b then ((0, 0), 2)
  else (apartSum bs a b, 0)
/-- finish.Apart. -/
def apartO : List X → St → Option (Va × St × Bool)
  | [.c cb, .a [.int .i64 al, .int .i64 ah, ca], .a [.int .i64 bl, .int .i64 bh, cc]], S =>
    (rdCells S 2 cb).bind fun x => (rngsOf x).bind fun bs => (rdCells S 1 ca).bind fun y => (intsOf y).bind fun la => (rdCells S 1 cc).bind fun z => (intsOf z).bind fun lb =>
    let r := apartS bs ((al, ah), la) ((bl, bh), lb)
    if bs.length < 2 ^ 62 ∧ la.length < 2 ^ 62 ∧ lb.length < 2 ^ 62 then some (.t [.a [.int .i64 r.1.1, .int .i64 r.1.2], .c (.int .i64 r.2)], S, true) else none
  | _, _ => none
/-- boulelaw09.known. -/
def knownO : List X → St → Option (Va × St × Bool)
  | [], S => some (.x (.c (.bool true)), S, true)
  | _, _ => none
def G0 (f : FuncId) : Option (List X → St → Option (Va × St × Bool)) := if f = 124 then some sub64 else if f = 38 then some apartO else if f = 128 then some len64 else none
def GG (f : FuncId) : Option (List X → St → Option (Va × St × Bool)) := if f = 16 then some knownO else G0 f
noncomputable def EE : Env := envOf GG
end Go.Proofs.Ytemjdhglaljhbaa
