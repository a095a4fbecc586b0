/- What two functions answer that the evaluator does not run itself (the checksum; the sum of sectors written): definitions alone. -/
import Derived.Test.YtbimgjagacligaaGreatDoorAbsS
import Derived.Shelf.Strings.OnBuilder
namespace Go.Abs
open Go
noncomputable section

def crcAll : Nat → List Nat → Nat
  | x, [] => x
  | x, c :: l => crcAll (crcByte x c) l

def u8s : List Value → Option (List Nat)
  | [] => some []
  | .int .u8 (.ofNat x) :: r => if x < 256 then (match u8s r with
    | some l => some (x :: l)
    | none => none) else none
  | _ :: _ => none

/-- the checksum of bytes -/
def sumOver : Caller → List Value → AH → Option CRes := fun _ args h =>
  match args with
  | [.slice (some ⟨b, o, none⟩) n _] => match cellsAt h b with
    | some (cs, _, _) => match u8s ((cs.drop o).take n) with
      | some l => if l.length = n then (if n < 4611686018427387904 then some (.ret (.int .u32 ((Nat.xor 4294967295 (crcAll 4294967295 l) : Nat) : Int)) h) else none) else none
      | none => none
    | none => none
  | _ => none

/-- what a site's disk has written -/
def siteN (h : AH) (e : MapEntry) : Option Nat :=
  match e.val with
  | .pointer (some ⟨sb, so, none⟩) => match cellsAt h sb with
    | some (ss, _, _) => match ss[so]? with
      | some (.pointer (some ⟨db, d, none⟩)) => match cellsAt h db with
        | some (dd, _, _) => match dd[d + 1]? with
          | some (.int .i64 (.ofNat n)) => if n < 4294967296 then some n else none
          | _ => none
        | none => none
      | _ => none
    | none => none
  | _ => none

def sitesN (h : AH) : List MapEntry → Option Nat
  | [] => some 0
  | e :: r => match siteN h e, sitesN h r with
    | some n, some m => some (n + m)
    | _, _ => none

/-- the stamps rise, below a bound -/
def risen : Nat → List MapEntry → Nat → Bool
  | _, [], _ => true
  | k, e :: r, c => Nat.ble k e.born && Nat.blt e.born c && risen (e.born + 1) r c

/-- what all disks have written -/
def writtenOver : Caller → List Value → AH → Option CRes := fun _ args h =>
  match args with
  | [.pointer (some ⟨wb, wo, none⟩)] => match cellsAt h wb with
    | some (ws, _, _) => match ws[wo + 3]? with
      | some (.map (some m)) => match mapAt h m with
        | some (es, clock) => match risen 0 es clock && Nat.blt es.length 1000 with
          | true => match sitesN h es with
            | some n => some (.ret (.int .i64 (n : Int)) ⟨h.tbl.set h.next none, h.next + 1⟩)
            | none => none
          | false => none
        | none => none
      | _ => none
    | none => none
  | _ => none

/-- strings, out of cells -/
def strs : List Value → Option (List ByteArray)
  | [] => some []
  | .string s :: r => match strs r with
    | some l => some (s :: l)
    | none => none
  | _ :: _ => none
/-- strings.Join of two parts or more -/
def joinOver : Caller → List Value → AH → Option CRes := fun _ args h =>
  match args with
  | [.slice (some ⟨b, o, none⟩) n c, .string sep] => match Nat.ble 2 n && Nat.blt n 1000 && Nat.ble n c with
    | true => match cellsAt h b with
      | some (cs, _, _) => match strs ((cs.drop o).take n) with
        | some xs => match Nat.beq xs.length n && Nat.blt (Lib.join (xs.map (·.data.toList)) sep.data.toList).length 1000000 with
          | true => some (.ret (.string ⟨(Lib.join (xs.map (·.data.toList)) sep.data.toList).toArray⟩) h)
          | false => none
        | none => none
      | none => none
    | false => none
  | _ => none
end
end Go.Abs
