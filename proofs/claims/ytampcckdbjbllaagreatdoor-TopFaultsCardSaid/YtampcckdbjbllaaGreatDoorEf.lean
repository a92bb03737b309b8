/-
  Numbers that aren't known: a length, sums, their bytes; what is reckoned with them. Sums of bytes, as a number and such numbers.
  Known calls out of runs: values and rows that say less; the frame of what a call does not touch.
  Known calls out of runs (2): a run that was looked at once stands for each call like it, wherever else there is memory.
-/
import Derived.Test.YtampcckdbjbllaaGreatDoorEc
import Derived.Test.YtampcckdbjbllaaGreatDoorEe
set_option linter.unusedVariables false
set_option linter.unusedSectionVars false
set_option linter.unusedSimpArgs false
set_option linter.unusedVariables false
set_option linter.unusedSectionVars false
set_option linter.unusedSimpArgs false
namespace Go.Proofs.YtampcckdbjbllaaGreatDoor.Ev
noncomputable section
open Go.RowKit

def affV (m : Nat) : Value := .chan (some (4 * m))
def sy (id c : Nat) : Value := .chan (some (4 * (8 * id + c) + 2))
inductive SV
  | int (n : Nat)
  | byte (n : Nat)
  | aff (m : Nat)
  | sy (id c : Nat)
  | no
def sv : Value → SV
  | .int .i64 (.ofNat n) => .int n
  | .int _ (.ofNat n) => .byte n
  | .chan (some k) => if Nat.beq (k % 4) 0 then .aff (k / 4) else if Nat.beq (k % 4) 2 then .sy (k / 4 / 8) (k / 4 % 8) else .no
  | _ => .no
def i64 (n : Nat) : Value := .int .i64 (.ofNat n)
/-- The number of a name: even names are lengths, odd ones are sums. -/
def numV (id : Nat) : Value := if Nat.beq (id % 2) 0 then affV (id / 2) else sy id 5
def yes : Option Value := some (.bool true)
def nay : Option Value := some (.bool false)
/-- A length and a number. -/
def affInt (op : BinOp) (m c : Nat) : Option Value :=
  match op with
  | .add => if Nat.ble (m + c) 1000000000000 then some (affV (m + c)) else none
  | .sub => if Nat.ble c m && Nat.ble m 1000000000000 then some (affV (m - c)) else none
  | .lss => if Nat.ble (m + 401) c then yes else if Nat.ble c m then nay else none
  | .leq => if Nat.ble (m + 400) c then yes else if Nat.ble (c + 1) m then nay else none
  | .gtr => if Nat.ble (c + 1) m then yes else if Nat.ble (m + 400) c then nay else none
  | .geq => if Nat.ble c m then yes else if Nat.ble (m + 401) c then nay else none
  | .eql => if Nat.ble (c + 1) m || Nat.ble (m + 401) c then nay else none
  | .neq => if Nat.ble (c + 1) m || Nat.ble (m + 401) c then yes else none
  | .shr => if Nat.beq c 0 then some (affV m) else if Nat.ble (m + 401) 65536 then (if Nat.beq c 8 then some (sy (2 * m) 0) else if Nat.ble 16 c && Nat.ble c 32 then some (i64 0) else none) else none
  | .and => if (Nat.beq c 65535 || Nat.beq c 4294967295) && Nat.ble (m + 401) 65536 then some (affV m) else none
  | .rem => if Nat.beq c 256 then (if Nat.ble (m + 401) 65536 then some (sy (2 * m) 1) else none) else if Nat.ble 1 c && Nat.ble (m % c + 401) c && Nat.ble (m + c) 1000000000000 then some (affV (m % c)) else none
  | .quo => if !Nat.ble m 1000000000000 then none else if Nat.beq c 1 then some (affV m) else if Nat.beq c 256 then (if Nat.ble (m + 401) 65536 then some (sy (2 * m) 0) else none) else if Nat.ble 1 c && Nat.ble (m % c + 401) c then some (i64 (m / c)) else none
  | _ => none
def intAff (op : BinOp) (c m : Nat) : Option Value :=
  match op with
  | .add => if Nat.ble (m + c) 1000000000000 then some (affV (m + c)) else none
  | .or => if Nat.beq c 0 && Nat.ble m 1000000000000 then some (affV m) else none
  | .sub => if Nat.ble (m + 400) c && Nat.ble c 1000000000000 then some (sy (c - m) 6) else none
  | .lss => if Nat.ble (c + 1) m then yes else if Nat.ble (m + 400) c then nay else none
  | .leq => if Nat.ble c m then yes else if Nat.ble (m + 401) c then nay else none
  | .gtr => if Nat.ble (m + 401) c then yes else if Nat.ble c m then nay else none
  | .geq => if Nat.ble (m + 400) c then yes else if Nat.ble (c + 1) m then nay else none
  | .eql => if Nat.ble (c + 1) m || Nat.ble (m + 401) c then nay else none
  | .neq => if Nat.ble (c + 1) m || Nat.ble (m + 401) c then yes else none
  | _ => none
def affAff (op : BinOp) (m n : Nat) : Option Value :=
  match op with
  | .sub => if Nat.ble n m && Nat.ble m 1000000000000 then some (i64 (m - n)) else none
  | .lss => some (.bool (Nat.blt m n))
  | .leq => some (.bool (Nat.ble m n))
  | .gtr => some (.bool (Nat.blt n m))
  | .geq => some (.bool (Nat.ble n m))
  | .eql => some (.bool (Nat.beq m n))
  | .neq => some (.bool (!Nat.beq m n))
  | _ => none
/-- A number with a name, and one without. -/
def syInt (z : Nat → Option Bool) (op : BinOp) (id c n : Nat) : Option Value :=
  match c with
  | 0 => (match op with
    | .shl => if Nat.beq n 8 then some (sy id 4) else none
    | .mul => if Nat.beq n 256 then some (sy id 4) else none
    | .rem => if Nat.beq n 256 then some (sy id 0) else none
    | _ => none)
  | 1 => (match op with
    | .shr => if Nat.beq n 0 then some (sy id 1) else if Nat.ble 8 n && Nat.ble n 32 then some (i64 0) else none
    | .geq => if Nat.beq n 0 then yes else none
    | .lss => if Nat.ble 256 n then yes else if Nat.beq n 0 then nay else none
    | .rem => if Nat.beq n 256 then some (sy id 1) else none
    | .quo => if Nat.beq n 1 then some (sy id 1) else none
    | _ => none)
  | 5 => if Nat.beq (id % 2) 1 then (match op with
    | .shr => if Nat.beq n 0 then some (sy id 5) else if Nat.beq n 8 then some (sy id 0) else if Nat.ble 16 n && Nat.ble n 32 then some (i64 0) else none
    | .geq => if Nat.beq n 0 then yes else none
    | .lss => if Nat.ble 65536 n then yes else if Nat.beq n 0 then nay else none
    | .gtr => if Nat.ble 65535 n then nay else none
    | .quo => if Nat.beq n 1 then some (sy id 5) else if Nat.beq n 256 then some (sy id 0) else none
    | .rem => if Nat.beq n 256 then some (sy id 1) else none
    | .eql => if Nat.beq n 0 then (match z id with | some b => some (.bool b) | none => none) else none
    | .neq => if Nat.beq n 0 then (match z id with | some b => some (.bool (!b)) | none => none) else none
    | _ => none) else none
  | _ => none
def intSy (op : BinOp) (n id c : Nat) : Option Value :=
  match c with
  | 0 => (match op with
    | .or => if Nat.beq n 0 then some (sy id 0) else none
    | .add => if Nat.beq n 0 then some (sy id 0) else none
    | _ => none)
  | 1 => (match op with
    | .or => if Nat.beq n 0 then some (sy id 1) else none
    | .add => if Nat.beq n 0 then some (sy id 1) else none
    | _ => none)
  | 6 => (match op with
    | .gtr => if Nat.ble (n + 400) id && Nat.ble id 1000000000000 then nay else none
    | .leq => if Nat.ble (n + 400) id && Nat.ble id 1000000000000 then yes else none
    | _ => none)
  | _ => none
def sySy (op : BinOp) (i c j d : Nat) : Option Value :=
  match op with
  | .or => if Nat.beq c 4 && Nat.beq d 1 && Nat.beq i j && Nat.ble i 130000 then some (numV i) else none
  | .add => if Nat.beq c 4 && Nat.beq d 1 && Nat.beq i j && Nat.ble i 130000 then some (numV i) else none
  | .eql => if Nat.beq i j && Nat.beq c d then yes else none
  | .neq => if Nat.beq i j && Nat.beq c d then nay else none
  | _ => none
def sbin (z : Nat → Option Bool) (op : BinOp) (x y : Value) : Option Value :=
  match sv x with
  | .aff m => (match sv y with
    | .int c => affInt op m c
    | .aff n => affAff op m n
    | .byte c => (match op with
      | .shr => affInt .shr m c
      | _ => none)
    | _ => none)
  | .int c => (match sv y with
    | .aff m => intAff op c m
    | .sy id d => intSy op c id d
    | _ => none)
  | .sy id c => (match sv y with
    | .int n => syInt z op id c n
    | .byte n => (match op with
      | .shl => syInt z .shl id c n
      | .shr => syInt z .shr id c n
      | _ => none)
    | .sy j d => sySy op id c j d
    | _ => none)
  | _ => none
def sconv (d e : TypeDesc) (x : Value) : Option Value :=
  match d with
  | .int .i64 => (match e with
    | .int .u8 => (match sv x with
      | .aff m => some (sy (2 * m) 3)
      | .sy id 0 => some (sy id 2)
      | .sy id 1 => some (sy id 3)
      | .sy id 5 => some (sy id 3)
      | _ => none)
    | _ => none)
  | .int .u8 => (match e with
    | .int .i64 => (match sv x with
      | .sy id 2 => some (sy id 0)
      | .sy id 3 => some (sy id 1)
      | _ => none)
    | _ => none)
  | _ => none
def stwo (b : Builtin) (x y : Value) : Option Value :=
  match b with
  | .min => (match sv x with
    | .aff m => (match sv y with
      | .int c => if Nat.ble (m + 400) c then some x else if Nat.ble c m then some y else none
      | .aff n => some (if Nat.ble m n then x else y)
      | _ => none)
    | .int c => (match sv y with
      | .aff m => if Nat.ble c m then some x else if Nat.ble (m + 400) c then some y else none
      | _ => none)
    | _ => none)
  | .max => (match sv x with
    | .aff m => (match sv y with
      | .int c => if Nat.ble (m + 400) c then some y else if Nat.ble c m then some x else none
      | .aff n => some (if Nat.ble m n then y else x)
      | _ => none)
    | .int c => (match sv y with
      | .aff m => if Nat.ble c m then some y else if Nat.ble (m + 400) c then some x else none
      | _ => none)
    | _ => none)
  | _ => none

/-! Sums of bytes. -/
structure NF where
  c : Nat
  ts : List Nat
  tl : Nat
/-- A byte, or one that has a name. -/
def bt : Value → SV
  | .int .u8 (.ofNat n) => if Nat.blt n 256 then .byte n else .no
  | .chan (some k) => sv (.chan (some k))
  | _ => .no
def pairNF (a b : Value) : Option (Nat × List Nat) :=
  match bt a with
  | .byte x => (match bt b with
    | .byte y => some (x * 256 + y, [])
    | .sy j 3 => some (x * 256, [4 * j + 1])
    | _ => none)
  | .sy i 3 => (match bt b with
    | .sy j 3 => some (0, [4 * i + 3, 4 * j + 1])
    | _ => none)
  | .sy i 2 => (match bt b with
    | .sy j 3 => if Nat.beq i j && Nat.ble i 130000 then some (0, [4 * i]) else none
    | _ => none)
  | _ => none
def wordsNF (l : List Value) (odd : Bool) : Option (Nat × List Nat) :=
  match l with
  | [] => some (0, [])
  | [a] => if odd then (match bt a with
    | .byte n => some (n * 256, [])
    | _ => none) else none
  | a :: b :: r => match pairNF a b with
    | some (c1, t1) => (match wordsNF r odd with
      | some (c2, t2) => some (c1 + c2, t1 ++ t2)
      | none => none)
    | none => none
def partNF (H : AH) (v : Value) : Option NF :=
  match v with
  | .slice none 0 _ => some ⟨0, [], 0⟩
  | .chan none => some ⟨0, [], 0⟩
  | .slice (some ⟨b, off, none⟩) n _ => (match H.get b with
    | some (.cells cs _ _) => if Nat.ble (off + n) cs.size && Nat.ble n 1000000 then (match wordsNF ((cs.toList.drop off).take n) true with
      | some (c, ts) => some ⟨c, ts, 0⟩
      | none => none) else none
    | _ => none)
  | .chan (some k) => if isRope k then (match H.get (rb k) with
    | some (.cells cs _ (0, 1)) => if Nat.beq (ro k + rn k) cs.size && Nat.ble (rn k) 1000000 then (match wordsNF (cs.toList.drop (ro k)) false with
      | some (c, ts) => some ⟨c, ts, 1⟩
      | none => none) else none
    | _ => none) else none
  | _ => none
def NF.plus (x y : NF) : NF := ⟨x.c + y.c, x.ts ++ y.ts, x.tl + y.tl⟩
def partsNF (H : AH) (args : List Value) : Option NF :=
  match args with
  | [.slice (some ⟨g, 0, none⟩) n _] => (match H.get g with
    | some (.cells cs _ _) => (match cs.toList with
      | [u] => if Nat.beq n 1 then partNF H u else none
      | [u, v] => if Nat.beq n 2 then (match partNF H u with
        | some x => (match partNF H v with
          | some y => some (x.plus y)
          | none => none)
        | none => none) else none
      | _ => none)
    | _ => none)
  | _ => none
def natsEq : List Nat → List Nat → Bool
  | [], [] => true
  | a :: l, b :: r => Nat.beq a b && natsEq l r
  | _, _ => false
def NF.same (x y : NF) : Bool := Nat.beq x.c y.c && natsEq x.ts y.ts && Nat.beq x.tl y.tl
/-- Which sum it is. -/
def whichNF (x : NF) : List NF → Nat → Option Nat
  | [], _ => none
  | y :: r, j => if x.same y then some j else whichNF x r (j + 1)
/-- The sum of a name; one that is never zero, where it is known whether it was. -/
def nameNF (Tb : List NF) (zk : Nat → Bool) (nz : Nat → Option Bool) (x : NF) : Option Value :=
  match whichNF x Tb 0 with
  | some j => if zk j then (match nz j with
    | some false => some (sy (2 * j + 1) 5)
    | some true => some (i64 0)
    | none => none) else some (sy (2 * j + 1) 5)
  | none => none
def foldN (n : Nat) : Nat := if Nat.beq n 0 then 0 else (n - 1) % 65535 + 1
def ofNF (Tb : List NF) (zk : Nat → Bool) (nz : Nat → Option Bool) (x : NF) : Option Value :=
  if x.ts.isEmpty && Nat.beq x.tl 0 then some (i64 (65535 - foldN x.c)) else nameNF Tb zk nz x
def without (t : Nat) : List Nat → Option (List Nat)
  | [] => none
  | a :: r => if Nat.beq a t then some r else match without t r with
    | some r' => some (a :: r')
    | none => none
/-- Whether one of the sums makes it right. -/
def rightBy (x : NF) : List NF → Nat → Bool
  | [], _ => false
  | y :: r, j => (match without (4 * (2 * j + 1)) x.ts with
    | some ts => NF.same ⟨x.c, ts, x.tl⟩ y
    | none => false) || rightBy x r (j + 1)
def rightNF (Tb : List NF) (x : NF) : Option Value :=
  if x.ts.isEmpty && Nat.beq x.tl 0 then (if Nat.beq (foldN x.c) 65535 then some (.bool true) else none)
  else if rightBy x Tb 0 then some (.bool true) else none
/-- Whether a cell is a byte. -/
def isB (v : Value) : Bool :=
  match bt v with
  | .byte _ => true
  | .sy _ 2 => true
  | .sy _ 3 => true
  | _ => false
/-- A copy of a row's end and of the bytes behind it. -/
def cloneR (v : Value) (H : AH) : Option (Value × AH) :=
  match v with
  | .chan (some k) => if isRope k then (match H.get (rb k) with
    | some (.cells cs e (0, 1)) => if Nat.beq e 5 && Nat.beq (ro k + rn k) cs.size && (cs.toList.drop (ro k)).all isB && Nat.ble (rn k) 1000000 && okRope (rope H.nx 0 (rn k)) H.nx 0 (rn k) then
        some (.chan (some (rope H.nx 0 (rn k))), H.push (.cells (cs.toList.drop (ro k)).toArray e (0, 1))) else none
    | _ => none) else none
  | _ => none
/-- 'udp.summed': the sum of a datagram, never zero. -/
def summedR (Tb : List NF) (zk : Nat → Bool) (args : List Value) (H : AH) : Option (Value × AH) :=
  match args with
  | [.int .i64 (.ofNat s), .int .i64 (.ofNat d), b] => if Nat.blt s 4294967296 && Nat.blt d 4294967296 then (match partNF H b with
    | some x => (match b with
      | .chan (some k) => if Nat.ble (rn k + 401) 65536 then (match whichNF ⟨s / 65536 + s % 65536 + (d / 65536 + d % 65536) + 17 + x.c, (8 * rn k) :: x.ts, x.tl⟩ Tb 0 with
        | some j => if zk j then some (sy (2 * j + 1) 5, H) else none
        | none => none) else none
      | .slice (some _) n _ => if x.ts.isEmpty && Nat.beq x.tl 0 && Nat.blt n 65536 then
          some (i64 (if Nat.beq (65535 - foldN (s / 65536 + s % 65536 + (d / 65536 + d % 65536) + 17 + n + x.c)) 0 then 65535 else 65535 - foldN (s / 65536 + s % 65536 + (d / 65536 + d % 65536) + 17 + n + x.c)), H) else none
      | _ => none)
    | none => none) else none
  | _ => none
/-- 'sum.Change', of a sum that has a name. -/
def changeR (Tb : List NF) (zk : Nat → Bool) (nz : Nat → Option Bool) (args : List Value) (H : AH) : Option (Value × AH) :=
  match args with
  | [n, o, w] => (match sv n with
    | .sy id 5 => if Nat.beq (id % 2) 1 then (match partNF H o with
      | some x => (match partNF H w with
        | some y => (match o with
          | .slice (some _) m _ => if x.ts.isEmpty && y.ts.isEmpty && Nat.beq x.tl 0 && Nat.beq y.tl 0 then (match nameNF Tb zk nz ⟨y.c + (65535 * ((m + 1) / 2) - x.c), [4 * id + 2], 0⟩ with
            | some v => some (v, H)
            | none => none) else none
          | _ => none)
        | none => none)
      | none => none) else none
    | _ => none)
  | _ => none
/-- Room in nothing. -/
def growR (args : List Value) (H : AH) : Option (Value × AH) :=
  match args with
  | [.slice none 0 0, y] => (match sv y with
    | .aff m => if Nat.blt 0 m && Nat.ble m 1000000 then some (.slice (some ⟨H.nx, 0, none⟩) 0 0, H.push (.cells #[] 5 (0, 0))) else none
    | _ => none)
  | _ => none
/-- The bytes of a number. -/
def digs (n : Value) (s : Nat) : Option (List Value) :=
  match sv n with
  | .int m => if Nat.beq s 1 then (if Nat.blt m 256 then some [.int .u8 (.ofNat m)] else none)
      else if Nat.beq s 2 then (if Nat.blt m 65536 then some [.int .u8 (.ofNat (m / 256)), .int .u8 (.ofNat (m % 256))] else none)
      else if Nat.beq s 4 then (if Nat.blt m 4294967296 then some [.int .u8 (.ofNat (m / 16777216)), .int .u8 (.ofNat (m / 65536 % 256)), .int .u8 (.ofNat (m / 256 % 256)), .int .u8 (.ofNat (m % 256))] else none)
      else none
  | .aff m => if Nat.beq s 2 && Nat.ble (m + 401) 65536 then some [sy (2 * m) 2, sy (2 * m) 3] else none
  | .sy id 5 => if Nat.beq s 2 && Nat.beq (id % 2) 1 then some [sy id 2, sy id 3] else none
  | .sy id 1 => if Nat.beq s 1 then some [sy id 3] else none
  | _ => none
/-- 'be.Put'. -/
def putR (args : List Value) (H : AH) : Option (Value × AH) :=
  match args with
  | [b, n, .int .i64 (.ofNat s)] => (match digs n s with
    | some ds => (match b with
      | .slice none 0 0 => some (.slice (some ⟨H.nx, 0, none⟩) s s, H.push (.cells ds.toArray 5 (0, 0)))
      | .slice (some ⟨g, 0, none⟩) l _ => (match H.get g with
        | some (.cells cs e _) => if Nat.ble l cs.size && Nat.ble l 100000 && (cs.toList.take l).all isB then some (.slice (some ⟨H.nx, 0, none⟩) (l + s) (l + s), H.push (.cells (cs.toList.take l ++ ds).toArray 5 (0, 0))) else none
        | _ => none)
      | _ => none)
    | none => none)
  | _ => none
/-- What is known of zeros. -/
def zOf (zk : Nat → Bool) (id : Nat) : Option Bool := if Nat.beq (id % 2) 1 && zk (id / 2) then some false else none
/-- The known calls: sums. -/
def sumCall (Tb : List NF) (zk : Nat → Bool) (nz : Nat → Option Bool) (f : FuncId) (args : Array Value) (H : AH) : Option (Value × AH) :=
  if Nat.beq f 224 then (match partsNF H args.toList with
    | some x => (match ofNF Tb zk nz x with
      | some v => some (v, H)
      | none => none)
    | none => none)
  else if Nat.beq f 135 then (match partsNF H args.toList with
    | some x => (match rightNF Tb x with
      | some v => some (v, H)
      | none => none)
    | none => none)
  else if Nat.beq f 24 then (match partsNF H args.toList with
    | some x => (match ofNF Tb zk nz x with
      | some v => some (v, H)
      | none => none)
    | none => none)
  else if Nat.beq f 27 then (match partsNF H args.toList with
    | some x => (match rightNF Tb x with
      | some v => some (v, H)
      | none => none)
    | none => none)
  else if Nat.beq f 219 then (match args.toList with
    | [v] => cloneR v H
    | _ => none)
  else if Nat.beq f 349 then growR args.toList H
  else if Nat.beq f 222 then putR args.toList H
  else if Nat.beq f 535 then changeR Tb zk nz args.toList H
  else if Nat.beq f 572 then summedR Tb zk args.toList H
  else none
end
end Go.Proofs.YtampcckdbjbllaaGreatDoor.Ev
set_option linter.unusedVariables false
set_option linter.unusedSectionVars false
set_option linter.unusedSimpArgs false
namespace Go.Proofs.YtampcckdbjbllaaGreatDoor.Ev
noncomputable section
open Go.RowKit

/-- What is known of numbers with names. -/
class Kn where
  known : Nat → Option Value
  nil : Bool
variable [Sym] [Kn]
class KnOK : Prop where
  ok : ∀ k v, Kn.known k = some v → k % 2 = 0 ∧ Sym.val k = v
  empty : Kn.nil = true → dlen = 0

def kix : IntKind → Nat
  | .i8 => 0
  | .i16 => 1
  | .i32 => 2
  | .i64 => 3
  | .u8 => 4
  | .u16 => 5
  | .u32 => 6
  | .u64 => 7
theorem kix_inj {a b : IntKind} (h : Nat.beq (kix a) (kix b) = true) : a = b := by
  cases a <;> cases b <;> first | rfl | (cases h)
def intEq : Int → Int → Bool
  | .ofNat a, .ofNat b => Nat.beq a b
  | .negSucc a, .negSucc b => Nat.beq a b
  | _, _ => false
theorem intEq_spec {a b : Int} (h : intEq a b = true) : a = b := by
  unfold intEq at h
  split at h
  · rw [Nat.eq_of_beq_eq_true h]
  · rw [Nat.eq_of_beq_eq_true h]
  · cases h
def bytesEq : List UInt8 → List UInt8 → Bool
  | [], [] => true
  | a :: l, b :: r => Nat.beq a.toNat b.toNat && bytesEq l r
  | _, _ => false
theorem bytesEq_spec : ∀ {l r : List UInt8}, bytesEq l r = true → l = r
  | [], [], _ => rfl
  | a :: l, b :: r, h => by
    simp only [bytesEq, Bool.and_eq_true] at h
    rw [UInt8.toNat_inj.1 (Nat.eq_of_beq_eq_true h.1), bytesEq_spec h.2]
  | [], _ :: _, h => by cases h
  | _ :: _, [], h => by cases h
/-- Simple values that are the same. -/
def veq (v u : Value) : Bool :=
  match v with
  | .bool a => (match u with
    | .bool b => (match a with
      | true => b
      | false => !b)
    | _ => false)
  | .int k m => (match u with
    | .int k' m' => Nat.beq (kix k) (kix k') && intEq m m'
    | _ => false)
  | .string s => (match u with
    | .string t => bytesEq s.data.toList t.data.toList
    | _ => false)
  | .pointer none => (match u with
    | .pointer none => true
    | _ => false)
  | .pointer (some ⟨b, o, none⟩) => (match u with
    | .pointer (some ⟨b', o', none⟩) => Nat.beq b b' && Nat.beq o o'
    | _ => false)
  | .slice none n c => (match u with
    | .slice none n' c' => Nat.beq n n' && Nat.beq c c'
    | _ => false)
  | .slice (some ⟨b, o, none⟩) n c => (match u with
    | .slice (some ⟨b', o', none⟩) n' c' => Nat.beq b b' && Nat.beq o o' && Nat.beq n n' && Nat.beq c c'
    | _ => false)
  | .map none => (match u with
    | .map none => true
    | _ => false)
  | .map (some b) => (match u with
    | .map (some b') => Nat.beq b b'
    | _ => false)
  | .chan none => (match u with
    | .chan none => true
    | _ => false)
  | .chan (some b) => (match u with
    | .chan (some b') => Nat.beq b b'
    | _ => false)
  | .nilFunc => (match u with
    | .nilFunc => true
    | _ => false)
  | .nilIface => (match u with
    | .nilIface => true
    | _ => false)
  | _ => false
theorem veq_spec {v u : Value} (h : veq v u = true) : v = u := by
  cases v with
  | bool a => cases u with
    | bool b => cases a <;> cases b <;> first | rfl | (simp [veq] at h)
    | _ => simp [veq] at h
  | int k m => cases u with
    | int k' m' =>
      simp only [veq, Bool.and_eq_true] at h
      rw [kix_inj h.1, intEq_spec h.2]
    | _ => simp [veq] at h
  | string s => cases u with
    | string t =>
      have := bytesEq_spec (show bytesEq s.data.toList t.data.toList = true from h)
      have : s.data = t.data := by rw [← Array.toList_inj]; exact this
      cases s; cases t; simp_all
    | _ => simp [veq] at h
  | pointer a => cases u with
    | pointer b =>
      rcases a with _ | ⟨a1, a2, _ | a3⟩ <;> rcases b with _ | ⟨b1, b2, _ | b3⟩ <;> first
        | rfl
        | (simp [veq] at h; done)
        | skip
      simp only [veq, Bool.and_eq_true, Nat.beq_eq] at h; rw [h.1, h.2]
    | _ => rcases a with _ | ⟨a1, a2, _ | a3⟩ <;> simp [veq] at h
  | slice a n c => cases u with
    | slice b n' c' =>
      rcases a with _ | ⟨a1, a2, _ | a3⟩ <;> rcases b with _ | ⟨b1, b2, _ | b3⟩ <;> first
        | (simp [veq] at h; done)
        | skip
      · simp only [veq, Bool.and_eq_true, Nat.beq_eq] at h; rw [h.1, h.2]
      · simp only [veq, Bool.and_eq_true, Nat.beq_eq] at h; rw [h.1.1.1, h.1.1.2, h.1.2, h.2]
    | _ => rcases a with _ | ⟨a1, a2, _ | a3⟩ <;> simp [veq] at h
  | map a => cases u with
    | map b =>
      rcases a with _ | a <;> rcases b with _ | b <;> first
        | rfl
        | (simp [veq] at h; done)
        | skip
      simp only [veq, Nat.beq_eq] at h; rw [h]
    | _ => rcases a with _ | a <;> simp [veq] at h
  | chan a => cases u with
    | chan b =>
      rcases a with _ | a <;> rcases b with _ | b <;> first
        | rfl
        | (simp [veq] at h; done)
        | skip
      simp only [veq, Nat.beq_eq] at h; rw [h]
    | _ => rcases a with _ | a <;> simp [veq] at h
  | nilFunc => cases u with
    | nilFunc => rfl
    | _ => simp [veq] at h
  | nilIface => cases u with
    | nilIface => rfl
    | _ => simp [veq] at h
  | _ => simp [veq] at h
/-- A value that says less. -/
def vwk1 (v u : Value) : Bool :=
  veq v u || (match u with
    | .chan (some k) => (match Kn.known k with
      | some v' => veq v v'
      | none => false) || (Kn.nil && Nat.beq (k % 2) 1 && Nat.beq (rn k) 0 && veq v (.slice none 0 0))
    | .complex _ _ _ => (match v with
      | .complex _ _ _ => true
      | _ => false)
    | _ => false)
theorem vwk1_spec [KnOK] {p : Mp} {v u x : Value} (h : VR p v x) (hw : vwk1 v u = true) : VR p u x := by
  unfold vwk1 at hw
  simp only [Bool.or_eq_true] at hw
  rcases hw with hw | hw
  · rw [← veq_spec hw]; exact h
  · split at hw
    · rename_i k
      simp only [Bool.or_eq_true, Bool.and_eq_true, Nat.beq_eq] at hw
      rcases hw with hw | ⟨⟨⟨h1, h2⟩, h3⟩, h4⟩
      · split at hw
        · rename_i v' hk
          have e := veq_spec hw
          subst e
          obtain ⟨h1, h2⟩ := KnOK.ok k v hk
          have hv := VR.sym (p := p) h1
          obtain ⟨kd, n, hn⟩ := Sym.isInt k
          rw [hn] at hv h2
          rw [← h2] at h
          cases h
          exact hv
        · cases hw
      · have e := veq_spec h4
        subst e
        cases h
        have h0 : rn k + dlen = 0 := by rw [h3, KnOK.empty h1]
        have := VR.rope (p := p) h2 (A := none) (c' := 0) (.inl h0)
        rwa [h0] at this
    · split at hw
      · cases h with
        | given _ _ _ h => exact .given _ _ _ h
      · cases hw
    · cases hw
/-- Lists, one by one. -/
def allW (f : Value → Value → Bool) : List Value → List Value → Bool
  | [], [] => true
  | a :: l, b :: r => f a b && allW f l r
  | _, _ => false
theorem allW_spec {f : Value → Value → Bool} : ∀ {l r : List Value}, allW f l r = true → l.length = r.length ∧ ∀ (i : Nat) (v u : Value), l[i]? = some v → r[i]? = some u → f v u = true
  | [], [], _ => ⟨rfl, fun i v u e => by simp at e⟩
  | a :: l, b :: r, h => by
    simp only [allW, Bool.and_eq_true] at h
    obtain ⟨h1, h2⟩ := allW_spec h.2
    refine ⟨by simp [h1], fun i v u e e' => ?_⟩
    cases i with
    | zero => simp at e e'; subst e; subst e'; exact h.1
    | succ i => exact h2 i v u (by simpa using e) (by simpa using e')
  | [], _ :: _, h => by cases h
  | _ :: _, [], h => by cases h
theorem allW_ar {f : Value → Value → Bool} {p : Mp} (hf : ∀ v u x, VR p v x → f v u = true → VR p u x) {cs ds xs : Array Value} (hw : allW f cs.toList ds.toList = true) (h : AR p cs xs) : AR p ds xs := by
  obtain ⟨h1, h2⟩ := allW_spec hw
  have hs : cs.size = ds.size := by simpa using h1
  refine ⟨by rw [← hs]; exact h.1, fun i v v' e e' => ?_⟩
  have hi : i < cs.size := by rw [hs]; exact (Array.getElem?_eq_some_iff.1 e).1
  have e0 := Array.getElem?_eq_getElem hi
  exact hf _ _ _ (h.2 i _ _ e0 e') (h2 i _ _ (by rw [Array.getElem?_toList]; exact e0) (by rw [Array.getElem?_toList]; exact e))
def vwk2 (v u : Value) : Bool :=
  match v with
  | .agg cs => (match u with
    | .agg ds => allW vwk1 cs.toList ds.toList
    | _ => false)
  | .iface t v1 => (match u with
    | .iface t' u1 => Nat.beq t t' && vwk1 v1 u1
    | _ => false)
  | _ => vwk1 v u
theorem vwk2_spec [KnOK] {p : Mp} {v u x : Value} (h : VR p v x) (hw : vwk2 v u = true) : VR p u x := by
  unfold vwk2 at hw
  split at hw
  · split at hw
    · cases h with
      | agg hs hh => exact .of_ar (allW_ar (fun v u x h hw => vwk1_spec h hw) hw ⟨hs, hh⟩)
    · cases hw
  · split at hw
    · simp only [Bool.and_eq_true, Nat.beq_eq] at hw
      cases h with
      | iface t h => rw [← hw.1]; exact .iface _ (vwk1_spec h hw.2)
    · cases hw
  · exact vwk1_spec h hw
def vwk (v u : Value) : Bool :=
  match v with
  | .tuple cs => (match u with
    | .tuple ds => allW vwk2 cs.toList ds.toList
    | _ => false)
  | _ => vwk2 v u
theorem vwk_spec [KnOK] {p : Mp} {v u x : Value} (h : VR p v x) (hw : vwk v u = true) : VR p u x := by
  unfold vwk at hw
  split at hw
  · split at hw
    · cases h with
      | tuple hs hh => exact .tuple_of (allW_ar (fun v u x h hw => vwk2_spec h hw) hw ⟨hs, hh⟩)
    · cases hw
  · exact vwk2_spec h hw
theorem allE_spec : ∀ {l r : List Value}, allW veq l r = true → l = r
  | [], [], _ => rfl
  | a :: l, b :: r, h => by
    simp only [allW, Bool.and_eq_true] at h
    rw [veq_spec h.1, allE_spec h.2]
  | [], _ :: _, h => by cases h
  | _ :: _, [], h => by cases h
def veq2 (v u : Value) : Bool :=
  match v with
  | .agg cs => (match u with
    | .agg ds => allW veq cs.toList ds.toList
    | _ => false)
  | _ => veq v u
theorem veq2_spec {v u : Value} (h : veq2 v u = true) : v = u := by
  unfold veq2 at h
  split at h
  · split at h
    · rename_i cs ds
      have := allE_spec h
      rw [Array.ext' this]
    · cases h
  · exact veq_spec h
/-- An object that says less. -/
def entW : List MapEntry → List MapEntry → Bool
  | [], [] => true
  | a :: l, b :: r => veq2 a.key b.key && veq2 a.val b.val && Nat.beq a.born b.born && entW l r
  | _, _ => false
theorem entW_spec : ∀ {l r : List MapEntry}, entW l r = true → l = r
  | [], [], _ => rfl
  | ⟨k, v, n⟩ :: l, ⟨k', v', n'⟩ :: r, h => by
    simp only [entW, Bool.and_eq_true, Nat.beq_eq] at h
    rw [veq2_spec h.1.1.1, veq2_spec h.1.1.2, h.1.2, entW_spec h.2]
  | [], _ :: _, h => by cases h
  | _ :: _, [], h => by cases h
def owk (x y : Obj) : Bool :=
  match x with
  | .cells c e f => (match y with
    | .cells d e' f' => Nat.beq e e' && Nat.beq f.1 f'.1 && Nat.beq f.2 f'.2 && allW vwk1 c.toList d.toList
    | _ => false)
  | .map es k => (match y with
    | .map fs k' => Nat.beq k k' && entW es.toList fs.toList
    | _ => false)
  | .chan _ _ _ _ _ _ => (match y with
    | .chan _ _ _ _ _ _ => true
    | _ => false)
  | _ => false
theorem owk_spec [KnOK] {P : Program} {p : Mp} {x : Nat} {o u : Obj} {o' : Option Obj} (h : OR P p x o o') (hw : owk o u = true) : OR P p x u o' := by
  unfold owk at hw
  split at hw
  · rename_i c e f
    split at hw
    · rename_i d e' f'
      simp only [Bool.and_eq_true, Nat.beq_eq] at hw
      obtain ⟨⟨⟨he, h1⟩, h2⟩, hc⟩ := hw
      have hf : f = f' := Prod.ext h1 h2
      subst he; subst hf
      obtain ⟨hl, hall⟩ := allW_spec hc
      have hs : c.size = d.size := by simpa using hl
      obtain ⟨hf, c', hc', hs1, hs2, hs4, hs3⟩ := h
      refine ⟨?_, c', hc', fun i hi => by rw [← hs]; exact hs1 i hi, by rw [← hs]; exact hs2, hs4, fun i v v' a b => ?_⟩
      · rcases hf with hf | ⟨hf, c3, hc3, ht⟩
        · exact .inl hf
        · exact .inr ⟨hf, c3, hc3, fun i dd hd => by rw [← hs]; exact ht i dd hd⟩
      · have hi : i < c.size := by rw [hs]; exact (Array.getElem?_eq_some_iff.1 a).1
        have e0 := Array.getElem?_eq_getElem hi
        exact vwk1_spec (hs3 i _ _ e0 b) (hall i _ _ (by rw [Array.getElem?_toList]; exact e0) (by rw [Array.getElem?_toList]; exact a))
    · cases hw
  · rename_i es k
    split at hw
    · rename_i fs k'
      simp only [Bool.and_eq_true, Nat.beq_eq] at hw
      have : es = fs := by rw [← Array.toList_inj]; exact entW_spec hw.2
      rw [← hw.1, ← this]
      exact h
    · cases hw
  · split at hw
    · exact h
    · cases hw
  · cases hw

/-! What a call does, said for less. -/
theorem Sim.weaken [KnOK] {P : Program} {p : Mp} {H K : AH} {w : World} (h : Sim P p H w) (hw : ∀ b y, K.get b = some y → ∃ x, H.get b = some x ∧ owk x y = true) : Sim P p K w := by
  have live : ∀ b, K.get b ≠ none → H.get b ≠ none := fun b hb => by
    cases hk : K.get b with
    | none => exact absurd hk hb
    | some y => obtain ⟨x, h1, _⟩ := hw b y hk; rw [h1]; nofun
  refine ⟨fun b b' r x x' e e' h1 h2 => h.inj b b' r x x' e e' (live b h1) (live b' h2), h.lt, fun b r x o e ho => ?_⟩
  obtain ⟨y, h1, h2⟩ := hw b o ho
  exact owk_spec (h.obj b r x y e h1) h2
theorem Into.weaken [KnOK] {P : Program} {p q : Mp} {H K L : AH} {w w' : World} (h : Into P p H w q K w') (hw : ∀ b y, L.get b = some y → ∃ x, K.get b = some x ∧ owk x y = true) (hn : K.nx ≤ L.nx) : Into P p H w q L w' where
  le := h.le
  sim := h.sim.weaken hw
  size := h.size
  os := h.os
  tape := h.tape
  output := h.output
  kept := h.kept
  own := fun b r x e hb hr => h.own b r x e (by
    cases hk : L.get b with
    | none => exact absurd hk hb
    | some y => obtain ⟨x, h1, _⟩ := hw b y hk; rw [h1]; nofun) hr
  fresh := fun b hb => by
    rcases h.fresh b hb with h1 | h1
    · exact .inl h1
    · exact .inr ⟨h1.1, Nat.lt_of_lt_of_le h1.2 hn⟩
  nx := Nat.le_trans h.nx hn
end
end Go.Proofs.YtampcckdbjbllaaGreatDoor.Ev
set_option linter.unusedVariables false
set_option linter.unusedSectionVars false
set_option linter.unusedSimpArgs false
namespace Go.Proofs.YtampcckdbjbllaaGreatDoor.Ev
noncomputable section
open Go.RowKit

/-- A call, the rows that it finds, the rows that it leaves, and its value. -/
structure Memo where
  f : Nat
  args : List Value
  R : Rows
  nx : Nat
  D : Rows
  nx' : Nat
  v : Value
variable [Sym]
def MemoOK (P : Program) (m : Memo) : Prop := ∀ p w args', AR p m.args.toArray args' → Sim P p (ofRows m.R m.nx) w → (∀ b, m.nx ≤ b → b < m.nx' → p b = none) →
  Calls P m.f args' w fun e w' => ∃ q v', e = .returned v' ∧ VR q m.v v' ∧ Into P p (ofRows m.R m.nx) w q (ofRows (m.D ++ m.R) m.nx') w'
variable [Kn] [OraF]
def rowW (K : AH) (x : Nat × Option Obj) : Bool :=
  match x.2 with
  | none => true
  | some y => match K.get x.1 with
    | some o => owk o y
    | none => false
def rowsW (R : Rows) (K : AH) : Bool := R.all (rowW K)
/-- Whether a run gives what is said. -/
def memoRun (m : Memo) (r : Option (Value × AH)) : Bool :=
  match r with
  | some (v, K) => vwk v m.v && Nat.ble K.nx m.nx' && Nat.ble m.nx K.nx && rowsW m.D K && m.R.all fun x => hits x.1 m.D || rowW K x
  | none => false
theorem look_mem : ∀ (m : Rows) (b : Nat) (y : Obj), look b m = some y → (b, some y) ∈ m
  | [], b, y, h => by cases h
  | (b', o) :: r, b, y, h => by
    rw [look_cons] at h
    split at h
    · rename_i e; subst e; subst h; exact List.mem_cons_self ..
    · exact List.mem_cons_of_mem _ (look_mem r b y h)
theorem memo_ok [KnOK] {P : Program} {call : ACall} (hc : CallOK P call) {m : Memo} (h : memoRun m (call m.f m.args.toArray (ofRows m.R m.nx)) = true) : MemoOK P m := by
  intro p w args' har hs hf
  unfold memoRun at h
  split at h
  · rename_i v K hr
    simp only [Bool.and_eq_true, Nat.ble_eq] at h
    obtain ⟨⟨⟨⟨h1, h2⟩, h2'⟩, h3⟩, h4⟩ := h
    have hfree : Free p (ofRows m.R m.nx) K := fun b a1 a2 => hf b a1 (Nat.lt_of_lt_of_le a2 h2)
    have hcl := hc _ _ _ _ _ hr p w args' har hs hfree
    refine hcl.mono ?_
    rintro e w' ⟨q, v', rfl, hv, hi⟩
    refine ⟨q, v', rfl, vwk_spec hv h1, hi.weaken (fun b y hy => ?_) h2⟩
    rw [get_ofRows] at hy
    have rw1 : ∀ x : Nat × Option Obj, x = (b, some y) → rowW K x = true → ∃ o, K.get b = some o ∧ owk o y = true := fun x hx hw => by
      subst hx
      unfold rowW at hw
      simp only at hw
      cases hk : K.get b with
      | none => rw [hk] at hw; cases hw
      | some o => rw [hk] at hw; exact ⟨o, rfl, hw⟩
    cases hh : hits b m.D with
    | true =>
      have hm : (b, some y) ∈ m.D := by
        have key : ∀ (D R : Rows), hits b D = true → look b (D ++ R) = some y → (b, some y) ∈ D := by
          intro D R
          induction D with
          | nil => intro hh _; cases hh
          | cons x D ih =>
            intro hh hl
            obtain ⟨b', o⟩ := x
            rw [List.cons_append, look_cons] at hl
            split at hl
            · rename_i e; subst e; subst hl; exact List.mem_cons_self ..
            · rename_i hne
              refine List.mem_cons_of_mem _ (ih ?_ hl)
              obtain ⟨x, hx, e⟩ := hits_iff.1 hh
              rcases List.mem_cons.1 hx with rfl | hx
              · exact absurd e hne
              · exact hits_iff.2 ⟨x, hx, e⟩
        exact key m.D m.R hh hy
      exact rw1 _ rfl (List.all_eq_true.1 h3 _ hm)
    | false =>
      rw [look_hit hh] at hy
      have := List.all_eq_true.1 h4 _ (look_mem _ _ _ hy)
      simp only [hh, Bool.false_or] at this
      exact rw1 _ rfl this
  · cases h

/-- Rows laid over a heap. -/
def addRows : Rows → AH → AH
  | [], H => H
  | (b, o) :: r, H => (addRows r H).put b o
theorem addRows_m : ∀ (D : Rows) (H : AH), (addRows D H).m = D ++ H.m
  | [], H => rfl
  | (b, o) :: r, H => by
    show (b, o) :: (addRows r H).m = _
    rw [addRows_m r H]; rfl
theorem addRows_get (D : Rows) (H : AH) (b : Nat) : (addRows D H).get b = look b (D ++ H.m) := by
  rw [← AH.look_eq, addRows_m]
def setNx (H : AH) (n : Nat) : AH := ⟨H.m, H.tr, n, H.eq⟩
def memoCall (m : Memo) (args : Array Value) (H : AH) : Option (Value × AH) :=
  if allW vwk2 args.toList m.args && Nat.beq H.nx m.nx && Nat.ble m.nx m.nx' && rowsW m.R H && (H.m.all fun e => Nat.blt e.1 H.nx) && (m.D.all fun e => Nat.blt e.1 m.nx') && (m.R.all fun e => Nat.blt e.1 m.nx && e.2.isSome) then
    some (m.v, setNx (addRows (m.D ++ m.R) H) m.nx') else none
def memoFind (f : Nat) (args : Array Value) (H : AH) : List Memo → Option (Value × AH)
  | [] => none
  | m :: r => if Nat.beq f m.f then (match memoCall m args H with
    | some x => some x
    | none => memoFind f args H r) else memoFind f args H r
theorem look_none {b : Nat} {D : Rows} (h : hits b D = false) : look b D = none := by
  have := look_hit (b := b) (D := D) (m := []) h
  simpa [look] using this
theorem memo_good {m : Memo} {args : Array Value} {H K : AH} {v : Value} (e : memoCall m args H = some (v, K)) : Good H K := by
  unfold memoCall at e
  split at e
  · rename_i hc
    cases e
    simp only [Bool.and_eq_true, Nat.beq_eq, Nat.ble_eq] at hc
    obtain ⟨⟨⟨⟨⟨⟨_, h2⟩, h3⟩, _⟩, _⟩, h6⟩, h7⟩ := hc
    refine ⟨by show H.nx ≤ m.nx'; omega, m.D ++ m.R, addRows_m _ _, fun _ x hx => ?_⟩
    rcases List.mem_append.1 hx with hx | hx
    · have := List.all_eq_true.1 h6 x hx
      show x.1 < m.nx'
      simpa [Nat.blt_eq] using this
    · have := List.all_eq_true.1 h7 x hx
      simp only [Bool.and_eq_true, Nat.blt_eq] at this
      show x.1 < m.nx'
      omega
  · cases e
theorem find_good : ∀ {ms : List Memo} {f : Nat} {args : Array Value} {H K : AH} {v : Value}, memoFind f args H ms = some (v, K) → Good H K
  | [], _, _, _, _, _, e => by cases e
  | m :: r, f, args, H, K, v, e => by
    unfold memoFind at e
    split at e
    · split at e
      · rename_i h; cases e; exact memo_good h
      · exact find_good e
    · exact find_good e
/-- The frame of what a call does not touch. -/
theorem memo_call [KnOK] {P : Program} {m : Memo} (hm : MemoOK P m) {args : Array Value} {H K : AH} {v : Value} (e : memoCall m args H = some (v, K)) {p : Mp} {w : World} {args' : Array Value} (har : AR p args args') (hs : Sim P p H w) (hf : Free p H K) :
    Calls P m.f args' w fun e w' => ∃ q v', e = .returned v' ∧ VR q v v' ∧ Into P p H w q K w' := by
  unfold memoCall at e
  split at e
  · rename_i hc
    cases e
    simp only [Bool.and_eq_true, Nat.beq_eq, Nat.ble_eq] at hc
    obtain ⟨⟨⟨⟨⟨⟨h1, h2⟩, h3⟩, h4⟩, h5⟩, h6⟩, h7⟩ := hc
    have inR : ∀ b y, (ofRows m.R m.nx).get b = some y → ∃ x, H.get b = some x ∧ owk x y = true := fun b y hy => by
      rw [get_ofRows] at hy
      have := List.all_eq_true.1 h4 _ (look_mem _ _ _ hy)
      unfold rowW at this
      simp only at this
      cases hk : H.get b with
      | none => rw [hk] at this; cases this
      | some o => rw [hk] at this; exact ⟨o, rfl, this⟩
    have hsR : Sim P p (ofRows m.R m.nx) w := hs.weaken inR
    have hfree : ∀ b, m.nx ≤ b → b < m.nx' → p b = none := fun b a1 a2 => hf b (by omega) a2
    have har' : AR p m.args.toArray args' := allW_ar (fun v u x h hw => vwk2_spec h hw) (by simpa using h1) har
    refine (hm p w args' har' hsR hfree).mono ?_
    rintro e w' ⟨q, v', rfl, hv, hi⟩
    refine ⟨q, v', rfl, hv, ?_⟩
    have hwf : ∀ b x, H.get b = some x → b < H.nx := fun b x hx => by
      rw [← AH.look_eq] at hx
      have := List.all_eq_true.1 h5 _ (look_mem _ _ _ hx)
      simpa [Nat.blt_eq] using this
    have hget : ∀ b, (setNx (addRows (m.D ++ m.R) H) m.nx').get b = if hits b (m.D ++ m.R) then (ofRows (m.D ++ m.R) m.nx').get b else H.get b := fun b => by
      show (addRows (m.D ++ m.R) H).get b = _
      rw [addRows_get, get_ofRows]
      cases hh : hits b (m.D ++ m.R) with
      | false => rw [look_hit hh]; exact AH.look_eq H b
      | true =>
        have key : ∀ (D R : Rows), hits b D = true → look b (D ++ R) = look b D := by
          intro D R
          induction D with
          | nil => intro hh; cases hh
          | cons x D ih =>
            intro hh
            obtain ⟨b', o⟩ := x
            rw [List.cons_append, look_cons, look_cons]
            split
            · rfl
            · rename_i hne
              refine ih ?_
              obtain ⟨x, hx, e⟩ := hits_iff.1 hh
              rcases List.mem_cons.1 hx with rfl | hx
              · exact absurd e hne
              · exact hits_iff.2 ⟨x, hx, e⟩
        simpa using key _ _ hh
    -- what lies beside the call's own rows
    have beside : ∀ b r x, q b = some (r, x) → hits b (m.D ++ m.R) = false → H.get b ≠ none → p b = some (r, x) ∧ (∀ b0 x0, p b0 = some (r, x0) → (ofRows m.R m.nx).get b0 = none) := fun b r x hq hh hl => by
      have hlt : b < H.nx := by
        cases hk : H.get b with
        | none => exact absurd hk hl
        | some y => exact hwf b y hk
      have hp : p b = some (r, x) := by
        rcases hi.fresh b (by rw [hq]; nofun) with h | h
        · cases hpb : p b with
          | none => exact absurd hpb h
          | some y => have := hi.le b y hpb; rw [hq] at this; exact this.symm
        · have : m.nx ≤ b := h.1
          omega
      refine ⟨hp, fun b0 x0 hp0 => ?_⟩
      cases hr : (ofRows m.R m.nx).get b0 with
      | none => rfl
      | some y =>
        obtain ⟨x1, hx1, _⟩ := inR b0 y hr
        have := hs.inj b b0 r x x0 hp hp0 hl (by rw [hx1]; nofun)
        subst this
        rw [get_ofRows] at hr
        have : hits b (m.D ++ m.R) = true := hits_iff.2 ⟨_, List.mem_append.2 (.inr (look_mem _ _ _ hr)), rfl⟩
        rw [hh] at this; cases this
    have inj1 : ∀ b b' r x x', q b = some (r, x) → q b' = some (r, x') → hits b (m.D ++ m.R) = false → H.get b ≠ none → (ofRows (m.D ++ m.R) m.nx').get b' ≠ none → False := fun b b' r x x' e1 e2 hh hl hl' => by
      obtain ⟨hp, hno⟩ := beside b r x e1 hh hl
      obtain ⟨b0, x0, q1, q2⟩ := hi.own b' r x' e2 hl' (hs.lt b r x hp)
      exact q2 (hno b0 x0 q1)
    refine ⟨hi.le, ⟨fun b b' r x x' e1 e2 l1 l2 => ?_, hi.sim.lt, fun b r x o e1 ho => ?_⟩, hi.size, hi.os, hi.tape, hi.output, fun r hr hno => ?_, fun b r x e1 hl hr => ?_, fun b hb => ?_, by show H.nx ≤ m.nx'; omega⟩
    · rw [hget] at l1 l2
      cases h1 : hits b (m.D ++ m.R) <;> cases h2 : hits b' (m.D ++ m.R) <;> rw [h1] at l1 <;> rw [h2] at l2
      · exact hs.inj b b' r x x' (beside b r x e1 h1 l1).1 (beside b' r x' e2 h2 l2).1 l1 l2
      · exact (inj1 b b' r x x' e1 e2 h1 l1 l2).elim
      · exact (inj1 b' b r x' x e2 e1 h2 l2 l1).elim
      · exact hi.sim.inj b b' r x x' e1 e2 l1 l2
    · rw [hget] at ho
      cases h1 : hits b (m.D ++ m.R) <;> rw [h1] at ho
      · have ho : H.get b = some o := ho
        obtain ⟨hp, hno⟩ := beside b r x e1 h1 (by rw [ho]; nofun)
        rw [hi.kept r (hs.lt b r x hp) hno]
        exact (hs.obj b r x o hp ho).mono hi.le
      · exact hi.sim.obj b r x o e1 ho
    · refine hi.kept r hr fun b x hp => ?_
      cases hk : (ofRows m.R m.nx).get b with
      | none => rfl
      | some y =>
        obtain ⟨x1, hx1, _⟩ := inR b y hk
        rw [hno b x hp] at hx1; cases hx1
    · rw [hget] at hl
      cases h1 : hits b (m.D ++ m.R) <;> rw [h1] at hl
      · exact ⟨b, x, (beside b r x e1 h1 hl).1, hl⟩
      · obtain ⟨b0, x0, q1, q2⟩ := hi.own b r x e1 hl hr
        refine ⟨b0, x0, q1, ?_⟩
        cases hk : (ofRows m.R m.nx).get b0 with
        | none => exact absurd hk q2
        | some y => obtain ⟨x1, hx1, _⟩ := inR b0 y hk; rw [hx1]; nofun
    · rcases hi.fresh b hb with h | h
      · exact .inl h
      · refine .inr ?_
        have h1 : m.nx ≤ b := h.1
        have h2' : b < m.nx' := h.2
        exact ⟨by omega, h2'⟩
  · cases e
theorem find_ok [KnOK] {P : Program} : ∀ {ms : List Memo}, (∀ m ∈ ms, MemoOK P m) → ∀ {f : Nat} {args : Array Value} {H K : AH} {v : Value}, memoFind f args H ms = some (v, K) → ∀ {p : Mp} {w : World} {args' : Array Value}, AR p args args' → Sim P p H w → Free p H K →
    Calls P f args' w fun e w' => ∃ q v', e = .returned v' ∧ VR q v v' ∧ Into P p H w q K w'
  | [], _, _, _, _, _, _, e, _, _, _, _, _, _ => by cases e
  | m :: r, hm, f, args, H, K, v, e, p, w, args', har, hs, hf => by
    unfold memoFind at e
    split at e
    · rename_i hfm
      split at e
      · rename_i x hx
        cases e
        rw [Nat.eq_of_beq_eq_true hfm]
        exact memo_call (hm m (List.mem_cons_self ..)) hx har hs hf
      · exact find_ok (fun m h => hm m (List.mem_cons_of_mem _ h)) e har hs hf
    · exact find_ok (fun m h => hm m (List.mem_cons_of_mem _ h)) e har hs hf
end
end Go.Proofs.YtampcckdbjbllaaGreatDoor.Ev
