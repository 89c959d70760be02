/- What an operation does to a state: plain functions on values; 'none' where nothing is promised. -/
import Derived.Test.YtlckajldmooefaaTmMem
set_option linter.unusedVariables false
set_option linter.unusedSimpArgs false
namespace Go.Tm

abbrev St := Nat → Slot

def castTo (u t : Ty) (x : u.den) : Option t.den := if h : u = t then some (h ▸ x) else none
@[simp] theorem castTo_self (t : Ty) (x : t.den) : castTo t t x = some x := by simp [castTo]

def cst : Value → Option Slot
  | .int k n => some (.val (.int k) n)
  | .bool b => some (.val .bool b)
  | .string s => some (.val .str s)
  | .slice none 0 0 => some .nil
  | .pointer none => some .dead
  | _ => none

def self (t : Nat) : Slot → Slot
  | .own n _ _ => .asl n t none
  | .obj n _ _ => .apt n t []
  | s => s

def ref (st : St) : Operand → Option Slot
  | .tmp t => if t < ghost then some (self t (st t)) else none
  | .const v => cst v
  | _ => none

/-- An operand as it is seen: what stands in the slot, and what the slot holds to which it leads. -/
structure Lk where
  s : Slot
  c : Slot

def look (st : St) (x : Operand) : Option Lk :=
  (ref st x).map fun s => ⟨s, match aliasOf s with | some (_, k) => st k | none => .dead⟩

abbrev Ups := List (Nat × Slot)

def into (d : Option Tmp) (s : Slot) : Option Ups :=
  match d with
  | none => some []
  | some d => if (aliasOf s).map (·.2) = some d then none else some [(d, s)]

/-- The elements of a slice. -/
def slc (x : Lk) : Option ((t : Ty) × List t.den) :=
  match x.s, x.c with
  | .val (.slice t) xs, _ => some ⟨t, xs⟩
  | .asl n _ none, .own n' t xs => if n = n' then some ⟨t, xs⟩ else none
  | .asl n _ (some (lo, len)), .own n' t xs => if n = n' then some ⟨t, (xs.drop lo).take len⟩ else none
  | _, _ => none

/-- An operand as a value for good; a row of the call's own is never written again. -/
def frz (x : Lk) (want : Option Ty) : Option (Dv × Ups) :=
  match x.s, x.c with
  | .val t v, _ => some (⟨t, v⟩, [])
  | .nil, _ => match want with
    | some (.slice t) => some (⟨.slice t, ([] : List t.den)⟩, [])
    | _ => none
  | .asl n s none, .own n' t xs => if n = n' then some (⟨.slice t, xs⟩, [(s, .val (.slice t) xs)]) else none
  | .asl n s (some (lo, len)), .own n' t xs => if n = n' then some (⟨.slice t, (xs.drop lo).take len⟩, [(s, .val (.slice t) xs)]) else none
  | _, _ => none

/-- What an address leads to. -/
def aim (x : Lk) : Option Dv :=
  match x.s, x.c with
  | .rpt t v, _ => some ⟨t, v⟩
  | .apt n _ p, .obj n' t v => if n = n' then get t v p else none
  | .apt n _ (q :: p), .own n' t xs => if n = n' then get (.arr 0 t) xs (q :: p) else none
  | _, _ => none

def bits (op : BinOp) (k : IntKind) (x y : Int) : Int :=
  let a := BitVec.ofInt k.bits x
  let b := BitVec.ofInt k.bits y
  match op with
  | .and => k.wrap (a &&& b).toNat
  | .or => k.wrap (a ||| b).toNat
  | .xor => k.wrap (a ^^^ b).toNat
  | _ => k.wrap (a &&& ~~~b).toNat

def binInt (op : BinOp) (k : IntKind) (x y : Int) : Option Dv :=
  match op with
  | .add => some ⟨.int k, k.wrap (x + y)⟩
  | .sub => some ⟨.int k, k.wrap (x - y)⟩
  | .mul => some ⟨.int k, k.wrap (x * y)⟩
  | .quo => if y = 0 then none else some ⟨.int k, k.wrap (x.tdiv y)⟩
  | .rem => if y = 0 then none else some ⟨.int k, x.tmod y⟩
  | .and => some ⟨.int k, bits .and k x y⟩
  | .or => some ⟨.int k, bits .or k x y⟩
  | .xor => some ⟨.int k, bits .xor k x y⟩
  | .andNot => some ⟨.int k, bits .andNot k x y⟩
  | .eql => some ⟨.bool, x == y⟩
  | .neq => some ⟨.bool, x != y⟩
  | .lss => some ⟨.bool, decide (x < y)⟩
  | .leq => some ⟨.bool, decide (x ≤ y)⟩
  | .gtr => some ⟨.bool, decide (x > y)⟩
  | .geq => some ⟨.bool, decide (x ≥ y)⟩
  | _ => none

def shiftInt (op : BinOp) (k : IntKind) (x y : Int) : Option Dv :=
  if y < 0 then none else
  match op with
  | .shl => some ⟨.int k, k.wrap (x * 2 ^ min y.toNat k.bits)⟩
  | .shr => some ⟨.int k, x.fdiv (2 ^ min y.toNat k.bits)⟩
  | _ => none

def binStr (op : BinOp) (x y : ByteArray) : Option Dv :=
  match op with
  | .add => if ((x.size + y.size : Nat) : Int) > IntKind.i64.max then none else some ⟨.str, x ++ y⟩
  | .eql => some ⟨.bool, x.toList == y.toList⟩
  | .neq => some ⟨.bool, !(x.toList == y.toList)⟩
  | .lss => some ⟨.bool, Op.bytesLess x.toList y.toList⟩
  | .leq => some ⟨.bool, Op.bytesLess x.toList y.toList || x.toList == y.toList⟩
  | .gtr => some ⟨.bool, !(Op.bytesLess x.toList y.toList || x.toList == y.toList)⟩
  | .geq => some ⟨.bool, !Op.bytesLess x.toList y.toList⟩
  | _ => none

/-- Are two values alike? Only where they lead nowhere. -/
def same : (t : Ty) → t.den → t.den → Bool
  | .int _, x, y => @BEq.beq Int _ x y
  | .bool, x, y => @BEq.beq Bool _ x y
  | .str, x, y => x.toList == y.toList
  | .unit, _, _ => true
  | .prod a b, x, y => same a x.1 y.1 && same b x.2 y.2
  | .slice _, _, _ => false
  | .arr _ _, _, _ => false

def flat : Ty → Bool
  | .int _ => true
  | .bool => true
  | .str => true
  | .unit => true
  | .prod a b => flat a && flat b
  | .slice _ => false
  | .arr _ _ => false

def binAgg (op : BinOp) (t : Ty) (x y : t.den) : Option Dv :=
  match op with
  | .eql => if flat t then some ⟨.bool, same t x y⟩ else none
  | .neq => if flat t then some ⟨.bool, !same t x y⟩ else none
  | _ => none

def bin (op : BinOp) (x y : Dv) : Option Dv :=
  match x, y with
  | ⟨.int k, a⟩, ⟨.int k', b⟩ => match op with
    | .shl => shiftInt .shl k a b
    | .shr => shiftInt .shr k a b
    | _ => if k = k' then binInt op k a b else none
  | ⟨.str, a⟩, ⟨.str, b⟩ => binStr op a b
  | ⟨.bool, a⟩, ⟨.bool, b⟩ => match op with
    | .eql => some ⟨.bool, @BEq.beq Bool _ a b⟩
    | .neq => some ⟨.bool, !(@BEq.beq Bool _ a b)⟩
    | _ => none
  | ⟨.prod a b, v⟩, ⟨u, z⟩ => match castTo u (.prod a b) z with
    | some z => binAgg op (.prod a b) v z
    | none => none
  | _, _ => none

def un (op : UnOp) (x : Dv) : Option Dv :=
  match op, x with
  | .neg, ⟨.int k, a⟩ => some ⟨.int k, k.wrap (0 - a)⟩
  | .xor, ⟨.int k, a⟩ => some ⟨.int k, bits .xor k (if k.signed then -1 else k.max) a⟩
  | .not, ⟨.bool, a⟩ => some ⟨.bool, !a⟩
  | _, _ => none

def strOf (xs : List Int) : ByteArray := ⟨(xs.map fun n => UInt8.ofNat n.toNat).toArray⟩
def bytesOf (s : ByteArray) : List Int := s.data.toList.map fun b => (b.toNat : Int)
def byteAt (s : ByteArray) (i : Nat) : Int := ((s.data.toList.getD i 0).toNat : Int)

def fillT (u : Ty) : u.den → List (Nat × Dv) → Option u.den
  | v, [] => some v
  | v, (i, d) :: r => match u, v with
    | .arr n t, v => match upd (.arr n t) v [.idx i] d.1 d.2 with
      | some v' => fillT (.arr n t) v' r
      | none => none
    | u, v => match upd u v [.fld i] d.1 d.2 with
      | some v' => fillT u v' r
      | none => none

def frzAll : List Lk → List (Option Ty) → Option (List Dv × Ups)
  | [], _ => some ([], [])
  | x :: r, ws => match frz x (ws.headD none), frzAll r ws.tail with
    | some (d, u), some (ds, us) => some (d :: ds, u ++ us)
    | _, _ => none

/-- A value that a call hands back. -/
inductive Res where
  | unit
  | val (d : Dv)
  | own (t : Ty) (xs : List t.den)
  | obj (t : Ty) (x : t.den)
  | tup (l : List Dv)
  | panic (ch : List PanicEntry)

def Res.isPanic : Res → Bool
  | .panic _ => true
  | _ => false

inductive Arg where
  | val (d : Dv)
  | obj (d : Dv)
  | ptr (d : Dv)

def Arg.ty : Arg → Ty
  | .val d => d.1
  | .obj d => d.1
  | .ptr d => d.1

structure Out where
  res : Res
  ios : List Dv

abbrev Con := List Arg → Option Out
abbrev Cons := FuncId → Option Con

def Res.far : Res → Bool
  | .unit => false
  | .val d => d.1.far
  | .own t _ => t.far
  | .obj t _ => t.far
  | .tup l => l.any (·.1.far)
  | .panic _ => false

def Out.far (o : Out) : Bool := o.res.far || o.ios.any (·.1.far)

def Res.slot (m : Nat) : Res → Slot
  | .unit => .dead
  | .val d => .val d.1 d.2
  | .own t xs => .own m t xs
  | .obj t x => .obj m t x
  | .tup l => .tup l
  | .panic _ => .dead

/-- An argument; the slot that lends it (true: to be written, too), and what that slot holds when it is frozen. -/
structure Lent where
  arg : Arg
  lent : Option (Nat × Slot)     -- a row that is lent to be read, and how it is told if it is frozen
  io : Option (Nat × Nat)        -- an object that is lent to be written: its slot, its stamp

def toArg (x : Lk) (want : Option Ty) : Option Lent :=
  match x.s, x.c with
  | .val t v, _ => some ⟨.val ⟨t, v⟩, none, none⟩
  | .nil, _ => match want with
    | some (.slice t) => some ⟨.val ⟨.slice t, ([] : List t.den)⟩, none, none⟩
    | _ => none
  | .asl n s none, .own n' t xs => if n = n' then some ⟨.val ⟨.slice t, xs⟩, some (s, .val (.slice t) xs), none⟩ else none
  | .asl n s (some (lo, len)), .own n' t xs => if n = n' then some ⟨.val ⟨.slice t, (xs.drop lo).take len⟩, some (s, .val (.slice t) xs), none⟩ else none
  | .apt n s [], .obj n' t v => if n = n' then some ⟨.obj ⟨t, v⟩, none, some (s, n)⟩ else none
  | .rpt t v, _ => some ⟨.ptr ⟨t, v⟩, none, none⟩
  | _, _ => none

def toArgs : List Lk → List (Option Ty) → Option (List Lent)
  | [], _ => some []
  | x :: r, ws => match toArg x (ws.headD none), toArgs r ws.tail with
    | some a, some as => some (a :: as)
    | _, _ => none

def ioUps : List Lent → List Dv → Option Ups
  | [], [] => some []
  | a :: as, ds => match a.io with
    | none => ioUps as ds
    | some (s, n) => match ds with
      | d :: ds => if a.arg.ty = d.1 then (ioUps as ds).map fun u => (s, .obj n d.1 d.2) :: u else none
      | [] => none
  | [], _ :: _ => none

def nodup : List Nat → Bool
  | [] => true
  | a :: l => !l.contains a && nodup l

def dstFree (d : Option Tmp) (ios : List Nat) : Bool :=
  match d with
  | some d => !ios.contains d
  | none => true

def dstUps (d : Option Tmp) (s : Slot) : Ups :=
  match d with
  | some d => [(d, s)]
  | none => []

def ioOf (a : Lent) : Option Nat := a.io.map (·.1)
def iosOf (as : List Lent) : List Nat := as.filterMap ioOf
def lentsOf (as : List Lent) : Ups := as.filterMap (·.lent)

def callT (con : Con) (d : Option Tmp) (m : Nat) (as : List Lent) : Option Ups :=
  if nodup (iosOf as) && (lentsOf as).all (fun l => !(iosOf as).contains l.1) && dstFree d (iosOf as) then
    match con (as.map (·.arg)) with
    | some out => if out.res.isPanic = true then none else match ioUps as out.ios with
      | some u => some ((if out.far then lentsOf as else []) ++ u ++ dstUps d (out.res.slot m))
      | none => none
    | none => none
  else none

/-- A call that panics. -/
def callP (con : Con) (as : List Lent) : Option (List PanicEntry × Ups) :=
  if nodup (iosOf as) && (lentsOf as).all (fun l => !(iosOf as).contains l.1) then
    match con (as.map (·.arg)) with
    | some out => match out.res with
      | .panic ch => match ioUps as out.ios with
        | some u => some (ch, (if out.far then lentsOf as else []) ++ u)
        | none => none
      | _ => none
    | none => none
  else none

def intOf? (x : Lk) : Option Int :=
  match x.s with
  | .val (.int _) n => some n
  | _ => none

def minInts : Bool → Int → List Lk → IntKind → Option Int
  | _, a, [], _ => some a
  | isMin, a, x :: r, k => match x.s with
    | .val (.int k') b => if k = k' then minInts isMin (if isMin then (if b < a then b else a) else (if a < b then b else a)) r k else none
    | _ => none

/-- Bounds of a cut: low and high, of n elements. -/
def cutB (lo hi : Option Lk) (n : Int) : Option (Nat × Nat) :=
  match lo, hi with
  | none, none => some (0, n.toNat)
  | some l, none => match intOf? l with
    | some l => if 0 ≤ l ∧ l ≤ n then some (l.toNat, n.toNat) else none
    | none => none
  | none, some h => match intOf? h with
    | some h => if 0 ≤ h ∧ h ≤ n then some (0, h.toNat) else none
    | none => none
  | some l, some h => match intOf? l, intOf? h with
    | some l, some h => if 0 ≤ h ∧ h ≤ n then (if 0 ≤ l ∧ l ≤ h then some (l.toNat, h.toNat) else none) else none
    | _, _ => none

section
variable (tab : Tab) (Γ : Cons)

def stepAssign (d : Option Tmp) (m : Nat) (x : Lk) : Option Ups :=
  match d with
  | none => some []
  | some d =>
    match x.s, x.c with
    | .asl n s none, .own n' t xs => if n = n' then (if s = d then some [] else some [(s, .asl m d none), (d, .own m t xs)]) else none
    | .asl n s (some (lo, len)), .own n' t xs =>
      if n = n' then (if s = d then some [(d, .own m t ((xs.drop lo).take len))] else some [(d, .asl n s (some (lo, len)))]) else none
    | .apt n s [], .obj n' t v => if n = n' then (if s = d then some [] else if ghost ≤ s then some [(d, .apt n s [])] else some [(s, .apt m d []), (d, .obj m t v)]) else none
    | s, _ => into (some d) s

def stepStore (t : TypeId) (a v : Lk) : Option Ups :=
  match frz v (ty tab t) with
  | some (y, u) => if ty tab t = some y.1 then
    match a.s, a.c with
    | .apt n s p, .obj n' t' x => if n = n' then
        match upd t' x p y.1 y.2 with
        | some x' => some ((s, .obj n t' x') :: u)
        | none => none
      else none
    | .apt n s (q :: p), .own n' t' xs => if n = n' ∧ u.all (fun z => decide (z.1 ≠ s)) = true then
        match upd (.arr 0 t') xs (q :: p) y.1 y.2 with
        | some xs' => some ((s, .own n t' xs') :: u)
        | none => none
      else none
    | _, _ => none
    else none
  | none => none

def stepIndexAddr (t : TypeId) (x i : Lk) : Option Slot :=
  match intOf? i with
  | none => none
  | some i => match ty tab t with
    | some (.slice u) => match x.s, x.c with
      | .val (.slice u') xs, _ => if u' = u then (if 0 ≤ i ∧ i < (xs.length : Int) then some (.rpt u' (xs.getD i.toNat u'.dflt)) else none) else none
      | .asl n s none, .own n' u' xs => if n = n' ∧ u' = u then (if 0 ≤ i ∧ i < (xs.length : Int) then some (.apt n s [.idx i.toNat]) else none) else none
      | .asl n s (some (lo, len)), .own n' u' xs => if n = n' ∧ u' = u then (if 0 ≤ i ∧ i < (len : Int) then some (.apt n s [.idx (lo + i.toNat)]) else none) else none
      | _, _ => none
    | some (.arr k u) => match aim x with
      | some ⟨.arr k' u', xs⟩ => if k' = k ∧ u' = u then
          (if 0 ≤ i ∧ i < (k : Int) then
            match x.s with
            | .rpt _ _ => some (.rpt u' (xs.getD i.toNat u'.dflt))
            | .apt n s p => some (.apt n s (p ++ [.idx i.toNat]))
            | _ => none
          else none) else none
      | _ => none
    | _ => none

def stepFieldAddr (t : TypeId) (x : Lk) (f : Nat) : Option Slot :=
  match aim x with
  | some ⟨u, v⟩ => if ty tab t = some u then
      match get u v [.fld f] with
      | some y => match x.s with
        | .rpt _ _ => some (.rpt y.1 y.2)
        | .apt n s p => some (.apt n s (p ++ [.fld f]))
        | _ => none
      | none => none
    else none
  | none => none

def stepSlice (t : TypeId) (x : Lk) (lo hi : Option Lk) : Option Slot :=
  match x.s with
  | .val .str s => if ty tab t = some .str then (cutB lo hi (s.size : Int)).map fun p => .val .str (s.extract p.1 p.2) else none
  | .val (.slice u) xs => if ty tab t = some (.slice u) then (cutB lo hi (xs.length : Int)).map fun p => .val (.slice u) ((xs.drop p.1).take (p.2 - p.1)) else none
  | .asl n s none => match x.c with
    | .own n' u xs => if n = n' ∧ ty tab t = some (.slice u) then
        (if lo.isNone = true ∧ hi.isNone = true then some (.asl n s none) else (cutB lo hi (xs.length : Int)).map fun p => .asl n s (some (p.1, p.2 - p.1)))
      else none
    | _ => none
  | .asl n s (some (o, len)) => match x.c with
    | .own n' u xs => if n = n' ∧ ty tab t = some (.slice u) then (cutB lo hi (len : Int)).map fun p => .asl n s (some (o + p.1, p.2 - p.1)) else none
    | _ => none
  | _ => none

/-- The whole or a part of an array variable, as a slice: the variable is only read from then on. -/
def stepArr (t : TypeId) (d : Option Tmp) (x : Lk) (lo hi : Option Lk) : Option Ups :=
  match x.s with
  | .rpt (.arr k u) xs => if k ≤ 1000000 ∧ ty tab t = some (.arr k u) then (cutB lo hi (k : Int)).map fun p => dstUps d (.val (.slice u) ((xs.drop p.1).take (p.2 - p.1))) else none
  | .apt n s [] => match x.c with
    | .obj n' (.arr k u) xs => if n = n' ∧ s < ghost ∧ d ≠ some s ∧ k ≤ 1000000 ∧ ty tab t = some (.arr k u) then (cutB lo hi (k : Int)).map fun p => (s, .rpt (.arr k u) xs) :: dstUps d (.val (.slice u) ((xs.drop p.1).take (p.2 - p.1))) else none
    | _ => none
  | _ => none

def stepSl (t : TypeId) (d : Option Tmp) (x : Lk) (lo hi : Option Lk) : Option Ups :=
  match x.s with
  | .rpt _ _ => stepArr tab t d x lo hi
  | .apt _ _ _ => stepArr tab t d x lo hi
  | _ => match stepSlice tab t x lo hi with
    | some s => into d s
    | none => none

def stepConvert (src dst : TypeId) (d : Option Tmp) (m : Nat) (x : Lk) : Option Ups :=
  match x.s with
  | .val (.int _) n => match ty tab src, ty tab dst with
    | some (.int _), some (.int k') => into d (.val (.int k') (k'.wrap n))
    | _, _ => none
  | .val .str s => match ty tab src, ty tab dst with
    | some .str, some .str => into d (.val .str s)
    | some .str, some (.slice (.int .u8)) => if s.size ≤ 9223372036854775807 then (match d with | some d => some [(d, .own m (.int .u8) (bytesOf s))] | none => none) else none
    | _, _ => none
  | _ => match ty tab src, ty tab dst with
    | some (.slice (.int .u8)), some .str => match slc x with
      | some ⟨.int .u8, xs⟩ => into d (.val .str (strOf xs))
      | _ => none
    | some (.slice (.int .u8)), some (.slice (.int .u8)) => match x.s, x.c, d with
      | .asl n s none, .own n' (.int .u8) xs, some d => if n = n' ∧ src = dst ∧ s ≠ d ∧ xs ≠ [] then some [(s, .dead), (d, .own m (.int .u8) xs)] else none
      | _, _, _ => none
    | _, _ => none

/-- What is appended. -/
def more (u : Ty) (t2 : TypeId) (y : Lk) : Option (List u.den) :=
  match y.s, ty tab t2 with
  | .nil, some (.slice _) => some []
  | .val .str s, some .str => castTo (.slice (.int .u8)) (.slice u) (bytesOf s)
  | _, some (.slice _) => match slc y with
    | some ⟨u', ys⟩ => castTo (.slice u') (.slice u) ys
    | none => none
  | _, _ => none

/-- What is appended to, and the slot that loses it. -/
def prior (u : Ty) (x : Lk) : Option (List u.den × Option Nat) :=
  match x.s, x.c with
  | .nil, _ => some ([], none)
  | .asl n s none, .own n' u' xs => if n = n' then (castTo (.slice u') (.slice u) xs).map fun xs => (xs, some s) else none
  | .asl n s (some (0, len)), .own n' u' xs => if n = n' then (castTo (.slice u') (.slice u) xs).map fun xs => (xs.take len, some s) else none
  | _, _ => none

def stepAppend (t t2 : TypeId) (d : Option Tmp) (m : Nat) (x y : Lk) : Option Ups :=
  match d, ty tab t with
  | some d, some (.slice u) =>
    match more tab u t2 y, prior u x with
    | some ys, some (xs, s) =>
      if (xs.length + ys.length) * u.mx ≤ 140737488355328 then
        some ((match s with | some s => [(s, .dead)] | none => []) ++ [(d, .own m u (xs ++ ys))])
      else none
    | _, _ => none
  | _, _ => none
end

end Go.Tm
