/- A calculus for calls of the program: canonical values and heaps, and what each operation, loop and call does to them; no condition on the program. -/
import Derived.Test.YtifdekgmoekegaaDoorCx6d
import Derived.Lib.UnsafeStr
namespace Go.Cx
open Go.RowKit

/-! ### Operations on memory -/
/-- What an operation comes to: what must hold, its value, the blocks that it writes, those that it looks at, how many are new. -/
structure Out where
  c : Bool
  v : V
  wr : List (Nat × Blk)
  acc : List Nat
  nw : Nat

/-- The cells of a slice's elements. -/
structure El where
  ok : Bool
  n : Nat
  vs : List V
  acc : List Nat

def rdE (hg : Nat → Option Blk) (sz : Nat) (x : V) : Option El :=
  match x with
  | .nils => some ⟨true, 0, [], []⟩
  | .psl s xs _ => some ⟨Nat.beq s sz, xs.length, xs.flatten, []⟩
  | .lsl id s o n _ => (match hg id with | some (.cells _ cs) => some ⟨Nat.beq s sz && Nat.ble (o + n * sz) cs.length, n, (cs.drop o).take (n * sz), [id]⟩ | _ => none)
  | .gsl id s o n _ _ ver => (match hg id with | some (.grow ver' _ _ cs) => some ⟨Nat.beq s sz && Nat.beq ver ver' && Nat.ble (o + n * sz) cs.length, n, (cs.drop o).take (n * sz), [id]⟩ | _ => none)
  | .str s => some ⟨Nat.beq sz 1, s.size, s.data.toList.map fun b => .int .u8 b.toNat, []⟩
  | _ => none

def slcK : TK → Bool
  | .slice _ => true
  | .str => true
  | _ => false

def isSl : V → Bool
  | .nils | .psl .. | .lsl .. | .gsl .. => true
  | _ => false

def fitsB (ei : TI) (k : Nat) : Bool := Nat.blt 0 ei.size && Nat.blt 0 ei.bytes && Nat.ble (k * (2 * ei.bytes)) 281474976710656

/-- A row that is new, and grows. -/
def newG (ei : TI) (e : Nat) (el : El) (ok : Bool) (old : List V) (n nid : Nat) (acc : List Nat) : Out :=
  ⟨ok && el.ok && fitsB ei (n + el.n), .gsl nid ei.size 0 (n + el.n) (n + el.n) false 0, [(nid, .grow 0 e ei.size (old ++ el.vs))], nid :: (acc ++ el.acc), 1⟩

def elemsOf (sz : Nat) : V → Option (List (List V))
  | .psl s xs _ => cond (s == sz) (some xs) none
  | .nils => some []
  | _ => none

def appendF (T : Nat → Option TI) (md : Bool) (t xt : Nat) (s x : V) (hg : Nat → Option Blk) (nid : Nat) : Option Out :=
  match T t, T xt with
  | some ti, some xi =>
    (match ti.k with
    | .slice e =>
      (match T e with
      | some ei =>
        (match rdE hg ei.size x with
        | some el =>
          cond (slcK xi.k) (cond (Nat.beq el.n 0) (cond (isSl s) (some ⟨el.ok, s, [], el.acc, 0⟩) none)
            (match s with
            | .nils => cond md (some (newG ei e el true [] 0 nid []))
                (match elemsOf ei.size x with
                | some ys => some ⟨fitsB ei ys.length, .psl ei.size ys (.own nid), [(nid, .token ei.size ys.length)], [nid], 1⟩
                | none => none)
            | .psl sz xs .exact => cond md (some (newG ei e el (Nat.beq sz ei.size) xs.flatten xs.length nid []))
                (match elemsOf ei.size x with
                | some ys => some ⟨Nat.beq sz ei.size && fitsB ei (xs.length + ys.length), .psl ei.size (xs ++ ys) (.own nid), [(nid, .token ei.size (xs.length + ys.length))], [nid], 1⟩
                | none => none)
            | .psl sz xs (.own id) =>
                (match elemsOf ei.size x, hg id with
                | some ys, some (.token s' n) => some ⟨Nat.beq sz ei.size && Nat.beq s' ei.size && Nat.beq n xs.length && fitsB ei (xs.length + ys.length), .psl ei.size (xs ++ ys) (.own id), [(id, .token ei.size (xs.length + ys.length))], [id], 0⟩
                | _, _ => none)
            | .lsl id sz o n cap =>
                (match hg id with
                | some (.cells e0 cs) =>
                  cond (Nat.ble (n + el.n) cap)
                    (some ⟨Nat.beq sz ei.size && el.ok && allOne el.vs && Nat.ble (o + n * ei.size + el.n * ei.size) cs.length, .lsl id sz o (n + el.n) cap, [(id, .cells e0 (setL cs (o + n * ei.size) el.vs))], id :: el.acc, 0⟩)
                    (some (newG ei e el (Nat.beq sz ei.size && Nat.ble (o + n * ei.size) cs.length) ((cs.drop o).take (n * ei.size)) n nid [id]))
                | _ => none)
            | .gsl id sz o n lo ex ver =>
                (match hg id with
                | some (.grow ver' e0 s0 cs) =>
                  cond (Nat.ble (n + el.n) lo)
                    (some ⟨Nat.beq sz ei.size && Nat.beq ver ver' && el.ok && allOne el.vs && Nat.ble (o + n * ei.size + el.n * ei.size) cs.length, .gsl id sz o (n + el.n) lo ex ver, [(id, .grow ver' e0 s0 (setL cs (o + n * ei.size) el.vs))], id :: el.acc, 0⟩)
                    (cond ex
                      (some (newG ei e el (Nat.beq sz ei.size && Nat.beq ver ver' && Nat.ble (o + n * ei.size) cs.length) ((cs.drop o).take (n * ei.size)) n nid [id]))
                      (some ⟨Nat.beq sz ei.size && Nat.beq ver ver' && Nat.beq e0 e && Nat.beq o 0 && Nat.beq (n * ei.size) cs.length && el.ok && allOne el.vs && fitsB ei (n + el.n),
                        .gsl id sz 0 (n + el.n) (n + el.n) false (ver' + 1), [(id, .grow (ver' + 1) e0 s0 (cs ++ el.vs))], id :: el.acc, 0⟩))
                | _ => none)
            | _ => none)) none
        | none => none)
      | none => none)
    | _ => none)
  | _, _ => none

/-- Zero cells. -/
def zerosV (zs : List V) (n : Nat) : List V := (List.replicate n zs).flatten

def makeSliceF (T : Nat → Option TI) (t : Nat) (l c : V) (nid : Nat) : Option Out :=
  match T t, l, c with
  | some ti, .int _ l, .int _ c =>
    (match ti.k with
    | .slice e =>
      (match T e with
      | some ei =>
        (match cellsOf ei.zero with
        | some zs => some ⟨decide (0 ≤ l) && decide (l ≤ c) && decide (c ≤ 281474976710656) && decide (ei.bytes * c ≤ 281474976710656) && Nat.beq zs.length ei.size, .lsl nid ei.size 0 l.toNat c.toNat, [(nid, .cells e (zerosV zs c.toNat))], [nid], 1⟩
        | none => none)
      | none => none)
    | _ => none)
  | _, _, _ => none

def wrBlk (b : Blk) (o : Nat) (vs : List V) : Option Blk :=
  match b with
  | .cells e cs => cond (allOne vs && Nat.ble (o + vs.length) cs.length) (some (.cells e (setL cs o vs))) none
  | .grow ver e sz cs => cond (allOne vs && Nat.ble (o + vs.length) cs.length) (some (.grow ver e sz (setL cs o vs))) none
  | _ => none

def copyF (T : Nat → Option TI) (t : Nat) (d x : V) (hg : Nat → Option Blk) : Option Out :=
  match T t with
  | some ti =>
    (match ti.k with
    | .slice e =>
      (match T e with
      | some ei =>
        (match rdE hg ei.size x with
        | some el =>
          (match d with
          | .nils => some ⟨el.ok, .int .i64 0, [], el.acc, 0⟩
          | .lsl id sz o n _ =>
            (match hg id with
            | some b => (match wrBlk b o (el.vs.take (Nat.min el.n n * ei.size)) with
              | some b' => some ⟨el.ok && Nat.beq sz ei.size, .int .i64 (Nat.min el.n n), [(id, b')], id :: el.acc, 0⟩
              | none => none)
            | none => none)
          | .gsl id sz o n _ _ ver =>
            (match hg id with
            | some (.grow ver' e0 s0 cs) => (match wrBlk (.grow ver' e0 s0 cs) o (el.vs.take (Nat.min el.n n * ei.size)) with
              | some b' => some ⟨el.ok && Nat.beq sz ei.size && Nat.beq ver ver', .int .i64 (Nat.min el.n n), [(id, b')], id :: el.acc, 0⟩
              | none => none)
            | _ => none)
          | _ => none)
        | none => none)
      | none => none)
    | _ => none)
  | none => none

def clearF (T : Nat → Option TI) (t : Nat) (d : V) (hg : Nat → Option Blk) : Option Out :=
  match T t with
  | some ti =>
    (match ti.k with
    | .slice e =>
      (match T e with
      | some ei =>
        (match cellsOf ei.zero, d with
        | some zs, .lsl id sz o n _ =>
          (match hg id with
          | some b => (match wrBlk b o (zerosV zs n) with
            | some b' => some ⟨Nat.beq sz ei.size && Nat.beq zs.length ei.size, .tup [], [(id, b')], [id], 0⟩
            | none => none)
          | none => none)
        | _, _ => none)
      | none => none)
    | _ => none)
  | none => none

def byteV : V → UInt8
  | .int _ n => UInt8.ofNat n.toNat
  | _ => 0
def isByteV : V → Bool
  | .int .u8 n => decide (0 ≤ n) && decide (n < 256)
  | _ => false

/-- Bytes to a string, over a pointer to the first one. -/
def unsafeStrF (P : Program) (pt : Nat) (p n : V) (hg : Nat → Option Blk) : Option Out :=
  match n with
  | .int .i64 n =>
    cond (decide (n = 0)) (match p with | .nilp => some ⟨true, .str ⟨#[]⟩, [], [], 0⟩ | .ptr .. => some ⟨true, .str ⟨#[]⟩, [], [], 0⟩ | .gptr .. => some ⟨true, .str ⟨#[]⟩, [], [], 0⟩ | _ => none)
      (match p with
      | .gptr id 0 ver =>
        (match hg id, P.underlying pt with
        | some (.grow ver' e _ cs), some (.pointer e') => some ⟨Nat.beq ver ver' && Nat.beq e e' && Nat.beq (P.cellsOf e) 1 && decide (0 ≤ n) && decide (n ≤ 9223372036854775807) && decide (n ≤ cs.length) && (cs.take n.toNat).all isByteV,
            .str ⟨((cs.take n.toNat).map byteV).toArray⟩, [(id, .dead)], [id], 0⟩
        | _, _ => none)
      | _ => none)
  | _ => none

def convF (P : Program) (T : Nat → Option TI) (s d : Nat) (x : V) (hg : Nat → Option Blk) : Option Out :=
  match T s, T d with
  | some si, some di =>
    (match si.k, di.k with
    | .slice e, .str =>
      (match T e, rdE hg 1 x with
      | some ei, some el => (match ei.k with
        | .int .u8 => some ⟨el.ok && el.vs.all isByteV && isSl x, .str ⟨(el.vs.map byteV).toArray⟩, [], el.acc, 0⟩
        | _ => none)
      | _, _ => none)
    | .ptr t, .uptr =>
      (match T t, x with
      | some _, .nilp => some ⟨true, .nilp, [], [], 0⟩
      | some ti, .ptr id o => (match hg id with | some (.cells _ cs) => some ⟨Nat.blt 0 ti.size && Nat.blt o cs.length, .ptr id o, [], [id], 0⟩ | _ => none)
      | _, _ => none)
    | .uptr, .ptr t =>
      (match T t, x with
      | some _, .nilp => some ⟨true, .nilp, [], [], 0⟩
      | some _, .ptr id o => (match hg id with | some (.cells e cs) => some ⟨liesAt P P.depth e (cs.length / P.cellsOf e) o t 1, .ptr id o, [], [id], 0⟩ | _ => none)
      | _, _ => none)
    | _, _ => (match pv (convV T s d x) with | some (c, v) => some ⟨c, v, [], [], 0⟩ | none => none))
  | _, _ => none

def buildSliceF (T : Nat → Option TI) (md : Bool) (t n : Nat) (parts : List (Nat × V)) (nid : Nat) : Option Out :=
  match T t with
  | some ti =>
    (match ti.k with
    | .slice e =>
      (match T e with
      | some ei =>
        (match fillV (fun i => some (i * ei.size, ei.size)) (flatOf (n * ei.size)) parts with
        | some flat =>
          cond (!md && flat.all fun v => v.free1 && v.one)
            (some ⟨Nat.ble (n * ei.size) 16777216, .psl ei.size (chunks ei.size flat n) .exact, [], [], 0⟩)
            (some ⟨Nat.ble (n * ei.size) 16777216, .lsl nid ei.size 0 n n, [(nid, .cells e flat)], [nid], 1⟩)
        | none => none)
      | none => none)
    | _ => none)
  | none => none

def loadF (T : Nat → Option TI) (t : Nat) (x : V) (hg : Nat → Option Blk) : Option Out :=
  match x with
  | .ptr i q => (match hg i with | some (.cells _ cs) => (match loadT T t cs q with | some (c, v) => some ⟨c, v, [], [i], 0⟩ | none => none) | _ => none)
  | .gptr i q ver => (match hg i with | some (.grow ver' _ _ cs) => (match loadT T t cs q with | some (c, v) => some ⟨Nat.beq ver ver' && c, v, [], [i], 0⟩ | none => none) | _ => none)
  | .iptr cs => (match loadT T t cs 0 with | some (c, v) => some ⟨c, v, [], [], 0⟩ | none => none)
  | _ => none

def storeF (T : Nat → Option TI) (t : Nat) (x y : V) (hg : Nat → Option Blk) : Option Out :=
  match T t, cellsOf y with
  | some ti, some vs =>
    (match x with
    | .ptr i q => (match hg i with | some (.cells e cs) => some ⟨allOne vs && Nat.beq vs.length ti.size && Nat.ble (q + vs.length) cs.length, .undef, [(i, .cells e (setL cs q vs))], [i], 0⟩ | _ => none)
    | .gptr i q ver => (match hg i with | some (.grow ver' e sz cs) => some ⟨Nat.beq ver ver' && (allOne vs && Nat.beq vs.length ti.size && Nat.ble (q + vs.length) cs.length), .undef, [(i, .grow ver' e sz (setL cs q vs))], [i], 0⟩ | _ => none)
    | _ => none)
  | _, _ => none

/-! Maps: keys are words, or structs of words. -/
def plainK : TK → Bool
  | .bool => true
  | .int _ => true
  | .str => true
  | _ => false
def keyOk (T : Nat → Option TI) (t : Nat) (v : V) : Bool :=
  match T t with
  | some ti =>
    (match ti.k, v with
    | .struct fs, .agg cs => fs.all fun f => (match T f.2 with | some fi => plainK fi.k && Nat.blt f.1 cs.length | none => false)
    | k, _ => plainK k)
  | none => false

/-- Where a key stands. -/
def findV (T : Nat → Option TI) (kt : Nat) (k : V) : List (V × V × Nat) → Option (Option V)
  | [] => some none
  | e :: es => (match eqV T 12 kt k e.1 with | some true => some (some e.2.1) | some false => findV T kt k es | none => none)

/-- What is equal to a key, of all that is there. -/
def hitsV (T : Nat → Option TI) (kt : Nat) (k : V) : List (V × V) → Option (List V)
  | [] => some []
  | e :: es => (match eqV T 12 kt k e.1, hitsV T kt k es with | some true, some l => some (e.2 :: l) | some false, some l => some l | _, _ => none)

/-- An order of keys: that of their texts. -/
def encV1 : V → List Nat
  | .bool b => [1, cond b 1 0]
  | .int _ (.ofNat n) => [2, n]
  | .int _ (.negSucc n) => [3, n]
  | .str s => 4 :: s.size :: s.data.toList.map UInt8.toNat
  | _ => [0]
def encVL : List V → List Nat
  | [] => []
  | x :: xs => encV1 x ++ encVL xs
def encV : V → List Nat
  | .agg cs => encVL cs
  | v => encV1 v
def ltL : List Nat → List Nat → Bool
  | [], [] => false
  | [], _ :: _ => true
  | _ :: _, [] => false
  | x :: xs, y :: ys => cond (Nat.blt x y) true (cond (Nat.blt y x) false (ltL xs ys))
def insK (k v : V) : List (V × V) → List (V × V)
  | [] => [(k, v)]
  | e :: es => cond (ltL (encV k) (encV e.1)) ((k, v) :: e :: es) (e :: insK k v es)

def insertF (T : Nat → Option TI) (t : Nat) (m k v : V) (hg : Nat → Option Blk) : Option Out :=
  match T t, m with
  | some ti, .map id =>
    (match ti.k, hg id with
    | .map kt _, some (.mapc es clock) =>
      (match hitsV T kt k es with
      | some [] => some ⟨keyOk T kt k, .undef, [(id, .mapc (insK k v es) (clock + 1))], [id], 0⟩
      | _ => none)
    | _, _ => none)
  | _, _ => none

/-- What stands at a key. -/
def hitF (T : Nat → Option TI) (kt : Nat) (k : V) (b : Option Blk) : Option (Option V) :=
  match b with
  | some (.map es _) => findV T kt k es
  | some (.mapc es _) => (match hitsV T kt k es with | some [] => some none | some [v] => some (some v) | _ => none)
  | _ => none

def lookupF (T : Nat → Option TI) (t : Nat) (m k : V) (ok : Bool) (hg : Nat → Option Blk) : Option Out :=
  match T t, m with
  | some ti, .map id =>
    (match ti.k with
    | .map kt e =>
      (match T e, hitF T kt k (hg id) with
      | some _, some (some v) => some ⟨keyOk T kt k, cond ok (.tup [v, .bool true]) v, [], [id], 0⟩
      | some ei, some none => some ⟨keyOk T kt k, cond ok (.tup [ei.zero, .bool false]) ei.zero, [], [id], 0⟩
      | _, _ => none)
    | _ => none)
  | _, _ => none

def rangeF (T : Nat → Option TI) (t : Nat) (x : V) (hg : Nat → Option Blk) (nid : Nat) : Option Out :=
  match T t, x with
  | some ti, .str s => (match ti.k with | .str => some ⟨true, .ptr nid 0, [(nid, .siter s 0)], [nid], 1⟩ | _ => none)
  | some ti, .map id => (match ti.k, hg id with | .map _ _, some (.map _ clock) => some ⟨true, .ptr nid 0, [(nid, .miter id clock [] clock)], [nid, id], 1⟩ | _, _ => none)
  | _, _ => none

/-- The next rune of a text. -/
def nextStrF (it : V) (hg : Nat → Option Blk) : Option Out :=
  match it with
  | .ptr i 0 =>
    (match hg i with
    | some (.siter s pos) =>
      cond (Nat.blt pos s.size)
        (some ⟨true, .tup [.bool true, .int .i64 pos, .int .i32 (Utf8.decode s pos).1], [(i, .siter s (pos + (Utf8.decode s pos).2))], [i], 0⟩)
        (some ⟨true, .tup [.bool false], [], [i], 0⟩)
    | _ => none)
  | _ => none

def findB (n : Nat) : List (V × V × Nat) → Option (V × V)
  | [] => none
  | e :: es => cond (Nat.beq e.2.2 n) (some (e.1, e.2.1)) (findB n es)

/-- What a map's iterator has come to. -/
def entryF (it : V) (hg : Nat → Option Blk) : Option Out :=
  match it with
  | .ptr i 0 =>
    (match hg i with
    | some (.miter mid _ seen last) =>
      (match hg mid, seen.getLast? with
      | some (.map es clock), some b => (match findB b es with | some (k, v) => some ⟨Nat.beq clock last, .tup [k, v], [], [i, mid], 0⟩ | none => none)
      | _, _ => none)
    | _ => none)
  | _ => none

def opF (P : Program) (T : Nat → Option TI) (md : Bool) (ev : Operand → V) (hg : Nat → Option Blk) (nid : Nat) (op : Op) : Option Out :=
  match op with
  | .alloc t => (match T t with | some ti => (match cellsOf ti.zero with | some cs => some ⟨true, .ptr nid 0, [(nid, .cells t cs)], [nid], 1⟩ | none => none) | none => none)
  | .box t x => (match cellsOf (ev x) with | some cs => some ⟨true, .ptr nid 0, [(nid, .cells t cs)], [nid], 1⟩ | none => none)
  | .load t x => loadF T t (ev x) hg
  | .store t x y => storeF T t (ev x) (ev y) hg
  | .build t parts => (match buildV T t (parts.toList.map fun p => (p.1, ev p.2)) with | some v => some ⟨true, v, [], [], 0⟩ | none => none)
  | .buildSlice t n parts => buildSliceF T md t n (parts.toList.map fun p => (p.1, ev p.2)) nid
  | .makeSlice t l c => makeSliceF T t (ev l) (ev c) nid
  | .convert s d x => convF P T s d (ev x) hg
  | .makeMap _ none => some ⟨true, .map nid, [(nid, .mapc [] 0)], [nid], 1⟩
  | .insert t m k v => insertF T t (ev m) (ev k) (ev v) hg
  | .mapUpdate t m k v => insertF T t (ev m) (ev k) (ev v) hg
  | .lookup t m k ok => lookupF T t (ev m) (ev k) ok hg
  | .range t x => rangeF T t (ev x) hg nid
  | .next it true => nextStrF (ev it) hg
  | .entry it => entryF (ev it) hg
  | .call c =>
    (match c.callee with
    | .builtin .append => (match c.argTypes.toList, c.args.toList.map ev with | [t, xt], [s, x] => appendF T md t xt s x hg nid | _, _ => none)
    | .builtin .copy => (match c.argTypes.toList, c.args.toList.map ev with | t :: _, [d, x] => copyF T t d x hg | _, _ => none)
    | .builtin .clear => (match c.argTypes.toList, c.args.toList.map ev with | t :: _, [d] => clearF T t d hg | _, _ => none)
    | .builtin .unsafeString => (match c.argTypes.toList, c.args.toList.map ev with | [t, _], [p, n] => unsafeStrF P t p n hg | _, _ => none)
    | .builtin b => (match pv (builtinV T b c.argTypes.toList (c.args.toList.map ev)) with | some (c, v) => some ⟨c, v, [], [], 0⟩ | none => none)
    | _ => none)
  | op => (match pureO T ev op with | some (c, v) => some ⟨c, v, [], [], 0⟩ | none => none)

end Go.Cx
