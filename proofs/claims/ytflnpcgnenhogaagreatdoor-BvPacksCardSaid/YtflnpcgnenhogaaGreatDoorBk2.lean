/- Own lemmas, laid together. -/
import Derived.Tactics
import Derived.Orders
import Derived.Still
namespace Go.Proofs.YtflnpcgnenhogaaGreatDoor.ev
open Go
noncomputable section

inductive T (α : Type) where
 | leaf
 | node (l : T α) (v : Option α) (r : T α)
--FAST
inductive Pa where
 | stop
 | bad
 | left (p : Pa)
 | right (p : Pa)
def pathOf (d : Nat) : Nat → Pa :=
 @Nat.rec (fun _ => Nat → Pa) (fun _ => .bad)
  (fun _ ih n => @Bool.rec (fun _ => Pa) (@Bool.rec (fun _ => Pa) (.right (ih (Nat.sub (Nat.div n (nat_lit 2)) (nat_lit 1)))) (.left (ih (Nat.div n (nat_lit 2)))) (Nat.beq (Nat.mod n (nat_lit 2)) (nat_lit 1))) .stop (Nat.beq n (nat_lit 0))) d
def T.getP {α : Type} (p : Pa) : T α → Option α :=
 @Pa.rec (fun _ => T α → Option α) (fun t => @T.rec α (fun _ => Option α) none (fun _ v _ _ _ => v) t) (fun _ => none)
  (fun _ ih t => @T.rec α (fun _ => Option α) none (fun l _ _ _ _ => ih l) t) (fun _ ih t => @T.rec α (fun _ => Option α) none (fun _ _ r _ _ => ih r) t) p
def T.get {α : Type} (t : T α) (n : Nat) : Option α := T.getP (pathOf 60 n) t
def T.setP {α γ : Type} (x : α) (p : Pa) : T α → (T α → Option γ) → Option γ :=
 @Pa.rec (fun _ => T α → (T α → Option γ) → Option γ)
  (fun t k => @T.rec α (fun _ => Option γ) (k (.node .leaf (some x) .leaf)) (fun l _ r _ _ => k (.node l (some x) r)) t) (fun _ _ => none)
  (fun _ ih t k => @T.rec α (fun _ => Option γ) (ih .leaf fun l' => k (.node l' none .leaf)) (fun l v r _ _ => ih l fun l' => k (.node l' v r)) t)
  (fun _ ih t k => @T.rec α (fun _ => Option γ) (ih .leaf fun r' => k (.node .leaf none r')) (fun l v r _ _ => ih r fun r' => k (.node l v r')) t) p
def T.setK {α γ : Type} (_ : Nat) (t : T α) (x : α) (n : Nat) (k : T α → Option γ) : Option γ := T.setP x (pathOf 60 n) t k
def T.setO {α : Type} (d : Nat) (t : T α) (n : Nat) (x : α) : Option (T α) := T.setK d t x n some
--SLOW
def T.setMany {α : Type} : T α → Nat → List α → Option (T α)
 | t, _, [] => some t
 | t, n, x :: xs => match T.setO 40 t n x with | some t' => T.setMany t' (n + 1) xs | none => none

/-- no block is named in it -/
def flatN : Nat → Value → Bool
 | _, .bool _ | _, .int _ _ | _, .float _ _ | _, .complex _ _ _ | _, .string _ | _, .pointer none | _, .slice none _ _ | _, .map none | _, .chan none | _, .nilFunc | _, .nilIface => true
 | n + 1, .agg cs => cs.toList.all (flatN n)
 | n + 1, .tuple cs => cs.toList.all (flatN n)
 | n + 1, .iface _ v => flatN n v
 | _, _ => false

/-- what is deferred: a call (the function, its arguments, what it captured); the mark of a range over a function -/
inductive DE where
 | call (g : FuncId) (args cap : List Value)
 | mark (k : Nat)
structure F where
 sz : Nat
 t : T Value
 ds : List DE
 /-- the loop's record, in a round of a range over a function -/
 rd : Option Nat
--FAST
def F.get (f : F) (i : Nat) : Value := @Option.rec Value (fun _ => Value) undef (fun v => v) (T.get (@F.rec (fun _ => T Value) (fun _ t _ _ => t) f) i)
def F.put (f : F) (dst : Option Tmp) (v : Value) : Option F :=
 @Option.rec Tmp (fun _ => Option F) (some f) (fun d => @F.rec (fun _ => Option F) (fun sz t ds rd => @Bool.rec (fun _ => Option F) none (T.setK 40 t v d fun t' => some ⟨sz, t', ds, rd⟩) (Nat.blt d sz)) f) dst
--SLOW

inductive AO where
 /-- n cells are known, a cell that is not in the tree holds 'dflt'; 'loose' (some size): the row's own capacity isn't known; wr: may be written -/
 | row (n : Nat) (cells : T Value) (dflt : Value) (elem : TypeId) (loose : Option Nat) (wr : Bool)
 | map (es : List MapEntry) (clock : Nat)
 | sit (s : ByteArray) (pos : Nat)
 | loop (st : LoopState) (pend : Option Code) (f : F) (params : List Tmp) (assign body : Code) (dblk : Nat)
 /-- the block of the rounds' deferred calls: none, or shut -/
 | defd (shut : Bool)
 | dead
structure H where
 heap : T AO
 next : Nat
--FAST
def H.new (h : H) (o : AO) : Option (Nat × H) := @H.rec (fun _ => Option (Nat × H)) (fun t n => T.setK 60 t o n fun t' => some (n, ⟨t', Nat.succ n⟩)) h
def H.set (h : H) (k : Nat) (o : AO) : Option H := @H.rec (fun _ => Option H) (fun t n => T.setK 60 t o k fun t' => some ⟨t', n⟩) h
--SLOW

def pureRun {α : Type} (P : Program) : Sem α → Option α
 | .pure a => some a
 | .program k => pureRun P (k P)
 | .mark _ k => pureRun P k
 | _ => none

def cellAt (cells : T Value) (dflt : Value) (i : Nat) : Value := match cells.get i with | some v => v | none => dflt
def cellsAt (cells : T Value) (dflt : Value) : Nat → Nat → List Value
 | _, 0 => []
 | i, n + 1 => cellAt cells dflt i :: cellsAt cells dflt (i + 1) n

def opv (g : Nat → Value) : Operand → Option Value
 | .tmp t => some (g t)
 | .const v => bif flatN 6 v then some v else none
 | .func i => some (.func (.func i) #[] #[])
 | .global i => bif Nat.blt i 1000 then some (.pointer (some ⟨i, 0, none⟩)) else none
def opvs (g : Nat → Value) : List Operand → Option (List Value)
 | [] => some []
 | x :: xs => match opv g x with | some v => (match opvs g xs with | some vs => some (v :: vs) | none => none) | none => none

def szOf (P : Program) (t : TypeId) : Option Nat := match P.info? t with | some i => some i.size | none => none
def zeroOf (P : Program) (t : TypeId) : Option Value := match P.info? t with | some i => i.zero | none => none
def aggB (P : Program) (t : TypeId) : Option Bool := match P.underlying t with | some (.struct _) => some true | some (.array _ _) => some true | some _ => some false | none => none

def oneCell : Value → Bool
 | .agg _ | .tuple _ => false
 | _ => true
def vcells : Value → List Value
 | .agg cs => cs.toList
 | v => [v]

/-- n cells from an address on -/
def readN (h : H) (k off n : Nat) : Option (List Value) :=
 match h.heap.get k with
 | some (.row m cells d _ _ _) => bif Nat.ble (off + n) m then some (cellsAt cells d off n) else none
 | _ => none
def writeN (h : H) (k off : Nat) (vs : List Value) : Option H :=
 match h.heap.get k with
 | some (.row m cells d e lz wr) =>
  bif wr && Nat.ble (off + vs.length) m && vs.all oneCell then (match cells.setMany off vs with | some c => h.set k (.row m c d e lz wr) | none => none) else none
 | _ => none

def loadA (P : Program) (h : H) (t : TypeId) (a : Value) : Option Value :=
 match a with
 | .pointer (some ⟨k, off, none⟩) =>
  match aggB P t with
  | some true => (match szOf P t with
   | some n => (match readN h k off n with | some l => some (.agg l.toArray) | none => none)
   | none => none)
  | some false => (match readN h k off 1 with | some [v] => some v | _ => none)
  | none => none
 | _ => none
def storeA (P : Program) (h : H) (t : TypeId) (a v : Value) : Option H :=
 match a with
 | .pointer (some ⟨k, off, none⟩) =>
  match szOf P t with
  | some n => bif Nat.beq n (vcells v).length then writeN h k off (vcells v) else none
  | none => none
 | _ => none

def repeatCells (z : List Value) : Nat → List Value
 | 0 => []
 | n + 1 => z ++ repeatCells z n

def makeSliceA (P : Program) (t : TypeId) (len cap : Value) : Option (Nat × Nat × AO) :=
 match P.underlying t, len, cap with
 | some (.slice e), .int .i64 (.ofNat l), .int .i64 (.ofNat c) =>
  match P.info? e with
  | some i =>
   match i.zero with
   | some z =>
    bif Nat.ble l c && Nat.ble c 16777216 && Nat.ble (c * i.bytes) 16777216 && Nat.beq i.size (vcells z).length && flatN 6 z then
     match vcells z with
     | [z0] => some (l, c, .row c .leaf z0 e none true)
     | zs => (match T.setMany .leaf 0 (repeatCells zs c) with | some t => some (l, c, .row (repeatCells zs c).length t undef e none true) | none => none)
    else none
   | none => none
  | none => none
 | _, _, _ => none

def intNat : Value → Option Nat
 | .int _ (.ofNat n) => some n
 | _ => none
/-- bounds of a slice expression: low, high, top -/
def boundsA (len top : Nat) (lo hi mx : Option Value) : Option (Nat × Nat × Nat) :=
 match (match mx with | some v => (match hi with | some _ => intNat v | none => none) | none => some top) with
 | some m => bif Nat.ble m top then (match (match hi with | some v => intNat v | none => some len) with
  | some h => bif Nat.ble h m then (match (match lo with | some v => intNat v | none => some 0) with
   | some l => bif Nat.ble l h then some (l, h, m) else none
   | none => none) else none
  | none => none) else none
 | none => none

def sliceA (P : Program) (h : H) (t : TypeId) (x : Value) (lo hi mx : Option Value) : Option Value :=
 match P.underlying t, x with
 | some .string, .string s => (match mx with | some _ => none | none => (match boundsA s.size s.size lo hi none with | some (l, r, _) => some (.string ⟨⟨(s.data.toList.drop l).take (r - l)⟩⟩) | none => none))
 | some (.slice e), .slice (some ⟨k, off, none⟩) len cap =>
  match szOf P e with
  | some sz => (match boundsA len cap lo hi mx with
   | some (l, r, m) => some (.slice (some ⟨k, bif Nat.beq m l then off else off + l * sz, none⟩) (r - l) (m - l))
   | none => none)
  | none => none
 | some (.slice e), .slice (some ⟨k, off, some d⟩) len 0 =>
  match szOf P e, h.heap.get k with
  | some sz, some (.row n _ _ _ (some sz') _) =>
   bif Nat.beq sz sz' && Nat.beq off (d * sz) && Nat.ble 1 sz then
   (match boundsA len (n / sz - d) lo hi mx with
   | some (l, r, m) => (match mx with
    | some _ => some (.slice (some ⟨k, bif Nat.beq m l then off else off + l * sz, none⟩) (r - l) (m - l))
    | none => bif Nat.blt l (n / sz - d) || Nat.beq l 0 then some (.slice (some ⟨k, off + l * sz, some (d + l)⟩) (r - l) 0) else bif Nat.beq r l then some (.slice (some ⟨k, 0, some 0⟩) 0 1) else none)
   | none => none)
   else none
  | _, _ => none
 | some (.slice e), .slice none len cap => (match boundsA len cap lo hi mx, szOf P e with | some (l, r, m), some _ => bif Nat.beq len 0 && Nat.beq cap 0 then some (.slice none (r - l) (m - l)) else none | _, _ => none)
 | some (.array n e), .pointer (some ⟨k, off, none⟩) =>
  match szOf P e with
  | some sz => (match boundsA n n lo hi mx with
   | some (l, r, m) => some (.slice (some ⟨k, bif Nat.beq m l then off else off + l * sz, none⟩) (r - l) (m - l))
   | none => none)
  | none => none
 | _, _ => none

def indexAddrA (P : Program) (t : TypeId) (x i : Value) : Option Value :=
 match P.underlying t, x, intNat i with
 | some (.slice e), .slice (some ⟨k, off, _⟩) len _, some j =>
  (match szOf P e with | some sz => bif Nat.blt j len then some (.pointer (some ⟨k, off + j * sz, none⟩)) else none | none => none)
 | some (.array n e), .pointer (some ⟨k, off, none⟩), some j =>
  (match szOf P e with | some sz => bif Nat.blt j n then some (.pointer (some ⟨k, off + j * sz, none⟩)) else none | none => none)
 | _, _, _ => none
def fieldAddrA (P : Program) (t : TypeId) (x : Value) (i : Nat) : Option Value :=
 match P.underlying t, x with
 | some (.struct fs), .pointer (some ⟨k, off, none⟩) =>
  (match fs[i]? with
  | some f => (match szOf P f.type with | some (_ + 1) => some (.pointer (some ⟨k, off + f.offset, none⟩)) | _ => none)
  | none => none)
 | _, _ => none
def partA (P : Program) (t : TypeId) (cs : List Value) (off : Nat) : Option Value :=
 match aggB P t with
 | some true => (match szOf P t with | some n => some (.agg ((cs.drop off).take n).toArray) | none => none)
 | some false => cs[off]?
 | none => none
def fieldA (P : Program) (t : TypeId) (x : Value) (i : Nat) : Option Value :=
 match P.underlying t, x with
 | some (.struct fs), .agg cs => (match fs[i]? with | some f => partA P f.type cs.toList f.offset | none => none)
 | _, _ => none
def indexA (P : Program) (t : TypeId) (x i : Value) : Option Value :=
 match P.underlying t, x, intNat i with
 | some (.array n e), .agg cs, some j => (match szOf P e with | some sz => bif Nat.blt j n then partA P e cs.toList (j * sz) else none | none => none)
 | some .string, .string s, some j => (match s[j]? with | some b => some (.int .u8 b.toNat) | none => none)
 | _, _, _ => none

def lenOfA : Value → Option Nat
 | .slice _ n _ => some n
 | .string s => some s.size
 | _ => none
def byteVals (s : ByteArray) (n : Nat) : List Value := (s.data.toList.take n).map fun b => .int .u8 b.toNat
/-- the first n elements (of sz cells) of a slice or a string -/
def firstA (h : H) (sz n : Nat) : Value → Option (List Value)
 | .slice (some ⟨k, off, _⟩) _ _ => readN h k off (n * sz)
 | .slice none _ _ => bif Nat.beq (n * sz) 0 then some [] else none
 | .string s => some (byteVals s n)
 | _ => none

def growA (P : Program) (h : H) (e : TypeId) (sz : Nat) (s : Value) (sLen need : Nat) (new : List Value) : Option (Value × H) :=
 match P.info? e with
 | some i =>
  match i.zero with
  | some z =>
   bif Nat.ble (need * i.bytes) 140737488355328 && Nat.ble need 140737488355328 && Nat.beq (vcells z).length sz then
    match firstA h sz sLen s with
    | some old =>
     match T.setMany .leaf 0 (old ++ new) with
     | some c => (match h.new (.row (old ++ new).length c undef e (some sz) true) with
      | some (k, h') => some (.slice (some ⟨k, 0, some 0⟩) need 0, h')
      | none => none)
     | none => none
    | none => none
   else none
  | none => none
 | none => none

def rowish : TypeDesc → Bool
 | .slice _ | .string => true
 | _ => false
def strOk (sz : Nat) : Value → Bool
 | .string _ => Nat.beq sz 1
 | _ => true
/-- n zero values, where the number n stands in a slice's place (append of a make) -/
def zerosA (P : Program) (e : TypeId) (sz : Nat) (tx : TypeId) (x : Value) : Option (Nat × List Value) :=
 match x, P.underlying tx with
 | .int _ (.ofNat m), some (.int _) =>
  (match P.info? e with
  | some i => (match i.zero with
   | some z => bif Nat.ble 1 sz && Nat.beq i.size sz && Nat.beq (vcells z).length sz && Nat.ble m 16777216 && Nat.ble (m * i.bytes) 16777216 && flatN 6 z && (vcells z).all oneCell && (vcells z).all (flatN 6) then some (m, repeatCells (vcells z) m) else none
   | none => none)
  | none => none)
 | _, _ => none
/-- what is appended: how many elements, their cells -/
def srcA (P : Program) (h : H) (e : TypeId) (sz : Nat) (tx : TypeId) (x : Value) : Option (Nat × List Value) :=
 match lenOfA x, P.underlying tx with
 | some m, some d =>
  bif rowish d && strOk sz x then
   match firstA h sz m x with
   | some new => bif new.all oneCell then some (m, new) else none
   | none => none
  else none
 | none, _ => zerosA P e sz tx x
 | _, _ => none

def appendA (P : Program) (h : H) (t tx : TypeId) (s x : Value) : Option (Value × H) :=
 match P.underlying t with
 | some (.slice e) =>
  match szOf P e with
  | some sz =>
   match srcA P h e sz tx x with
   | some (m, new) =>
    match s with
    | .slice none 0 0 => bif Nat.beq m 0 then some (s, h) else growA P h e sz s 0 m new
    | .slice (some ⟨k, off, none⟩) len cap =>
     bif Nat.ble (len + m) cap then
      (match writeN h k (off + len * sz) new with | some h' => some (.slice (some ⟨k, off, none⟩) (len + m) cap, h') | none => none)
     else growA P h e sz s len (len + m) new
    | .slice (some ⟨k, off, some d⟩) len 0 =>
     bif Nat.beq m 0 then some (s, h) else
     match h.heap.get k with
     | some (.row n cells df el (some sz') true) =>
      bif Nat.beq sz sz' && Nat.beq el e && Nat.ble 1 sz then
       bif Nat.beq off (d * sz) && Nat.ble (off + (len + m) * sz) n then
        (match writeN h k (off + len * sz) new with | some h' => some (.slice (some ⟨k, off, some d⟩) (len + m) 0, h') | none => none)
       else bif Nat.beq off 0 && Nat.beq d 0 && Nat.ble (len * sz) n && Nat.ble n ((len + m) * sz) then
        match P.info? e with
        | some i => match i.zero with
         | some z =>
          bif Nat.ble ((len + m) * i.bytes) 140737488355328 && Nat.ble (len + m) 140737488355328 && Nat.beq (vcells z).length sz then
          match cells.setMany (len * sz) new with
          | some c' => match h.set k .dead with
           | some h1 => (match h1.new (.row ((len + m) * sz) c' df e (some sz) true) with
            | some (k', h') => some (.slice (some ⟨k', 0, some 0⟩) (len + m) 0, h')
            | none => none)
           | none => none
          | none => none
          else none
         | none => none
        | none => none
       else none
      else none
     | _ => none
    | .slice (some ⟨_, _, some _⟩) _ 1 => bif Nat.beq m 0 then some (s, h) else none
    | _ => none
   | none => none
  | none => none
 | _ => none

def copyA (P : Program) (h : H) (t : TypeId) (d x : Value) : Option (Value × H) :=
 match P.underlying t, d, lenOfA x with
 | some (.slice e), .slice b len _, some m =>
  match szOf P e with
  | some sz =>
   bif strOk sz x then
    match firstA h sz (Nat.min m len) x with
    | some new =>
     match b with
     | some ⟨k, off, _⟩ => (match writeN h k off new with | some h' => some (.int .i64 (Nat.min m len), h') | none => none)
     | none => some (.int .i64 (Nat.min m len), h)
    | none => none
   else none
  | none => none
 | _, _, _ => none

/-- the place of a key among entries -/
def keyNo (P : Program) (kt : TypeId) (k : Value) (es : List MapEntry) : Option (Option (Nat × Value)) :=
 match P.underlying kt with
 | some d => Instr.findNow d k es 0
 | none => none
def plainKey (P : Program) (kt : TypeId) : Bool :=
 match P.underlying kt with
 | some (.int _) | some .string | some .bool => true
 | _ => false
def lookupA (P : Program) (h : H) (t : TypeId) (x k : Value) (ok : Bool) : Option Value :=
 match P.underlying t with
 | some (.map kt et) =>
  bif plainKey P kt && flatN 0 k then
   let es : Option (List MapEntry) := match x with
    | .map none => some []
    | .map (some r) => (match h.heap.get r with | some (.map es _) => some es | _ => none)
    | _ => none
   match es with
   | some es => (match keyNo P kt k es with
    | some (some (_, v)) => some (bif ok then .tuple #[v, .bool true] else v)
    | some none => (match zeroOf P et with | some z => bif flatN 6 z then some (bif ok then .tuple #[z, .bool false] else z) else none | none => none)
    | none => none)
   | none => none
  else none
 | _ => none
def setVal : List MapEntry → Nat → Value → Value → List MapEntry
 | [], _, _, _ => []
 | e :: es, 0, k, v => { e with key := k, val := v } :: es
 | e :: es, i + 1, k, v => e :: setVal es i k v
def mapUpdateA (P : Program) (h : H) (t : TypeId) (x k v : Value) : Option H :=
 match P.underlying t, x with
 | some (.map kt _), .map (some r) =>
  bif plainKey P kt && flatN 0 k then
   match h.heap.get r with
   | some (.map es clock) => (match keyNo P kt k es with
    | some (some (i, _)) => h.set r (.map (setVal es i k v) clock)
    | some none => h.set r (.map (es ++ [{ key := k, val := v, born := clock }]) (clock + 1))
    | none => none)
   | _ => none
  else none
 | _, _ => none
def deleteA (P : Program) (h : H) (t : TypeId) (x k : Value) : Option H :=
 match P.underlying t, x with
 | some (.map kt _), .map none => bif plainKey P kt && flatN 0 k then some h else none
 | some (.map kt _), .map (some r) =>
  bif plainKey P kt && flatN 0 k then
   match h.heap.get r with
   | some (.map es clock) => (match keyNo P kt k es with
    | some (some (i, _)) => h.set r (.map (es.eraseIdx i) clock)
    | some none => some h
    | none => none)
   | _ => none
  else none
 | _, _ => none

inductive AN where
 | val (v : Value) (h : H)
 | skip (h : H)
 | call (f : FuncId) (args : List Value) (h : H)
 | defer (f : FuncId) (args captured : List Value) (h : H)
 | round (k : Nat) (args : List Value) (h : H)

def vh : Option (Value × H) → Option AN
 | some (v, h) => some (.val v h)
 | none => none
def ho : Option H → Option AN
 | some h => some (.skip h)
 | none => none

def fillA (place : Nat → Option (Nat × Nat)) (cells : List Value) : List (Nat × Value) → Option (List Value)
 | [] => some cells
 | (i, v) :: rest =>
  match place i with
  | none => none
  | some (off, size) =>
   bif Nat.beq (vcells v).length size && Nat.ble (off + (vcells v).length) cells.length then fillA place (cells.take off ++ vcells v ++ cells.drop (off + (vcells v).length)) rest else none
def partsA (g : Nat → Value) : List (Nat × Operand) → Option (List (Nat × Value))
 | [] => some []
 | (i, x) :: xs => match opv g x with | some v => (match partsA g xs with | some vs => some ((i, v) :: vs) | none => none) | none => none
def placesA (P : Program) : List Field → Option (List (Nat × Nat))
 | [] => some []
 | x :: xs => match szOf P x.type with | some s => (match placesA P xs with | some r => some ((x.offset, s) :: r) | none => none) | none => none
def buildA (P : Program) (t : TypeId) (parts : List (Nat × Value)) : Option Value :=
 match zeroOf P t, P.underlying t with
 | some z, some (.struct fs) => bif flatN 6 z then (match placesA P fs.toList with
  | some pl => (match fillA (pl[·]?) (vcells z) parts with | some l => some (.agg l.toArray) | none => none)
  | none => none) else none
 | some z, some (.array _ e) => bif flatN 6 z then (match szOf P e with
  | some sz => (match fillA (fun i => some (i * sz, sz)) (vcells z) parts with | some l => some (.agg l.toArray) | none => none)
  | none => none) else none
 | _, _ => none
def buildSliceA (P : Program) (t : TypeId) (len : Nat) (parts : List (Nat × Value)) : Option AO :=
 match P.underlying t with
 | some (.slice e) => match szOf P e, zeroOf P e with
  | some sz, some z =>
   bif Nat.ble (len * sz) 65536 && flatN 6 z && Nat.beq (vcells z).length sz then
    match fillA (fun i => some (i * sz, sz)) (repeatCells (vcells z) len) parts with
    | some l => (match T.setMany .leaf 0 l with
     | some c => some (.row l.length c undef e none true)
     | none => none)
    | none => none
   else none
  | _, _ => none
 | _ => none

def ptrEq (P : Program) (d : TypeDesc) (x y : Value) : Option Bool :=
 match d, x, y with
 | .pointer _, .pointer none, .pointer b => some b.isNone
 | .pointer _, .pointer (some _), .pointer none => some false
 | .pointer e, .pointer (some ⟨k, o, none⟩), .pointer (some ⟨l, q, none⟩) => (match szOf P e with
  | some (_ + 1) => bif Nat.beq k l then some (Nat.beq o q) else none
  | _ => none)
 | .slice _, .slice none _ _, .slice b _ _ => some b.isNone
 | .slice _, .slice (some _) _ _, .slice none _ _ => some false
 | .map _ _, .map none, .map b => some b.isNone
 | .map _ _, .map (some _), .map none => some false
 | .func _ _ _, .nilFunc, .func _ _ _ => some false
 | .func _ _ _, .func _ _ _, .nilFunc => some false
 | .interface _, .nilIface, .iface _ _ => some false
 | .interface _, .iface _ _, .nilIface => some false
 | _, _, _ => none
def bytesEq : List UInt8 → List UInt8 → Bool
 | [], [] => true
 | a :: as, b :: bs => bif Nat.beq a.toNat b.toNat then bytesEq as bs else false
 | _, _ => false
/-- strings, as lists of bytes -/
def strA (op : BinOp) (a b : ByteArray) : Option Value :=
 match op with
 | .add => bif Nat.ble (a.size + b.size) 9223372036854775807 then some (.string ⟨⟨a.data.toList ++ b.data.toList⟩⟩) else none
 | .eql => some (.bool (bytesEq a.data.toList b.data.toList))
 | .neq => some (.bool !(bytesEq a.data.toList b.data.toList))
 | .lss => some (.bool (Op.bytesLess a.data.toList b.data.toList))
 | _ => none
def binB (P : Program) (op : BinOp) (t : TypeId) (x y : Operand) (a b : Value) : Option Value :=
 bif flatN 6 a && flatN 6 b then
  match pureRun P (do eqGuard op t x y a b; binOp op t a b) with
  | some v => bif flatN 1 v then some v else none
  | none => none
 else match P.underlying t with
  | some d => (match op with
   | .eql => (match ptrEq P d a b with | some r => some (.bool r) | none => none)
   | .neq => (match ptrEq P d a b with | some r => some (.bool !r) | none => none)
   | _ => none)
  | none => none
def sameK (k l : IntKind) : Bool := decide (k = l)
def asInt : Value → Option (IntKind × Int)
 | .int k n => some (k, n)
 | _ => none
structure SI where
 run : IntKind × Int → IntKind × Int → Option Value
/-- integers: what each operator comes to -/
def stI (P : Program) (op : BinOp) : SI :=
 match op with
 | .add => ⟨fun x y => bif sameK x.1 y.1 then some (.int x.1 (x.1.wrap (x.2 + y.2))) else none⟩
 | .sub => ⟨fun x y => bif sameK x.1 y.1 then some (.int x.1 (x.1.wrap (x.2 - y.2))) else none⟩
 | .mul => ⟨fun x y => bif sameK x.1 y.1 then some (.int x.1 (x.1.wrap (x.2 * y.2))) else none⟩
 | .quo => ⟨fun x y => bif sameK x.1 y.1 then pureRun P (Op.intDiv .quo x.1 x.2 y.2) else none⟩
 | .rem => ⟨fun x y => bif sameK x.1 y.1 then pureRun P (Op.intDiv .rem x.1 x.2 y.2) else none⟩
 | .and => ⟨fun x y => bif sameK x.1 y.1 then pureRun P (Op.intBits .and x.1 x.2 y.2) else none⟩
 | .or => ⟨fun x y => bif sameK x.1 y.1 then pureRun P (Op.intBits .or x.1 x.2 y.2) else none⟩
 | .xor => ⟨fun x y => bif sameK x.1 y.1 then pureRun P (Op.intBits .xor x.1 x.2 y.2) else none⟩
 | .andNot => ⟨fun x y => bif sameK x.1 y.1 then pureRun P (Op.intBits .andNot x.1 x.2 y.2) else none⟩
 | .shl => ⟨fun x y => pureRun P (Op.shift .shl x.1 x.2 y.1 y.2)⟩
 | .shr => ⟨fun x y => pureRun P (Op.shift .shr x.1 x.2 y.1 y.2)⟩
 | .eql => ⟨fun x y => bif sameK x.1 y.1 then some (.bool (x.2 == y.2)) else none⟩
 | .neq => ⟨fun x y => bif sameK x.1 y.1 then some (.bool (x.2 != y.2)) else none⟩
 | .lss => ⟨fun x y => bif sameK x.1 y.1 then some (.bool (decide (x.2 < y.2))) else none⟩
 | .leq => ⟨fun x y => bif sameK x.1 y.1 then some (.bool (decide (x.2 ≤ y.2))) else none⟩
 | .gtr => ⟨fun x y => bif sameK x.1 y.1 then some (.bool (decide (x.2 > y.2))) else none⟩
 | .geq => ⟨fun x y => bif sameK x.1 y.1 then some (.bool (decide (x.2 ≥ y.2))) else none⟩
def intA (P : Program) (op : BinOp) (x y : IntKind × Int) : Option Value := match (stI P op).run x y with | some v => bif flatN 1 v then some v else none | none => none
def binC (P : Program) (op : BinOp) (t : TypeId) (x y : Operand) (a b : Value) : Option Value :=
 match a, b with
 | .string s, .string u => strA op s u
 | _, _ => binB P op t x y a b
def binA (P : Program) (op : BinOp) (t : TypeId) (x y : Operand) (a b : Value) : Option Value :=
 match asInt a with
 | some p => (match asInt b with | some q => intA P op p q | none => binC P op t x y a b)
 | none => binC P op t x y a b
def isByteV : Value → Bool
 | .int .u8 (.ofNat _) => true
 | _ => false
def byteV : Value → UInt8
 | .int _ n => UInt8.ofNat n.toNat
 | _ => 0
/-- conversions that make no memory -/
def convertA (P : Program) (h : H) (src dst : TypeId) (x : Value) : Option Value :=
 match P.underlying src, P.underlying dst, x with
 | some (.slice e), some .string, .slice b len _ =>
  (match P.underlying e with
  | some (.int .u8) => (match b with
   | none => some (.string .empty)
   | some ⟨k, off, _⟩ => (match readN h k off len with
    | some l => bif l.all isByteV then
      some (.string ⟨(l.map byteV).toArray⟩) else none
    | none => none))
  | _ => none)
 | _, some (.slice _), _ => none
 | _, _, _ =>
  bif flatN 1 x then
   match pureRun P (convert src dst x) with
   | some v => bif flatN 1 v then some v else none
   | none => none
  else none
/-- a string to bytes: a row whose capacity isn't known -/
def bytesA (P : Program) (h : H) (src dst : TypeId) (x : Value) : Option (Value × H) :=
 match P.underlying src, P.underlying dst, x with
 | some .string, some (.slice e), .string s =>
  (match P.underlying e with
  | some (.int .u8) => (match T.setMany .leaf 0 (byteVals s s.size) with
   | some c => (match h.new (.row s.size c (.int .u8 0) e (some 1) true) with
    | some (k, h') => some (.slice (some ⟨k, 0, some 0⟩) s.size 0, h')
    | none => none)
   | none => none)
  | _ => none)
 | _, _, _ => none

/-- a method whose receiver is the value itself -/
def methodA (P : Program) (t : TypeId) (name : String) : Option FuncId :=
 match P.info? t with
 | some i => (match i.methods.find? (·.name == name) with
  | some m => (match m.path.toList, m.func with
   | [], some (g, pr) => (match P.underlying t, pr with
    | some (.pointer _), true => some g
    | some (.pointer _), false => none
    | some _, false => some g
    | _, _ => none)
   | _, _ => none)
  | none => none)
 | none => none
def optV (g : Nat → Value) : Option Operand → Option (Option Value)
 | some o => (match opv g o with | some u => some (some u) | none => none)
 | none => some none

def lenA (P : Program) (h : H) (t : TypeId) (ty : TypeId) (x : Value) : Option Value :=
 match x with
 | .slice _ n _ => (match P.underlying t with | some (.slice _) => some (.int .i64 n) | _ => none)
 | .map (some r) => (match P.underlying t, h.heap.get r with | some (.map _ _), some (.map es _) => some (.int .i64 es.length) | _, _ => none)
 | _ => bif flatN 1 x then (match pureRun P (Builtin.len_ #[t] ty #[x]) with | some v => bif flatN 1 v then some v else none | none => none) else (match P.underlying t with
  | some (.array n _) => some (.int .i64 n)
  | _ => none)

/-- 0: it makes no memory and writes none; 1: it makes a block out of its operands alone; 2: any other -/
def kindOf (P : Program) : Op → Nat
 | .alloc _ | .box .. | .makeMap .. | .makeSlice .. | .buildSlice .. => 1
 | .store .. | .mapUpdate .. | .insert .. | .call { callee := .value _, .. } | .call { callee := .invoke .., .. } | .defer _ => 2
 | .call { callee := .builtin .len, .. } | .call { callee := .builtin .min, .. } | .call { callee := .builtin .max, .. } | .call { callee := .builtin .cap, .. } => 0
 | .call { callee := .builtin _, .. } => 2
 | .convert _ d _ => (match P.underlying d with | some (.slice _) => 2 | _ => 0)
 | _ => 0

/-- operations that make no memory and write none -/
structure SX where
 run : (Nat → Value) → H → Option Value
def stX (P : Program) (ty : TypeId) (op : Op) : SX :=
 match op with
 | .move x | .assign x => ⟨fun g _ => opv g x⟩
 | .pick c a b => ⟨fun g _ => (match opv g c with | some (.bool t) => bif t then opv g a else opv g b | _ => none)⟩
 | .build t parts => ⟨fun g _ => (match partsA g parts.toList with | some l => buildA P t l | none => none)⟩
 | .load t a => ⟨fun g h => (match opv g a with | some p => loadA P h t p | none => none)⟩
 | .nilCheck x => ⟨fun g _ => (match opv g x with
  | some (.pointer (some a)) => some (.pointer (some a))
  | some (.func (.func i) a b) => some (.func (.func i) a b)
  | some (.func (.method name) a b) => (match a.toList with
   | .iface t _ :: _ => (match methodA P t name with | some _ => some (.func (.method name) a b) | none => none)
   | _ => none)
  | some (.func (.yield k) a b) => some (.func (.yield k) a b)
  | some (.iface t v) => some (.iface t v)
  | _ => none)⟩
 | .binOp op t x y _ => ⟨fun g _ => (match opv g x, opv g y with | some a, some b => binA P op t x y a b | _, _ => none)⟩
 | .unOp op _ x => ⟨fun g _ => (match opv g x with | some a => bif flatN 1 a then (match pureRun P (Op.unary op a) with | some v => bif flatN 1 v then some v else none | none => none) else none | none => none)⟩
 | .convert s d x => ⟨fun g h => (match opv g x with | some v => convertA P h s d v | none => none)⟩
 | .makeFunc fn first captured => ⟨fun g _ => (match fn, opvs g first.toList, opvs g captured.toList with
  | .func i, some a, some b => some (.func (.func i) a.toArray b.toArray)
  | .method name, some a, some b => some (.func (.method name) a.toArray b.toArray)
  | _, _, _ => none)⟩
 | .slice t x lo hi mx => ⟨fun g h => (match opv g x, optV g lo, optV g hi, optV g mx with
  | some v, some l, some r, some m => sliceA P h t v l r m
  | _, _, _, _ => none)⟩
 | .fieldAddr t x i => ⟨fun g _ => (match opv g x with | some v => fieldAddrA P t v i | none => none)⟩
 | .field t x i => ⟨fun g _ => (match opv g x with | some v => fieldA P t v i | none => none)⟩
 | .indexAddr t x i => ⟨fun g _ => (match opv g x, opv g i with | some v, some j => indexAddrA P t v j | _, _ => none)⟩
 | .index t x i => ⟨fun g _ => (match opv g x, opv g i with | some v, some j => indexA P t v j | _, _ => none)⟩
 | .lookup t x i ok => ⟨fun g h => (match opv g x, opv g i with | some v, some j => lookupA P h t v j ok | _, _ => none)⟩
 | .makeInterface t x => ⟨fun g _ => (match opv g x, P.underlying t with
  | some _, some (.interface _) => none
  | some v, some _ => some (.iface t v)
  | _, _ => none)⟩
 | .extract t i => ⟨fun g _ => (match opv g t with | some (.tuple vs) => vs[i]? | _ => none)⟩
 | .call c => ⟨fun g h => (match c.callee, c.argTypes.toList, opvs g c.args.toList with
  | .builtin .len, [t], some [x] => lenA P h t ty x
  | .builtin .cap, [t], some [.slice a n c] => (match P.underlying t, a with
   | some (.slice _), none => some (.int .i64 c)
   | some (.slice _), some ⟨_, _, none⟩ => bif Nat.ble n c then some (.int .i64 c) else none
   | _, _ => none)
  | .builtin .min, ats, some args => bif args.all (flatN 1) then (match pureRun P (Builtin.min_ ats.toArray ty args.toArray) with | some v => bif flatN 1 v then some v else none | none => none) else none
  | .builtin .max, ats, some args => bif args.all (flatN 1) then (match pureRun P (Builtin.max_ ats.toArray ty args.toArray) with | some v => bif flatN 1 v then some v else none | none => none) else none
  | _, _, _ => none)⟩
 | _ => ⟨fun _ _ => none⟩
def xq (P : Program) (o : Oper) (g : Nat → Value) (h : H) : Option Value :=
 (stX P o.type o.op).run g h
/-- does it read what may be written? -/
def readsHeap : Op → Bool
 | .load .. | .convert .. | .slice .. | .lookup .. | .call _ => true
 | _ => false

def rowOf (elem : TypeId) (cells : List Value) : Option AO :=
 match T.setMany .leaf 0 cells with
 | some c => some (.row cells.length c undef elem none true)
 | none => none
/-- operations that make one block out of their operands: what they make, and their result if that block is 'id' -/
structure SA where
 run : (Nat → Value) → Nat → Option (Value × AO)
def stA (P : Program) (op : Op) : SA :=
 match op with
 | .alloc e => ⟨fun _ id => (match zeroOf P e with
  | some z => bif flatN 6 z then (match rowOf e (vcells z) with | some r => some (.pointer (some ⟨id, 0, none⟩), r) | none => none) else none
  | none => none)⟩
 | .box e x => ⟨fun g id => (match opv g x with
  | some v => (match rowOf e (vcells v) with | some r => some (.pointer (some ⟨id, 0, none⟩), r) | none => none)
  | none => none)⟩
 | .makeMap _ none => ⟨fun _ id => some (.map (some id), .map [] 0)⟩
 | .makeSlice t l c => ⟨fun g id => (match opv g l, opv g c with
  | some a, some b => (match makeSliceA P t a b with | some (n, m, r) => some (.slice (some ⟨id, 0, none⟩) n m, r) | none => none)
  | _, _ => none)⟩
 | .buildSlice t n parts => ⟨fun g id => (match partsA g parts.toList with
  | some l => (match buildSliceA P t n l with | some r => some (.slice (some ⟨id, 0, none⟩) n n, r) | none => none)
  | none => none)⟩
 | _ => ⟨fun _ _ => none⟩
def xa (P : Program) (o : Oper) (g : Nat → Value) (id : Nat) : Option (Value × AO) :=
 (stA P o.op).run g id
/-- a function of the table: itself, and (where it is known without a walk) what a call comes to -/
structure FX where
 fn : Func
 ans : Option (List Value → H → Option (Value × H))
abbrev Tab := Nat → Option FX
/-- a function is called: one with a body, or one of the model's own over plain values -/
def calleeA (P : Program) (tab : Tab) (i : FuncId) (args : List Value) (h : H) : Option AN :=
 match tab i with
 | some fx => (match fx.fn.body with
  | some _ => some (.call i args h)
  | none => bif args.all (flatN 1) then (match pureRun P (callFunc i args.toArray) with
   | some (.value v) => bif flatN 1 v then some (.val v h) else none
   | _ => none) else none)
 | none => none
/-- the other operations -/
structure SW where
 run : (Nat → Value) → H → Option AN
def stW (P : Program) (tab : Tab) (op : Op) : SW :=
 match op with
 | .store t a x => ⟨fun g h => (match opv g a, opv g x with | some p, some v => ho (storeA P h t p v) | _, _ => none)⟩
 | .mapUpdate t m k x | .insert t m k x => ⟨fun g h => (match opv g m, opv g k, opv g x with | some a, some b, some c => ho (mapUpdateA P h t a b c) | _, _, _ => none)⟩
 | .call c => ⟨fun g h => (match opvs g c.args.toList with
  | some args => (match c.callee with
   | .builtin b => (match b, c.argTypes.toList, args with
    | .append, [t, tx], [s, x] => vh (appendA P h t tx s x)
    | .copy, [t, _], [d, x] => vh (copyA P h t d x)
    | .delete, [t, _], [m, k] => (match deleteA P h t m k with | some h' => some (.val (.tuple #[]) h') | none => none)
    | .clear, [t], [.slice (some ⟨k, off, _⟩) n _] =>
     (match P.underlying t with
     | some (.slice e) => (match zeroOf P e with
      | some z => bif flatN 6 z && Nat.ble 1 (vcells z).length then (match writeN h k off (repeatCells (vcells z) n) with | some h' => some (.val (.tuple #[]) h') | none => none) else none
      | none => none)
     | _ => none)
    | _, _, _ => none)
   | .value r => (match opv g r with
    | some (.func (.func i) first captured) => calleeA P tab i (first.toList ++ args ++ captured.toList) h
    | some (.func (.method name) first _) => (match first.toList ++ args with
     | .iface t v :: rest => (match methodA P t name with
      | some i => calleeA P tab i (v :: rest) h
      | none => none)
     | _ => none)
    | some (.func (.yield k) first captured) => bif first.toList.isEmpty && captured.toList.isEmpty then some (.round k args h) else none
    | _ => none)
   | .invoke r name => (match opv g r with
    | some (.iface t v) => (match methodA P t name with
     | some i => calleeA P tab i (v :: args) h
     | none => none)
    | _ => none))
  | none => none)⟩
 | .convert s d x => ⟨fun g h => (match opv g x with | some v => vh (bytesA P h s d v) | none => none)⟩
 | .defer c => ⟨fun g h => (match opvs g c.args.toList with
  | some args => (match c.callee with
   | .value r => (match opv g r with
    | some (.func (.func i) first captured) => some (.defer i (first.toList ++ args) captured.toList h)
    | _ => none)
   | _ => none)
  | none => none)⟩
 | _ => ⟨fun _ _ => none⟩
def xw (P : Program) (tab : Tab) (o : Oper) (g : Nat → Value) (h : H) : Option AN :=
 (stW P tab o.op).run g h
inductive X where
 | normal
 | exit (id : Nat)
 | ret
structure R where
 x : X
 f : F
 h : H

/-- is an operation with a guard wanted? -/
def wantedA (ops : Array Oper) (o : Oper) (g : Nat → Value) : Bool :=
 match o.guard with
 | none => true
 | some (j, want) => match ops[j]? with
  | some p => (match p.dst with
   | some d => (match g d with | .bool b => b == want | _ => false)
   | none => false)
  | none => false

def initF (n : Nat) (args : List Value) : Option F :=
 bif Nat.ble args.length n then (match T.setMany .leaf 0 args with | some t => some ⟨n, t, [], none⟩ | none => none) else none

def resOf (P : Program) (f : F) (h : H) : List ResultVar → Option (List Value)
 | [] => some []
 | .tmp t :: rs => (match resOf P f h rs with | some l => some (f.get t :: l) | none => none)
 | .cell a t :: rs => match loadA P h t (f.get a) with
  | some v => (match resOf P f h rs with | some l => some (v :: l) | none => none)
  | none => none
def resV : List Value → Value
 | [v] => v
 | l => .tuple l.toArray

/-- a deferred call -/
def deferA (tab : Tab) (rec : Code → F → H → Option R) (g : FuncId) (args : List Value) (h : H) : Option H :=
 match tab g with
 | some fx => match fx.fn.body with
  | some c => match initF fx.fn.ntmps args with
   | some f => match rec c f h with
    | some ⟨.normal, ⟨_, _, [], _⟩, h'⟩ | some ⟨.ret, ⟨_, _, [], _⟩, h'⟩ => (match fx.fn.results.toList with | [] => some h' | _ => none)
    | _ => none
   | none => none
  | none => none
 | none => none
def defersA (tab : Tab) (rec : Code → F → H → Option R) : List DE → H → Option H
 | [], h => some h
 | .call g args cap :: ds, h => match deferA tab rec g (args ++ cap) h with
  | some h' => defersA tab rec ds h'
  | none => none
 | .mark k :: ds, h => match h.heap.get k with
  | some (.defd false) => (match h.set k (.defd true) with | some h' => defersA tab rec ds h' | none => none)
  | _ => none
def setParams : List Tmp → List Value → F → Option F
 | [], [], f => some f
 | t :: ts, v :: vs, f => (match f.put (some t) v with | some f' => setParams ts vs f' | none => none)
 | _, _, _ => none
/-- a round of a range over a function: yield is called -/
def roundA (rec : Code → F → H → Option R) (k : Nat) (args : List Value) (h : H) : Option (Value × H) :=
 match h.heap.get k with
 | some (.loop .ready _ f ps assign body _) => match setParams ps args ⟨f.sz, f.t, [], some k⟩ with
  | some f0 => match rec assign f0 h with
   | some ⟨.normal, f1, h1⟩ => (match h1.heap.get k with
    | some (.loop .ready pd1 f' ps' as' bd' db') => (match h1.set k (.loop .busy pd1 f' ps' as' bd' db') with
     | some h2 => (match rec body f1 h2 with
      | some ⟨x, _, h3⟩ => (match h3.heap.get k with
       | some (.loop _ _ f'' ps'' as'' bd'' db'') =>
        (match x with
        | .normal => (match h3.set k (.loop .ready none f'' ps'' as'' bd'' db'') with | some h4 => some (.bool true, h4) | none => none)
        | .ret => (match h3.set k (.loop .done (some .ret) f'' ps'' as'' bd'' db'') with | some h4 => some (.bool false, h4) | none => none)
        | .exit id => (match h3.set k (.loop .done (some (.exit id)) f'' ps'' as'' bd'' db'') with | some h4 => some (.bool false, h4) | none => none))
       | _ => none)
      | none => none)
     | none => none)
    | _ => none)
   | _ => none
  | none => none
 | _ => none
/-- a call: rec walks the body -/
def callA (P : Program) (tab : Tab) (rec : Code → F → H → Option R) (g : FuncId) (args : List Value) (h : H) : Option (Value × H) :=
 match tab g with
 | some fx => match (match fx.ans with | some t => t args h | none => none) with
  | some r => some r
  | none => match fx.fn.body with
   | some c => match initF fx.fn.ntmps args with
    | some f => match rec c f h with
     | some ⟨.normal, f', h1⟩ | some ⟨.ret, f', h1⟩ => (match defersA tab rec f'.ds h1 with
      | some h' => (match resOf P f' h' fx.fn.results.toList with | some l => some (resV l, h') | none => none)
      | none => none)
     | _ => none
    | none => none
   | none => none
 | none => none

/-- one operation at a heap -/
def opA (P : Program) (tab : Tab) (rec : Code → F → H → Option R) (o : Oper) (f : F) (h : H) : Option (F × H) :=
 match kindOf P o.op with
 | 0 => (match xq P o f.get h with
  | some v => (match f.put o.dst v with | some f' => some (f', h) | none => none)
  | none => none)
 | 1 => (match xa P o f.get h.next with
  | some (v, r) => (match h.new r with
   | some (_, h') => (match f.put o.dst v with | some f' => some (f', h') | none => none)
   | none => none)
  | none => none)
 | _ => (match xw P tab o f.get h with
  | some (.val v h') => (match f.put o.dst v with | some f' => some (f', h') | none => none)
  | some (.skip h') => (match f.put o.dst undef with | some f' => some (f', h') | none => none)
  | some (.call g args h1) => (match callA P tab rec g args h1 with
   | some (v, h') => (match f.put o.dst v with | some f' => some (f', h') | none => none)
   | none => none)
  | some (.defer g args cap h') => (match f.rd with
   | none => (match (F.mk f.sz f.t (.call g args cap :: f.ds) none).put o.dst undef with | some f' => some (f', h') | none => none)
   | some _ => none)
  | some (.round k args h1) => (match roundA rec k args h1 with
   | some (v, h') => (match f.put o.dst v with | some f' => some (f', h') | none => none)
   | none => none)
  | none => none)

def opsA (P : Program) (tab : Tab) (rec : Code → F → H → Option R) (ops : Array Oper) : List Oper → F → H → Option (F × H)
 | [], f, h => some (f, h)
 | o :: rest, f, h =>
  match wantedA ops o f.get with
  | true => (match opA P tab rec o f h with
   | some (f', h') => opsA P tab rec ops rest f' h'
   | none => none)
  | false => (match f.put o.dst undef with | some f' => opsA P tab rec ops rest f' h | none => none)

/-! ### regions that draw their order -/
/-- what stands (also through others) in front of each operation, as bits -/
def masksA : List Nat → List Oper → List Nat
 | acc, [] => acc
 | acc, o :: os => masksA (acc ++ [o.after.toList.foldl (fun s e => bif Region.binds .any e then s ||| 2 ^ e.on ||| acc.getD e.on 0 else s) 0]) os
def edgesB : Nat → List Oper → Bool
 | _, [] => true
 | i, o :: os => (o.after.toList.all fun e => !Region.binds .any e || Nat.blt e.on i) && edgesB (i + 1) os
/-- operation j (mask m) against the ones ahead of it -/
def pairB (ops : Array Oper) (oj : Oper) (m : Nat) : Nat → List Oper → Bool
 | _, [] => true
 | i, oi :: os => (oi.apart ops oj || m.testBit i) && pairB ops oj m (i + 1) os
def pairsB (ops : Array Oper) : List Oper → List Oper → List Nat → Bool
 | _, [], _ => true
 | done, o :: os, m :: ms => pairB ops o m 0 done && pairsB ops (done ++ [o]) os ms
 | _, _, [] => false
def drawOk (ops : Array Oper) : Bool := edgesB 0 ops.toList && pairsB ops [] ops.toList (masksA [] ops.toList)

def allEq (eq : Value → Value → Bool) : List Value → List Value → Bool
 | [], [] => true
 | a :: as, b :: bs => eq a b && allEq eq as bs
 | _, _ => false
def veq : Nat → Value → Value → Bool
 | 0, _, _ => false
 | n + 1, x, y => match x, y with
  | .bool a, .bool b => a == b
  | .int k a, .int l b => decide (k = l) && decide (a = b)
  | .string a, .string b => bytesEq a.data.toList b.data.toList
  | .pointer a, .pointer b => decide (a = b)
  | .slice a n c, .slice b m d => decide (a = b) && Nat.beq n m && Nat.beq c d
  | .map a, .map b => decide (a = b)
  | .nilFunc, .nilFunc => true
  | .nilIface, .nilIface => true
  | .func f a b, .func g c d => decide (f = g) && allEq (veq n) a.toList c.toList && allEq (veq n) b.toList d.toList
  | .iface t v, .iface u w => Nat.beq t u && veq n v w
  | .agg a, .agg b => allEq (veq n) a.toList b.toList
  | .tuple a, .tuple b => allEq (veq n) a.toList b.toList
  | _, _ => false

/-- an operation that has read: its number, itself, the frame in front of it, what it read -/
structure QE where
 i : Nat
 m : Nat
 o : Oper
 g : F
 v : Value
/-- a block that an operation makes -/
structure PE where
 i : Nat
 id : Nat
 r : AO
structure D where
 f : F
 h : H
 old : List H
 ws : List Nat
 made : List PE
 qs : List QE
 nid : Nat

/-- the blocks that the operations of m have made: laid where they aren't yet -/
def activate (m : Nat) : List PE → H → Option H
 | [], h => some h
 | p :: ps, h => bif m.testBit p.i then (match h.heap.get p.id with
   | some _ => activate m ps h
   | none => (match h.set p.id p.r with | some h' => activate m ps h' | none => none)) else activate m ps h
def activateAll : List PE → H → Option H
 | [], h => some h
 | p :: ps, h => (match h.heap.get p.id with
   | some _ => activateAll ps h
   | none => (match h.set p.id p.r with | some h' => activateAll ps h' | none => none))
def xqAt (P : Program) (m : Nat) (made : List PE) (o : Oper) (g : F) (h : H) : Option Value :=
 match activate m made h with
 | some h' => xq P o g.get h'
 | none => none
def sameAt (P : Program) (m : Nat) (made : List PE) (o : Oper) (g : F) (v : Value) : List H → Bool
 | [] => true
 | h :: hs => (match xqAt P m made o g h with | some u => veq 7 v u | none => false) && sameAt P m made o g v hs
/-- how many of the writing operations (latest first) need not stand ahead -/
def freeW (m : Nat) : List Nat → Nat
 | [] => 0
 | j :: js => bif m.testBit j then 0 else freeW m js + 1
def qsOk (P : Program) (m : Nat) (made : List PE) (h : H) : List QE → Bool
 | [] => true
 | q :: qs => (m.testBit q.i || (match xqAt P q.m made q.o q.g h with | some u => veq 7 q.v u | none => false)) && qsOk P m made h qs

/-- an operation that writes or calls -/
def wrA (P : Program) (tab : Tab) (rec : Code → F → H → Option R) (o : Oper) (f : F) (h : H) : Option (Value × H) :=
 match xw P tab o f.get h with
 | some (.val v h') => some (v, h')
 | some (.skip h') => some (undef, h')
 | some (.call g args h1) => callA P tab rec g args h1
 | some (.round k args h1) => roundA rec k args h1
 | _ => none

def drawStep (P : Program) (tab : Tab) (rec : Code → F → H → Option R) (ops : Array Oper) (i m : Nat) (o : Oper) (d : D) : Option D :=
 match wantedA ops o d.f.get with
 | false => (match d.f.put o.dst undef with | some f' => some { d with f := f' } | none => none)
 | true => match kindOf P o.op with
  | 0 => bif readsHeap o.op then
    (match xqAt P m d.made o d.f d.h with
    | some v => (match d.f.put o.dst v with
     | some f' => bif sameAt P m d.made o d.f v (d.old.take (freeW m d.ws)) then some { d with f := f', qs := ⟨i, m, o, d.f, v⟩ :: d.qs } else none
     | none => none)
    | none => none)
   else (match xq P o d.f.get d.h with
    | some v => (match d.f.put o.dst v with | some f' => some { d with f := f' } | none => none)
    | none => none)
  | 1 => (match xa P o d.f.get d.nid with
   | some (v, r) => (match d.f.put o.dst v with
    | some f' => some { d with f := f', made := ⟨i, d.nid, r⟩ :: d.made, nid := d.nid + 1 }
    | none => none)
   | none => none)
  | _ => bif (match d.ws with | [] => true | j :: _ => m.testBit j) then
    (match activate m d.made d.h with
    | some g => (match wrA P tab rec o d.f g with
     | some (v, h') => (match d.f.put o.dst v with
      | some f' => bif qsOk P m d.made h' d.qs then some { d with f := f', h := h', old := d.h :: d.old, ws := i :: d.ws } else none
      | none => none)
     | none => none)
    | none => none)
   else none
def drawGo (P : Program) (tab : Tab) (rec : Code → F → H → Option R) (ops : Array Oper) : Nat → List Oper → List Nat → D → Option D
 | _, [], _, d => some d
 | i, o :: os, m :: ms, d => (match drawStep P tab rec ops i m o d with | some d' => drawGo P tab rec ops (i + 1) os ms d' | none => none)
 | _, _, [], _ => none
def allocs (P : Program) (ops : List Oper) : Nat := (ops.filter fun o => Nat.beq (kindOf P o.op) 1).length
def drawA (P : Program) (tab : Tab) (rec : Code → F → H → Option R) (ops : Array Oper) (f : F) (h : H) : Option (F × H) :=
 bif drawOk ops then
  match drawGo P tab rec ops 0 ops.toList (masksA [] ops.toList) ⟨f, ⟨h.heap, h.next + allocs P ops.toList⟩, [], [], [], [], h.next⟩ with
  | some d => bif Nat.ble d.nid (h.next + allocs P ops.toList) then (match activateAll d.made d.h with | some h' => some (d.f, h') | none => none) else none
  | none => none
 else none

def codeA (P : Program) (tab : Tab) : Nat → Code → F → H → Option R
 | 0, _, _, _ => none
 | n + 1, c, f, h =>
  match c with
  | .skip => some ⟨.normal, f, h⟩
  | .label _ => some ⟨.normal, f, h⟩
  | .ret => some ⟨.ret, f, h⟩
  | .exit id => some ⟨.exit id, f, h⟩
  | .seq a b => (match codeA P tab n a f h with
   | some ⟨.normal, f', h'⟩ => codeA P tab n b f' h'
   | r => r)
  | .cond x a b => (match opv f.get x with
   | some (.bool true) => codeA P tab n a f h
   | some (.bool false) => codeA P tab n b f h
   | _ => none)
  | .block id b => (match codeA P tab n b f h with
   | some ⟨.exit i, f', h'⟩ => bif Nat.beq i id then some ⟨.normal, f', h'⟩ else some ⟨.exit i, f', h'⟩
   | r => r)
  | .loop b => (match codeA P tab n b f h with
   | some ⟨.normal, f', h'⟩ => codeA P tab n (.loop b) f' h'
   | r => r)
  | .scope b => codeA P tab n b f h
  | .region _ ops false => (match opsA P tab (codeA P tab n) ops ops.toList f h with | some (f', h') => some ⟨.normal, f', h'⟩ | none => none)
  | .region _ ops true => (match drawA P tab (codeA P tab n) ops f h with | some (f', h') => some ⟨.normal, f', h'⟩ | none => none)
  | .rangeFunc g ps assign body => (match opv f.get g with
   | some (.func (.func i) first captured) =>
    let l : Option (Nat × Option Nat × H) := match f.rd with
     | none => (match h.new (.defd false) with
      | some (d, h1) => (match h1.new (.loop .ready none ⟨f.sz, f.t, [], none⟩ ps.toList assign body d) with | some (k, h2) => some (k, some d, h2) | none => none)
      | none => none)
     | some r => (match h.heap.get r with
      | some (.loop _ _ _ _ _ _ d) => (match h.new (.loop .ready none ⟨f.sz, f.t, [], none⟩ ps.toList assign body d) with | some (k, h2) => some (k, none, h2) | none => none)
      | _ => none)
    match l with
    | some (k, md, h2) => (match callA P tab (codeA P tab n) i (first.toList ++ .func (.yield k) #[] #[] :: captured.toList) h2 with
     | some (_, h3) => (match h3.heap.get k with
      | some (.loop st pd f' ps' as' bd' db') => (match st with
       | .busy => none
       | _ => (match h3.set k (.loop .exhausted pd f' ps' as' bd' db') with
        | some h4 =>
         let f1 : F := match md with | some d => ⟨f.sz, f.t, .mark d :: f.ds, f.rd⟩ | none => f
         (match pd with
         | none => some ⟨.normal, f1, h4⟩
         | some c => codeA P tab n c f1 h4)
        | none => none))
      | _ => none)
     | none => none)
    | none => none
   | _ => none)
  | _ => none
end
end Go.Proofs.YtflnpcgnenhogaaGreatDoor.ev
