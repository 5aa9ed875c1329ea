/- What the parts of a run and its events come to, as plain functions (after the program's text). No program in sight. -/
import Derived.Test.YtjpaoadbgmmoeaaWP1
namespace Go.Proofs.Ytjpaoadbgmmoeaa

def inB (x lo hi : Int) : Bool := decide (lo ≤ x) && decide (x ≤ hi)
def bl (s : Bs) : Int := (s.length : Int)

/-! ### the receiving side -/
def Pc.fin (p : Pc) : Int := p.off + bl p.data
def Rv.fin (r : Rv) : Int := match r.pieces.getLast? with
  | none => r.read
  | some p => p.fin
def rvLast (r : Rv) (i : Nat) : Int := if i = 0 then r.read - 1 else (r.pieces.getD (i - 1) default).fin
def rvAt (r : Rv) (i : Nat) : Bool := !(r.pieces.getD i default).data.isEmpty && (decide (rvLast r i < (r.pieces.getD i default).off) && decide (bl (r.pieces.getD i default).data ≤ r.limit - (r.pieces.getD i default).off))
def rvTo (r : Rv) (k : Nat) : Bool := (List.range k).all (rvAt r)
def rvValid (r : Rv) : Bool := (inB r.limit 0 30 && inB r.read 0 r.limit) && (rvTo r r.pieces.length && (decide (r.final = -1) || inB r.final r.fin r.limit))
def Pc.holds (p : Pc) (x : Int) : Bool := inB x p.off (p.fin - 1)
/-- The byte at an offset that waits to be read. -/
def waits (r : Rv) (x : Int) : Option UInt8 := match r.pieces.find? (·.holds x) with
  | none => none
  | some p => some (p.data.getD (x - p.off).toNat 0)
def clash (r : Rv) (off : Int) (data : Bs) : Bool := (List.range data.length).any fun i => match waits r (off + i) with
  | none => false
  | some c => c != data.getD i 0
def joinPc (q p : Pc) : Pc :=
  let p1 : Pc := if q.off < p.off then ⟨q.off, q.data.take (p.off - q.off).toNat ++ p.data⟩ else p
  if p1.fin < q.fin then ⟨p1.off, p1.data ++ q.data.drop (p1.fin - q.off).toNat⟩ else p1
def mrgM : List Pc → Pc → List Pc
  | [], p => [p]
  | q :: t, p => if q.off ≤ p.fin then mrgM t (joinPc q p) else p :: q :: t
def mrg : List Pc → Pc → List Pc
  | [], p => [p]
  | q :: t, p => if q.fin < p.off then q :: mrg t p else mrgM (q :: t) p
/-- Receiving data: a valid side, an offset from 0 to 30. -/
def rvPut (r : Rv) (off : Int) (data : Bs) (fin : Bool) : Rv × Int :=
  let fi := off + bl data
  if r.limit < fi then (r, 1)
  else if (fin && ((decide (r.final ≠ -1) && decide (r.final ≠ fi)) || decide (fi < r.fin))) || (!fin && (decide (r.final ≠ -1) && decide (r.final < fi))) then (r, 2)
  else if clash r off data then (r, 3)
  else
    let r1 : Rv := if fin then { r with final := fi } else r
    let skip := max 0 (r.read - off)
    if skip < bl data then ({ r1 with pieces := mrg r.pieces ⟨off + skip, data.drop skip.toNat⟩ }, 0) else (r1, 0)
def rvReady (r : Rv) : Int := match r.pieces with
  | [] => 0
  | p :: _ => if r.read < p.off then 0 else bl p.data
def rvRead (r : Rv) (n : Int) : Rv × Bs :=
  let k := min n (rvReady r)
  match r.pieces with
  | [] => (r, [])
  | p :: t => if k = 0 then (r, []) else
      ({ r with read := r.read + k, pieces := if p.data.drop k.toNat = [] then t else ⟨p.off + k, p.data.drop k.toNat⟩ :: t }, p.data.take k.toNat)

/-! ### the sending side -/
def Sd.many (s : Sd) : Int := if s.fin then bl s.data + 1 else bl s.data
/-- All numbers of a set are below a bound. -/
def topB (l : List Rg) (x : Int) : Bool := match l.getLast? with
  | none => true
  | some r => decide (r.hi < x)
def apartTo (a b : List Rg) (k : Nat) : Bool := (List.range k).all fun i => !(hasR a i && hasR b i)
def sdValid (s : Sd) : Bool :=
  (decide (bl s.data ≤ 30) && (inB s.limit 0 30 && (inB s.next 0 s.many && decide (min s.next (bl s.data) ≤ s.limit)))) &&
  ((rgValid s.acked && topB s.acked s.next) && ((rgValid s.lost && topB s.lost s.next) && apartTo s.acked s.lost s.next.toNat))
def Pt.last (p : Pt) : Int := if p.fin then p.off + bl p.data else p.off + bl p.data - 1
def sent (s : Sd) (p : Pt) : Bool :=
  ((inB p.off 0 30 && decide (p.off ≤ p.last)) && (decide (p.last < s.next) && decide (p.off ≤ bl s.data))) &&
  ((!p.fin || (s.fin && decide (p.off + bl p.data = bl s.data))) && (s.data.drop p.off.toNat).take p.data.length == p.data)
def sdWrite (s : Sd) (d : Bs) : Sd := if s.fin || decide (30 < bl s.data + bl d) then s else { s with data := s.data ++ d }
/-- The next part to be sent, with at most 'size' bytes. -/
def sdNext (s : Sd) (size : Int) : Option (Sd × Pt) :=
  let first := match s.lost with | [] => s.next | r :: _ => r.lo
  let last := match s.lost with | [] => s.many - 1 | r :: _ => r.hi
  let stop := match s.lost with | [] => min (min (last + 1) (bl s.data)) s.limit | _ :: _ => min (last + 1) (bl s.data)
  let fi := max first (min stop (first + size))
  let f := decide (last = bl s.data) && (decide (fi = bl s.data) && decide (first ≤ last))
  if fi = first && !f then none
  else
    let p : Pt := ⟨first, (s.data.drop first.toNat).take (fi - first).toNat, f⟩
    match s.lost with
    | [] => some ({ s with next := p.last + 1 }, p)
    | _ :: _ => some ({ s with lost := remP s.lost first p.last }, p)
def sdAck (s : Sd) (p : Pt) : Sd := { s with acked := addP s.acked p.off p.last, lost := remP s.lost p.off p.last }
/-- The k positions from x on that were not acknowledged are lost. -/
def loseTo (a : List Rg) (l : List Rg) (x : Int) : Nat → List Rg
  | 0 => l
  | k + 1 => let m := loseTo a l x k; if hasR a (x + k) then m else addP m (x + k) (x + k)
def sdLoss (s : Sd) (p : Pt) : Sd := { s with lost := loseTo s.acked s.lost p.off (p.last + 1 - p.off).toNat }

/-! ### paths -/
def pkAt (l : Ls) (i : Nat) : Bool :=
  let p := l.flight.getD i default
  (inB p.num 0 (l.next - 1) && (decide (p.num ≠ l.largest) && (inB p.time 0 999 && inB p.size 1 99))) &&
  (decide (i = 0) || (decide ((l.flight.getD (i - 1) default).num < p.num) && decide ((l.flight.getD (i - 1) default).time ≤ p.time)))
def pkTo (l : Ls) (k : Nat) : Bool := (List.range k).all (pkAt l)
def lsValid (l : Ls) : Bool := ((inB l.next 0 1000 && inB l.largest (-1) (l.next - 1)) && decide (l.flight.length ≤ 12)) && pkTo l l.flight.length
/-- Sending a packet on a valid path. -/
def lsSend (l : Ls) (time size : Int) : Option (Ls × Int) :=
  if decide (999 < l.next) || (decide (l.flight.length = 12) || (match l.flight.getLast? with | none => false | some p => decide (time < p.time))) then none
  else some ({ l with flight := l.flight ++ [⟨l.next, time, size⟩], next := l.next + 1 }, l.next)
def topOf (l : List Rg) : Int := match l.getLast? with | none => -1 | some r => r.hi
def isDone (acked : List Rg) (p : Pk) : Bool := hasR acked p.num
def isLost (acked : List Rg) (largest now delay : Int) (p : Pk) : Bool := !hasR acked p.num && (decide (p.num < largest) && (decide (p.num ≤ largest - 3) || decide (p.time ≤ now - delay)))
/-- An acknowledgement of a set whose numbers were all sent. -/
def lsAck (l : Ls) (acked : List Rg) (now delay : Int) : Ls × List Int × List Int :=
  let top := max l.largest (topOf acked)
  (⟨l.next, l.flight.filter fun p => !isDone acked p && !isLost acked top now delay p, top⟩, (l.flight.filter (isDone acked)).map Pk.num, (l.flight.filter (isLost acked top now delay)).map Pk.num)
def rtZero : Rt := ⟨0, 0, 0, 0⟩
def rtValid (r : Rt) : Bool := decide (r = rtZero) || ((inB r.latest 1 999 && inB r.least 1 r.latest) && (inB r.smooth 8 7999 && inB r.vary 0 3999))
def rtUpd (r : Rt) (x : Int) : Rt :=
  if r = rtZero then ⟨x, x, 8 * x, 2 * x⟩
  else ⟨x, min r.least x, r.smooth + (x - r.smooth / 8), r.vary + (max (r.smooth / 8 - x) (-(r.smooth / 8 - x)) - r.vary / 4)⟩
def rtDelay (r : Rt) : Int := let n := if r = rtZero then 100 else max (r.smooth / 8) r.latest; n + n / 8
def wnOk (x : Wn) : Bool := (inB x.size 1 64 && inB x.thr 1 64) && (inB x.credit 0 999 && inB x.rtt 1 99)
def wnsValid (l : List Wn) : Bool := l.all wnOk && inB (l.length : Int) 1 4
def wnBest (l : List Wn) : Int := l.foldl (fun b x => max b (x.size * 100000000 / (x.rtt * x.rtt))) 0
def wnSum (l : List Wn) : Int := l.foldl (fun b x => b + x.size * 10000 / x.rtt) 0
def wnInc (l : List Wn) (i : Nat) : Int := min (1000 * wnBest l / (wnSum l * wnSum l)) (1000 / (l.getD i default).size)
def wnAck (l : List Wn) (i : Nat) : List Wn :=
  let x := l.getD i default
  if x.size < x.thr then l.set i { x with size := x.size + 1 }
  else
    let c := x.credit + wnInc l i
    if 1000 ≤ c then l.set i { x with credit := c - 1000, size := min (x.size + 1) 64 } else l.set i { x with credit := c }
def wnLoss (l : List Wn) (i : Nat) : List Wn := let x := l.getD i default; let h := max 1 (x.size / 2); l.set i { x with size := h, thr := h, credit := 0 }

/-! ### frames -/
def fieldsOk (f : Fm) (a b c : Int) : Bool := inB f.a 0 a && (inB f.b 0 b && inB f.c 0 c)
def fmValid (f : Fm) : Bool :=
  ((decide (f.data.length ≤ 12) && (f.data.isEmpty || (decide (f.kind = 3) || decide (f.kind = 9)))) && (f.ranges.isEmpty || decide (f.kind = 2))) &&
  (if f.kind = 0 ∨ f.kind = 1 ∨ f.kind = 9 then fieldsOk f 0 0 0
   else if f.kind = 2 then fieldsOk f 3 0 0 && (!f.ranges.isEmpty && rgValid f.ranges)
   else if f.kind = 3 then fieldsOk f 2 (30 - bl f.data) 1
   else if f.kind = 4 then fieldsOk f 2 30 0
   else if f.kind = 5 ∨ f.kind = 6 then fieldsOk f 9999 0 0
   else if f.kind = 7 then fieldsOk f 15 9999 0
   else if f.kind = 8 then fieldsOk f 15 0 0
   else if f.kind = 10 then fieldsOk f 99 0 0
   else false)
def fmPart (f : Fm) : Pt := ⟨f.b, f.data, decide (f.c = 1)⟩

/-! ### runs -/
def Wd.sd (W : Wd) (i : Int) : Sd := W.sends.getD i.toNat default
def Wd.rv (W : Wd) (i : Int) : Rv := W.recvs.getD i.toNat default
def Wd.ls (W : Wd) (p : Int) : Ls := W.paths.getD p.toNat default
def Wd.rt (W : Wd) (p : Int) : Rt := W.rtts.getD p.toNat default
def Wd.sn (W : Wd) (p : Int) : List Rg := W.seen.getD p.toNat default
def wdZero : Wd := ⟨0, [], [], [], [], [], [], [], [], []⟩
def gotIt (s : Sd) (r : Rv) (x : Int) : Bool := if x = bl s.data then decide (r.final = x) else decide (x < r.read) || (waits r x).isSome
def gotPart (s : Sd) (r : Rv) (p : Pt) : Bool := (List.range (p.last + 1 - p.off).toNat).all fun i => gotIt s r (p.off + i)
def streamOk (s : Sd) (r : Rv) (g : Bs) : Bool :=
  ((sdValid s && rvValid r) && ((decide (bl g = r.read) && (s.data.take g.length == g)) && decide (s.limit ≤ r.limit))) &&
  ((decide (r.fin ≤ min s.next (bl s.data)) && r.pieces.all fun p => (s.data.drop p.off.toNat).take p.data.length == p.data) &&
   (((List.range s.next.toNat).all fun i => !hasR s.acked i || gotIt s r i) && (decide (r.final = -1) || (s.fin && (decide (r.final = bl s.data) && decide (s.next = bl s.data + 1))))))
/-- A packet in flight on path p, and the part that it carries. -/
def flightOk (W : Wd) (p : Int) (k : Pk) (c : Cd) : Bool :=
  (decide (k.time ≤ W.now) && ((decide (c.path = p) && decide (c.num = k.num)) && inB c.stream 0 2)) &&
  (sent (W.sd c.stream) c.part && (!hasR (W.sn p) c.num || gotPart (W.sd c.stream) (W.rv c.stream) c.part))
def flightsOk (W : Wd) (p : Int) : List Pk → List Cd → Option (List Cd)
  | [], cs => some cs
  | _ :: _, [] => none
  | k :: t, c :: cs => if flightOk W p k c then flightsOk W p t cs else none
def pathOk (W : Wd) (p : Int) : Bool := (lsValid (W.ls p) && rtValid (W.rt p)) && (rgValid (W.sn p) && topB (W.sn p) (W.ls p).next)
def pathsOk (W : Wd) : Nat → List Cd → Option (List Cd)
  | 0, cs => some cs
  | p + 1, cs => match pathsOk W p cs with
    | none => none
    | some r => if pathOk W (p : Nat) then flightsOk W (p : Nat) (W.ls (p : Nat)).flight r else none
def carAt (W : Wd) (p n : Int) : Option Nat := W.carried.findIdx? fun c => decide (c.path = p) && decide (c.num = n)
def ackOk (W : Wd) (f : Fm) : Bool := topB f.ranges (W.ls f.a).next && W.carried.all fun c => !(decide (c.path = f.a) && hasR f.ranges c.num) || gotPart (W.sd c.stream) (W.rv c.stream) c.part
def wireOk (W : Wd) (x : Wi) : Bool :=
  (inB x.path 0 3 && (fmValid x.frame && inB x.num (-1) 999)) &&
  (!x.genuine ||
   (if x.frame.kind = 3 then (inB x.num 0 ((W.ls x.path).next - 1) && sent (W.sd x.frame.a) (fmPart x.frame)) && (match carAt W x.path x.num with
      | none => true
      | some k => decide ((W.carried.getD k default).stream = x.frame.a) && decide ((W.carried.getD k default).part = fmPart x.frame))
    else if x.frame.kind = 4 then decide (x.num = -1) && decide (x.frame.b ≤ (W.rv x.frame.a).limit)
    else if x.frame.kind = 2 then decide (x.num = -1) && ackOk W x.frame
    else false))
def sizesOk (W : Wd) : Bool := (inB W.now 0 999 && (decide (W.sends.length = 3) && (decide (W.recvs.length = 3) && decide (W.got.length = 3)))) &&
  ((decide (W.paths.length = 4) && (decide (W.rtts.length = 4) && (decide (W.windows.length = 4) && decide (W.seen.length = 4)))) && (wnsValid W.windows && decide (W.net.length ≤ 10)))
def wdValid (W : Wd) : Bool :=
  (sizesOk W && (List.range 3).all fun i => streamOk (W.sends.getD i default) (W.recvs.getD i default) (W.got.getD i default)) &&
  (decide (pathsOk W 4 W.carried = some []) && W.net.all (wireOk W))
def sd0 (limit : Int) : Sd := ⟨[], false, limit, 0, [], []⟩
def rv0 (limit : Int) : Rv := ⟨0, [], -1, limit⟩
def wdNew (limit : Int) : Wd := ⟨0, List.replicate 3 (sd0 limit), List.replicate 3 (rv0 limit), List.replicate 3 [], List.replicate 4 ⟨0, [], -1⟩, List.replicate 4 rtZero, [⟨4, 8, 0, 10⟩, ⟨4, 8, 0, 20⟩, ⟨4, 8, 0, 30⟩, ⟨4, 8, 0, 40⟩], List.replicate 4 [], [], []⟩

/-! ### events -/
structure Ev where
  kind : Int
  a : Int
  b : Int
  c : Int
  data : Bs
  frame : Fm
deriving DecidableEq, Inhabited
def post (W : Wd) (x : Wi) : Wd := if W.net.length < 10 then { W with net := W.net ++ [x] } else W
def dropCd (W : Wd) (p n : Int) : Option (Cd × Wd) := match carAt W p n with
  | none => none
  | some k => some (W.carried.getD k default, { W with carried := W.carried.eraseIdx k })
def loseOne (W : Wd) (p n : Int) : Wd := match dropCd W p n with
  | none => W
  | some (c, V) => { V with sends := V.sends.set c.stream.toNat (sdLoss (V.sd c.stream) c.part) }
def ackOne (W : Wd) (p n : Int) : Wd := match dropCd W p n with
  | none => W
  | some (c, V) => { V with sends := V.sends.set c.stream.toNat (sdAck (V.sd c.stream) c.part), windows := wnAck V.windows p.toNat }
def loseAll (W : Wd) (p : Int) (l : List Int) : Wd := l.foldl (fun V n => loseOne V p n) W
def ackAll (W : Wd) (p : Int) (l : List Int) : Wd := l.foldl (fun V n => ackOne V p n) W
def doTimeout (W : Wd) (p : Int) : Wd :=
  let fl := (W.ls p).flight
  let V := loseAll { W with paths := W.paths.set p.toNat { W.ls p with flight := [] } } p (fl.map Pk.num)
  if fl.isEmpty then V else { V with windows := wnLoss V.windows p.toNat }
def timeOf (fl : List Pk) (n : Int) : Option Int := (fl.find? fun k => decide (k.num = n)).map Pk.time
def doAck (W : Wd) (p : Int) (acked : List Rg) : Wd :=
  let (l, done, lost) := lsAck (W.ls p) acked W.now (rtDelay (W.rt p))
  let V := loseAll (ackAll { W with paths := W.paths.set p.toNat l } p done) p lost
  let U := if lost.isEmpty then V else { V with windows := wnLoss V.windows p.toNat }
  match done.getLast? with
  | none => U
  | some n => match timeOf (W.ls p).flight n with
    | none => U
    | some t => if t < W.now then { U with rtts := U.rtts.set p.toNat (rtUpd (W.rt p) (W.now - t)) } else U
def seenAdd (l : List Rg) (n : Int) : List Rg := let m := addP l n n; if 16 < m.length then m.drop 1 else m
def deliver (W : Wd) (x : Wi) : Wd :=
  if !x.genuine then W
  else if x.frame.kind = 3 then
    if hasR (W.sn x.path) x.num then W
    else { W with recvs := W.recvs.set x.frame.a.toNat (rvPut (W.rv x.frame.a) x.frame.b x.frame.data (decide (x.frame.c = 1))).1, seen := W.seen.set x.path.toNat (seenAdd (W.sn x.path) x.num) }
  else if x.frame.kind = 4 then { W with sends := W.sends.set x.frame.a.toNat { W.sd x.frame.a with limit := max (W.sd x.frame.a).limit x.frame.b } }
  else if x.frame.kind = 2 then doAck W x.frame.a x.frame.ranges
  else W
def doSend (W : Wd) (i p size : Int) : Wd :=
  if !(inB i 0 2 && inB p 0 3) || decide ((W.windows.getD p.toNat default).size ≤ ((W.ls p).flight.length : Int)) || !inB size 1 12 then W
  else match sdNext (W.sd i) size with
    | none => W
    | some (s, q) => match lsSend (W.ls p) W.now (5 + bl q.data) with
      | none => W
      | some (l, n) =>
        let at_ := (W.carried.takeWhile fun c => decide (c.path ≤ p)).length
        post { W with sends := W.sends.set i.toNat s, paths := W.paths.set p.toNat l, carried := W.carried.take at_ ++ ⟨p, n, i, q⟩ :: W.carried.drop at_ }
          ⟨p, n, ⟨3, i, q.off, if q.fin then 1 else 0, q.data, []⟩, true⟩
/-- An event, applied to a valid run. -/
def doW (W : Wd) (e : Ev) : Wd :=
  if e.kind = 1 ∨ e.kind = 2 ∨ e.kind = 8 ∨ e.kind = 9 then
    if !inB e.a 0 2 then W
    else if e.kind = 1 then { W with sends := W.sends.set e.a.toNat (sdWrite (W.sd e.a) e.data) }
    else if e.kind = 2 then { W with sends := W.sends.set e.a.toNat { W.sd e.a with fin := true } }
    else if e.kind = 8 then
      if inB e.b 0 30 then { W with recvs := W.recvs.set e.a.toNat (rvRead (W.rv e.a) e.b).1, got := W.got.set e.a.toNat (W.got.getD e.a.toNat [] ++ (rvRead (W.rv e.a) e.b).2) } else W
    else if inB e.b (W.rv e.a).limit 30 then post { W with recvs := W.recvs.set e.a.toNat { W.rv e.a with limit := e.b } } ⟨0, -1, ⟨4, e.a, e.b, 0, [], []⟩, true⟩ else W
  else if e.kind = 3 then doSend W e.a e.b e.c
  else if e.kind = 4 ∨ e.kind = 5 ∨ e.kind = 6 then
    if !inB e.a 0 ((W.net.length : Int) - 1) then W
    else if e.kind = 6 then post W (W.net.getD e.a.toNat default)
    else if e.kind = 4 then deliver { W with net := W.net.eraseIdx e.a.toNat } (W.net.getD e.a.toNat default)
    else { W with net := W.net.eraseIdx e.a.toNat }
  else if e.kind = 7 then
    if inB e.a 0 3 && !(W.sn e.a).isEmpty then post W ⟨e.a, -1, ⟨2, e.a, 0, 0, [], W.sn e.a⟩, true⟩ else W
  else if e.kind = 10 then if inB e.a 0 3 then doTimeout W e.a else W
  else if e.kind = 11 then { W with now := min (W.now + 1) 999 }
  else if e.kind = 12 then if inB e.a 0 3 && (inB e.b 0 999 && fmValid e.frame) then post W ⟨e.a, e.b, e.frame, false⟩ else W
  else W
def playW (W : Wd) (l : List Ev) : Wd := l.foldl doW W
end Go.Proofs.Ytjpaoadbgmmoeaa
