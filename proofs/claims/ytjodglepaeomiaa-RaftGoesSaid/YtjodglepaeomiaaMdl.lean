/- What a server of layer 27 is and does, in plain Lean: no walk. -/
namespace Go.Proofs.Ytjodglepaeomiaa

structure Ent where
  term : Int
  data : ByteArray
structure Mg where
  kind : Nat
  frm : Int
  to : Int
  term : Int
  index : Int
  logTerm : Int
  ents : List Ent
  commit : Int
  ok : Bool
structure Sv where
  id : Nat
  n : Nat
  term : Int
  vote : Int
  log : List Ent
  role : Nat
  leader : Int
  commit : Nat
  voters : Nat
  nx : List Nat
  mt : List Nat

def termAt (l : List Ent) : Nat → Int
  | 0 => 0
  | n + 1 => ((l[n]?).map Ent.term).getD 0
def rises : List Ent → Int → Int → Bool
  | [], _, _ => true
  | x :: r, least, most => !(decide (x.term < least) || decide (most < x.term) || decide (65536 < x.data.size)) && rises r x.term most
def Sv.send (S : Sv) (k : Nat) : Mg :=
  ⟨3, S.id, k, S.term, ((S.nx.getD k 0 - 1 : Nat) : Int), termAt S.log (S.nx.getD k 0 - 1), (S.log.take (min S.log.length (S.nx.getD k 0 - 1 + 16))).drop (S.nx.getD k 0 - 1), S.commit, false⟩
def Sv.ks (S : Sv) : List Nat := (List.range S.n).filter fun k => !decide (k = S.id)
def Sv.outs (S : Sv) : List Mg := S.ks.map S.send
def Sv.ask (S : Sv) (k : Nat) : Mg := ⟨1, S.id, k, S.term, S.log.length, termAt S.log S.log.length, [], 0, false⟩
def Sv.asks (S : Sv) : List Mg := S.ks.map S.ask
def Sv.have_ (S : Sv) (m : Nat) : Nat → Nat
  | 0 => 1
  | k + 1 => S.have_ m k + if k ≠ S.id ∧ m ≤ S.mt.getD k 0 then 1 else 0
def Sv.agr (S : Sv) : Nat → Nat
  | 0 => S.commit
  | m + 1 => if S.commit < m + 1 ∧ termAt S.log (m + 1) = S.term then (if S.n < 2 * S.have_ (m + 1) S.n then m + 1 else S.agr m) else S.commit
def Sv.agree (S : Sv) : Sv := { S with commit := S.agr S.log.length }
def setTo (v : Nat) : Nat → List Nat → List Nat
  | 0, l => l
  | k + 1, l => (setTo v k l).set k v
def Sv.put (S : Sv) (d : ByteArray) : Sv := { S with log := S.log ++ [⟨S.term, d⟩] }
def Sv.lead1 (S : Sv) : Sv := { S with role := 2, leader := S.id, nx := setTo (S.log.length + 1) S.n S.nx, mt := setTo 0 S.n S.mt }
def Sv.lead2 (S : Sv) : Sv := if S.log.length < 4096 then S.lead1.put ⟨#[]⟩ else S.lead1
def Sv.lead (S : Sv) : Sv := S.lead2.agree
def Sv.cand (S : Sv) : Sv := { S with term := S.term + 1, vote := S.id, role := 1, leader := -1, voters := 2 ^ S.id }
def Sv.tick (S : Sv) : Sv × List Mg :=
  if S.role = 2 then (S, S.outs) else if S.term = 1152921504606846976 then (S, [])
  else if S.n = 1 then (S.cand.lead, S.cand.lead.outs) else (S.cand, S.cand.asks)

def plB (kind : Nat) (bi bt bc bn ok : Bool) : Bool :=
  let ask := decide (kind = 1)
  let vote := decide (kind = 2)
  let app := decide (kind = 3)
  let told := decide (kind = 4)
  !((!ask && !vote && !app && !told) || (vote && !bi) || ((ask || app) && (bi != bt)) || ((vote || told) && !bt) || (!app && (bn || !bc)) || ((ask || app) && ok))
def Mg.plain (m : Mg) : Bool := plB m.kind (m.index == 0) (m.logTerm == 0) (m.commit == 0) (decide (0 < m.ents.length)) m.ok
def Sv.hears (S : Sv) (m : Mg) : Bool :=
  !(decide (m.to ≠ S.id) || (decide (m.frm < 0) || decide ((S.n : Int) ≤ m.frm) || decide (m.frm = S.id)) || (decide (m.term < 1) || decide (1152921504606846976 < m.term))
    || (decide (m.index < 0) || decide (4096 < m.index)) || (decide (m.logTerm < 0) || decide (m.term < m.logTerm)) || decide (m.commit < 0) || decide (4096 - m.index < (m.ents.length : Int)))
    && (m.plain && rises m.ents (max 1 m.logTerm) m.term)
def Sv.low (S : Sv) (t : Int) : Sv := { S with term := t, vote := -1, role := 0, leader := -1, voters := 0 }
def Sv.ans (S : Sv) (m : Mg) (kind : Nat) (index : Int) (ok : Bool) : Mg := ⟨kind, S.id, m.frm, S.term, index, 0, [], 0, ok⟩
def Sv.grants (S : Sv) (m : Mg) : Bool :=
  decide (m.term = S.term) && (decide (S.vote = -1) || decide (S.vote = m.frm)) && (decide (termAt S.log S.log.length < m.logTerm) || (decide (m.logTerm = termAt S.log S.log.length) && decide ((S.log.length : Int) ≤ m.index)))
def Sv.asked (S : Sv) (m : Mg) : Sv × List Mg :=
  if S.grants m then ({ S with vote := m.frm }, [S.ans m 2 0 true]) else (S, [S.ans m 2 0 false])
def ones (v : Nat) : Nat → Nat
  | 0 => 0
  | k + 1 => ones v k + if v.testBit k then 1 else 0
def Sv.vote1 (S : Sv) (k : Nat) : Sv := { S with voters := S.voters ||| 2 ^ k }
def Sv.voted (S : Sv) (m : Mg) : Sv × List Mg :=
  if S.role ≠ 1 ∨ m.term ≠ S.term ∨ m.ok = false then (S, [])
  else if 2 * ones (S.vote1 m.frm.toNat).voters 7 ≤ S.n then (S.vote1 m.frm.toNat, [])
  else ((S.vote1 m.frm.toNat).lead, (S.vote1 m.frm.toNat).lead.outs)
def differs (log : List Ent) : List Ent → Nat → Nat
  | [], _ => 0
  | x :: r, n => if log.length < n + 1 ∨ termAt log (n + 1) ≠ x.term then 0 else differs log r (n + 1) + 1
def Sv.foll (S : Sv) (k : Int) : Sv := { S with role := 0, leader := k }
def Sv.appended (S : Sv) (m : Mg) : Sv × List Mg :=
  if m.term < S.term then (S, [S.ans m 4 0 false]) else if S.role = 2 then (S, [])
  else if (S.log.length : Int) < m.index ∨ termAt S.log m.index.toNat ≠ m.logTerm then (S.foll m.frm, [S.ans m 4 (min (S.log.length : Int) (m.index - 1)) false])
  else if differs S.log m.ents m.index.toNat < m.ents.length then
    (if m.index.toNat + differs S.log m.ents m.index.toNat < S.commit then (S.foll m.frm, [])
    else ({ S.foll m.frm with log := S.log.take (m.index.toNat + differs S.log m.ents m.index.toNat) ++ m.ents.drop (differs S.log m.ents m.index.toNat), commit := max S.commit (min m.commit.toNat (m.index.toNat + m.ents.length)) },
      [S.ans m 4 ((m.index.toNat + m.ents.length : Nat) : Int) true]))
  else ({ S.foll m.frm with commit := max S.commit (min m.commit.toNat (m.index.toNat + m.ents.length)) }, [S.ans m 4 ((m.index.toNat + m.ents.length : Nat) : Int) true])
def Sv.back (S : Sv) (k i : Nat) : Sv := { S with nx := S.nx.set k (max (S.mt.getD k 0 + 1) (min (S.nx.getD k 0) (i + 1))) }
def Sv.has (S : Sv) (k i : Nat) : Sv := { S with mt := S.mt.set k (max (S.mt.getD k 0) i), nx := S.nx.set k (max (S.mt.getD k 0) i + 1) }
def Sv.told (S : Sv) (m : Mg) : Sv × List Mg :=
  if S.role ≠ 2 ∨ m.term ≠ S.term ∨ (m.ok = true ∧ (S.log.length : Int) < m.index) then (S, [])
  else if m.ok = false then (S.back m.frm.toNat m.index.toNat, [(S.back m.frm.toNat m.index.toNat).send m.frm.toNat])
  else if S.log.length < max (S.mt.getD m.frm.toNat 0) m.index.toNat + 1 then ((S.has m.frm.toNat m.index.toNat).agree, [])
  else ((S.has m.frm.toNat m.index.toNat).agree, [(S.has m.frm.toNat m.index.toNat).agree.send m.frm.toNat])
def Sv.up (S : Sv) (m : Mg) : Sv := if S.term < m.term then S.low m.term else S
def Sv.does (S : Sv) (m : Mg) : Sv × List Mg :=
  if m.kind = 1 then S.asked m else if m.kind = 2 then S.voted m else if m.kind = 3 then S.appended m else S.told m
def Sv.handle (S : Sv) (m : Mg) : Sv × List Mg := if S.hears m then (S.up m).does m else (S, [])
def Sv.propose (S : Sv) (d : ByteArray) : Sv × Nat × Int :=
  if S.role ≠ 2 then (S, 0, 270) else if 65536 < d.size then (S, 0, 2) else if S.log.length = 4096 then (S, 0, 7)
  else ((S.put d).agree, S.log.length + 1, 0)
def Sv.begin_ (id n : Nat) (term vote : Int) (log : List Ent) : Sv := ⟨id, n, term, vote, log, 0, -1, 0, 0, List.replicate 7 0, List.replicate 7 0⟩

/-- What holds of every server. -/
structure Sv.Ok (S : Sv) : Prop where
  id : S.id < S.n
  n : S.n ≤ 7
  t0 : 0 ≤ S.term
  t1 : S.term ≤ 1152921504606846976
  v0 : -1 ≤ S.vote
  v1 : S.vote < S.n
  len : S.log.length ≤ 4096
  log : rises S.log 1 S.term = true
  role : S.role ≤ 2
  l0 : -1 ≤ S.leader
  l1 : S.leader < 7
  com : S.commit ≤ S.log.length
  vot : S.voters < 128
  nxl : S.nx.length = 7
  mtl : S.mt.length = 7
  nx4 : ∀ k, S.nx.getD k 0 ≤ 4097
  mt4 : ∀ k, S.mt.getD k 0 ≤ 4096
  nx1 : S.role = 2 → ∀ k, k < S.n → 1 ≤ S.nx.getD k 0
  nxm : S.role = 2 → ∀ k, k < S.n → S.nx.getD k 0 ≤ S.log.length + 1
  mtm : S.role = 2 → ∀ k, k < S.n → S.mt.getD k 0 ≤ S.log.length
end Go.Proofs.Ytjodglepaeomiaa
