import Derived.Test.YtbdebjoagckcpaaAbP5
set_option linter.all false
set_option maxRecDepth 20000
namespace Go.Proofs.YtbdebjoagckcpaaAb
open Go
structure GRec where
  Term : Int
  Index : Int
  Data : (List UInt8)
deriving DecidableEq, Inhabited
instance : Rp GRec where
  sz := 3
  R F cs x := ∃ (a1 : Option Addr) (c1 : Nat), cs = [.int .i64 x.Term, .int .i64 x.Index, .slice a1 x.Data.length c1] ∧ SR F (.slice a1 x.Data.length c1) x.Data
  len h := by obtain ⟨a1, c1, rfl, _⟩ := h; rfl
  one h := by obtain ⟨a1, c1, rfl, _⟩ := h; repeat' (first | exact List.forall_mem_nil _ | refine List.forall_mem_cons.2 ⟨?_, ?_⟩ | rfl)
  mono h hle := by obtain ⟨a1, c1, rfl, h1⟩ := h; exact ⟨a1, c1, rfl, h1.mono hle⟩
theorem GRec.ofR {F : Heap} {cs : List Value} {x : GRec} (h : Rp.R F cs x) : ∃ (a1 : Option Addr) (c1 : Nat), cs = [.int .i64 x.Term, .int .i64 x.Index, .slice a1 x.Data.length c1] ∧ SR F (.slice a1 x.Data.length c1) x.Data := h
theorem GRec.toR {F : Heap} {x : GRec} {a1 : Option Addr} {c1 : Nat} (h1 : SR F (.slice a1 x.Data.length c1) x.Data) : Rp.R F [.int .i64 x.Term, .int .i64 x.Index, .slice a1 x.Data.length c1] x := ⟨a1, c1, rfl, h1⟩
theorem GRec.zeroR (F : Heap) : Rp.R F [.int .i64 0, .int .i64 0, .slice none 0 0] (({ Term := 0, Index := 0, Data := [] } : GRec)) := ⟨none, 0, rfl, SR.nil⟩
structure GPeer where
  Up : Bool
  Term : Int
  Vote : Int
  Commit : Int
  Role : Int
  Log : (List GRec)
  Votes : (List Bool)
  Next : (List Int)
  Match : (List Int)
deriving DecidableEq, Inhabited
instance : Rp GPeer where
  sz := 9
  R F cs x := ∃ (a1 : Option Addr) (c1 : Nat) (a2 : Option Addr) (c2 : Nat) (a3 : Option Addr) (c3 : Nat) (a4 : Option Addr) (c4 : Nat), cs = [.bool x.Up, .int .i64 x.Term, .int .i64 x.Vote, .int .i64 x.Commit, .int .i64 x.Role, .slice a1 x.Log.length c1, .slice a2 x.Votes.length c2, .slice a3 x.Next.length c3, .slice a4 x.Match.length c4] ∧ SR F (.slice a1 x.Log.length c1) x.Log ∧ SR F (.slice a2 x.Votes.length c2) x.Votes ∧ SR F (.slice a3 x.Next.length c3) x.Next ∧ SR F (.slice a4 x.Match.length c4) x.Match
  len h := by obtain ⟨a1, c1, a2, c2, a3, c3, a4, c4, rfl, _, _, _, _⟩ := h; rfl
  one h := by obtain ⟨a1, c1, a2, c2, a3, c3, a4, c4, rfl, _, _, _, _⟩ := h; repeat' (first | exact List.forall_mem_nil _ | refine List.forall_mem_cons.2 ⟨?_, ?_⟩ | rfl)
  mono h hle := by obtain ⟨a1, c1, a2, c2, a3, c3, a4, c4, rfl, h1, h2, h3, h4⟩ := h; exact ⟨a1, c1, a2, c2, a3, c3, a4, c4, rfl, h1.mono hle, h2.mono hle, h3.mono hle, h4.mono hle⟩
theorem GPeer.ofR {F : Heap} {cs : List Value} {x : GPeer} (h : Rp.R F cs x) : ∃ (a1 : Option Addr) (c1 : Nat) (a2 : Option Addr) (c2 : Nat) (a3 : Option Addr) (c3 : Nat) (a4 : Option Addr) (c4 : Nat), cs = [.bool x.Up, .int .i64 x.Term, .int .i64 x.Vote, .int .i64 x.Commit, .int .i64 x.Role, .slice a1 x.Log.length c1, .slice a2 x.Votes.length c2, .slice a3 x.Next.length c3, .slice a4 x.Match.length c4] ∧ SR F (.slice a1 x.Log.length c1) x.Log ∧ SR F (.slice a2 x.Votes.length c2) x.Votes ∧ SR F (.slice a3 x.Next.length c3) x.Next ∧ SR F (.slice a4 x.Match.length c4) x.Match := h
theorem GPeer.toR {F : Heap} {x : GPeer} {a1 : Option Addr} {c1 : Nat} {a2 : Option Addr} {c2 : Nat} {a3 : Option Addr} {c3 : Nat} {a4 : Option Addr} {c4 : Nat} (h1 : SR F (.slice a1 x.Log.length c1) x.Log) (h2 : SR F (.slice a2 x.Votes.length c2) x.Votes) (h3 : SR F (.slice a3 x.Next.length c3) x.Next) (h4 : SR F (.slice a4 x.Match.length c4) x.Match) : Rp.R F [.bool x.Up, .int .i64 x.Term, .int .i64 x.Vote, .int .i64 x.Commit, .int .i64 x.Role, .slice a1 x.Log.length c1, .slice a2 x.Votes.length c2, .slice a3 x.Next.length c3, .slice a4 x.Match.length c4] x := ⟨a1, c1, a2, c2, a3, c3, a4, c4, rfl, h1, h2, h3, h4⟩
theorem GPeer.zeroR (F : Heap) : Rp.R F [.bool false, .int .i64 0, .int .i64 0, .int .i64 0, .int .i64 0, .slice none 0 0, .slice none 0 0, .slice none 0 0, .slice none 0 0] (({ Up := false, Term := 0, Vote := 0, Commit := 0, Role := 0, Log := [], Votes := [], Next := [], Match := [] } : GPeer)) := ⟨none, 0, none, 0, none, 0, none, 0, rfl, SR.nil, SR.nil, SR.nil, SR.nil⟩
structure GMsg where
  Kind : Int
  From : Int
  To : Int
  Term : Int
  A : Int
  B : Int
  C : Int
  Ok : Bool
  Log : (List GRec)
deriving DecidableEq, Inhabited
instance : Rp GMsg where
  sz := 9
  R F cs x := ∃ (a1 : Option Addr) (c1 : Nat), cs = [.int .i64 x.Kind, .int .i64 x.From, .int .i64 x.To, .int .i64 x.Term, .int .i64 x.A, .int .i64 x.B, .int .i64 x.C, .bool x.Ok, .slice a1 x.Log.length c1] ∧ SR F (.slice a1 x.Log.length c1) x.Log
  len h := by obtain ⟨a1, c1, rfl, _⟩ := h; rfl
  one h := by obtain ⟨a1, c1, rfl, _⟩ := h; repeat' (first | exact List.forall_mem_nil _ | refine List.forall_mem_cons.2 ⟨?_, ?_⟩ | rfl)
  mono h hle := by obtain ⟨a1, c1, rfl, h1⟩ := h; exact ⟨a1, c1, rfl, h1.mono hle⟩
theorem GMsg.ofR {F : Heap} {cs : List Value} {x : GMsg} (h : Rp.R F cs x) : ∃ (a1 : Option Addr) (c1 : Nat), cs = [.int .i64 x.Kind, .int .i64 x.From, .int .i64 x.To, .int .i64 x.Term, .int .i64 x.A, .int .i64 x.B, .int .i64 x.C, .bool x.Ok, .slice a1 x.Log.length c1] ∧ SR F (.slice a1 x.Log.length c1) x.Log := h
theorem GMsg.toR {F : Heap} {x : GMsg} {a1 : Option Addr} {c1 : Nat} (h1 : SR F (.slice a1 x.Log.length c1) x.Log) : Rp.R F [.int .i64 x.Kind, .int .i64 x.From, .int .i64 x.To, .int .i64 x.Term, .int .i64 x.A, .int .i64 x.B, .int .i64 x.C, .bool x.Ok, .slice a1 x.Log.length c1] x := ⟨a1, c1, rfl, h1⟩
theorem GMsg.zeroR (F : Heap) : Rp.R F [.int .i64 0, .int .i64 0, .int .i64 0, .int .i64 0, .int .i64 0, .int .i64 0, .int .i64 0, .bool false, .slice none 0 0] (({ Kind := 0, From := 0, To := 0, Term := 0, A := 0, B := 0, C := 0, Ok := false, Log := [] } : GMsg)) := ⟨none, 0, rfl, SR.nil⟩
structure GCluster where
  Peers : (List GPeer)
  Net : (List GMsg)
  Chosen : (List GRec)
  Conflict : Bool
deriving DecidableEq, Inhabited
instance : Rp GCluster where
  sz := 4
  R F cs x := ∃ (a1 : Option Addr) (c1 : Nat) (a2 : Option Addr) (c2 : Nat) (a3 : Option Addr) (c3 : Nat), cs = [.slice a1 x.Peers.length c1, .slice a2 x.Net.length c2, .slice a3 x.Chosen.length c3, .bool x.Conflict] ∧ SR F (.slice a1 x.Peers.length c1) x.Peers ∧ SR F (.slice a2 x.Net.length c2) x.Net ∧ SR F (.slice a3 x.Chosen.length c3) x.Chosen
  len h := by obtain ⟨a1, c1, a2, c2, a3, c3, rfl, _, _, _⟩ := h; rfl
  one h := by obtain ⟨a1, c1, a2, c2, a3, c3, rfl, _, _, _⟩ := h; repeat' (first | exact List.forall_mem_nil _ | refine List.forall_mem_cons.2 ⟨?_, ?_⟩ | rfl)
  mono h hle := by obtain ⟨a1, c1, a2, c2, a3, c3, rfl, h1, h2, h3⟩ := h; exact ⟨a1, c1, a2, c2, a3, c3, rfl, h1.mono hle, h2.mono hle, h3.mono hle⟩
theorem GCluster.ofR {F : Heap} {cs : List Value} {x : GCluster} (h : Rp.R F cs x) : ∃ (a1 : Option Addr) (c1 : Nat) (a2 : Option Addr) (c2 : Nat) (a3 : Option Addr) (c3 : Nat), cs = [.slice a1 x.Peers.length c1, .slice a2 x.Net.length c2, .slice a3 x.Chosen.length c3, .bool x.Conflict] ∧ SR F (.slice a1 x.Peers.length c1) x.Peers ∧ SR F (.slice a2 x.Net.length c2) x.Net ∧ SR F (.slice a3 x.Chosen.length c3) x.Chosen := h
theorem GCluster.toR {F : Heap} {x : GCluster} {a1 : Option Addr} {c1 : Nat} {a2 : Option Addr} {c2 : Nat} {a3 : Option Addr} {c3 : Nat} (h1 : SR F (.slice a1 x.Peers.length c1) x.Peers) (h2 : SR F (.slice a2 x.Net.length c2) x.Net) (h3 : SR F (.slice a3 x.Chosen.length c3) x.Chosen) : Rp.R F [.slice a1 x.Peers.length c1, .slice a2 x.Net.length c2, .slice a3 x.Chosen.length c3, .bool x.Conflict] x := ⟨a1, c1, a2, c2, a3, c3, rfl, h1, h2, h3⟩
theorem GCluster.zeroR (F : Heap) : Rp.R F [.slice none 0 0, .slice none 0 0, .slice none 0 0, .bool false] (({ Peers := [], Net := [], Chosen := [], Conflict := false } : GCluster)) := ⟨none, 0, none, 0, none, 0, rfl, SR.nil, SR.nil, SR.nil⟩
def f_laws_szByteS (xs1 : (List UInt8)) (x5 : Int) : Option (Int) :=
  chk (-9223372036854775808 ≤ x5 - (xs1.length : Int) ∧ x5 - (xs1.length : Int) < 9223372036854775808) <|
  if (x5 - (xs1.length : Int)) < 0 then
    some (-1)
  else
    some (x5 - (xs1.length : Int))
def f_laws_szRec (x1 : GRec) (x5 : Int) : Option (Int) :=
  (f_laws_szByteS x1.Data x5).bind fun x12 =>
  if x12 < 0 then
    some (-1)
  else
    some x12
def f_laws_szRecS_L0 (xs1 : (List GRec)) : Nat → Int → Int → Option (Int)
  | 0, _, _ => none
  | k + 1, x115, x116 =>
    if x116 < (xs1.length : Int) then
      (idx xs1 x116).bind fun x139 =>
      (f_laws_szRec ({ Term := x139.Term, Index := x139.Index, Data := x139.Data } : GRec) x115).bind fun x150 =>
      if x150 < 0 then
        some (-1)
      else
        chk (-9223372036854775808 ≤ x116 + 1 ∧ x116 + 1 < 9223372036854775808) <|
        (f_laws_szRecS_L0 xs1 k) x150 (x116 + 1)
    else
      some x115
def f_laws_szRecS (xs1 : (List GRec)) (x5 : Int) : Option (Int) :=
  chk (-9223372036854775808 ≤ x5 - (xs1.length : Int) ∧ x5 - (xs1.length : Int) < 9223372036854775808) <|
  if (x5 - (xs1.length : Int)) < 0 then
    some (-1)
  else
    f_laws_szRecS_L0 xs1 BIG (x5 - (xs1.length : Int)) 0
def f_laws_szBoolS (xs1 : (List Bool)) (x5 : Int) : Option (Int) :=
  chk (-9223372036854775808 ≤ x5 - (xs1.length : Int) ∧ x5 - (xs1.length : Int) < 9223372036854775808) <|
  if (x5 - (xs1.length : Int)) < 0 then
    some (-1)
  else
    some (x5 - (xs1.length : Int))
def f_laws_szIntS (xs1 : (List Int)) (x5 : Int) : Option (Int) :=
  chk (-9223372036854775808 ≤ x5 - (xs1.length : Int) ∧ x5 - (xs1.length : Int) < 9223372036854775808) <|
  if (x5 - (xs1.length : Int)) < 0 then
    some (-1)
  else
    some (x5 - (xs1.length : Int))
def f_laws_szPeer (x1 : GPeer) (x14 : Int) : Option (Int) :=
  (f_laws_szRecS x1.Log x14).bind fun x21 =>
  if x21 < 0 then
    some (-1)
  else
    (f_laws_szBoolS x1.Votes x21).bind fun x32 =>
    if x32 < 0 then
      some (-1)
    else
      (f_laws_szIntS x1.Next x32).bind fun x43 =>
      if x43 < 0 then
        some (-1)
      else
        (f_laws_szIntS x1.Match x43).bind fun x54 =>
        if x54 < 0 then
          some (-1)
        else
          some x54
def f_laws_szPeerS_L0 (xs1 : (List GPeer)) : Nat → Int → Int → Option (Int)
  | 0, _, _ => none
  | k + 1, x151, x152 =>
    if x152 < (xs1.length : Int) then
      (idx xs1 x152).bind fun x184 =>
      (f_laws_szPeer ({ Up := x184.Up, Term := x184.Term, Vote := x184.Vote, Commit := x184.Commit, Role := x184.Role, Log := x184.Log, Votes := x184.Votes, Next := x184.Next, Match := x184.Match } : GPeer) x151).bind fun x204 =>
      if x204 < 0 then
        some (-1)
      else
        chk (-9223372036854775808 ≤ x152 + 1 ∧ x152 + 1 < 9223372036854775808) <|
        (f_laws_szPeerS_L0 xs1 k) x204 (x152 + 1)
    else
      some x151
def f_laws_szPeerS (xs1 : (List GPeer)) (x5 : Int) : Option (Int) :=
  chk (-9223372036854775808 ≤ x5 - (xs1.length : Int) ∧ x5 - (xs1.length : Int) < 9223372036854775808) <|
  if (x5 - (xs1.length : Int)) < 0 then
    some (-1)
  else
    f_laws_szPeerS_L0 xs1 BIG (x5 - (xs1.length : Int)) 0
def f_laws_szMsg (x1 : GMsg) (x5 : Int) : Option (Int) :=
  (f_laws_szRecS x1.Log x5).bind fun x12 =>
  if x12 < 0 then
    some (-1)
  else
    some x12
def f_laws_szMsgS_L0 (xs1 : (List GMsg)) : Nat → Int → Int → Option (Int)
  | 0, _, _ => none
  | k + 1, x115, x116 =>
    if x116 < (xs1.length : Int) then
      (idx xs1 x116).bind fun x139 =>
      (f_laws_szMsg ({ Kind := x139.Kind, From := x139.From, To := x139.To, Term := x139.Term, A := x139.A, B := x139.B, C := x139.C, Ok := x139.Ok, Log := x139.Log } : GMsg) x115).bind fun x150 =>
      if x150 < 0 then
        some (-1)
      else
        chk (-9223372036854775808 ≤ x116 + 1 ∧ x116 + 1 < 9223372036854775808) <|
        (f_laws_szMsgS_L0 xs1 k) x150 (x116 + 1)
    else
      some x115
def f_laws_szMsgS (xs1 : (List GMsg)) (x5 : Int) : Option (Int) :=
  chk (-9223372036854775808 ≤ x5 - (xs1.length : Int) ∧ x5 - (xs1.length : Int) < 9223372036854775808) <|
  if (x5 - (xs1.length : Int)) < 0 then
    some (-1)
  else
    f_laws_szMsgS_L0 xs1 BIG (x5 - (xs1.length : Int)) 0
def f_laws_szCluster (x1 : GCluster) (x11 : Int) : Option (Int) :=
  (f_laws_szPeerS x1.Peers x11).bind fun x18 =>
  if x18 < 0 then
    some (-1)
  else
    (f_laws_szMsgS x1.Net x18).bind fun x29 =>
    if x29 < 0 then
      some (-1)
    else
      (f_laws_szRecS x1.Chosen x29).bind fun x40 =>
      if x40 < 0 then
        some (-1)
      else
        some x40
def f_laws_toByteS_L0 (xs1 : (List UInt8)) : Nat → (List UInt8) → Int → Option ((List UInt8))
  | 0, _, _ => none
  | k + 1, xs137, x140 =>
    if x140 < (xs1.length : Int) then
      (idx xs1 x140).bind fun x167 =>
      (idx xs137 x140).bind fun x175 =>
      chk (-9223372036854775808 ≤ x140 + 1 ∧ x140 + 1 < 9223372036854775808) <|
      (f_laws_toByteS_L0 xs1 k) (setI xs137 x140 x167) (x140 + 1)
    else
      some xs137
def f_laws_toByteS (xs1 : (List UInt8)) : Option ((List UInt8)) :=
  chk ((0 : Int) ≤ (xs1.length : Int) ∧ (xs1.length : Int) ≤ 68719476736) <|
  f_laws_toByteS_L0 xs1 BIG (List.replicate (xs1.length : Int).toNat ((0 : UInt8) : UInt8)) 0
def f_laws_toRec (x1 : GRec) : Option (GRec) :=
  (f_laws_toByteS x1.Data).bind fun x38 =>
  some ({ Term := x1.Term, Index := x1.Index, Data := x38 } : GRec)
def f_laws_toRecS_L0 (xs1 : (List GRec)) : Nat → (List GRec) → Int → Option ((List GRec))
  | 0, _, _ => none
  | k + 1, xs229, x232 =>
    if x232 < (xs1.length : Int) then
      (idx xs1 x232).bind fun x282 =>
      (f_laws_toRec ({ Term := x282.Term, Index := x282.Index, Data := x282.Data } : GRec)).bind fun x293 =>
      (idx xs229 x232).bind fun x310 =>
      chk (-9223372036854775808 ≤ x232 + 1 ∧ x232 + 1 < 9223372036854775808) <|
      (f_laws_toRecS_L0 xs1 k) (setI xs229 x232 ({ Term := x293.Term, Index := x293.Index, Data := x293.Data } : GRec)) (x232 + 1)
    else
      some xs229
def f_laws_toRecS (xs1 : (List GRec)) : Option ((List GRec)) :=
  chk ((0 : Int) ≤ (xs1.length : Int) ∧ (xs1.length : Int) ≤ 68719476736) <|
  f_laws_toRecS_L0 xs1 BIG (List.replicate (xs1.length : Int).toNat (({ Term := 0, Index := 0, Data := [] } : GRec) : GRec)) 0
def f_laws_toBoolS_L0 (xs1 : (List Bool)) : Nat → (List Bool) → Int → Option ((List Bool))
  | 0, _, _ => none
  | k + 1, xs137, x140 =>
    if x140 < (xs1.length : Int) then
      (idx xs1 x140).bind fun x167 =>
      (idx xs137 x140).bind fun x175 =>
      chk (-9223372036854775808 ≤ x140 + 1 ∧ x140 + 1 < 9223372036854775808) <|
      (f_laws_toBoolS_L0 xs1 k) (setI xs137 x140 x167) (x140 + 1)
    else
      some xs137
def f_laws_toBoolS (xs1 : (List Bool)) : Option ((List Bool)) :=
  chk ((0 : Int) ≤ (xs1.length : Int) ∧ (xs1.length : Int) ≤ 68719476736) <|
  f_laws_toBoolS_L0 xs1 BIG (List.replicate (xs1.length : Int).toNat (false : Bool)) 0
def f_laws_toIntS_L0 (xs1 : (List Int)) : Nat → (List Int) → Int → Option ((List Int))
  | 0, _, _ => none
  | k + 1, xs137, x140 =>
    if x140 < (xs1.length : Int) then
      (idx xs1 x140).bind fun x167 =>
      (idx xs137 x140).bind fun x175 =>
      chk (-9223372036854775808 ≤ x140 + 1 ∧ x140 + 1 < 9223372036854775808) <|
      (f_laws_toIntS_L0 xs1 k) (setI xs137 x140 x167) (x140 + 1)
    else
      some xs137
def f_laws_toIntS (xs1 : (List Int)) : Option ((List Int)) :=
  chk ((0 : Int) ≤ (xs1.length : Int) ∧ (xs1.length : Int) ≤ 68719476736) <|
  f_laws_toIntS_L0 xs1 BIG (List.replicate (xs1.length : Int).toNat (0 : Int)) 0
def f_laws_toPeer (x1 : GPeer) : Option (GPeer) :=
  (f_laws_toRecS x1.Log).bind fun x65 =>
  (f_laws_toBoolS x1.Votes).bind fun x97 =>
  (f_laws_toIntS x1.Next).bind fun x127 =>
  (f_laws_toIntS x1.Match).bind fun x161 =>
  some ({ Up := x1.Up, Term := x1.Term, Vote := x1.Vote, Commit := x1.Commit, Role := x1.Role, Log := x65, Votes := x97, Next := x127, Match := x161 } : GPeer)
def f_laws_toPeerS_L0 (xs1 : (List GPeer)) : Nat → (List GPeer) → Int → Option ((List GPeer))
  | 0, _, _ => none
  | k + 1, xs337, x340 =>
    if x340 < (xs1.length : Int) then
      (idx xs1 x340).bind fun x417 =>
      (f_laws_toPeer ({ Up := x417.Up, Term := x417.Term, Vote := x417.Vote, Commit := x417.Commit, Role := x417.Role, Log := x417.Log, Votes := x417.Votes, Next := x417.Next, Match := x417.Match } : GPeer)).bind fun x437 =>
      (idx xs337 x340).bind fun x463 =>
      chk (-9223372036854775808 ≤ x340 + 1 ∧ x340 + 1 < 9223372036854775808) <|
      (f_laws_toPeerS_L0 xs1 k) (setI xs337 x340 ({ Up := x437.Up, Term := x437.Term, Vote := x437.Vote, Commit := x437.Commit, Role := x437.Role, Log := x437.Log, Votes := x437.Votes, Next := x437.Next, Match := x437.Match } : GPeer)) (x340 + 1)
    else
      some xs337
def f_laws_toPeerS (xs1 : (List GPeer)) : Option ((List GPeer)) :=
  chk ((0 : Int) ≤ (xs1.length : Int) ∧ (xs1.length : Int) ≤ 68719476736) <|
  f_laws_toPeerS_L0 xs1 BIG (List.replicate (xs1.length : Int).toNat (({ Up := false, Term := 0, Vote := 0, Commit := 0, Role := 0, Log := [], Votes := [], Next := [], Match := [] } : GPeer) : GPeer)) 0
def f_laws_toMsg (x1 : GMsg) : Option (GMsg) :=
  (f_laws_toRecS x1.Log).bind fun x74 =>
  some ({ Kind := x1.Kind, From := x1.From, To := x1.To, Term := x1.Term, A := x1.A, B := x1.B, C := x1.C, Ok := x1.Ok, Log := x74 } : GMsg)
def f_laws_toMsgS_L0 (xs1 : (List GMsg)) : Nat → (List GMsg) → Int → Option ((List GMsg))
  | 0, _, _ => none
  | k + 1, xs229, x232 =>
    if x232 < (xs1.length : Int) then
      (idx xs1 x232).bind fun x282 =>
      (f_laws_toMsg ({ Kind := x282.Kind, From := x282.From, To := x282.To, Term := x282.Term, A := x282.A, B := x282.B, C := x282.C, Ok := x282.Ok, Log := x282.Log } : GMsg)).bind fun x293 =>
      (idx xs229 x232).bind fun x310 =>
      chk (-9223372036854775808 ≤ x232 + 1 ∧ x232 + 1 < 9223372036854775808) <|
      (f_laws_toMsgS_L0 xs1 k) (setI xs229 x232 ({ Kind := x293.Kind, From := x293.From, To := x293.To, Term := x293.Term, A := x293.A, B := x293.B, C := x293.C, Ok := x293.Ok, Log := x293.Log } : GMsg)) (x232 + 1)
    else
      some xs229
def f_laws_toMsgS (xs1 : (List GMsg)) : Option ((List GMsg)) :=
  chk ((0 : Int) ≤ (xs1.length : Int) ∧ (xs1.length : Int) ≤ 68719476736) <|
  f_laws_toMsgS_L0 xs1 BIG (List.replicate (xs1.length : Int).toNat (({ Kind := 0, From := 0, To := 0, Term := 0, A := 0, B := 0, C := 0, Ok := false, Log := [] } : GMsg) : GMsg)) 0
def f_laws_toCluster (x1 : GCluster) : Option (GCluster) :=
  (f_laws_toPeerS x1.Peers).bind fun x32 =>
  (f_laws_toMsgS x1.Net).bind fun x64 =>
  (f_laws_toRecS x1.Chosen).bind fun x101 =>
  some ({ Peers := x32, Net := x64, Chosen := x101, Conflict := x1.Conflict } : GCluster)
def f_spec_l10Same (x1 : GRec) (x5 : GRec) : Option (Bool) :=
  if x1.Term = x5.Term then
    if x1.Index = x5.Index then
      some (decide ((x1.Data : List UInt8) = x5.Data))
    else
      some false
  else
    some false
def f_spec_Agree_L2 (x1662 : GPeer) (x1 : GCluster) (x1333 : Int) (rc0 : Int → Option (Bool)) : Nat → Int → Option (Bool)
  | 0, _ => none
  | k + 1, x1897 =>
    if x1897 < x1662.Commit then
      (idx x1662.Log x1897).bind fun x1946 =>
      (idx x1.Chosen x1897).bind fun x1957 =>
      (f_spec_l10Same ({ Term := x1946.Term, Index := x1946.Index, Data := x1946.Data } : GRec) ({ Term := x1957.Term, Index := x1957.Index, Data := x1957.Data } : GRec)).bind fun x1968 =>
      if (!x1968) = true then
        some false
      else
        chk (-9223372036854775808 ≤ x1897 + 1 ∧ x1897 + 1 < 9223372036854775808) <|
        (f_spec_Agree_L2 x1662 x1 x1333 rc0 k) (x1897 + 1)
    else
      chk (-9223372036854775808 ≤ x1333 + 1 ∧ x1333 + 1 < 9223372036854775808) <|
      rc0 (x1333 + 1)
def f_spec_Agree_J1 (x1662 : GPeer) (x1 : GCluster) (x1333 : Int) (rc0 : Int → Option (Bool)) (x1701 : Bool) : Option (Bool) :=
  if x1701 = true then
    some false
  else
    f_spec_Agree_L2 x1662 x1 x1333 rc0 BIG 0
def f_spec_Agree_L0 (x1 : GCluster) : Nat → Int → Option (Bool)
  | 0, _ => none
  | k + 1, x1333 =>
    if x1333 < (x1.Peers.length : Int) then
      (idx x1.Peers x1333).bind fun x1662 =>
      if x1662.Commit < 0 then
        f_spec_Agree_J1 x1662 x1 x1333 (f_spec_Agree_L0 x1 k) true
      else
        if (x1662.Log.length : Int) < x1662.Commit then
          f_spec_Agree_J1 x1662 x1 x1333 (f_spec_Agree_L0 x1 k) true
        else
          f_spec_Agree_J1 x1662 x1 x1333 (f_spec_Agree_L0 x1 k) (decide ((x1.Chosen.length : Int) < x1662.Commit))
    else
      some true
def f_spec_Agree (x1 : GCluster) : Option (Bool) :=
  if x1.Conflict = true then
    some false
  else
    f_spec_Agree_L0 x1 BIG 0
def f_impl_within (x1 : Int) (x2 : Int) (x3 : Int) : Option (Bool) :=
  if x2 ≤ x1 then
    some (decide (x1 ≤ x3))
  else
    some false
def f_slices_Equal_byte_L0 (xs1 : (List UInt8)) (xs5 : (List UInt8)) : Nat → Int → Option (Bool)
  | 0, _ => none
  | k + 1, x107 =>
    if x107 < (xs1.length : Int) then
      (idx xs1 x107).bind fun x127 =>
      (idx xs5 x107).bind fun x135 =>
      if (x127.toNat : Int) = (x135.toNat : Int) then
        chk (-9223372036854775808 ≤ x107 + 1 ∧ x107 + 1 < 9223372036854775808) <|
        (f_slices_Equal_byte_L0 xs1 xs5 k) (x107 + 1)
      else
        some false
    else
      some true
def f_slices_Equal_byte (xs1 : (List UInt8)) (xs5 : (List UInt8)) : Option (Bool) :=
  if (xs1.length : Int) = (xs5.length : Int) then
    f_slices_Equal_byte_L0 xs1 xs5 BIG 0
  else
    some false
def f_impl_sameRec (x1 : GRec) (x5 : GRec) : Option (Bool) :=
  if x1.Term = x5.Term then
    if x1.Index = x5.Index then
      (f_slices_Equal_byte x1.Data x5.Data).bind fun x24 =>
      some x24
    else
      some false
  else
    some false
def f_slices_EqualFunc_implRec_f612_L0 (xs1 : (List GRec)) (xs5 : (List GRec)) : Nat → Int → Option (Bool)
  | 0, _ => none
  | k + 1, x259 =>
    if x259 < (xs1.length : Int) then
      (idx xs1 x259).bind fun x317 =>
      (idx xs5 x259).bind fun x338 =>
      (f_impl_sameRec ({ Term := x317.Term, Index := x317.Index, Data := x317.Data } : GRec) ({ Term := x338.Term, Index := x338.Index, Data := x338.Data } : GRec)).bind fun x361 =>
      if (!x361) = true then
        some false
      else
        chk (-9223372036854775808 ≤ x259 + 1 ∧ x259 + 1 < 9223372036854775808) <|
        (f_slices_EqualFunc_implRec_f612_L0 xs1 xs5 k) (x259 + 1)
    else
      some true
def f_slices_EqualFunc_implRec_f612 (xs1 : (List GRec)) (xs5 : (List GRec)) : Option (Bool) :=
  if (xs1.length : Int) = (xs5.length : Int) then
    f_slices_EqualFunc_implRec_f612_L0 xs1 xs5 BIG 0
  else
    some false
def f_impl_Agree_J1 (x1166 : Int) (rc0 : Int → Option (Bool)) (x1350 : Bool) : Option (Bool) :=
  if x1350 = true then
    some false
  else
    chk (-9223372036854775808 ≤ x1166 + 1 ∧ x1166 + 1 < 9223372036854775808) <|
    rc0 (x1166 + 1)
def f_impl_Agree_L0 (x1 : GCluster) : Nat → Int → Option (Bool)
  | 0, _ => none
  | k + 1, x1166 =>
    if x1166 < (x1.Peers.length : Int) then
      (idx x1.Peers x1166).bind fun x1281 =>
      (f_impl_within x1281.Commit 0 (if (x1.Chosen.length : Int) < (x1281.Log.length : Int) then (x1.Chosen.length : Int) else (x1281.Log.length : Int))).bind fun x1358 =>
      if (!x1358) = true then
        f_impl_Agree_J1 x1166 (f_impl_Agree_L0 x1 k) true
      else
        (slc x1281.Log 0 x1281.Commit).bind fun xs1369 =>
        (slc x1.Chosen 0 x1281.Commit).bind fun xs1374 =>
        (f_slices_EqualFunc_implRec_f612 xs1369 xs1374).bind fun x1379 =>
        f_impl_Agree_J1 x1166 (f_impl_Agree_L0 x1 k) (!x1379)
    else
      some (!x1.Conflict)
def f_impl_Agree (x1 : GCluster) : Option (Bool) :=
  f_impl_Agree_L0 x1 BIG 0
def f_laws_eqByteS_L0 (xs1 : (List UInt8)) (xs5 : (List UInt8)) : Nat → Int → Option (Bool)
  | 0, _ => none
  | k + 1, x107 =>
    if x107 < (xs1.length : Int) then
      (idx xs1 x107).bind fun x127 =>
      (idx xs5 x107).bind fun x135 =>
      if (x127.toNat : Int) = (x135.toNat : Int) then
        chk (-9223372036854775808 ≤ x107 + 1 ∧ x107 + 1 < 9223372036854775808) <|
        (f_laws_eqByteS_L0 xs1 xs5 k) (x107 + 1)
      else
        some false
    else
      some true
def f_laws_eqByteS (xs1 : (List UInt8)) (xs5 : (List UInt8)) : Option (Bool) :=
  if (xs1.length : Int) = (xs5.length : Int) then
    f_laws_eqByteS_L0 xs1 xs5 BIG 0
  else
    some false
def f_laws_eqRec (x1 : GRec) (x5 : GRec) : Option (Bool) :=
  if x1.Term = x5.Term then
    if x1.Index = x5.Index then
      (f_laws_eqByteS x1.Data x5.Data).bind fun x26 =>
      if (!x26) = true then
        some false
      else
        some true
    else
      some false
  else
    some false
def f_laws_eqRecS_L0 (xs1 : (List GRec)) (xs5 : (List GRec)) : Nat → Int → Option (Bool)
  | 0, _ => none
  | k + 1, x163 =>
    if x163 < (xs1.length : Int) then
      (idx xs1 x163).bind fun x197 =>
      (idx xs5 x163).bind fun x208 =>
      (f_laws_eqRec ({ Term := x197.Term, Index := x197.Index, Data := x197.Data } : GRec) ({ Term := x208.Term, Index := x208.Index, Data := x208.Data } : GRec)).bind fun x219 =>
      if (!x219) = true then
        some false
      else
        chk (-9223372036854775808 ≤ x163 + 1 ∧ x163 + 1 < 9223372036854775808) <|
        (f_laws_eqRecS_L0 xs1 xs5 k) (x163 + 1)
    else
      some true
def f_laws_eqRecS (xs1 : (List GRec)) (xs5 : (List GRec)) : Option (Bool) :=
  if (xs1.length : Int) = (xs5.length : Int) then
    f_laws_eqRecS_L0 xs1 xs5 BIG 0
  else
    some false
def f_laws_eqBoolS_L0 (xs1 : (List Bool)) (xs5 : (List Bool)) : Nat → Int → Option (Bool)
  | 0, _ => none
  | k + 1, x107 =>
    if x107 < (xs1.length : Int) then
      (idx xs1 x107).bind fun x127 =>
      (idx xs5 x107).bind fun x135 =>
      if (x127 != x135) = true then
        some false
      else
        chk (-9223372036854775808 ≤ x107 + 1 ∧ x107 + 1 < 9223372036854775808) <|
        (f_laws_eqBoolS_L0 xs1 xs5 k) (x107 + 1)
    else
      some true
def f_laws_eqBoolS (xs1 : (List Bool)) (xs5 : (List Bool)) : Option (Bool) :=
  if (xs1.length : Int) = (xs5.length : Int) then
    f_laws_eqBoolS_L0 xs1 xs5 BIG 0
  else
    some false
def f_laws_eqIntS_L0 (xs1 : (List Int)) (xs5 : (List Int)) : Nat → Int → Option (Bool)
  | 0, _ => none
  | k + 1, x107 =>
    if x107 < (xs1.length : Int) then
      (idx xs1 x107).bind fun x127 =>
      (idx xs5 x107).bind fun x135 =>
      if x127 = x135 then
        chk (-9223372036854775808 ≤ x107 + 1 ∧ x107 + 1 < 9223372036854775808) <|
        (f_laws_eqIntS_L0 xs1 xs5 k) (x107 + 1)
      else
        some false
    else
      some true
def f_laws_eqIntS (xs1 : (List Int)) (xs5 : (List Int)) : Option (Bool) :=
  if (xs1.length : Int) = (xs5.length : Int) then
    f_laws_eqIntS_L0 xs1 xs5 BIG 0
  else
    some false
def f_laws_eqPeer (x1 : GPeer) (x14 : GPeer) : Option (Bool) :=
  if (x1.Up != x14.Up) = true then
    some false
  else
    if x1.Term = x14.Term then
      if x1.Vote = x14.Vote then
        if x1.Commit = x14.Commit then
          if x1.Role = x14.Role then
            (f_laws_eqRecS x1.Log x14.Log).bind fun x50 =>
            if (!x50) = true then
              some false
            else
              (f_laws_eqBoolS x1.Votes x14.Votes).bind fun x62 =>
              if (!x62) = true then
                some false
              else
                (f_laws_eqIntS x1.Next x14.Next).bind fun x74 =>
                if (!x74) = true then
                  some false
                else
                  (f_laws_eqIntS x1.Match x14.Match).bind fun x86 =>
                  if (!x86) = true then
                    some false
                  else
                    some true
          else
            some false
        else
          some false
      else
        some false
    else
      some false
def f_laws_eqPeerS_L0 (xs1 : (List GPeer)) (xs5 : (List GPeer)) : Nat → Int → Option (Bool)
  | 0, _ => none
  | k + 1, x235 =>
    if x235 < (xs1.length : Int) then
      (idx xs1 x235).bind fun x287 =>
      (idx xs5 x235).bind fun x307 =>
      (f_laws_eqPeer ({ Up := x287.Up, Term := x287.Term, Vote := x287.Vote, Commit := x287.Commit, Role := x287.Role, Log := x287.Log, Votes := x287.Votes, Next := x287.Next, Match := x287.Match } : GPeer) ({ Up := x307.Up, Term := x307.Term, Vote := x307.Vote, Commit := x307.Commit, Role := x307.Role, Log := x307.Log, Votes := x307.Votes, Next := x307.Next, Match := x307.Match } : GPeer)).bind fun x327 =>
      if (!x327) = true then
        some false
      else
        chk (-9223372036854775808 ≤ x235 + 1 ∧ x235 + 1 < 9223372036854775808) <|
        (f_laws_eqPeerS_L0 xs1 xs5 k) (x235 + 1)
    else
      some true
def f_laws_eqPeerS (xs1 : (List GPeer)) (xs5 : (List GPeer)) : Option (Bool) :=
  if (xs1.length : Int) = (xs5.length : Int) then
    f_laws_eqPeerS_L0 xs1 xs5 BIG 0
  else
    some false
def f_laws_eqMsg (x1 : GMsg) (x5 : GMsg) : Option (Bool) :=
  if x1.Kind = x5.Kind then
    if x1.From = x5.From then
      if x1.To = x5.To then
        if x1.Term = x5.Term then
          if x1.A = x5.A then
            if x1.B = x5.B then
              if x1.C = x5.C then
                if (x1.Ok != x5.Ok) = true then
                  some false
                else
                  (f_laws_eqRecS x1.Log x5.Log).bind fun x38 =>
                  if (!x38) = true then
                    some false
                  else
                    some true
              else
                some false
            else
              some false
          else
            some false
        else
          some false
      else
        some false
    else
      some false
  else
    some false
def f_laws_eqMsgS_L0 (xs1 : (List GMsg)) (xs5 : (List GMsg)) : Nat → Int → Option (Bool)
  | 0, _ => none
  | k + 1, x163 =>
    if x163 < (xs1.length : Int) then
      (idx xs1 x163).bind fun x197 =>
      (idx xs5 x163).bind fun x208 =>
      (f_laws_eqMsg ({ Kind := x197.Kind, From := x197.From, To := x197.To, Term := x197.Term, A := x197.A, B := x197.B, C := x197.C, Ok := x197.Ok, Log := x197.Log } : GMsg) ({ Kind := x208.Kind, From := x208.From, To := x208.To, Term := x208.Term, A := x208.A, B := x208.B, C := x208.C, Ok := x208.Ok, Log := x208.Log } : GMsg)).bind fun x219 =>
      if (!x219) = true then
        some false
      else
        chk (-9223372036854775808 ≤ x163 + 1 ∧ x163 + 1 < 9223372036854775808) <|
        (f_laws_eqMsgS_L0 xs1 xs5 k) (x163 + 1)
    else
      some true
def f_laws_eqMsgS (xs1 : (List GMsg)) (xs5 : (List GMsg)) : Option (Bool) :=
  if (xs1.length : Int) = (xs5.length : Int) then
    f_laws_eqMsgS_L0 xs1 xs5 BIG 0
  else
    some false
def f_laws_eqCluster (x1 : GCluster) (x11 : GCluster) : Option (Bool) :=
  (f_laws_eqPeerS x1.Peers x11.Peers).bind fun x34 =>
  if (!x34) = true then
    some false
  else
    (f_laws_eqMsgS x1.Net x11.Net).bind fun x46 =>
    if (!x46) = true then
      some false
    else
      (f_laws_eqRecS x1.Chosen x11.Chosen).bind fun x58 =>
      if (!x58) = true then
        some false
      else
        if (x1.Conflict != x11.Conflict) = true then
          some false
        else
          some true
def f_laws_FnExactAgree (x1 : GCluster) : Option (Bool) :=
  (f_laws_szCluster ({ Peers := x1.Peers, Net := x1.Net, Chosen := x1.Chosen, Conflict := x1.Conflict } : GCluster) 1048576).bind fun x17 =>
  if x17 < 0 then
    some true
  else
    (f_laws_toCluster ({ Peers := x1.Peers, Net := x1.Net, Chosen := x1.Chosen, Conflict := x1.Conflict } : GCluster)).bind fun x28 =>
    (f_spec_Agree ({ Peers := x28.Peers, Net := x28.Net, Chosen := x28.Chosen, Conflict := x28.Conflict } : GCluster)).bind fun x50 =>
    (f_laws_toCluster ({ Peers := x1.Peers, Net := x1.Net, Chosen := x1.Chosen, Conflict := x1.Conflict } : GCluster)).bind fun x59 =>
    (f_impl_Agree ({ Peers := x59.Peers, Net := x59.Net, Chosen := x59.Chosen, Conflict := x59.Conflict } : GCluster)).bind fun x93 =>
    if (x93 != x50) = true then
      some false
    else
      (f_laws_toCluster ({ Peers := x1.Peers, Net := x1.Net, Chosen := x1.Chosen, Conflict := x1.Conflict } : GCluster)).bind fun x105 =>
      (f_laws_eqCluster ({ Peers := x59.Peers, Net := x59.Net, Chosen := x59.Chosen, Conflict := x59.Conflict } : GCluster) ({ Peers := x105.Peers, Net := x105.Net, Chosen := x105.Chosen, Conflict := x105.Conflict } : GCluster)).bind fun x129 =>
      if (!x129) = true then
        some false
      else
        some true
end Go.Proofs.YtbdebjoagckcpaaAb
