import Derived.Test.YtmodhnkjimpkbaaAbP6
set_option linter.all false
set_option maxRecDepth 20000
namespace Go.Proofs.YtmodhnkjimpkbaaAb
open Go
structure GFile where
  Name : Str
  Version : Int
  Text : Str
deriving DecidableEq, Inhabited
instance : Rp GFile where
  sz := 3
  R F cs x := cs = [str x.Name, .int .i64 x.Version, str x.Text]
  len h := by obtain rfl := h; rfl
  one h := by obtain rfl := h; repeat' (first | exact List.forall_mem_nil _ | refine List.forall_mem_cons.2 ⟨?_, ?_⟩ | rfl)
  mono h hle := by obtain rfl := h; exact rfl
instance : Fl GFile := ⟨fun h => h⟩
instance : Bd GFile := ⟨fun B x => Bd.bd B x.Name ∧ Bd.bd B x.Text⟩
theorem GFile.ofR {F : Heap} {cs : List Value} {x : GFile} (h : Rp.R F cs x) : cs = [str x.Name, .int .i64 x.Version, str x.Text] := h
theorem GFile.toR {F : Heap} {x : GFile} : Rp.R F [str x.Name, .int .i64 x.Version, str x.Text] x := rfl
theorem GFile.zeroR (F : Heap) : Rp.R F [str ([] : List UInt8), .int .i64 0, str ([] : List UInt8)] (({ Name := ([] : List UInt8), Version := 0, Text := ([] : List UInt8) } : GFile)) := rfl
structure GReply where
  Code : Int
  Version : Int
  Sha : Str
deriving DecidableEq, Inhabited
instance : Rp GReply where
  sz := 3
  R F cs x := cs = [.int .i64 x.Code, .int .i64 x.Version, str x.Sha]
  len h := by obtain rfl := h; rfl
  one h := by obtain rfl := h; repeat' (first | exact List.forall_mem_nil _ | refine List.forall_mem_cons.2 ⟨?_, ?_⟩ | rfl)
  mono h hle := by obtain rfl := h; exact rfl
instance : Fl GReply := ⟨fun h => h⟩
instance : Bd GReply := ⟨fun B x => Bd.bd B x.Sha⟩
theorem GReply.ofR {F : Heap} {cs : List Value} {x : GReply} (h : Rp.R F cs x) : cs = [.int .i64 x.Code, .int .i64 x.Version, str x.Sha] := h
theorem GReply.toR {F : Heap} {x : GReply} : Rp.R F [.int .i64 x.Code, .int .i64 x.Version, str x.Sha] x := rfl
theorem GReply.zeroR (F : Heap) : Rp.R F [.int .i64 0, .int .i64 0, str ([] : List UInt8)] (({ Code := 0, Version := 0, Sha := ([] : List UInt8) } : GReply)) := rfl
structure GSession where
  Client : Int
  Seq : Int
  Reply : GReply
deriving DecidableEq, Inhabited
instance : Rp GSession where
  sz := 5
  R F cs x := cs = [.int .i64 x.Client, .int .i64 x.Seq, .int .i64 x.Reply.Code, .int .i64 x.Reply.Version, str x.Reply.Sha]
  len h := by obtain rfl := h; rfl
  one h := by obtain rfl := h; repeat' (first | exact List.forall_mem_nil _ | refine List.forall_mem_cons.2 ⟨?_, ?_⟩ | rfl)
  mono h hle := by obtain rfl := h; exact rfl
instance : Fl GSession := ⟨fun h => h⟩
instance : Bd GSession := ⟨fun B x => Bd.bd B x.Reply⟩
theorem GSession.ofR {F : Heap} {cs : List Value} {x : GSession} (h : Rp.R F cs x) : cs = [.int .i64 x.Client, .int .i64 x.Seq, .int .i64 x.Reply.Code, .int .i64 x.Reply.Version, str x.Reply.Sha] := h
theorem GSession.toR {F : Heap} {x : GSession} : Rp.R F [.int .i64 x.Client, .int .i64 x.Seq, .int .i64 x.Reply.Code, .int .i64 x.Reply.Version, str x.Reply.Sha] x := rfl
theorem GSession.zeroR (F : Heap) : Rp.R F [.int .i64 0, .int .i64 0, .int .i64 0, .int .i64 0, str ([] : List UInt8)] (({ Client := 0, Seq := 0, Reply := ({ Code := 0, Version := 0, Sha := ([] : List UInt8) } : GReply) } : GSession)) := rfl
structure GState where
  Files : (List GFile)
  Sessions : (List GSession)
deriving DecidableEq, Inhabited
instance : Rp GState where
  sz := 2
  R F cs x := ∃ (a1 : Option Addr) (c1 : Nat) (a2 : Option Addr) (c2 : Nat), cs = [.slice a1 x.Files.length c1, .slice a2 x.Sessions.length c2] ∧ SR F (.slice a1 x.Files.length c1) x.Files ∧ SR F (.slice a2 x.Sessions.length c2) x.Sessions
  len h := by obtain ⟨a1, c1, a2, c2, rfl, _, _⟩ := h; rfl
  one h := by obtain ⟨a1, c1, a2, c2, rfl, _, _⟩ := h; repeat' (first | exact List.forall_mem_nil _ | refine List.forall_mem_cons.2 ⟨?_, ?_⟩ | rfl)
  mono h hle := by obtain ⟨a1, c1, a2, c2, rfl, h1, h2⟩ := h; exact ⟨a1, c1, a2, c2, rfl, h1.mono hle, h2.mono hle⟩
instance : Bd GState := ⟨fun B x => Bd.bd B x.Files ∧ Bd.bd B x.Sessions⟩
theorem GState.ofR {F : Heap} {cs : List Value} {x : GState} (h : Rp.R F cs x) : ∃ (a1 : Option Addr) (c1 : Nat) (a2 : Option Addr) (c2 : Nat), cs = [.slice a1 x.Files.length c1, .slice a2 x.Sessions.length c2] ∧ SR F (.slice a1 x.Files.length c1) x.Files ∧ SR F (.slice a2 x.Sessions.length c2) x.Sessions := h
theorem GState.toR {F : Heap} {x : GState} {a1 : Option Addr} {c1 : Nat} {a2 : Option Addr} {c2 : Nat} (h1 : SR F (.slice a1 x.Files.length c1) x.Files) (h2 : SR F (.slice a2 x.Sessions.length c2) x.Sessions) : Rp.R F [.slice a1 x.Files.length c1, .slice a2 x.Sessions.length c2] x := ⟨a1, c1, a2, c2, rfl, h1, h2⟩
theorem GState.zeroR (F : Heap) : Rp.R F [.slice none 0 0, .slice none 0 0] (({ Files := [], Sessions := [] } : GState)) := ⟨none, 0, none, 0, rfl, SR.nil, SR.nil⟩
def f_laws_szFile (x1 : GFile) (x2 : Int) : Option (Int) :=
  chk (-9223372036854775808 ≤ x2 - (x1.Name.length : Int) ∧ x2 - (x1.Name.length : Int) < 9223372036854775808) <|
  if (x2 - (x1.Name.length : Int)) < 0 then
    some (-1)
  else
    chk (-9223372036854775808 ≤ (x2 - (x1.Name.length : Int)) - (x1.Text.length : Int) ∧ (x2 - (x1.Name.length : Int)) - (x1.Text.length : Int) < 9223372036854775808) <|
    if ((x2 - (x1.Name.length : Int)) - (x1.Text.length : Int)) < 0 then
      some (-1)
    else
      some ((x2 - (x1.Name.length : Int)) - (x1.Text.length : Int))
def f_laws_szFileS_L0 (xs1 : (List GFile)) : Nat → Int → Int → Option (Int)
  | 0, _, _ => none
  | k + 1, x103, x104 =>
    if x104 < (xs1.length : Int) then
      (idx xs1 x104).bind fun x124 =>
      (f_laws_szFile ({ Name := x124.Name, Version := x124.Version, Text := x124.Text } : GFile) x103).bind fun x132 =>
      if x132 < 0 then
        some (-1)
      else
        chk (-9223372036854775808 ≤ x104 + 1 ∧ x104 + 1 < 9223372036854775808) <|
        (f_laws_szFileS_L0 xs1 k) x132 (x104 + 1)
    else
      some x103
def f_laws_szFileS (xs1 : (List GFile)) (x5 : Int) : Option (Int) :=
  chk (-9223372036854775808 ≤ x5 - (xs1.length : Int) ∧ x5 - (xs1.length : Int) < 9223372036854775808) <|
  if (x5 - (xs1.length : Int)) < 0 then
    some (-1)
  else
    f_laws_szFileS_L0 xs1 BIG (x5 - (xs1.length : Int)) 0
def f_laws_szReply (x1 : GReply) (x2 : Int) : Option (Int) :=
  chk (-9223372036854775808 ≤ x2 - (x1.Sha.length : Int) ∧ x2 - (x1.Sha.length : Int) < 9223372036854775808) <|
  if (x2 - (x1.Sha.length : Int)) < 0 then
    some (-1)
  else
    some (x2 - (x1.Sha.length : Int))
def f_laws_szSession (x1 : GSession) (x2 : Int) : Option (Int) :=
  (f_laws_szReply ({ Code := x1.Reply.Code, Version := x1.Reply.Version, Sha := x1.Reply.Sha } : GReply) x2).bind fun x9 =>
  if x9 < 0 then
    some (-1)
  else
    some x9
def f_laws_szSessionS_L0 (xs1 : (List GSession)) : Nat → Int → Int → Option (Int)
  | 0, _, _ => none
  | k + 1, x103, x104 =>
    if x104 < (xs1.length : Int) then
      (idx xs1 x104).bind fun x124 =>
      (f_laws_szSession ({ Client := x124.Client, Seq := x124.Seq, Reply := ({ Code := x124.Reply.Code, Version := x124.Reply.Version, Sha := x124.Reply.Sha } : GReply) } : GSession) x103).bind fun x132 =>
      if x132 < 0 then
        some (-1)
      else
        chk (-9223372036854775808 ≤ x104 + 1 ∧ x104 + 1 < 9223372036854775808) <|
        (f_laws_szSessionS_L0 xs1 k) x132 (x104 + 1)
    else
      some x103
def f_laws_szSessionS (xs1 : (List GSession)) (x5 : Int) : Option (Int) :=
  chk (-9223372036854775808 ≤ x5 - (xs1.length : Int) ∧ x5 - (xs1.length : Int) < 9223372036854775808) <|
  if (x5 - (xs1.length : Int)) < 0 then
    some (-1)
  else
    f_laws_szSessionS_L0 xs1 BIG (x5 - (xs1.length : Int)) 0
def f_laws_szState (x1 : GState) (x8 : Int) : Option (Int) :=
  (f_laws_szFileS x1.Files x8).bind fun x15 =>
  if x15 < 0 then
    some (-1)
  else
    (f_laws_szSessionS x1.Sessions x15).bind fun x26 =>
    if x26 < 0 then
      some (-1)
    else
      some x26
def f_laws_toFile (x1 : GFile) : Option (GFile) :=
  some ({ Name := x1.Name, Version := x1.Version, Text := x1.Text } : GFile)
def f_laws_toFileS_L0 (xs1 : (List GFile)) : Nat → (List GFile) → Int → Option ((List GFile))
  | 0, _, _ => none
  | k + 1, xs177, x180 =>
    if x180 < (xs1.length : Int) then
      (idx xs1 x180).bind fun x217 =>
      (f_laws_toFile ({ Name := x217.Name, Version := x217.Version, Text := x217.Text } : GFile)).bind fun x225 =>
      (idx xs177 x180).bind fun x235 =>
      chk (-9223372036854775808 ≤ x180 + 1 ∧ x180 + 1 < 9223372036854775808) <|
      (f_laws_toFileS_L0 xs1 k) (setI xs177 x180 ({ Name := x225.Name, Version := x225.Version, Text := x225.Text } : GFile)) (x180 + 1)
    else
      some xs177
def f_laws_toFileS (xs1 : (List GFile)) : Option ((List GFile)) :=
  chk ((0 : Int) ≤ (xs1.length : Int) ∧ (xs1.length : Int) ≤ 68719476736) <|
  f_laws_toFileS_L0 xs1 BIG (List.replicate (xs1.length : Int).toNat (({ Name := ([] : List UInt8), Version := 0, Text := ([] : List UInt8) } : GFile) : GFile)) 0
def f_laws_toReply (x1 : GReply) : Option (GReply) :=
  some ({ Code := x1.Code, Version := x1.Version, Sha := x1.Sha } : GReply)
def f_laws_toSession (x1 : GSession) : Option (GSession) :=
  (f_laws_toReply ({ Code := x1.Reply.Code, Version := x1.Reply.Version, Sha := x1.Reply.Sha } : GReply)).bind fun x35 =>
  some ({ Client := x1.Client, Seq := x1.Seq, Reply := ({ Code := x35.Code, Version := x35.Version, Sha := x35.Sha } : GReply) } : GSession)
def f_laws_toSessionS_L0 (xs1 : (List GSession)) : Nat → (List GSession) → Int → Option ((List GSession))
  | 0, _, _ => none
  | k + 1, xs177, x180 =>
    if x180 < (xs1.length : Int) then
      (idx xs1 x180).bind fun x217 =>
      (f_laws_toSession ({ Client := x217.Client, Seq := x217.Seq, Reply := ({ Code := x217.Reply.Code, Version := x217.Reply.Version, Sha := x217.Reply.Sha } : GReply) } : GSession)).bind fun x225 =>
      (idx xs177 x180).bind fun x235 =>
      chk (-9223372036854775808 ≤ x180 + 1 ∧ x180 + 1 < 9223372036854775808) <|
      (f_laws_toSessionS_L0 xs1 k) (setI xs177 x180 ({ Client := x225.Client, Seq := x225.Seq, Reply := ({ Code := x225.Reply.Code, Version := x225.Reply.Version, Sha := x225.Reply.Sha } : GReply) } : GSession)) (x180 + 1)
    else
      some xs177
def f_laws_toSessionS (xs1 : (List GSession)) : Option ((List GSession)) :=
  chk ((0 : Int) ≤ (xs1.length : Int) ∧ (xs1.length : Int) ≤ 68719476736) <|
  f_laws_toSessionS_L0 xs1 BIG (List.replicate (xs1.length : Int).toNat (({ Client := 0, Seq := 0, Reply := ({ Code := 0, Version := 0, Sha := ([] : List UInt8) } : GReply) } : GSession) : GSession)) 0
def f_laws_toState (x1 : GState) : Option (GState) :=
  (f_laws_toFileS x1.Files).bind fun x29 =>
  (f_laws_toSessionS x1.Sessions).bind fun x55 =>
  some ({ Files := x29, Sessions := x55 } : GState)
def f_spec_l00Letter (x1 : UInt8) : Option (Bool) :=
  if (97 : Int) ≤ (x1.toNat : Int) then
    if (x1.toNat : Int) ≤ (122 : Int) then
      some true
    else
      if (65 : Int) ≤ (x1.toNat : Int) then
        if (x1.toNat : Int) ≤ (90 : Int) then
          some true
        else
          some (decide ((x1.toNat : Int) = (95 : Int)))
      else
        some (decide ((x1.toNat : Int) = (95 : Int)))
  else
    if (65 : Int) ≤ (x1.toNat : Int) then
      if (x1.toNat : Int) ≤ (90 : Int) then
        some true
      else
        some (decide ((x1.toNat : Int) = (95 : Int)))
    else
      some (decide ((x1.toNat : Int) = (95 : Int)))
def f_spec_l00Digit (x1 : UInt8) : Option (Bool) :=
  if (48 : Int) ≤ (x1.toNat : Int) then
    some (decide ((x1.toNat : Int) ≤ (57 : Int)))
  else
    some false
def f_spec_l00Word_J2 (x223 : Int) (rc1 : Int → Option (Bool)) (x295 : Bool) : Option (Bool) :=
  if x295 = true then
    some false
  else
    chk (-9223372036854775808 ≤ x223 + 1 ∧ x223 + 1 < 9223372036854775808) <|
    rc1 (x223 + 1)
def f_spec_l00Word_L1 (x1 : Str) : Nat → Int → Option (Bool)
  | 0, _ => none
  | k + 1, x223 =>
    if x223 < (x1.length : Int) then
      (idx x1 x223).bind fun x298 =>
      (f_spec_l00Letter x298).bind fun x299 =>
      if (!x299) = true then
        (idx x1 x223).bind fun x308 =>
        (f_spec_l00Digit x308).bind fun x309 =>
        f_spec_l00Word_J2 x223 (f_spec_l00Word_L1 x1 k) (!x309)
      else
        f_spec_l00Word_J2 x223 (f_spec_l00Word_L1 x1 k) false
    else
      some true
def f_spec_l00Word_J0 (x1 : Str) (x18 : Bool) : Option (Bool) :=
  if x18 = true then
    some false
  else
    f_spec_l00Word_L1 x1 BIG 1
def f_spec_l00Word (x1 : Str) : Option (Bool) :=
  if (x1.length : Int) < 1 then
    f_spec_l00Word_J0 x1 true
  else
    if (40 : Int) < (x1.length : Int) then
      f_spec_l00Word_J0 x1 true
    else
      (idx x1 0).bind fun x319 =>
      (f_spec_l00Letter x319).bind fun x320 =>
      f_spec_l00Word_J0 x1 (!x320)
def f_spec_NameOK (x1 : Str) : Option (Bool) :=
  (f_spec_l00Word x1).bind fun x2 =>
  some x2
def f_spec_l09File_L0 (xs1 : (List GFile)) (x5 : Str) : Nat → Int → Option (Int)
  | 0, _ => none
  | k + 1, x67 =>
    if x67 < (xs1.length : Int) then
      (idx xs1 x67).bind fun x79 =>
      if lst x79.Name = lst x5 then
        some x67
      else
        chk (-9223372036854775808 ≤ x67 + 1 ∧ x67 + 1 < 9223372036854775808) <|
        (f_spec_l09File_L0 xs1 x5 k) (x67 + 1)
    else
      some (-1)
def f_spec_l09File (xs1 : (List GFile)) (x5 : Str) : Option (Int) :=
  f_spec_l09File_L0 xs1 x5 BIG 0
def f_spec_l02In (x1 : Int) (x2 : Int) (x3 : Int) : Option (Bool) :=
  if x2 ≤ x1 then
    some (decide (x1 ≤ x3))
  else
    some false
def f_spec_l09Session_L0 (xs1 : (List GSession)) (x5 : Int) : Nat → Int → Option (Int)
  | 0, _ => none
  | k + 1, x67 =>
    if x67 < (xs1.length : Int) then
      (idx xs1 x67).bind fun x79 =>
      if x79.Client = x5 then
        some x67
      else
        chk (-9223372036854775808 ≤ x67 + 1 ∧ x67 + 1 < 9223372036854775808) <|
        (f_spec_l09Session_L0 xs1 x5 k) (x67 + 1)
    else
      some (-1)
def f_spec_l09Session (xs1 : (List GSession)) (x5 : Int) : Option (Int) :=
  f_spec_l09Session_L0 xs1 x5 BIG 0
def f_spec_l09Sha_J1 (x380 : Int) (rc0 : Int → Option (Bool)) (x434 : Bool) : Option (Bool) :=
  if x434 = true then
    some false
  else
    chk (-9223372036854775808 ≤ x380 + 1 ∧ x380 + 1 < 9223372036854775808) <|
    rc0 (x380 + 1)
def f_spec_l09Sha_L0 (x1 : Str) : Nat → Int → Option (Bool)
  | 0, _ => none
  | k + 1, x380 =>
    if x380 < (x1.length : Int) then
      (idx x1 x380).bind fun x437 =>
      (f_spec_l00Digit x437).bind fun x438 =>
      if (!x438) = true then
        (idx x1 x380).bind fun x447 =>
        if (x447.toNat : Int) < (97 : Int) then
          f_spec_l09Sha_J1 x380 (f_spec_l09Sha_L0 x1 k) true
        else
          (idx x1 x380).bind fun x449 =>
          f_spec_l09Sha_J1 x380 (f_spec_l09Sha_L0 x1 k) (decide ((102 : Int) < (x449.toNat : Int)))
      else
        f_spec_l09Sha_J1 x380 (f_spec_l09Sha_L0 x1 k) false
    else
      if (x1.length : Int) = 64 then
        some true
      else
        some (decide ((x1.length : Int) = 0))
def f_spec_l09Sha (x1 : Str) : Option (Bool) :=
  f_spec_l09Sha_L0 x1 BIG 0
def f_spec_l09Reply (x1 : GReply) : Option (Bool) :=
  (f_spec_l02In x1.Code 0 15).bind fun x8 =>
  if x8 = true then
    (f_spec_l02In x1.Version 0 1000000).bind fun x18 =>
    if x18 = true then
      (f_spec_l09Sha x1.Sha).bind fun x28 =>
      if x28 = true then
        if ((decide (x1.Code = 0)) == (!decide (lst x1.Sha = lst ([] : List UInt8)))) = true then
          some ((decide (x1.Code = 0)) == (decide ((0 : Int) < x1.Version)))
        else
          some false
      else
        some false
    else
      some false
  else
    some false
def f_spec_StateOK_J2 (x1181 : Int) (rc1 : Int → Option (Bool)) (x1360 : Bool) : Option (Bool) :=
  if x1360 = true then
    some false
  else
    chk (-9223372036854775808 ≤ x1181 + 1 ∧ x1181 + 1 < 9223372036854775808) <|
    rc1 (x1181 + 1)
def f_spec_StateOK_J4 (x1950 : Int) (rc3 : Int → Option (Bool)) (x2159 : Bool) : Option (Bool) :=
  if x2159 = true then
    some false
  else
    chk (-9223372036854775808 ≤ x1950 + 1 ∧ x1950 + 1 < 9223372036854775808) <|
    rc3 (x1950 + 1)
def f_spec_StateOK_L3 (x1 : GState) : Nat → Int → Option (Bool)
  | 0, _ => none
  | k + 1, x1950 =>
    if x1950 < (x1.Sessions.length : Int) then
      (idx x1.Sessions x1950).bind fun x2086 =>
      (f_spec_l02In x2086.Client 1 1000000).bind fun x2167 =>
      if (!x2167) = true then
        f_spec_StateOK_J4 x1950 (f_spec_StateOK_L3 x1 k) true
      else
        (f_spec_l02In x2086.Seq 1 1000000).bind fun x2178 =>
        if (!x2178) = true then
          f_spec_StateOK_J4 x1950 (f_spec_StateOK_L3 x1 k) true
        else
          (slc x1.Sessions 0 x1950).bind fun xs2189 =>
          (f_spec_l09Session xs2189 x2086.Client).bind fun x2194 =>
          if (0 : Int) ≤ x2194 then
            f_spec_StateOK_J4 x1950 (f_spec_StateOK_L3 x1 k) true
          else
            (f_spec_l09Reply ({ Code := x2086.Reply.Code, Version := x2086.Reply.Version, Sha := x2086.Reply.Sha } : GReply)).bind fun x2205 =>
            f_spec_StateOK_J4 x1950 (f_spec_StateOK_L3 x1 k) (!x2205)
    else
      some true
def f_spec_StateOK_L1 (x1 : GState) : Nat → Int → Option (Bool)
  | 0, _ => none
  | k + 1, x1181 =>
    if x1181 < (x1.Files.length : Int) then
      (idx x1.Files x1181).bind fun x1297 =>
      (f_spec_NameOK x1297.Name).bind fun x1368 =>
      if (!x1368) = true then
        f_spec_StateOK_J2 x1181 (f_spec_StateOK_L1 x1 k) true
      else
        (slc x1.Files 0 x1181).bind fun xs1379 =>
        (f_spec_l09File xs1379 x1297.Name).bind fun x1384 =>
        if (0 : Int) ≤ x1384 then
          f_spec_StateOK_J2 x1181 (f_spec_StateOK_L1 x1 k) true
        else
          (f_spec_l02In x1297.Version 1 1000000).bind fun x1395 =>
          if (!x1395) = true then
            f_spec_StateOK_J2 x1181 (f_spec_StateOK_L1 x1 k) true
          else
            f_spec_StateOK_J2 x1181 (f_spec_StateOK_L1 x1 k) (decide ((8000 : Int) < (x1297.Text.length : Int)))
    else
      f_spec_StateOK_L3 x1 BIG 0
def f_spec_StateOK_J0 (x1 : GState) (x20 : Bool) : Option (Bool) :=
  if x20 = true then
    some false
  else
    f_spec_StateOK_L1 x1 BIG 0
def f_spec_StateOK (x1 : GState) : Option (Bool) :=
  if (20 : Int) < (x1.Files.length : Int) then
    f_spec_StateOK_J0 x1 true
  else
    f_spec_StateOK_J0 x1 (decide ((200 : Int) < (x1.Sessions.length : Int)))
def f_spec_l01Put_L0 : Nat → Int → (List UInt8) → Option ((List UInt8))
  | 0, _, _ => none
  | k + 1, x198, xs201 =>
    if (128 : Int) ≤ x198 then
      chk ((0 : Int) ≤ x198 ∧ (0 : Int) < 128) <|
      chk ((xs201.length : Int) + ([((byteOf (x198 % 128)) ||| (128 : UInt8))] : List UInt8).length ≤ 68719476736) <|
      chk ((0 : Int) ≤ x198 ∧ x198 < 9223372036854775808 ∧ (0 : Int) < 128) <|
      (f_spec_l01Put_L0 k) (x198 / 128) (xs201 ++ ([((byteOf (x198 % 128)) ||| (128 : UInt8))] : List UInt8))
    else
      chk ((xs201.length : Int) + ([(byteOf x198)] : List UInt8).length ≤ 68719476736) <|
      some (xs201 ++ ([(byteOf x198)] : List UInt8))
def f_spec_l01Put (x1 : Int) : Option ((List UInt8)) :=
  f_spec_l01Put_L0 BIG x1 ([] : List UInt8)
def f_spec_l09Text (x1 : Str) : Option ((List UInt8)) :=
  (f_spec_l01Put (x1.length : Int)).bind fun x2 =>
  chk ((x2.length : Int) + (lst x1).length ≤ 68719476736) <|
  some (x2 ++ (lst x1))
def f_spec_StateBytes_L1 (x1 : GState) : Nat → (List UInt8) → Int → Option ((List UInt8) × Int)
  | 0, _, _ => none
  | k + 1, xs4842, x4845 =>
    if x4845 < (x1.Sessions.length : Int) then
      (idx x1.Sessions x4845).bind fun x5132 =>
      (f_spec_l01Put x5132.Client).bind fun x5155 =>
      chk ((xs4842.length : Int) + x5155.length ≤ 68719476736) <|
      (f_spec_l01Put x5132.Seq).bind fun x5194 =>
      chk (((xs4842 ++ x5155).length : Int) + x5194.length ≤ 68719476736) <|
      (f_spec_l01Put x5132.Reply.Code).bind fun x5239 =>
      chk ((((xs4842 ++ x5155) ++ x5194).length : Int) + x5239.length ≤ 68719476736) <|
      (f_spec_l01Put x5132.Reply.Version).bind fun x5290 =>
      chk (((((xs4842 ++ x5155) ++ x5194) ++ x5239).length : Int) + x5290.length ≤ 68719476736) <|
      (f_spec_l09Text x5132.Reply.Sha).bind fun x5347 =>
      chk ((((((xs4842 ++ x5155) ++ x5194) ++ x5239) ++ x5290).length : Int) + x5347.length ≤ 68719476736) <|
      chk (-9223372036854775808 ≤ x4845 + 1 ∧ x4845 + 1 < 9223372036854775808) <|
      (f_spec_StateBytes_L1 x1 k) (((((xs4842 ++ x5155) ++ x5194) ++ x5239) ++ x5290) ++ x5347) (x4845 + 1)
    else
      if (65536 : Int) < (xs4842.length : Int) then
        some (([] : List UInt8), 7)
      else
        some (xs4842, 0)
def f_spec_StateBytes_L0 (x1 : GState) : Nat → (List UInt8) → Int → Option ((List UInt8) × Int)
  | 0, _, _ => none
  | k + 1, xs1623, x1626 =>
    if x1626 < (x1.Files.length : Int) then
      (idx x1.Files x1626).bind fun x1782 =>
      (f_spec_l09Text x1782.Name).bind fun x1790 =>
      chk ((xs1623.length : Int) + x1790.length ≤ 68719476736) <|
      (idx x1.Files x1626).bind fun x1825 =>
      (f_spec_l01Put x1825.Version).bind fun x1833 =>
      chk (((xs1623 ++ x1790).length : Int) + x1833.length ≤ 68719476736) <|
      (idx x1.Files x1626).bind fun x1874 =>
      (f_spec_l09Text x1874.Text).bind fun x1882 =>
      chk ((((xs1623 ++ x1790) ++ x1833).length : Int) + x1882.length ≤ 68719476736) <|
      chk (-9223372036854775808 ≤ x1626 + 1 ∧ x1626 + 1 < 9223372036854775808) <|
      (f_spec_StateBytes_L0 x1 k) (((xs1623 ++ x1790) ++ x1833) ++ x1882) (x1626 + 1)
    else
      (f_spec_l01Put (x1.Sessions.length : Int)).bind fun x1930 =>
      chk ((xs1623.length : Int) + x1930.length ≤ 68719476736) <|
      f_spec_StateBytes_L1 x1 BIG (xs1623 ++ x1930) 0
def f_spec_StateBytes (x1 : GState) : Option ((List UInt8) × Int) :=
  (f_spec_StateOK ({ Files := x1.Files, Sessions := x1.Sessions } : GState)).bind fun x14 =>
  if (!x14) = true then
    some (([] : List UInt8), 1)
  else
    (f_spec_l01Put (x1.Files.length : Int)).bind fun x41 =>
    f_spec_StateBytes_L0 x1 BIG x41 0
def f_impl_within (x1 : Int) (x2 : Int) (x3 : Int) : Option (Bool) :=
  if x2 ≤ x1 then
    some (decide (x1 ≤ x3))
  else
    some false
def f_impl_NameOK_J3 (x410 : Int) (rc0 : Int → Option (Bool)) (x473 : Bool) : Option (Bool) :=
  if x473 = true then
    some false
  else
    chk (-9223372036854775808 ≤ x410 + 1 ∧ x410 + 1 < 9223372036854775808) <|
    rc0 (x410 + 1)
def f_impl_NameOK_J2 (x410 : Int) (rc0 : Int → Option (Bool)) (x452 : UInt8) (x464 : Bool) : Option (Bool) :=
  if (!x464) = true then
    if x410 = 0 then
      f_impl_NameOK_J3 x410 rc0 true
    else
      if (x452.toNat : Int) < (48 : Int) then
        f_impl_NameOK_J3 x410 rc0 true
      else
        f_impl_NameOK_J3 x410 rc0 (decide ((57 : Int) < (x452.toNat : Int)))
  else
    f_impl_NameOK_J3 x410 rc0 false
def f_impl_NameOK_J1 (x1 : Str) (x410 : Int) (rc0 : Int → Option (Bool)) (x417 : Bool) : Option (Bool) :=
  if x417 = true then
    (idx x1 x410).bind fun x452 =>
    if (97 : Int) ≤ (x452.toNat : Int) then
      if (x452.toNat : Int) ≤ (122 : Int) then
        f_impl_NameOK_J2 x410 rc0 x452 true
      else
        if (65 : Int) ≤ (x452.toNat : Int) then
          if (x452.toNat : Int) ≤ (90 : Int) then
            f_impl_NameOK_J2 x410 rc0 x452 true
          else
            f_impl_NameOK_J2 x410 rc0 x452 (decide ((x452.toNat : Int) = (95 : Int)))
        else
          f_impl_NameOK_J2 x410 rc0 x452 (decide ((x452.toNat : Int) = (95 : Int)))
    else
      if (65 : Int) ≤ (x452.toNat : Int) then
        if (x452.toNat : Int) ≤ (90 : Int) then
          f_impl_NameOK_J2 x410 rc0 x452 true
        else
          f_impl_NameOK_J2 x410 rc0 x452 (decide ((x452.toNat : Int) = (95 : Int)))
      else
        f_impl_NameOK_J2 x410 rc0 x452 (decide ((x452.toNat : Int) = (95 : Int)))
  else
    (f_impl_within (x1.length : Int) 1 40).bind fun x485 =>
    some x485
def f_impl_NameOK_L0 (x1 : Str) : Nat → Int → Option (Bool)
  | 0, _ => none
  | k + 1, x410 =>
    if x410 < (x1.length : Int) then
      f_impl_NameOK_J1 x1 x410 (f_impl_NameOK_L0 x1 k) (decide (x410 < 100))
    else
      f_impl_NameOK_J1 x1 x410 (f_impl_NameOK_L0 x1 k) false
def f_impl_NameOK (x1 : Str) : Option (Bool) :=
  f_impl_NameOK_L0 x1 BIG 0
def f_impl_isCount (x1 : Int) : Option (Bool) :=
  (f_impl_within x1 1 1000000).bind fun x2 =>
  some x2
def f__impl_State_file_L0 (x1 : GState) (x8 : Str) : Nat → Int → Option (Int)
  | 0, _ => none
  | k + 1, x117 =>
    if x117 < (x1.Files.length : Int) then
      (idx x1.Files x117).bind fun x139 =>
      if lst x139.Name = lst x8 then
        some x117
      else
        chk (-9223372036854775808 ≤ x117 + 1 ∧ x117 + 1 < 9223372036854775808) <|
        (f__impl_State_file_L0 x1 x8 k) (x117 + 1)
    else
      some (-1)
def f__impl_State_file (x1 : GState) (x8 : Str) : Option (Int) :=
  f__impl_State_file_L0 x1 x8 BIG 0
def f_impl_contains_L0 (x1 : Str) (x2 : UInt8) : Nat → Int → Option (Bool)
  | 0, _ => none
  | k + 1, x33 =>
    if x33 < (x1.length : Int) then
      (idx x1 x33).bind fun x38 =>
      if (x38.toNat : Int) = (x2.toNat : Int) then
        some true
      else
        chk (-9223372036854775808 ≤ x33 + 1 ∧ x33 + 1 < 9223372036854775808) <|
        (f_impl_contains_L0 x1 x2 k) (x33 + 1)
    else
      some false
def f_impl_contains (x1 : Str) (x2 : UInt8) : Option (Bool) :=
  f_impl_contains_L0 x1 x2 BIG 0
def f_impl_shaOK_L0 (x1 : Str) : Nat → Int → Option (Bool)
  | 0, _ => none
  | k + 1, x150 =>
    if x150 < (x1.length : Int) then
      (idx x1 x150).bind fun x163 =>
      (f_impl_contains ([48, 49, 50, 51, 52, 53, 54, 55, 56, 57, 97, 98, 99, 100, 101, 102] : List UInt8) x163).bind fun x164 =>
      if (!x164) = true then
        some false
      else
        chk (-9223372036854775808 ≤ x150 + 1 ∧ x150 + 1 < 9223372036854775808) <|
        (f_impl_shaOK_L0 x1 k) (x150 + 1)
    else
      some (decide ((x1.length : Int) = 64))
def f_impl_shaOK (x1 : Str) : Option (Bool) :=
  f_impl_shaOK_L0 x1 BIG 0
def f_impl_replyOK (x1 : GReply) : Option (Bool) :=
  if x1.Code = 0 then
    (f_impl_isCount x1.Version).bind fun x29 =>
    if x29 = true then
      (f_impl_shaOK x1.Sha).bind fun x39 =>
      some x39
    else
      some false
  else
    (f_impl_within x1.Code 0 15).bind fun x48 =>
    if x48 = true then
      if x1.Version = 0 then
        some (decide (lst x1.Sha = lst ([] : List UInt8)))
      else
        some false
    else
      some false
def f__impl_State_session_L0 (x1 : GState) (x8 : Int) : Nat → Int → Option (Int)
  | 0, _ => none
  | k + 1, x117 =>
    if x117 < (x1.Sessions.length : Int) then
      (idx x1.Sessions x117).bind fun x139 =>
      if x139.Client = x8 then
        some x117
      else
        chk (-9223372036854775808 ≤ x117 + 1 ∧ x117 + 1 < 9223372036854775808) <|
        (f__impl_State_session_L0 x1 x8 k) (x117 + 1)
    else
      some (-1)
def f__impl_State_session (x1 : GState) (x8 : Int) : Option (Int) :=
  f__impl_State_session_L0 x1 x8 BIG 0
def f_impl_StateOK_J2 (x1082 : Int) (rc1 : Int → Option (Bool)) (x1246 : Bool) : Option (Bool) :=
  if x1246 = true then
    some false
  else
    chk (-9223372036854775808 ≤ x1082 + 1 ∧ x1082 + 1 < 9223372036854775808) <|
    rc1 (x1082 + 1)
def f_impl_StateOK_J4 (x1791 : Int) (rc3 : Int → Option (Bool)) (x1985 : Bool) : Option (Bool) :=
  if x1985 = true then
    some false
  else
    chk (-9223372036854775808 ≤ x1791 + 1 ∧ x1791 + 1 < 9223372036854775808) <|
    rc3 (x1791 + 1)
def f_impl_StateOK_L3 (x1 : GState) : Nat → Int → Option (Bool)
  | 0, _ => none
  | k + 1, x1791 =>
    if x1791 < (x1.Sessions.length : Int) then
      (idx x1.Sessions x1791).bind fun x1916 =>
      (f_impl_isCount x1916.Client).bind fun x1992 =>
      if (!x1992) = true then
        f_impl_StateOK_J4 x1791 (f_impl_StateOK_L3 x1 k) true
      else
        (f_impl_isCount x1916.Seq).bind fun x2003 =>
        if (!x2003) = true then
          f_impl_StateOK_J4 x1791 (f_impl_StateOK_L3 x1 k) true
        else
          (f_impl_replyOK ({ Code := x1916.Reply.Code, Version := x1916.Reply.Version, Sha := x1916.Reply.Sha } : GReply)).bind fun x2014 =>
          if (!x2014) = true then
            f_impl_StateOK_J4 x1791 (f_impl_StateOK_L3 x1 k) true
          else
            (f__impl_State_session ({ Files := x1.Files, Sessions := x1.Sessions } : GState) x1916.Client).bind fun x2025 =>
            f_impl_StateOK_J4 x1791 (f_impl_StateOK_L3 x1 k) (!decide (x2025 = x1791))
    else
      some true
def f_impl_StateOK_L1 (x1 : GState) : Nat → Int → Option (Bool)
  | 0, _ => none
  | k + 1, x1082 =>
    if x1082 < (x1.Files.length : Int) then
      (idx x1.Files x1082).bind fun x1187 =>
      (f_impl_NameOK x1187.Name).bind fun x1253 =>
      if (!x1253) = true then
        f_impl_StateOK_J2 x1082 (f_impl_StateOK_L1 x1 k) true
      else
        (f_impl_isCount x1187.Version).bind fun x1264 =>
        if (!x1264) = true then
          f_impl_StateOK_J2 x1082 (f_impl_StateOK_L1 x1 k) true
        else
          if (8000 : Int) < (x1187.Text.length : Int) then
            f_impl_StateOK_J2 x1082 (f_impl_StateOK_L1 x1 k) true
          else
            (f__impl_State_file ({ Files := x1.Files, Sessions := x1.Sessions } : GState) x1187.Name).bind fun x1276 =>
            f_impl_StateOK_J2 x1082 (f_impl_StateOK_L1 x1 k) (!decide (x1276 = x1082))
    else
      f_impl_StateOK_L3 x1 BIG 0
def f_impl_StateOK_J0 (x1 : GState) (x20 : Bool) : Option (Bool) :=
  if x20 = true then
    some false
  else
    f_impl_StateOK_L1 x1 BIG 0
def f_impl_StateOK (x1 : GState) : Option (Bool) :=
  if (20 : Int) < (x1.Files.length : Int) then
    f_impl_StateOK_J0 x1 true
  else
    f_impl_StateOK_J0 x1 (decide ((200 : Int) < (x1.Sessions.length : Int)))
def f_impl_number_L0 : Nat → Int → (List UInt8) → Option ((List UInt8))
  | 0, _, _ => none
  | k + 1, x203, xs206 =>
    if (127 : Int) < x203 then
      chk ((0 : Int) ≤ x203 ∧ (0 : Int) < 128) <|
      chk (-9223372036854775808 ≤ (x203 % 128) + 128 ∧ (x203 % 128) + 128 < 9223372036854775808) <|
      chk ((xs206.length : Int) + ([(byteOf ((x203 % 128) + 128))] : List UInt8).length ≤ 68719476736) <|
      chk ((0 : Int) ≤ x203 ∧ x203 < 9223372036854775808 ∧ (0 : Int) < 128) <|
      (f_impl_number_L0 k) (x203 / 128) (xs206 ++ ([(byteOf ((x203 % 128) + 128))] : List UInt8))
    else
      chk ((xs206.length : Int) + ([(byteOf x203)] : List UInt8).length ≤ 68719476736) <|
      some (xs206 ++ ([(byteOf x203)] : List UInt8))
def f_impl_number (x1 : Int) : Option ((List UInt8)) :=
  f_impl_number_L0 BIG x1 ([] : List UInt8)
def f_impl_textBytes (x1 : Str) : Option ((List UInt8)) :=
  (f_impl_number (x1.length : Int)).bind fun x2 =>
  chk ((x2.length : Int) + (lst x1).length ≤ 68719476736) <|
  some (x2 ++ (lst x1))
def f_slices_Grow_byte_nil0 (x1 : Int) : Option ((List UInt8)) :=
  if x1 < 0 then
    none
  else
    chk (-9223372036854775808 ≤ (0 : Int) - 0 ∧ (0 : Int) - 0 < 9223372036854775808) <|
    chk (-9223372036854775808 ≤ x1 - ((0 : Int) - 0) ∧ x1 - ((0 : Int) - 0) < 9223372036854775808) <|
    if (0 : Int) < (x1 - ((0 : Int) - 0)) then
      chk ((0 : Int) = 0 ∧ (0 : Int) = 0) <|
      chk ((0 : Int) < (x1 - ((0 : Int) - 0)) ∧ (x1 - ((0 : Int) - 0)) ≤ 68719476736) <|
      (slc (List.replicate (x1 - ((0 : Int) - 0)).toNat ((0 : UInt8) : UInt8)) 0 0).bind fun xs17 =>
      some xs17
    else
      some ([])
def f_slices_Concat_byte_L1 (xs1 : (List (List UInt8))) : Nat → (List UInt8) → Int → Option ((List UInt8))
  | 0, _, _ => none
  | k + 1, xs360, x364 =>
    if x364 < (xs1.length : Int) then
      (idx xs1 x364).bind fun x390 =>
      chk ((xs360.length : Int) + x390.length ≤ 68719476736) <|
      chk (-9223372036854775808 ≤ x364 + 1 ∧ x364 + 1 < 9223372036854775808) <|
      (f_slices_Concat_byte_L1 xs1 k) (xs360 ++ x390) (x364 + 1)
    else
      some xs360
def f_slices_Concat_byte_L0 (xs1 : (List (List UInt8))) : Nat → Int → Int → Option ((List UInt8))
  | 0, _, _ => none
  | k + 1, x192, x193 =>
    if x193 < (xs1.length : Int) then
      (idx xs1 x193).bind fun x209 =>
      chk (-9223372036854775808 ≤ x192 + (x209.length : Int) ∧ x192 + (x209.length : Int) < 9223372036854775808) <|
      if (x192 + (x209.length : Int)) < 0 then
        none
      else
        chk (-9223372036854775808 ≤ x193 + 1 ∧ x193 + 1 < 9223372036854775808) <|
        (f_slices_Concat_byte_L0 xs1 k) (x192 + (x209.length : Int)) (x193 + 1)
    else
      (f_slices_Grow_byte_nil0 x192).bind fun x223 =>
      f_slices_Concat_byte_L1 xs1 BIG x223 0
def f_slices_Concat_byte (xs1 : (List (List UInt8))) : Option ((List UInt8)) :=
  f_slices_Concat_byte_L0 xs1 BIG 0 0
def f__impl_State_bytes_L1 (x1 : GState) : Nat → (List UInt8) → Int → Option ((List UInt8))
  | 0, _, _ => none
  | k + 1, xs3146, x3150 =>
    if x3150 < (x1.Sessions.length : Int) then
      (idx x1.Sessions x3150).bind fun x3384 =>
      (f_impl_number x3384.Client).bind fun x3405 =>
      (f_impl_number x3384.Seq).bind fun x3423 =>
      (f_impl_number x3384.Reply.Code).bind fun x3444 =>
      (f_impl_number x3384.Reply.Version).bind fun x3468 =>
      (f_impl_textBytes x3384.Reply.Sha).bind fun x3495 =>
      (f_slices_Concat_byte ([xs3146, x3405, x3423, x3444, x3468, x3495] : List (List UInt8))).bind fun x3597 =>
      chk (-9223372036854775808 ≤ x3150 + 1 ∧ x3150 + 1 < 9223372036854775808) <|
      (f__impl_State_bytes_L1 x1 k) x3597 (x3150 + 1)
    else
      some xs3146
def f__impl_State_bytes_L0 (x1 : GState) : Nat → (List UInt8) → Int → Option ((List UInt8))
  | 0, _, _ => none
  | k + 1, xs1806, x1810 =>
    if x1810 < (x1.Files.length : Int) then
      (idx x1.Files x1810).bind fun x1986 =>
      (f_impl_textBytes x1986.Name).bind fun x2009 =>
      (f_impl_number x1986.Version).bind fun x2029 =>
      (f_impl_textBytes x1986.Text).bind fun x2052 =>
      (f_slices_Concat_byte ([xs1806, x2009, x2029, x2052] : List (List UInt8))).bind fun x2134 =>
      chk (-9223372036854775808 ≤ x1810 + 1 ∧ x1810 + 1 < 9223372036854775808) <|
      (f__impl_State_bytes_L0 x1 k) x2134 (x1810 + 1)
    else
      (f_impl_number (x1.Sessions.length : Int)).bind fun x2155 =>
      chk ((xs1806.length : Int) + x2155.length ≤ 68719476736) <|
      f__impl_State_bytes_L1 x1 BIG (xs1806 ++ x2155) 0
def f__impl_State_bytes (x1 : GState) : Option ((List UInt8)) :=
  (f_impl_number (x1.Files.length : Int)).bind fun x14 =>
  f__impl_State_bytes_L0 x1 BIG x14 0
def f_impl_StateBytes (x1 : GState) : Option ((List UInt8) × Int) :=
  (f_impl_StateOK ({ Files := x1.Files, Sessions := x1.Sessions } : GState)).bind fun x14 =>
  if (!x14) = true then
    some ([], 1)
  else
    (f__impl_State_bytes ({ Files := x1.Files, Sessions := x1.Sessions } : GState)).bind fun x25 =>
    if (65536 : Int) < (x25.length : Int) then
      some ([], 7)
    else
      some (x25, 0)
def f_laws_eqByteS_L0 (xs1 : (List UInt8)) (xs5 : (List UInt8)) : Nat → Int → Option (Bool)
  | 0, _ => none
  | k + 1, x107 =>
    if x107 < (xs1.length : Int) then
      (idx xs1 x107).bind fun x127 =>
      (idx xs5 x107).bind fun x135 =>
      if (x127.toNat : Int) = (x135.toNat : Int) then
        chk (-9223372036854775808 ≤ x107 + 1 ∧ x107 + 1 < 9223372036854775808) <|
        (f_laws_eqByteS_L0 xs1 xs5 k) (x107 + 1)
      else
        some false
    else
      some true
def f_laws_eqByteS (xs1 : (List UInt8)) (xs5 : (List UInt8)) : Option (Bool) :=
  if (xs1.length : Int) = (xs5.length : Int) then
    f_laws_eqByteS_L0 xs1 xs5 BIG 0
  else
    some false
def f_laws_eqFile (x1 : GFile) (x2 : GFile) : Option (Bool) :=
  if lst x1.Name = lst x2.Name then
    if x1.Version = x2.Version then
      if lst x1.Text = lst x2.Text then
        some true
      else
        some false
    else
      some false
  else
    some false
def f_laws_eqFileS_L0 (xs1 : (List GFile)) (xs5 : (List GFile)) : Nat → Int → Option (Bool)
  | 0, _ => none
  | k + 1, x139 =>
    if x139 < (xs1.length : Int) then
      (idx xs1 x139).bind fun x167 =>
      (idx xs5 x139).bind fun x175 =>
      (f_laws_eqFile ({ Name := x167.Name, Version := x167.Version, Text := x167.Text } : GFile) ({ Name := x175.Name, Version := x175.Version, Text := x175.Text } : GFile)).bind fun x183 =>
      if (!x183) = true then
        some false
      else
        chk (-9223372036854775808 ≤ x139 + 1 ∧ x139 + 1 < 9223372036854775808) <|
        (f_laws_eqFileS_L0 xs1 xs5 k) (x139 + 1)
    else
      some true
def f_laws_eqFileS (xs1 : (List GFile)) (xs5 : (List GFile)) : Option (Bool) :=
  if (xs1.length : Int) = (xs5.length : Int) then
    f_laws_eqFileS_L0 xs1 xs5 BIG 0
  else
    some false
def f_laws_eqReply (x1 : GReply) (x2 : GReply) : Option (Bool) :=
  if x1.Code = x2.Code then
    if x1.Version = x2.Version then
      if lst x1.Sha = lst x2.Sha then
        some true
      else
        some false
    else
      some false
  else
    some false
def f_laws_eqSession (x1 : GSession) (x2 : GSession) : Option (Bool) :=
  if x1.Client = x2.Client then
    if x1.Seq = x2.Seq then
      (f_laws_eqReply ({ Code := x1.Reply.Code, Version := x1.Reply.Version, Sha := x1.Reply.Sha } : GReply) ({ Code := x2.Reply.Code, Version := x2.Reply.Version, Sha := x2.Reply.Sha } : GReply)).bind fun x20 =>
      if (!x20) = true then
        some false
      else
        some true
    else
      some false
  else
    some false
def f_laws_eqSessionS_L0 (xs1 : (List GSession)) (xs5 : (List GSession)) : Nat → Int → Option (Bool)
  | 0, _ => none
  | k + 1, x139 =>
    if x139 < (xs1.length : Int) then
      (idx xs1 x139).bind fun x167 =>
      (idx xs5 x139).bind fun x175 =>
      (f_laws_eqSession ({ Client := x167.Client, Seq := x167.Seq, Reply := ({ Code := x167.Reply.Code, Version := x167.Reply.Version, Sha := x167.Reply.Sha } : GReply) } : GSession) ({ Client := x175.Client, Seq := x175.Seq, Reply := ({ Code := x175.Reply.Code, Version := x175.Reply.Version, Sha := x175.Reply.Sha } : GReply) } : GSession)).bind fun x183 =>
      if (!x183) = true then
        some false
      else
        chk (-9223372036854775808 ≤ x139 + 1 ∧ x139 + 1 < 9223372036854775808) <|
        (f_laws_eqSessionS_L0 xs1 xs5 k) (x139 + 1)
    else
      some true
def f_laws_eqSessionS (xs1 : (List GSession)) (xs5 : (List GSession)) : Option (Bool) :=
  if (xs1.length : Int) = (xs5.length : Int) then
    f_laws_eqSessionS_L0 xs1 xs5 BIG 0
  else
    some false
def f_laws_eqState (x1 : GState) (x8 : GState) : Option (Bool) :=
  (f_laws_eqFileS x1.Files x8.Files).bind fun x28 =>
  if (!x28) = true then
    some false
  else
    (f_laws_eqSessionS x1.Sessions x8.Sessions).bind fun x40 =>
    if (!x40) = true then
      some false
    else
      some true
def f_laws_markText_L0 : Nat → Int → Str → Option (Str)
  | 0, _, _ => none
  | k + 1, x100, x101 =>
    if (0 : Int) < x100 then
      chk ((0 : Int) ≤ x100 ∧ (0 : Int) < 10) <|
      chk (-9223372036854775808 ≤ (48 : Int) + (x100 % 10) ∧ (48 : Int) + (x100 % 10) < 9223372036854775808) <|
      chk ((([(byteOf ((48 : Int) + (x100 % 10)))] : List UInt8).length : Int) + x101.length ≤ 68719476736) <|
      chk ((0 : Int) ≤ x100 ∧ x100 < 9223372036854775808 ∧ (0 : Int) < 10) <|
      (f_laws_markText_L0 k) (x100 / 10) (lst ([(byteOf ((48 : Int) + (x100 % 10)))] : List UInt8) ++ lst x101)
    else
      chk ((([109] : List UInt8).length : Int) + x101.length ≤ 68719476736) <|
      some (lst ([109] : List UInt8) ++ lst x101)
def f_laws_markText (x1 : Int) : Option (Str) :=
  if x1 ≤ 0 then
    some ([109, 48] : List UInt8)
  else
    f_laws_markText_L0 BIG x1 ([] : List UInt8)
def f_laws_markFileS_L0 (xs1 : (List GFile)) : Nat → (List GFile) → Int → Int → Option ((List GFile) × Int)
  | 0, _, _, _ => none
  | k + 1, xs318, x321, x322 =>
    if x322 < (xs1.length : Int) then
      (f_laws_markText x321).bind fun x396 =>
      (idx xs318 x322).bind fun x406 =>
      chk (-9223372036854775808 ≤ x321 + 1 ∧ x321 + 1 < 9223372036854775808) <|
      (idx (setI xs318 x322 ({ Name := x396, Version := x406.Version, Text := x406.Text } : GFile)) x322).bind fun x423 =>
      chk (-9223372036854775808 ≤ (x321 + 1) + 1 ∧ (x321 + 1) + 1 < 9223372036854775808) <|
      (f_laws_markText ((x321 + 1) + 1)).bind fun x440 =>
      (idx (setI (setI xs318 x322 ({ Name := x396, Version := x406.Version, Text := x406.Text } : GFile)) x322 ({ Name := x423.Name, Version := (x321 + 1), Text := x423.Text } : GFile)) x322).bind fun x450 =>
      chk (-9223372036854775808 ≤ ((x321 + 1) + 1) + 1 ∧ ((x321 + 1) + 1) + 1 < 9223372036854775808) <|
      chk (-9223372036854775808 ≤ x322 + 1 ∧ x322 + 1 < 9223372036854775808) <|
      (f_laws_markFileS_L0 xs1 k) (setI (setI (setI xs318 x322 ({ Name := x396, Version := x406.Version, Text := x406.Text } : GFile)) x322 ({ Name := x423.Name, Version := (x321 + 1), Text := x423.Text } : GFile)) x322 ({ Name := x450.Name, Version := x450.Version, Text := x440 } : GFile)) (((x321 + 1) + 1) + 1) (x322 + 1)
    else
      some (xs318, x321)
def f_laws_markFileS (xs1 : (List GFile)) (x6 : Int) : Option ((List GFile) × Int) :=
  f_laws_markFileS_L0 xs1 BIG xs1 x6 0
def f_laws_markSessionS_L0 (xs1 : (List GSession)) : Nat → (List GSession) → Int → Int → Option ((List GSession) × Int)
  | 0, _, _, _ => none
  | k + 1, xs414, x417, x418 =>
    if x418 < (xs1.length : Int) then
      (idx xs414 x418).bind fun x516 =>
      chk (-9223372036854775808 ≤ x417 + 1 ∧ x417 + 1 < 9223372036854775808) <|
      (idx (setI xs414 x418 ({ Client := x417, Seq := x516.Seq, Reply := ({ Code := x516.Reply.Code, Version := x516.Reply.Version, Sha := x516.Reply.Sha } : GReply) } : GSession)) x418).bind fun x533 =>
      chk (-9223372036854775808 ≤ (x417 + 1) + 1 ∧ (x417 + 1) + 1 < 9223372036854775808) <|
      (idx (setI (setI xs414 x418 ({ Client := x417, Seq := x516.Seq, Reply := ({ Code := x516.Reply.Code, Version := x516.Reply.Version, Sha := x516.Reply.Sha } : GReply) } : GSession)) x418 ({ Client := x533.Client, Seq := (x417 + 1), Reply := ({ Code := x533.Reply.Code, Version := x533.Reply.Version, Sha := x533.Reply.Sha } : GReply) } : GSession)) x418).bind fun x550 =>
      chk (-9223372036854775808 ≤ ((x417 + 1) + 1) + 1 ∧ ((x417 + 1) + 1) + 1 < 9223372036854775808) <|
      (idx (setI (setI (setI xs414 x418 ({ Client := x417, Seq := x516.Seq, Reply := ({ Code := x516.Reply.Code, Version := x516.Reply.Version, Sha := x516.Reply.Sha } : GReply) } : GSession)) x418 ({ Client := x533.Client, Seq := (x417 + 1), Reply := ({ Code := x533.Reply.Code, Version := x533.Reply.Version, Sha := x533.Reply.Sha } : GReply) } : GSession)) x418 ({ Client := x550.Client, Seq := x550.Seq, Reply := ({ Code := ((x417 + 1) + 1), Version := x550.Reply.Version, Sha := x550.Reply.Sha } : GReply) } : GSession)) x418).bind fun x567 =>
      chk (-9223372036854775808 ≤ (((x417 + 1) + 1) + 1) + 1 ∧ (((x417 + 1) + 1) + 1) + 1 < 9223372036854775808) <|
      (f_laws_markText ((((x417 + 1) + 1) + 1) + 1)).bind fun x584 =>
      (idx (setI (setI (setI (setI xs414 x418 ({ Client := x417, Seq := x516.Seq, Reply := ({ Code := x516.Reply.Code, Version := x516.Reply.Version, Sha := x516.Reply.Sha } : GReply) } : GSession)) x418 ({ Client := x533.Client, Seq := (x417 + 1), Reply := ({ Code := x533.Reply.Code, Version := x533.Reply.Version, Sha := x533.Reply.Sha } : GReply) } : GSession)) x418 ({ Client := x550.Client, Seq := x550.Seq, Reply := ({ Code := ((x417 + 1) + 1), Version := x550.Reply.Version, Sha := x550.Reply.Sha } : GReply) } : GSession)) x418 ({ Client := x567.Client, Seq := x567.Seq, Reply := ({ Code := x567.Reply.Code, Version := (((x417 + 1) + 1) + 1), Sha := x567.Reply.Sha } : GReply) } : GSession)) x418).bind fun x594 =>
      chk (-9223372036854775808 ≤ ((((x417 + 1) + 1) + 1) + 1) + 1 ∧ ((((x417 + 1) + 1) + 1) + 1) + 1 < 9223372036854775808) <|
      chk (-9223372036854775808 ≤ x418 + 1 ∧ x418 + 1 < 9223372036854775808) <|
      (f_laws_markSessionS_L0 xs1 k) (setI (setI (setI (setI (setI xs414 x418 ({ Client := x417, Seq := x516.Seq, Reply := ({ Code := x516.Reply.Code, Version := x516.Reply.Version, Sha := x516.Reply.Sha } : GReply) } : GSession)) x418 ({ Client := x533.Client, Seq := (x417 + 1), Reply := ({ Code := x533.Reply.Code, Version := x533.Reply.Version, Sha := x533.Reply.Sha } : GReply) } : GSession)) x418 ({ Client := x550.Client, Seq := x550.Seq, Reply := ({ Code := ((x417 + 1) + 1), Version := x550.Reply.Version, Sha := x550.Reply.Sha } : GReply) } : GSession)) x418 ({ Client := x567.Client, Seq := x567.Seq, Reply := ({ Code := x567.Reply.Code, Version := (((x417 + 1) + 1) + 1), Sha := x567.Reply.Sha } : GReply) } : GSession)) x418 ({ Client := x594.Client, Seq := x594.Seq, Reply := ({ Code := x594.Reply.Code, Version := x594.Reply.Version, Sha := x584 } : GReply) } : GSession)) (((((x417 + 1) + 1) + 1) + 1) + 1) (x418 + 1)
    else
      some (xs414, x417)
def f_laws_markSessionS (xs1 : (List GSession)) (x6 : Int) : Option ((List GSession) × Int) :=
  f_laws_markSessionS_L0 xs1 BIG xs1 x6 0
def f_laws_markByteS_L0 (xs1 : (List UInt8)) : Nat → (List UInt8) → Int → Int → Option ((List UInt8) × Int)
  | 0, _, _, _ => none
  | k + 1, xs102, x105, x106 =>
    if x106 < (xs1.length : Int) then
      (idx xs102 x106).bind fun x126 =>
      chk (-9223372036854775808 ≤ x105 + 1 ∧ x105 + 1 < 9223372036854775808) <|
      chk (-9223372036854775808 ≤ x106 + 1 ∧ x106 + 1 < 9223372036854775808) <|
      (f_laws_markByteS_L0 xs1 k) (setI xs102 x106 (byteOf x105)) (x105 + 1) (x106 + 1)
    else
      some (xs102, x105)
def f_laws_markByteS (xs1 : (List UInt8)) (x6 : Int) : Option ((List UInt8) × Int) :=
  f_laws_markByteS_L0 xs1 BIG xs1 x6 0
def f_laws_heldByteS_L0 (xs1 : (List UInt8)) : Nat → Int → Int → Option (Int)
  | 0, _, _ => none
  | k + 1, x76, x77 =>
    if x77 < (xs1.length : Int) then
      (idx xs1 x77).bind fun x91 =>
      if (x91.toNat : Int) = ((byteOf x76).toNat : Int) then
        chk (-9223372036854775808 ≤ x76 + 1 ∧ x76 + 1 < 9223372036854775808) <|
        chk (-9223372036854775808 ≤ x77 + 1 ∧ x77 + 1 < 9223372036854775808) <|
        (f_laws_heldByteS_L0 xs1 k) (x76 + 1) (x77 + 1)
      else
        some (-1)
    else
      some x76
def f_laws_heldByteS (xs1 : (List UInt8)) (x5 : Int) : Option (Int) :=
  f_laws_heldByteS_L0 xs1 BIG x5 0
def f_laws_FnExactStateBytes_J2 (x568 : ((List UInt8) × Int)) (x741 : Bool) : Option (Bool) :=
  if x741 = true then
    some false
  else
    (f_laws_heldByteS x568.1 1).bind fun x750 =>
    if x750 < 0 then
      some false
    else
      if x750 = x568.2 then
        some true
      else
        some false
def f_laws_FnExactStateBytes_J1 (x167 : ((List UInt8) × Int)) (x1 : GState) (x62 : ((List UInt8) × Int)) (x557 : Bool) : Option (Bool) :=
  if x557 = true then
    some false
  else
    (f_laws_markByteS x167.1 1).bind fun x568 =>
    (f_laws_heldByteS x568.1 1).bind fun x601 =>
    if x601 < 0 then
      some false
    else
      if x601 = x568.2 then
        (f_laws_toState ({ Files := x1.Files, Sessions := x1.Sessions } : GState)).bind fun x618 =>
        (f_impl_StateBytes ({ Files := x618.Files, Sessions := x618.Sessions } : GState)).bind fun x667 =>
        (f_laws_eqByteS x667.1 x62.1).bind fun x784 =>
        if (!x784) = true then
          f_laws_FnExactStateBytes_J2 x568 true
        else
          f_laws_FnExactStateBytes_J2 x568 (!decide (x667.2 = x62.2))
      else
        some false
def f_laws_FnExactStateBytes_J0 (x1 : GState) (x83 : (GState)) (x167 : ((List UInt8) × Int)) (x62 : ((List UInt8) × Int)) (x254 : Bool) : Option (Bool) :=
  if x254 = true then
    some false
  else
    (f_laws_toState ({ Files := x1.Files, Sessions := x1.Sessions } : GState)).bind fun x281 =>
    (f_laws_eqState ({ Files := x83.Files, Sessions := x83.Sessions } : GState) ({ Files := x281.Files, Sessions := x281.Sessions } : GState)).bind fun x368 =>
    if (!x368) = true then
      some false
    else
      (f_laws_markFileS x83.Files 1).bind fun x412 =>
      (f_laws_markSessionS x83.Sessions x412.2).bind fun x455 =>
      if x455.2 < 0 then
        f_laws_FnExactStateBytes_J1 x167 x1 x62 true
      else
        (f_laws_eqByteS x167.1 x62.1).bind fun x832 =>
        if (!x832) = true then
          f_laws_FnExactStateBytes_J1 x167 x1 x62 true
        else
          f_laws_FnExactStateBytes_J1 x167 x1 x62 (!decide (x167.2 = x62.2))
def f_laws_FnExactStateBytes (x1 : GState) : Option (Bool) :=
  (f_laws_szState ({ Files := x1.Files, Sessions := x1.Sessions } : GState) 1048576).bind fun x14 =>
  if x14 < 0 then
    some true
  else
    (f_laws_toState ({ Files := x1.Files, Sessions := x1.Sessions } : GState)).bind fun x25 =>
    (f_spec_StateBytes ({ Files := x25.Files, Sessions := x25.Sessions } : GState)).bind fun x62 =>
    (f_laws_toState ({ Files := x1.Files, Sessions := x1.Sessions } : GState)).bind fun x83 =>
    (f_impl_StateBytes ({ Files := x83.Files, Sessions := x83.Sessions } : GState)).bind fun x167 =>
    (f_laws_eqByteS x167.1 x62.1).bind fun x881 =>
    if (!x881) = true then
      f_laws_FnExactStateBytes_J0 x1 x83 x167 x62 true
    else
      f_laws_FnExactStateBytes_J0 x1 x83 x167 x62 (!decide (x167.2 = x62.2))
end Go.Proofs.YtmodhnkjimpkbaaAb
