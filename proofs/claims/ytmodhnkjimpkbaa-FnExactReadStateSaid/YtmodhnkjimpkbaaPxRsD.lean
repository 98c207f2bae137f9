import Derived.Test.YtmodhnkjimpkbaaAbP6
set_option linter.all false
set_option maxRecDepth 20000
namespace Go.Proofs.YtmodhnkjimpkbaaAb
open Go
structure GFile where
  Name : Str
  Version : Int
  Text : Str
deriving DecidableEq, Inhabited
instance : Rp GFile where
  sz := 3
  R F cs x := cs = [str x.Name, .int .i64 x.Version, str x.Text]
  len h := by obtain rfl := h; rfl
  one h := by obtain rfl := h; repeat' (first | exact List.forall_mem_nil _ | refine List.forall_mem_cons.2 ⟨?_, ?_⟩ | rfl)
  mono h hle := by obtain rfl := h; exact rfl
instance : Fl GFile := ⟨fun h => h⟩
theorem GFile.ofR {F : Heap} {cs : List Value} {x : GFile} (h : Rp.R F cs x) : cs = [str x.Name, .int .i64 x.Version, str x.Text] := h
theorem GFile.toR {F : Heap} {x : GFile} : Rp.R F [str x.Name, .int .i64 x.Version, str x.Text] x := rfl
theorem GFile.zeroR (F : Heap) : Rp.R F [str ([] : List UInt8), .int .i64 0, str ([] : List UInt8)] (({ Name := ([] : List UInt8), Version := 0, Text := ([] : List UInt8) } : GFile)) := rfl
structure GReply where
  Code : Int
  Version : Int
  Sha : Str
deriving DecidableEq, Inhabited
instance : Rp GReply where
  sz := 3
  R F cs x := cs = [.int .i64 x.Code, .int .i64 x.Version, str x.Sha]
  len h := by obtain rfl := h; rfl
  one h := by obtain rfl := h; repeat' (first | exact List.forall_mem_nil _ | refine List.forall_mem_cons.2 ⟨?_, ?_⟩ | rfl)
  mono h hle := by obtain rfl := h; exact rfl
instance : Fl GReply := ⟨fun h => h⟩
theorem GReply.ofR {F : Heap} {cs : List Value} {x : GReply} (h : Rp.R F cs x) : cs = [.int .i64 x.Code, .int .i64 x.Version, str x.Sha] := h
theorem GReply.toR {F : Heap} {x : GReply} : Rp.R F [.int .i64 x.Code, .int .i64 x.Version, str x.Sha] x := rfl
theorem GReply.zeroR (F : Heap) : Rp.R F [.int .i64 0, .int .i64 0, str ([] : List UInt8)] (({ Code := 0, Version := 0, Sha := ([] : List UInt8) } : GReply)) := rfl
structure GSession where
  Client : Int
  Seq : Int
  Reply : GReply
deriving DecidableEq, Inhabited
instance : Rp GSession where
  sz := 5
  R F cs x := cs = [.int .i64 x.Client, .int .i64 x.Seq, .int .i64 x.Reply.Code, .int .i64 x.Reply.Version, str x.Reply.Sha]
  len h := by obtain rfl := h; rfl
  one h := by obtain rfl := h; repeat' (first | exact List.forall_mem_nil _ | refine List.forall_mem_cons.2 ⟨?_, ?_⟩ | rfl)
  mono h hle := by obtain rfl := h; exact rfl
instance : Fl GSession := ⟨fun h => h⟩
theorem GSession.ofR {F : Heap} {cs : List Value} {x : GSession} (h : Rp.R F cs x) : cs = [.int .i64 x.Client, .int .i64 x.Seq, .int .i64 x.Reply.Code, .int .i64 x.Reply.Version, str x.Reply.Sha] := h
theorem GSession.toR {F : Heap} {x : GSession} : Rp.R F [.int .i64 x.Client, .int .i64 x.Seq, .int .i64 x.Reply.Code, .int .i64 x.Reply.Version, str x.Reply.Sha] x := rfl
theorem GSession.zeroR (F : Heap) : Rp.R F [.int .i64 0, .int .i64 0, .int .i64 0, .int .i64 0, str ([] : List UInt8)] (({ Client := 0, Seq := 0, Reply := ({ Code := 0, Version := 0, Sha := ([] : List UInt8) } : GReply) } : GSession)) := rfl
structure GState where
  Files : (List GFile)
  Sessions : (List GSession)
deriving DecidableEq, Inhabited
instance : Rp GState where
  sz := 2
  R F cs x := ∃ (a1 : Option Addr) (c1 : Nat) (a2 : Option Addr) (c2 : Nat), cs = [.slice a1 x.Files.length c1, .slice a2 x.Sessions.length c2] ∧ SR F (.slice a1 x.Files.length c1) x.Files ∧ SR F (.slice a2 x.Sessions.length c2) x.Sessions
  len h := by obtain ⟨a1, c1, a2, c2, rfl, _, _⟩ := h; rfl
  one h := by obtain ⟨a1, c1, a2, c2, rfl, _, _⟩ := h; repeat' (first | exact List.forall_mem_nil _ | refine List.forall_mem_cons.2 ⟨?_, ?_⟩ | rfl)
  mono h hle := by obtain ⟨a1, c1, a2, c2, rfl, h1, h2⟩ := h; exact ⟨a1, c1, a2, c2, rfl, h1.mono hle, h2.mono hle⟩
theorem GState.ofR {F : Heap} {cs : List Value} {x : GState} (h : Rp.R F cs x) : ∃ (a1 : Option Addr) (c1 : Nat) (a2 : Option Addr) (c2 : Nat), cs = [.slice a1 x.Files.length c1, .slice a2 x.Sessions.length c2] ∧ SR F (.slice a1 x.Files.length c1) x.Files ∧ SR F (.slice a2 x.Sessions.length c2) x.Sessions := h
theorem GState.toR {F : Heap} {x : GState} {a1 : Option Addr} {c1 : Nat} {a2 : Option Addr} {c2 : Nat} (h1 : SR F (.slice a1 x.Files.length c1) x.Files) (h2 : SR F (.slice a2 x.Sessions.length c2) x.Sessions) : Rp.R F [.slice a1 x.Files.length c1, .slice a2 x.Sessions.length c2] x := ⟨a1, c1, a2, c2, rfl, h1, h2⟩
theorem GState.zeroR (F : Heap) : Rp.R F [.slice none 0 0, .slice none 0 0] (({ Files := [], Sessions := [] } : GState)) := ⟨none, 0, none, 0, rfl, SR.nil, SR.nil⟩
structure Gl09Reader where
  b : (List UInt8)
  at_ : Int
  bad : Bool
deriving DecidableEq, Inhabited
instance : Rp Gl09Reader where
  sz := 3
  R F cs x := ∃ (a1 : Option Addr) (c1 : Nat), cs = [.slice a1 x.b.length c1, .int .i64 x.at_, .bool x.bad] ∧ SR F (.slice a1 x.b.length c1) x.b
  len h := by obtain ⟨a1, c1, rfl, _⟩ := h; rfl
  one h := by obtain ⟨a1, c1, rfl, _⟩ := h; repeat' (first | exact List.forall_mem_nil _ | refine List.forall_mem_cons.2 ⟨?_, ?_⟩ | rfl)
  mono h hle := by obtain ⟨a1, c1, rfl, h1⟩ := h; exact ⟨a1, c1, rfl, h1.mono hle⟩
theorem Gl09Reader.ofR {F : Heap} {cs : List Value} {x : Gl09Reader} (h : Rp.R F cs x) : ∃ (a1 : Option Addr) (c1 : Nat), cs = [.slice a1 x.b.length c1, .int .i64 x.at_, .bool x.bad] ∧ SR F (.slice a1 x.b.length c1) x.b := h
theorem Gl09Reader.toR {F : Heap} {x : Gl09Reader} {a1 : Option Addr} {c1 : Nat} (h1 : SR F (.slice a1 x.b.length c1) x.b) : Rp.R F [.slice a1 x.b.length c1, .int .i64 x.at_, .bool x.bad] x := ⟨a1, c1, rfl, h1⟩
theorem Gl09Reader.zeroR (F : Heap) : Rp.R F [.slice none 0 0, .int .i64 0, .bool false] (({ b := [], at_ := 0, bad := false } : Gl09Reader)) := ⟨none, 0, rfl, SR.nil⟩
structure GbyteReader where
  b : (List UInt8)
  bad : Bool
deriving DecidableEq, Inhabited
instance : Rp GbyteReader where
  sz := 2
  R F cs x := ∃ (a1 : Option Addr) (c1 : Nat), cs = [.slice a1 x.b.length c1, .bool x.bad] ∧ SR F (.slice a1 x.b.length c1) x.b
  len h := by obtain ⟨a1, c1, rfl, _⟩ := h; rfl
  one h := by obtain ⟨a1, c1, rfl, _⟩ := h; repeat' (first | exact List.forall_mem_nil _ | refine List.forall_mem_cons.2 ⟨?_, ?_⟩ | rfl)
  mono h hle := by obtain ⟨a1, c1, rfl, h1⟩ := h; exact ⟨a1, c1, rfl, h1.mono hle⟩
theorem GbyteReader.ofR {F : Heap} {cs : List Value} {x : GbyteReader} (h : Rp.R F cs x) : ∃ (a1 : Option Addr) (c1 : Nat), cs = [.slice a1 x.b.length c1, .bool x.bad] ∧ SR F (.slice a1 x.b.length c1) x.b := h
theorem GbyteReader.toR {F : Heap} {x : GbyteReader} {a1 : Option Addr} {c1 : Nat} (h1 : SR F (.slice a1 x.b.length c1) x.b) : Rp.R F [.slice a1 x.b.length c1, .bool x.bad] x := ⟨a1, c1, rfl, h1⟩
theorem GbyteReader.zeroR (F : Heap) : Rp.R F [.slice none 0 0, .bool false] (({ b := [], bad := false } : GbyteReader)) := ⟨none, 0, rfl, SR.nil⟩
def f_laws_toByteS_L0 (xs1 : (List UInt8)) : Nat → (List UInt8) → Int → Option ((List UInt8))
  | 0, _, _ => none
  | k + 1, xs137, x140 =>
    if x140 < (xs1.length : Int) then
      (idx xs1 x140).bind fun x167 =>
      (idx xs137 x140).bind fun x175 =>
      chk (-9223372036854775808 ≤ x140 + 1 ∧ x140 + 1 < 9223372036854775808) <|
      (f_laws_toByteS_L0 xs1 k) (setI xs137 x140 x167) (x140 + 1)
    else
      some xs137
def f_laws_toByteS (xs1 : (List UInt8)) : Option ((List UInt8)) :=
  chk ((0 : Int) ≤ (xs1.length : Int) ∧ (xs1.length : Int) ≤ 68719476736) <|
  f_laws_toByteS_L0 xs1 BIG (List.replicate (xs1.length : Int).toNat ((0 : UInt8) : UInt8)) 0
def f_spec_l01Get_J1 (x223 : Int) (rc0 : Int → Int → Int → Option (Int × Int × Int)) (x275 : Int) (x276 : Int) : Option (Int × Int × Int) :=
  chk (-9223372036854775808 ≤ x223 + 1 ∧ x223 + 1 < 9223372036854775808) <|
  rc0 x275 x276 (x223 + 1)
def f_spec_l01Get_J2 (x5 : Int) (x223 : Int) (x221 : Int) (x282 : UInt8) (x222 : Int) (x313 : Bool) : Option (Int × Int × Int) :=
  if x313 = true then
    some (0, 0, 2)
  else
    chk (-9223372036854775808 ≤ x5 + x223 ∧ x5 + x223 < 9223372036854775808) <|
    chk (-9223372036854775808 ≤ (x5 + x223) + 1 ∧ (x5 + x223) + 1 < 9223372036854775808) <|
    some ((x221 + (((x282.toNat : Int) % 128) * x222)), ((x5 + x223) + 1), 0)
def f_spec_l01Get_L0 (x5 : Int) (xs1 : (List UInt8)) : Nat → Int → Int → Int → Option (Int × Int × Int)
  | 0, _, _, _ => none
  | k + 1, x221, x222, x223 =>
    if x223 < 9 then
      chk (-9223372036854775808 ≤ x5 + x223 ∧ x5 + x223 < 9223372036854775808) <|
      if (xs1.length : Int) ≤ (x5 + x223) then
        some (0, 0, 1)
      else
        chk (-9223372036854775808 ≤ x5 + x223 ∧ x5 + x223 < 9223372036854775808) <|
        (idx xs1 (x5 + x223)).bind fun x282 =>
        chk ((0 : Int) ≤ (x282.toNat : Int) ∧ (0 : Int) < 128) <|
        chk (-9223372036854775808 ≤ ((x282.toNat : Int) % 128) * x222 ∧ ((x282.toNat : Int) % 128) * x222 < 9223372036854775808) <|
        chk (-9223372036854775808 ≤ x221 + (((x282.toNat : Int) % 128) * x222) ∧ x221 + (((x282.toNat : Int) % 128) * x222) < 9223372036854775808) <|
        if (x282.toNat : Int) < 128 then
          if (0 : Int) < x223 then
            f_spec_l01Get_J2 x5 x223 x221 x282 x222 (decide ((x282.toNat : Int) = 0))
          else
            f_spec_l01Get_J2 x5 x223 x221 x282 x222 false
        else
          if x223 < 8 then
            chk (-9223372036854775808 ≤ x222 * 128 ∧ x222 * 128 < 9223372036854775808) <|
            f_spec_l01Get_J1 x223 (f_spec_l01Get_L0 x5 xs1 k) (x221 + (((x282.toNat : Int) % 128) * x222)) (x222 * 128)
          else
            f_spec_l01Get_J1 x223 (f_spec_l01Get_L0 x5 xs1 k) (x221 + (((x282.toNat : Int) % 128) * x222)) x222
    else
      some (0, 0, 2)
def f_spec_l01Get (xs1 : (List UInt8)) (x5 : Int) : Option (Int × Int × Int) :=
  f_spec_l01Get_L0 x5 xs1 BIG 0 1 0
def f_spec_l09Reader_number (x1 : Gl09Reader) : Option (Gl09Reader × Int) :=
  if x1.bad = true then
    some (({ b := x1.b, at_ := x1.at_, bad := x1.bad } : Gl09Reader), 0)
  else
    (f_spec_l01Get x1.b x1.at_).bind fun x10 =>
    if x10.2.2 = 0 then
      some (({ b := x1.b, at_ := x10.2.1, bad := x1.bad } : Gl09Reader), x10.1)
    else
      some (({ b := x1.b, at_ := x1.at_, bad := true } : Gl09Reader), 0)
def f_spec_l09Reader_text_J0 (x8 : (Gl09Reader × Int)) (x37 : Bool) : Option (Gl09Reader × Str) :=
  if x37 = true then
    some (({ b := x8.1.b, at_ := x8.1.at_, bad := true } : Gl09Reader), ([] : List UInt8))
  else
    chk (-9223372036854775808 ≤ x8.1.at_ + x8.2 ∧ x8.1.at_ + x8.2 < 9223372036854775808) <|
    (slc x8.1.b x8.1.at_ (x8.1.at_ + x8.2)).bind fun xs53 =>
    chk (-9223372036854775808 ≤ x8.1.at_ + x8.2 ∧ x8.1.at_ + x8.2 < 9223372036854775808) <|
    some (({ b := x8.1.b, at_ := (x8.1.at_ + x8.2), bad := x8.1.bad } : Gl09Reader), xs53)
def f_spec_l09Reader_text (x1 : Gl09Reader) : Option (Gl09Reader × Str) :=
  (f_spec_l09Reader_number ({ b := x1.b, at_ := x1.at_, bad := x1.bad } : Gl09Reader)).bind fun x8 =>
  if x8.1.bad = true then
    f_spec_l09Reader_text_J0 x8 true
  else
    chk (-9223372036854775808 ≤ (x8.1.b.length : Int) - x8.1.at_ ∧ (x8.1.b.length : Int) - x8.1.at_ < 9223372036854775808) <|
    f_spec_l09Reader_text_J0 x8 (decide (((x8.1.b.length : Int) - x8.1.at_) < x8.2))
def f_spec_l00Letter (x1 : UInt8) : Option (Bool) :=
  if (97 : Int) ≤ (x1.toNat : Int) then
    if (x1.toNat : Int) ≤ (122 : Int) then
      some true
    else
      if (65 : Int) ≤ (x1.toNat : Int) then
        if (x1.toNat : Int) ≤ (90 : Int) then
          some true
        else
          some (decide ((x1.toNat : Int) = (95 : Int)))
      else
        some (decide ((x1.toNat : Int) = (95 : Int)))
  else
    if (65 : Int) ≤ (x1.toNat : Int) then
      if (x1.toNat : Int) ≤ (90 : Int) then
        some true
      else
        some (decide ((x1.toNat : Int) = (95 : Int)))
    else
      some (decide ((x1.toNat : Int) = (95 : Int)))
def f_spec_l00Digit (x1 : UInt8) : Option (Bool) :=
  if (48 : Int) ≤ (x1.toNat : Int) then
    some (decide ((x1.toNat : Int) ≤ (57 : Int)))
  else
    some false
def f_spec_l00Word_J2 (x223 : Int) (rc1 : Int → Option (Bool)) (x295 : Bool) : Option (Bool) :=
  if x295 = true then
    some false
  else
    chk (-9223372036854775808 ≤ x223 + 1 ∧ x223 + 1 < 9223372036854775808) <|
    rc1 (x223 + 1)
def f_spec_l00Word_L1 (x1 : Str) : Nat → Int → Option (Bool)
  | 0, _ => none
  | k + 1, x223 =>
    if x223 < (x1.length : Int) then
      (idx x1 x223).bind fun x298 =>
      (f_spec_l00Letter x298).bind fun x299 =>
      if (!x299) = true then
        (idx x1 x223).bind fun x308 =>
        (f_spec_l00Digit x308).bind fun x309 =>
        f_spec_l00Word_J2 x223 (f_spec_l00Word_L1 x1 k) (!x309)
      else
        f_spec_l00Word_J2 x223 (f_spec_l00Word_L1 x1 k) false
    else
      some true
def f_spec_l00Word_J0 (x1 : Str) (x18 : Bool) : Option (Bool) :=
  if x18 = true then
    some false
  else
    f_spec_l00Word_L1 x1 BIG 1
def f_spec_l00Word (x1 : Str) : Option (Bool) :=
  if (x1.length : Int) < 1 then
    f_spec_l00Word_J0 x1 true
  else
    if (40 : Int) < (x1.length : Int) then
      f_spec_l00Word_J0 x1 true
    else
      (idx x1 0).bind fun x319 =>
      (f_spec_l00Letter x319).bind fun x320 =>
      f_spec_l00Word_J0 x1 (!x320)
def f_spec_NameOK (x1 : Str) : Option (Bool) :=
  (f_spec_l00Word x1).bind fun x2 =>
  some x2
def f_spec_l09File_L0 (xs1 : (List GFile)) (x5 : Str) : Nat → Int → Option (Int)
  | 0, _ => none
  | k + 1, x67 =>
    if x67 < (xs1.length : Int) then
      (idx xs1 x67).bind fun x79 =>
      if lst x79.Name = lst x5 then
        some x67
      else
        chk (-9223372036854775808 ≤ x67 + 1 ∧ x67 + 1 < 9223372036854775808) <|
        (f_spec_l09File_L0 xs1 x5 k) (x67 + 1)
    else
      some (-1)
def f_spec_l09File (xs1 : (List GFile)) (x5 : Str) : Option (Int) :=
  f_spec_l09File_L0 xs1 x5 BIG 0
def f_spec_l02In (x1 : Int) (x2 : Int) (x3 : Int) : Option (Bool) :=
  if x2 ≤ x1 then
    some (decide (x1 ≤ x3))
  else
    some false
def f_spec_l09Session_L0 (xs1 : (List GSession)) (x5 : Int) : Nat → Int → Option (Int)
  | 0, _ => none
  | k + 1, x67 =>
    if x67 < (xs1.length : Int) then
      (idx xs1 x67).bind fun x79 =>
      if x79.Client = x5 then
        some x67
      else
        chk (-9223372036854775808 ≤ x67 + 1 ∧ x67 + 1 < 9223372036854775808) <|
        (f_spec_l09Session_L0 xs1 x5 k) (x67 + 1)
    else
      some (-1)
def f_spec_l09Session (xs1 : (List GSession)) (x5 : Int) : Option (Int) :=
  f_spec_l09Session_L0 xs1 x5 BIG 0
def f_spec_l09Sha_J1 (x380 : Int) (rc0 : Int → Option (Bool)) (x434 : Bool) : Option (Bool) :=
  if x434 = true then
    some false
  else
    chk (-9223372036854775808 ≤ x380 + 1 ∧ x380 + 1 < 9223372036854775808) <|
    rc0 (x380 + 1)
def f_spec_l09Sha_L0 (x1 : Str) : Nat → Int → Option (Bool)
  | 0, _ => none
  | k + 1, x380 =>
    if x380 < (x1.length : Int) then
      (idx x1 x380).bind fun x437 =>
      (f_spec_l00Digit x437).bind fun x438 =>
      if (!x438) = true then
        (idx x1 x380).bind fun x447 =>
        if (x447.toNat : Int) < (97 : Int) then
          f_spec_l09Sha_J1 x380 (f_spec_l09Sha_L0 x1 k) true
        else
          (idx x1 x380).bind fun x449 =>
          f_spec_l09Sha_J1 x380 (f_spec_l09Sha_L0 x1 k) (decide ((102 : Int) < (x449.toNat : Int)))
      else
        f_spec_l09Sha_J1 x380 (f_spec_l09Sha_L0 x1 k) false
    else
      if (x1.length : Int) = 64 then
        some true
      else
        some (decide ((x1.length : Int) = 0))
def f_spec_l09Sha (x1 : Str) : Option (Bool) :=
  f_spec_l09Sha_L0 x1 BIG 0
def f_spec_l09Reply (x1 : GReply) : Option (Bool) :=
  (f_spec_l02In x1.Code 0 15).bind fun x8 =>
  if x8 = true then
    (f_spec_l02In x1.Version 0 1000000).bind fun x18 =>
    if x18 = true then
      (f_spec_l09Sha x1.Sha).bind fun x28 =>
      if x28 = true then
        if ((decide (x1.Code = 0)) == (!decide (lst x1.Sha = lst ([] : List UInt8)))) = true then
          some ((decide (x1.Code = 0)) == (decide ((0 : Int) < x1.Version)))
        else
          some false
      else
        some false
    else
      some false
  else
    some false
def f_spec_StateOK_J2 (x1181 : Int) (rc1 : Int → Option (Bool)) (x1360 : Bool) : Option (Bool) :=
  if x1360 = true then
    some false
  else
    chk (-9223372036854775808 ≤ x1181 + 1 ∧ x1181 + 1 < 9223372036854775808) <|
    rc1 (x1181 + 1)
def f_spec_StateOK_J4 (x1950 : Int) (rc3 : Int → Option (Bool)) (x2159 : Bool) : Option (Bool) :=
  if x2159 = true then
    some false
  else
    chk (-9223372036854775808 ≤ x1950 + 1 ∧ x1950 + 1 < 9223372036854775808) <|
    rc3 (x1950 + 1)
def f_spec_StateOK_L3 (x1 : GState) : Nat → Int → Option (Bool)
  | 0, _ => none
  | k + 1, x1950 =>
    if x1950 < (x1.Sessions.length : Int) then
      (idx x1.Sessions x1950).bind fun x2086 =>
      (f_spec_l02In x2086.Client 1 1000000).bind fun x2167 =>
      if (!x2167) = true then
        f_spec_StateOK_J4 x1950 (f_spec_StateOK_L3 x1 k) true
      else
        (f_spec_l02In x2086.Seq 1 1000000).bind fun x2178 =>
        if (!x2178) = true then
          f_spec_StateOK_J4 x1950 (f_spec_StateOK_L3 x1 k) true
        else
          (slc x1.Sessions 0 x1950).bind fun xs2189 =>
          (f_spec_l09Session xs2189 x2086.Client).bind fun x2194 =>
          if (0 : Int) ≤ x2194 then
            f_spec_StateOK_J4 x1950 (f_spec_StateOK_L3 x1 k) true
          else
            (f_spec_l09Reply ({ Code := x2086.Reply.Code, Version := x2086.Reply.Version, Sha := x2086.Reply.Sha } : GReply)).bind fun x2205 =>
            f_spec_StateOK_J4 x1950 (f_spec_StateOK_L3 x1 k) (!x2205)
    else
      some true
def f_spec_StateOK_L1 (x1 : GState) : Nat → Int → Option (Bool)
  | 0, _ => none
  | k + 1, x1181 =>
    if x1181 < (x1.Files.length : Int) then
      (idx x1.Files x1181).bind fun x1297 =>
      (f_spec_NameOK x1297.Name).bind fun x1368 =>
      if (!x1368) = true then
        f_spec_StateOK_J2 x1181 (f_spec_StateOK_L1 x1 k) true
      else
        (slc x1.Files 0 x1181).bind fun xs1379 =>
        (f_spec_l09File xs1379 x1297.Name).bind fun x1384 =>
        if (0 : Int) ≤ x1384 then
          f_spec_StateOK_J2 x1181 (f_spec_StateOK_L1 x1 k) true
        else
          (f_spec_l02In x1297.Version 1 1000000).bind fun x1395 =>
          if (!x1395) = true then
            f_spec_StateOK_J2 x1181 (f_spec_StateOK_L1 x1 k) true
          else
            f_spec_StateOK_J2 x1181 (f_spec_StateOK_L1 x1 k) (decide ((8000 : Int) < (x1297.Text.length : Int)))
    else
      f_spec_StateOK_L3 x1 BIG 0
def f_spec_StateOK_J0 (x1 : GState) (x20 : Bool) : Option (Bool) :=
  if x20 = true then
    some false
  else
    f_spec_StateOK_L1 x1 BIG 0
def f_spec_StateOK (x1 : GState) : Option (Bool) :=
  if (20 : Int) < (x1.Files.length : Int) then
    f_spec_StateOK_J0 x1 true
  else
    f_spec_StateOK_J0 x1 (decide ((200 : Int) < (x1.Sessions.length : Int)))
def f_spec_ReadState_J4 (xs1651 : (List GFile)) (xs4872 : (List GSession)) (x5465 : Bool) : Option (GState × Int) :=
  if x5465 = true then
    some (({ Files := [], Sessions := [] } : GState), 3)
  else
    (f_spec_StateOK ({ Files := xs1651, Sessions := xs4872 } : GState)).bind fun x5512 =>
    if (!x5512) = true then
      some (({ Files := [], Sessions := [] } : GState), 1)
    else
      some (({ Files := xs1651, Sessions := xs4872 } : GState), 0)
def f_spec_ReadState_J3 (xs4879 : (List UInt8)) (x4881 : Int) (x4882 : Bool) (xs4872 : (List GSession)) (x4868 : Int) (rc2 : Int → (List GSession) → (List UInt8) → Int → Bool → Option (GState × Int)) (xs1651 : (List GFile)) (xs1 : (List UInt8)) (x4904 : Bool) : Option (GState × Int) :=
  if x4904 = true then
    (f_spec_l09Reader_number ({ b := xs4879, at_ := x4881, bad := x4882 } : Gl09Reader)).bind fun x5192 =>
    (f_spec_l09Reader_number ({ b := x5192.1.b, at_ := x5192.1.at_, bad := x5192.1.bad } : Gl09Reader)).bind fun x5226 =>
    (f_spec_l09Reader_number ({ b := x5226.1.b, at_ := x5226.1.at_, bad := x5226.1.bad } : Gl09Reader)).bind fun x5282 =>
    (f_spec_l09Reader_number ({ b := x5282.1.b, at_ := x5282.1.at_, bad := x5282.1.bad } : Gl09Reader)).bind fun x5319 =>
    (f_spec_l09Reader_text ({ b := x5319.1.b, at_ := x5319.1.at_, bad := x5319.1.bad } : Gl09Reader)).bind fun x5356 =>
    chk ((xs4872.length : Int) + ([({ Client := x5192.2, Seq := x5226.2, Reply := ({ Code := x5282.2, Version := x5319.2, Sha := x5356.2 } : GReply) } : GSession)] : List GSession).length ≤ 68719476736) <|
    chk (-9223372036854775808 ≤ x4868 - 1 ∧ x4868 - 1 < 9223372036854775808) <|
    rc2 (x4868 - 1) (xs4872 ++ ([({ Client := x5192.2, Seq := x5226.2, Reply := ({ Code := x5282.2, Version := x5319.2, Sha := x5356.2 } : GReply) } : GSession)] : List GSession)) x5356.1.b x5356.1.at_ x5356.1.bad
  else
    if x4882 = true then
      f_spec_ReadState_J4 xs1651 xs4872 true
    else
      f_spec_ReadState_J4 xs1651 xs4872 (!decide (x4881 = (xs1.length : Int)))
def f_spec_ReadState_L2 (xs1651 : (List GFile)) (xs1 : (List UInt8)) : Nat → Int → (List GSession) → (List UInt8) → Int → Bool → Option (GState × Int)
  | 0, _, _, _, _, _ => none
  | k + 1, x4868, xs4872, xs4879, x4881, x4882 =>
    if (0 : Int) < x4868 then
      f_spec_ReadState_J3 xs4879 x4881 x4882 xs4872 x4868 (f_spec_ReadState_L2 xs1651 xs1 k) xs1651 xs1 (!x4882)
    else
      f_spec_ReadState_J3 xs4879 x4881 x4882 xs4872 x4868 (f_spec_ReadState_L2 xs1651 xs1 k) xs1651 xs1 false
def f_spec_ReadState_J1 (xs1658 : (List UInt8)) (x1660 : Int) (x1661 : Bool) (xs1651 : (List GFile)) (x1648 : Int) (rc0 : Int → (List GFile) → (List UInt8) → Int → Bool → Option (GState × Int)) (xs1 : (List UInt8)) (x1679 : Bool) : Option (GState × Int) :=
  if x1679 = true then
    (f_spec_l09Reader_text ({ b := xs1658, at_ := x1660, bad := x1661 } : Gl09Reader)).bind fun x1835 =>
    (f_spec_l09Reader_number ({ b := x1835.1.b, at_ := x1835.1.at_, bad := x1835.1.bad } : Gl09Reader)).bind fun x1866 =>
    (f_spec_l09Reader_text ({ b := x1866.1.b, at_ := x1866.1.at_, bad := x1866.1.bad } : Gl09Reader)).bind fun x1897 =>
    chk ((xs1651.length : Int) + ([({ Name := x1835.2, Version := x1866.2, Text := x1897.2 } : GFile)] : List GFile).length ≤ 68719476736) <|
    chk (-9223372036854775808 ≤ x1648 - 1 ∧ x1648 - 1 < 9223372036854775808) <|
    rc0 (x1648 - 1) (xs1651 ++ ([({ Name := x1835.2, Version := x1866.2, Text := x1897.2 } : GFile)] : List GFile)) x1897.1.b x1897.1.at_ x1897.1.bad
  else
    (f_spec_l09Reader_number ({ b := xs1658, at_ := x1660, bad := x1661 } : Gl09Reader)).bind fun x1973 =>
    f_spec_ReadState_L2 xs1651 xs1 BIG x1973.2 ([]) x1973.1.b x1973.1.at_ x1973.1.bad
def f_spec_ReadState_L0 (xs1 : (List UInt8)) : Nat → Int → (List GFile) → (List UInt8) → Int → Bool → Option (GState × Int)
  | 0, _, _, _, _, _ => none
  | k + 1, x1648, xs1651, xs1658, x1660, x1661 =>
    if (0 : Int) < x1648 then
      f_spec_ReadState_J1 xs1658 x1660 x1661 xs1651 x1648 (f_spec_ReadState_L0 xs1 k) xs1 (!x1661)
    else
      f_spec_ReadState_J1 xs1658 x1660 x1661 xs1651 x1648 (f_spec_ReadState_L0 xs1 k) xs1 false
def f_spec_ReadState (xs1 : (List UInt8)) : Option (GState × Int) :=
  if (65536 : Int) < (xs1.length : Int) then
    some (({ Files := [], Sessions := [] } : GState), 2)
  else
    (f_spec_l09Reader_number ({ b := xs1, at_ := 0, bad := false } : Gl09Reader)).bind fun x42 =>
    f_spec_ReadState_L0 xs1 BIG x42.2 ([]) x42.1.b x42.1.at_ x42.1.bad
def f_impl_unless (x1 : Bool) (x2 : Int) : Option (Int) :=
  if x1 = true then
    some 0
  else
    some x2
def f_impl_longBytes (xs1 : (List UInt8)) : Option (Int) :=
  (f_impl_unless (decide ((xs1.length : Int) ≤ 65536)) 2).bind fun x5 =>
  some x5
def f_impl_readNumber_J1 (x228 : Int) (x227 : Int) (x282 : UInt8) (x316 : Bool) : Option (Int × Int) :=
  if x316 = true then
    some (0, 0)
  else
    chk (-9223372036854775808 ≤ x228 + 1 ∧ x228 + 1 < 9223372036854775808) <|
    some (((x227.toNat ||| (shl64 ((x282 &&& (127 : UInt8)).toNat : Int) ((7 : Int) * x228)).toNat : Nat) : Int), (x228 + 1))
def f_impl_readNumber_L0 (xs1 : (List UInt8)) : Nat → Int → Int → Option (Int × Int)
  | 0, _, _ => none
  | k + 1, x227, x228 =>
    if x228 < 9 then
      if x228 = (xs1.length : Int) then
        some (0, (-1))
      else
        (idx xs1 x228).bind fun x282 =>
        chk (-9223372036854775808 ≤ (7 : Int) * x228 ∧ (7 : Int) * x228 < 9223372036854775808) <|
        chk ((0 : Int) ≤ ((7 : Int) * x228)) <|
        chk ((0 : Int) ≤ x227 ∧ x227 < 9223372036854775808 ∧ (0 : Int) ≤ (shl64 ((x282 &&& (127 : UInt8)).toNat : Int) ((7 : Int) * x228)) ∧ (shl64 ((x282 &&& (127 : UInt8)).toNat : Int) ((7 : Int) * x228)) < 9223372036854775808) <|
        (idx xs1 x228).bind fun x293 =>
        if (x293.toNat : Int) < (128 : Int) then
          if (0 : Int) < x228 then
            (idx xs1 x228).bind fun x321 =>
            f_impl_readNumber_J1 x228 x227 x282 (decide ((x321.toNat : Int) = (0 : Int)))
          else
            f_impl_readNumber_J1 x228 x227 x282 false
        else
          chk (-9223372036854775808 ≤ x228 + 1 ∧ x228 + 1 < 9223372036854775808) <|
          (f_impl_readNumber_L0 xs1 k) ((x227.toNat ||| (shl64 ((x282 &&& (127 : UInt8)).toNat : Int) ((7 : Int) * x228)).toNat : Nat) : Int) (x228 + 1)
    else
      some (0, 0)
def f_impl_readNumber (xs1 : (List UInt8)) : Option (Int × Int) :=
  f_impl_readNumber_L0 xs1 BIG 0 0
def f_impl_byteReader_number_J0 (x1 : GbyteReader) (x8 : (Int × Int)) (x32 : Bool) : Option (GbyteReader × Int) :=
  if x32 = true then
    some (({ b := x1.b, bad := x32 } : GbyteReader), 0)
  else
    (slc x1.b x8.2 x1.b.length).bind fun xs38 =>
    some (({ b := xs38, bad := x32 } : GbyteReader), x8.1)
def f_impl_byteReader_number (x1 : GbyteReader) : Option (GbyteReader × Int) :=
  (f_impl_readNumber x1.b).bind fun x8 =>
  if x1.bad = true then
    f_impl_byteReader_number_J0 x1 x8 true
  else
    f_impl_byteReader_number_J0 x1 x8 (decide (x8.2 ≤ 0))
def f_impl_byteReader_text_J0 (x8 : (GbyteReader × Int)) (x45 : Bool) : Option (GbyteReader × Str) :=
  if x45 = true then
    some (({ b := x8.1.b, bad := x45 } : GbyteReader), ([] : List UInt8))
  else
    (slc x8.1.b 0 x8.2).bind fun xs51 =>
    (slc x8.1.b x8.2 x8.1.b.length).bind fun xs56 =>
    some (({ b := xs56, bad := x45 } : GbyteReader), xs51)
def f_impl_byteReader_text (x1 : GbyteReader) : Option (GbyteReader × Str) :=
  (f_impl_byteReader_number ({ b := x1.b, bad := x1.bad } : GbyteReader)).bind fun x8 =>
  if x8.1.bad = true then
    f_impl_byteReader_text_J0 x8 true
  else
    f_impl_byteReader_text_J0 x8 (decide ((x8.1.b.length : Int) < x8.2))
def f_impl_within (x1 : Int) (x2 : Int) (x3 : Int) : Option (Bool) :=
  if x2 ≤ x1 then
    some (decide (x1 ≤ x3))
  else
    some false
def f_impl_NameOK_J3 (x410 : Int) (rc0 : Int → Option (Bool)) (x473 : Bool) : Option (Bool) :=
  if x473 = true then
    some false
  else
    chk (-9223372036854775808 ≤ x410 + 1 ∧ x410 + 1 < 9223372036854775808) <|
    rc0 (x410 + 1)
def f_impl_NameOK_J2 (x410 : Int) (rc0 : Int → Option (Bool)) (x452 : UInt8) (x464 : Bool) : Option (Bool) :=
  if (!x464) = true then
    if x410 = 0 then
      f_impl_NameOK_J3 x410 rc0 true
    else
      if (x452.toNat : Int) < (48 : Int) then
        f_impl_NameOK_J3 x410 rc0 true
      else
        f_impl_NameOK_J3 x410 rc0 (decide ((57 : Int) < (x452.toNat : Int)))
  else
    f_impl_NameOK_J3 x410 rc0 false
def f_impl_NameOK_J1 (x1 : Str) (x410 : Int) (rc0 : Int → Option (Bool)) (x417 : Bool) : Option (Bool) :=
  if x417 = true then
    (idx x1 x410).bind fun x452 =>
    if (97 : Int) ≤ (x452.toNat : Int) then
      if (x452.toNat : Int) ≤ (122 : Int) then
        f_impl_NameOK_J2 x410 rc0 x452 true
      else
        if (65 : Int) ≤ (x452.toNat : Int) then
          if (x452.toNat : Int) ≤ (90 : Int) then
            f_impl_NameOK_J2 x410 rc0 x452 true
          else
            f_impl_NameOK_J2 x410 rc0 x452 (decide ((x452.toNat : Int) = (95 : Int)))
        else
          f_impl_NameOK_J2 x410 rc0 x452 (decide ((x452.toNat : Int) = (95 : Int)))
    else
      if (65 : Int) ≤ (x452.toNat : Int) then
        if (x452.toNat : Int) ≤ (90 : Int) then
          f_impl_NameOK_J2 x410 rc0 x452 true
        else
          f_impl_NameOK_J2 x410 rc0 x452 (decide ((x452.toNat : Int) = (95 : Int)))
      else
        f_impl_NameOK_J2 x410 rc0 x452 (decide ((x452.toNat : Int) = (95 : Int)))
  else
    (f_impl_within (x1.length : Int) 1 40).bind fun x485 =>
    some x485
def f_impl_NameOK_L0 (x1 : Str) : Nat → Int → Option (Bool)
  | 0, _ => none
  | k + 1, x410 =>
    if x410 < (x1.length : Int) then
      f_impl_NameOK_J1 x1 x410 (f_impl_NameOK_L0 x1 k) (decide (x410 < 100))
    else
      f_impl_NameOK_J1 x1 x410 (f_impl_NameOK_L0 x1 k) false
def f_impl_NameOK (x1 : Str) : Option (Bool) :=
  f_impl_NameOK_L0 x1 BIG 0
def f_impl_isCount (x1 : Int) : Option (Bool) :=
  (f_impl_within x1 1 1000000).bind fun x2 =>
  some x2
def f__impl_State_file_L0 (x1 : GState) (x8 : Str) : Nat → Int → Option (Int)
  | 0, _ => none
  | k + 1, x117 =>
    if x117 < (x1.Files.length : Int) then
      (idx x1.Files x117).bind fun x139 =>
      if lst x139.Name = lst x8 then
        some x117
      else
        chk (-9223372036854775808 ≤ x117 + 1 ∧ x117 + 1 < 9223372036854775808) <|
        (f__impl_State_file_L0 x1 x8 k) (x117 + 1)
    else
      some (-1)
def f__impl_State_file (x1 : GState) (x8 : Str) : Option (Int) :=
  f__impl_State_file_L0 x1 x8 BIG 0
def f_impl_contains_L0 (x1 : Str) (x2 : UInt8) : Nat → Int → Option (Bool)
  | 0, _ => none
  | k + 1, x33 =>
    if x33 < (x1.length : Int) then
      (idx x1 x33).bind fun x38 =>
      if (x38.toNat : Int) = (x2.toNat : Int) then
        some true
      else
        chk (-9223372036854775808 ≤ x33 + 1 ∧ x33 + 1 < 9223372036854775808) <|
        (f_impl_contains_L0 x1 x2 k) (x33 + 1)
    else
      some false
def f_impl_contains (x1 : Str) (x2 : UInt8) : Option (Bool) :=
  f_impl_contains_L0 x1 x2 BIG 0
def f_impl_shaOK_L0 (x1 : Str) : Nat → Int → Option (Bool)
  | 0, _ => none
  | k + 1, x150 =>
    if x150 < (x1.length : Int) then
      (idx x1 x150).bind fun x163 =>
      (f_impl_contains ([48, 49, 50, 51, 52, 53, 54, 55, 56, 57, 97, 98, 99, 100, 101, 102] : List UInt8) x163).bind fun x164 =>
      if (!x164) = true then
        some false
      else
        chk (-9223372036854775808 ≤ x150 + 1 ∧ x150 + 1 < 9223372036854775808) <|
        (f_impl_shaOK_L0 x1 k) (x150 + 1)
    else
      some (decide ((x1.length : Int) = 64))
def f_impl_shaOK (x1 : Str) : Option (Bool) :=
  f_impl_shaOK_L0 x1 BIG 0
def f_impl_replyOK (x1 : GReply) : Option (Bool) :=
  if x1.Code = 0 then
    (f_impl_isCount x1.Version).bind fun x29 =>
    if x29 = true then
      (f_impl_shaOK x1.Sha).bind fun x39 =>
      some x39
    else
      some false
  else
    (f_impl_within x1.Code 0 15).bind fun x48 =>
    if x48 = true then
      if x1.Version = 0 then
        some (decide (lst x1.Sha = lst ([] : List UInt8)))
      else
        some false
    else
      some false
def f__impl_State_session_L0 (x1 : GState) (x8 : Int) : Nat → Int → Option (Int)
  | 0, _ => none
  | k + 1, x117 =>
    if x117 < (x1.Sessions.length : Int) then
      (idx x1.Sessions x117).bind fun x139 =>
      if x139.Client = x8 then
        some x117
      else
        chk (-9223372036854775808 ≤ x117 + 1 ∧ x117 + 1 < 9223372036854775808) <|
        (f__impl_State_session_L0 x1 x8 k) (x117 + 1)
    else
      some (-1)
def f__impl_State_session (x1 : GState) (x8 : Int) : Option (Int) :=
  f__impl_State_session_L0 x1 x8 BIG 0
def f_impl_StateOK_J2 (x1082 : Int) (rc1 : Int → Option (Bool)) (x1246 : Bool) : Option (Bool) :=
  if x1246 = true then
    some false
  else
    chk (-9223372036854775808 ≤ x1082 + 1 ∧ x1082 + 1 < 9223372036854775808) <|
    rc1 (x1082 + 1)
def f_impl_StateOK_J4 (x1791 : Int) (rc3 : Int → Option (Bool)) (x1985 : Bool) : Option (Bool) :=
  if x1985 = true then
    some false
  else
    chk (-9223372036854775808 ≤ x1791 + 1 ∧ x1791 + 1 < 9223372036854775808) <|
    rc3 (x1791 + 1)
def f_impl_StateOK_L3 (x1 : GState) : Nat → Int → Option (Bool)
  | 0, _ => none
  | k + 1, x1791 =>
    if x1791 < (x1.Sessions.length : Int) then
      (idx x1.Sessions x1791).bind fun x1916 =>
      (f_impl_isCount x1916.Client).bind fun x1992 =>
      if (!x1992) = true then
        f_impl_StateOK_J4 x1791 (f_impl_StateOK_L3 x1 k) true
      else
        (f_impl_isCount x1916.Seq).bind fun x2003 =>
        if (!x2003) = true then
          f_impl_StateOK_J4 x1791 (f_impl_StateOK_L3 x1 k) true
        else
          (f_impl_replyOK ({ Code := x1916.Reply.Code, Version := x1916.Reply.Version, Sha := x1916.Reply.Sha } : GReply)).bind fun x2014 =>
          if (!x2014) = true then
            f_impl_StateOK_J4 x1791 (f_impl_StateOK_L3 x1 k) true
          else
            (f__impl_State_session ({ Files := x1.Files, Sessions := x1.Sessions } : GState) x1916.Client).bind fun x2025 =>
            f_impl_StateOK_J4 x1791 (f_impl_StateOK_L3 x1 k) (!decide (x2025 = x1791))
    else
      some true
def f_impl_StateOK_L1 (x1 : GState) : Nat → Int → Option (Bool)
  | 0, _ => none
  | k + 1, x1082 =>
    if x1082 < (x1.Files.length : Int) then
      (idx x1.Files x1082).bind fun x1187 =>
      (f_impl_NameOK x1187.Name).bind fun x1253 =>
      if (!x1253) = true then
        f_impl_StateOK_J2 x1082 (f_impl_StateOK_L1 x1 k) true
      else
        (f_impl_isCount x1187.Version).bind fun x1264 =>
        if (!x1264) = true then
          f_impl_StateOK_J2 x1082 (f_impl_StateOK_L1 x1 k) true
        else
          if (8000 : Int) < (x1187.Text.length : Int) then
            f_impl_StateOK_J2 x1082 (f_impl_StateOK_L1 x1 k) true
          else
            (f__impl_State_file ({ Files := x1.Files, Sessions := x1.Sessions } : GState) x1187.Name).bind fun x1276 =>
            f_impl_StateOK_J2 x1082 (f_impl_StateOK_L1 x1 k) (!decide (x1276 = x1082))
    else
      f_impl_StateOK_L3 x1 BIG 0
def f_impl_StateOK_J0 (x1 : GState) (x20 : Bool) : Option (Bool) :=
  if x20 = true then
    some false
  else
    f_impl_StateOK_L1 x1 BIG 0
def f_impl_StateOK (x1 : GState) : Option (Bool) :=
  if (20 : Int) < (x1.Files.length : Int) then
    f_impl_StateOK_J0 x1 true
  else
    f_impl_StateOK_J0 x1 (decide ((200 : Int) < (x1.Sessions.length : Int)))
def f_impl_ReadState_J4 (xs2076 : (List GFile)) (xs5659 : (List GSession)) (x6310 : Bool) : Option (GState × Int) :=
  if x6310 = true then
    some (({ Files := [], Sessions := [] } : GState), 3)
  else
    (f_impl_StateOK ({ Files := xs2076, Sessions := xs5659 } : GState)).bind fun x6357 =>
    if (!x6357) = true then
      some (({ Files := [], Sessions := [] } : GState), 1)
    else
      some (({ Files := xs2076, Sessions := xs5659 } : GState), 0)
def f_impl_ReadState_J3 (xs5668 : (List UInt8)) (x5670 : Bool) (xs5659 : (List GSession)) (x5655 : Int) (rc2 : Int → (List GSession) → (List UInt8) → Bool → Option (GState × Int)) (xs2076 : (List GFile)) (x5689 : Bool) : Option (GState × Int) :=
  if x5689 = true then
    (f_impl_byteReader_number ({ b := xs5668, bad := x5670 } : GbyteReader)).bind fun x6007 =>
    (f_impl_byteReader_number ({ b := x6007.1.b, bad := x6007.1.bad } : GbyteReader)).bind fun x6063 =>
    (f_impl_byteReader_number ({ b := x6063.1.b, bad := x6063.1.bad } : GbyteReader)).bind fun x6109 =>
    (f_impl_byteReader_number ({ b := x6109.1.b, bad := x6109.1.bad } : GbyteReader)).bind fun x6155 =>
    (f_impl_byteReader_text ({ b := x6155.1.b, bad := x6155.1.bad } : GbyteReader)).bind fun x6201 =>
    chk ((xs5659.length : Int) + ([({ Client := x6007.2, Seq := x6063.2, Reply := ({ Code := x6109.2, Version := x6155.2, Sha := x6201.2 } : GReply) } : GSession)] : List GSession).length ≤ 68719476736) <|
    chk (-9223372036854775808 ≤ x5655 - 1 ∧ x5655 - 1 < 9223372036854775808) <|
    rc2 (x5655 - 1) (xs5659 ++ ([({ Client := x6007.2, Seq := x6063.2, Reply := ({ Code := x6109.2, Version := x6155.2, Sha := x6201.2 } : GReply) } : GSession)] : List GSession)) x6201.1.b x6201.1.bad
  else
    if x5670 = true then
      f_impl_ReadState_J4 xs2076 xs5659 true
    else
      f_impl_ReadState_J4 xs2076 xs5659 (decide ((0 : Int) < (xs5668.length : Int)))
def f_impl_ReadState_L2 (xs2076 : (List GFile)) : Nat → Int → (List GSession) → (List UInt8) → Bool → Option (GState × Int)
  | 0, _, _, _, _ => none
  | k + 1, x5655, xs5659, xs5668, x5670 =>
    if (0 : Int) < x5655 then
      f_impl_ReadState_J3 xs5668 x5670 xs5659 x5655 (f_impl_ReadState_L2 xs2076 k) xs2076 (!x5670)
    else
      f_impl_ReadState_J3 xs5668 x5670 xs5659 x5655 (f_impl_ReadState_L2 xs2076 k) xs2076 false
def f_impl_ReadState_J1 (xs2085 : (List UInt8)) (x2087 : Bool) (xs2076 : (List GFile)) (x2073 : Int) (rc0 : Int → (List GFile) → (List UInt8) → Bool → Option (GState × Int)) (x2102 : Bool) : Option (GState × Int) :=
  if x2102 = true then
    (f_impl_byteReader_text ({ b := xs2085, bad := x2087 } : GbyteReader)).bind fun x2302 =>
    (f_impl_byteReader_number ({ b := x2302.1.b, bad := x2302.1.bad } : GbyteReader)).bind fun x2352 =>
    (f_impl_byteReader_text ({ b := x2352.1.b, bad := x2352.1.bad } : GbyteReader)).bind fun x2394 =>
    chk ((xs2076.length : Int) + ([({ Name := x2302.2, Version := x2352.2, Text := x2394.2 } : GFile)] : List GFile).length ≤ 68719476736) <|
    chk (-9223372036854775808 ≤ x2073 - 1 ∧ x2073 - 1 < 9223372036854775808) <|
    rc0 (x2073 - 1) (xs2076 ++ ([({ Name := x2302.2, Version := x2352.2, Text := x2394.2 } : GFile)] : List GFile)) x2394.1.b x2394.1.bad
  else
    (f_impl_byteReader_number ({ b := xs2085, bad := x2087 } : GbyteReader)).bind fun x2486 =>
    f_impl_ReadState_L2 xs2076 BIG x2486.2 ([]) x2486.1.b x2486.1.bad
def f_impl_ReadState_L0 : Nat → Int → (List GFile) → (List UInt8) → Bool → Option (GState × Int)
  | 0, _, _, _, _ => none
  | k + 1, x2073, xs2076, xs2085, x2087 =>
    if (0 : Int) < x2073 then
      f_impl_ReadState_J1 xs2085 x2087 xs2076 x2073 (f_impl_ReadState_L0 k) (!x2087)
    else
      f_impl_ReadState_J1 xs2085 x2087 xs2076 x2073 (f_impl_ReadState_L0 k) false
def f_impl_ReadState (xs1 : (List UInt8)) : Option (GState × Int) :=
  (f_impl_longBytes xs1).bind fun x11 =>
  if x11 = 0 then
    (f_impl_byteReader_number ({ b := xs1, bad := false } : GbyteReader)).bind fun x51 =>
    f_impl_ReadState_L0 BIG x51.2 ([]) x51.1.b x51.1.bad
  else
    some (({ Files := [], Sessions := [] } : GState), x11)
def f_laws_eqFile (x1 : GFile) (x2 : GFile) : Option (Bool) :=
  if lst x1.Name = lst x2.Name then
    if x1.Version = x2.Version then
      if lst x1.Text = lst x2.Text then
        some true
      else
        some false
    else
      some false
  else
    some false
def f_laws_eqFileS_L0 (xs1 : (List GFile)) (xs5 : (List GFile)) : Nat → Int → Option (Bool)
  | 0, _ => none
  | k + 1, x139 =>
    if x139 < (xs1.length : Int) then
      (idx xs1 x139).bind fun x167 =>
      (idx xs5 x139).bind fun x175 =>
      (f_laws_eqFile ({ Name := x167.Name, Version := x167.Version, Text := x167.Text } : GFile) ({ Name := x175.Name, Version := x175.Version, Text := x175.Text } : GFile)).bind fun x183 =>
      if (!x183) = true then
        some false
      else
        chk (-9223372036854775808 ≤ x139 + 1 ∧ x139 + 1 < 9223372036854775808) <|
        (f_laws_eqFileS_L0 xs1 xs5 k) (x139 + 1)
    else
      some true
def f_laws_eqFileS (xs1 : (List GFile)) (xs5 : (List GFile)) : Option (Bool) :=
  if (xs1.length : Int) = (xs5.length : Int) then
    f_laws_eqFileS_L0 xs1 xs5 BIG 0
  else
    some false
def f_laws_eqReply (x1 : GReply) (x2 : GReply) : Option (Bool) :=
  if x1.Code = x2.Code then
    if x1.Version = x2.Version then
      if lst x1.Sha = lst x2.Sha then
        some true
      else
        some false
    else
      some false
  else
    some false
def f_laws_eqSession (x1 : GSession) (x2 : GSession) : Option (Bool) :=
  if x1.Client = x2.Client then
    if x1.Seq = x2.Seq then
      (f_laws_eqReply ({ Code := x1.Reply.Code, Version := x1.Reply.Version, Sha := x1.Reply.Sha } : GReply) ({ Code := x2.Reply.Code, Version := x2.Reply.Version, Sha := x2.Reply.Sha } : GReply)).bind fun x20 =>
      if (!x20) = true then
        some false
      else
        some true
    else
      some false
  else
    some false
def f_laws_eqSessionS_L0 (xs1 : (List GSession)) (xs5 : (List GSession)) : Nat → Int → Option (Bool)
  | 0, _ => none
  | k + 1, x139 =>
    if x139 < (xs1.length : Int) then
      (idx xs1 x139).bind fun x167 =>
      (idx xs5 x139).bind fun x175 =>
      (f_laws_eqSession ({ Client := x167.Client, Seq := x167.Seq, Reply := ({ Code := x167.Reply.Code, Version := x167.Reply.Version, Sha := x167.Reply.Sha } : GReply) } : GSession) ({ Client := x175.Client, Seq := x175.Seq, Reply := ({ Code := x175.Reply.Code, Version := x175.Reply.Version, Sha := x175.Reply.Sha } : GReply) } : GSession)).bind fun x183 =>
      if (!x183) = true then
        some false
      else
        chk (-9223372036854775808 ≤ x139 + 1 ∧ x139 + 1 < 9223372036854775808) <|
        (f_laws_eqSessionS_L0 xs1 xs5 k) (x139 + 1)
    else
      some true
def f_laws_eqSessionS (xs1 : (List GSession)) (xs5 : (List GSession)) : Option (Bool) :=
  if (xs1.length : Int) = (xs5.length : Int) then
    f_laws_eqSessionS_L0 xs1 xs5 BIG 0
  else
    some false
def f_laws_eqState (x1 : GState) (x8 : GState) : Option (Bool) :=
  (f_laws_eqFileS x1.Files x8.Files).bind fun x28 =>
  if (!x28) = true then
    some false
  else
    (f_laws_eqSessionS x1.Sessions x8.Sessions).bind fun x40 =>
    if (!x40) = true then
      some false
    else
      some true
def f_laws_eqByteS_L0 (xs1 : (List UInt8)) (xs5 : (List UInt8)) : Nat → Int → Option (Bool)
  | 0, _ => none
  | k + 1, x107 =>
    if x107 < (xs1.length : Int) then
      (idx xs1 x107).bind fun x127 =>
      (idx xs5 x107).bind fun x135 =>
      if (x127.toNat : Int) = (x135.toNat : Int) then
        chk (-9223372036854775808 ≤ x107 + 1 ∧ x107 + 1 < 9223372036854775808) <|
        (f_laws_eqByteS_L0 xs1 xs5 k) (x107 + 1)
      else
        some false
    else
      some true
def f_laws_eqByteS (xs1 : (List UInt8)) (xs5 : (List UInt8)) : Option (Bool) :=
  if (xs1.length : Int) = (xs5.length : Int) then
    f_laws_eqByteS_L0 xs1 xs5 BIG 0
  else
    some false
def f_laws_markByteS_L0 (xs1 : (List UInt8)) : Nat → (List UInt8) → Int → Int → Option ((List UInt8) × Int)
  | 0, _, _, _ => none
  | k + 1, xs102, x105, x106 =>
    if x106 < (xs1.length : Int) then
      (idx xs102 x106).bind fun x126 =>
      chk (-9223372036854775808 ≤ x105 + 1 ∧ x105 + 1 < 9223372036854775808) <|
      chk (-9223372036854775808 ≤ x106 + 1 ∧ x106 + 1 < 9223372036854775808) <|
      (f_laws_markByteS_L0 xs1 k) (setI xs102 x106 (byteOf x105)) (x105 + 1) (x106 + 1)
    else
      some (xs102, x105)
def f_laws_markByteS (xs1 : (List UInt8)) (x6 : Int) : Option ((List UInt8) × Int) :=
  f_laws_markByteS_L0 xs1 BIG xs1 x6 0
def f_laws_markText_L0 : Nat → Int → Str → Option (Str)
  | 0, _, _ => none
  | k + 1, x100, x101 =>
    if (0 : Int) < x100 then
      chk ((0 : Int) ≤ x100 ∧ (0 : Int) < 10) <|
      chk (-9223372036854775808 ≤ (48 : Int) + (x100 % 10) ∧ (48 : Int) + (x100 % 10) < 9223372036854775808) <|
      chk ((([(byteOf ((48 : Int) + (x100 % 10)))] : List UInt8).length : Int) + x101.length ≤ 68719476736) <|
      chk ((0 : Int) ≤ x100 ∧ x100 < 9223372036854775808 ∧ (0 : Int) < 10) <|
      (f_laws_markText_L0 k) (x100 / 10) (lst ([(byteOf ((48 : Int) + (x100 % 10)))] : List UInt8) ++ lst x101)
    else
      chk ((([109] : List UInt8).length : Int) + x101.length ≤ 68719476736) <|
      some (lst ([109] : List UInt8) ++ lst x101)
def f_laws_markText (x1 : Int) : Option (Str) :=
  if x1 ≤ 0 then
    some ([109, 48] : List UInt8)
  else
    f_laws_markText_L0 BIG x1 ([] : List UInt8)
def f_laws_markFileS_L0 (xs1 : (List GFile)) : Nat → (List GFile) → Int → Int → Option ((List GFile) × Int)
  | 0, _, _, _ => none
  | k + 1, xs318, x321, x322 =>
    if x322 < (xs1.length : Int) then
      (f_laws_markText x321).bind fun x396 =>
      (idx xs318 x322).bind fun x406 =>
      chk (-9223372036854775808 ≤ x321 + 1 ∧ x321 + 1 < 9223372036854775808) <|
      (idx (setI xs318 x322 ({ Name := x396, Version := x406.Version, Text := x406.Text } : GFile)) x322).bind fun x423 =>
      chk (-9223372036854775808 ≤ (x321 + 1) + 1 ∧ (x321 + 1) + 1 < 9223372036854775808) <|
      (f_laws_markText ((x321 + 1) + 1)).bind fun x440 =>
      (idx (setI (setI xs318 x322 ({ Name := x396, Version := x406.Version, Text := x406.Text } : GFile)) x322 ({ Name := x423.Name, Version := (x321 + 1), Text := x423.Text } : GFile)) x322).bind fun x450 =>
      chk (-9223372036854775808 ≤ ((x321 + 1) + 1) + 1 ∧ ((x321 + 1) + 1) + 1 < 9223372036854775808) <|
      chk (-9223372036854775808 ≤ x322 + 1 ∧ x322 + 1 < 9223372036854775808) <|
      (f_laws_markFileS_L0 xs1 k) (setI (setI (setI xs318 x322 ({ Name := x396, Version := x406.Version, Text := x406.Text } : GFile)) x322 ({ Name := x423.Name, Version := (x321 + 1), Text := x423.Text } : GFile)) x322 ({ Name := x450.Name, Version := x450.Version, Text := x440 } : GFile)) (((x321 + 1) + 1) + 1) (x322 + 1)
    else
      some (xs318, x321)
def f_laws_markFileS (xs1 : (List GFile)) (x6 : Int) : Option ((List GFile) × Int) :=
  f_laws_markFileS_L0 xs1 BIG xs1 x6 0
def f_laws_markSessionS_L0 (xs1 : (List GSession)) : Nat → (List GSession) → Int → Int → Option ((List GSession) × Int)
  | 0, _, _, _ => none
  | k + 1, xs414, x417, x418 =>
    if x418 < (xs1.length : Int) then
      (idx xs414 x418).bind fun x516 =>
      chk (-9223372036854775808 ≤ x417 + 1 ∧ x417 + 1 < 9223372036854775808) <|
      (idx (setI xs414 x418 ({ Client := x417, Seq := x516.Seq, Reply := ({ Code := x516.Reply.Code, Version := x516.Reply.Version, Sha := x516.Reply.Sha } : GReply) } : GSession)) x418).bind fun x533 =>
      chk (-9223372036854775808 ≤ (x417 + 1) + 1 ∧ (x417 + 1) + 1 < 9223372036854775808) <|
      (idx (setI (setI xs414 x418 ({ Client := x417, Seq := x516.Seq, Reply := ({ Code := x516.Reply.Code, Version := x516.Reply.Version, Sha := x516.Reply.Sha } : GReply) } : GSession)) x418 ({ Client := x533.Client, Seq := (x417 + 1), Reply := ({ Code := x533.Reply.Code, Version := x533.Reply.Version, Sha := x533.Reply.Sha } : GReply) } : GSession)) x418).bind fun x550 =>
      chk (-9223372036854775808 ≤ ((x417 + 1) + 1) + 1 ∧ ((x417 + 1) + 1) + 1 < 9223372036854775808) <|
      (idx (setI (setI (setI xs414 x418 ({ Client := x417, Seq := x516.Seq, Reply := ({ Code := x516.Reply.Code, Version := x516.Reply.Version, Sha := x516.Reply.Sha } : GReply) } : GSession)) x418 ({ Client := x533.Client, Seq := (x417 + 1), Reply := ({ Code := x533.Reply.Code, Version := x533.Reply.Version, Sha := x533.Reply.Sha } : GReply) } : GSession)) x418 ({ Client := x550.Client, Seq := x550.Seq, Reply := ({ Code := ((x417 + 1) + 1), Version := x550.Reply.Version, Sha := x550.Reply.Sha } : GReply) } : GSession)) x418).bind fun x567 =>
      chk (-9223372036854775808 ≤ (((x417 + 1) + 1) + 1) + 1 ∧ (((x417 + 1) + 1) + 1) + 1 < 9223372036854775808) <|
      (f_laws_markText ((((x417 + 1) + 1) + 1) + 1)).bind fun x584 =>
      (idx (setI (setI (setI (setI xs414 x418 ({ Client := x417, Seq := x516.Seq, Reply := ({ Code := x516.Reply.Code, Version := x516.Reply.Version, Sha := x516.Reply.Sha } : GReply) } : GSession)) x418 ({ Client := x533.Client, Seq := (x417 + 1), Reply := ({ Code := x533.Reply.Code, Version := x533.Reply.Version, Sha := x533.Reply.Sha } : GReply) } : GSession)) x418 ({ Client := x550.Client, Seq := x550.Seq, Reply := ({ Code := ((x417 + 1) + 1), Version := x550.Reply.Version, Sha := x550.Reply.Sha } : GReply) } : GSession)) x418 ({ Client := x567.Client, Seq := x567.Seq, Reply := ({ Code := x567.Reply.Code, Version := (((x417 + 1) + 1) + 1), Sha := x567.Reply.Sha } : GReply) } : GSession)) x418).bind fun x594 =>
      chk (-9223372036854775808 ≤ ((((x417 + 1) + 1) + 1) + 1) + 1 ∧ ((((x417 + 1) + 1) + 1) + 1) + 1 < 9223372036854775808) <|
      chk (-9223372036854775808 ≤ x418 + 1 ∧ x418 + 1 < 9223372036854775808) <|
      (f_laws_markSessionS_L0 xs1 k) (setI (setI (setI (setI (setI xs414 x418 ({ Client := x417, Seq := x516.Seq, Reply := ({ Code := x516.Reply.Code, Version := x516.Reply.Version, Sha := x516.Reply.Sha } : GReply) } : GSession)) x418 ({ Client := x533.Client, Seq := (x417 + 1), Reply := ({ Code := x533.Reply.Code, Version := x533.Reply.Version, Sha := x533.Reply.Sha } : GReply) } : GSession)) x418 ({ Client := x550.Client, Seq := x550.Seq, Reply := ({ Code := ((x417 + 1) + 1), Version := x550.Reply.Version, Sha := x550.Reply.Sha } : GReply) } : GSession)) x418 ({ Client := x567.Client, Seq := x567.Seq, Reply := ({ Code := x567.Reply.Code, Version := (((x417 + 1) + 1) + 1), Sha := x567.Reply.Sha } : GReply) } : GSession)) x418 ({ Client := x594.Client, Seq := x594.Seq, Reply := ({ Code := x594.Reply.Code, Version := x594.Reply.Version, Sha := x584 } : GReply) } : GSession)) (((((x417 + 1) + 1) + 1) + 1) + 1) (x418 + 1)
    else
      some (xs414, x417)
def f_laws_markSessionS (xs1 : (List GSession)) (x6 : Int) : Option ((List GSession) × Int) :=
  f_laws_markSessionS_L0 xs1 BIG xs1 x6 0
def f_laws_heldFileS_L0 (xs1 : (List GFile)) : Nat → Int → Int → Option (Int)
  | 0, _, _ => none
  | k + 1, x228, x229 =>
    if x229 < (xs1.length : Int) then
      (idx xs1 x229).bind fun x281 =>
      (f_laws_markText x228).bind fun x289 =>
      if lst x281.Name = lst x289 then
        chk (-9223372036854775808 ≤ x228 + 1 ∧ x228 + 1 < 9223372036854775808) <|
        (idx xs1 x229).bind fun x300 =>
        if x300.Version = (x228 + 1) then
          chk (-9223372036854775808 ≤ (x228 + 1) + 1 ∧ (x228 + 1) + 1 < 9223372036854775808) <|
          (idx xs1 x229).bind fun x311 =>
          (f_laws_markText ((x228 + 1) + 1)).bind fun x319 =>
          if lst x311.Text = lst x319 then
            chk (-9223372036854775808 ≤ ((x228 + 1) + 1) + 1 ∧ ((x228 + 1) + 1) + 1 < 9223372036854775808) <|
            chk (-9223372036854775808 ≤ x229 + 1 ∧ x229 + 1 < 9223372036854775808) <|
            (f_laws_heldFileS_L0 xs1 k) (((x228 + 1) + 1) + 1) (x229 + 1)
          else
            some (-1)
        else
          some (-1)
      else
        some (-1)
    else
      some x228
def f_laws_heldFileS (xs1 : (List GFile)) (x5 : Int) : Option (Int) :=
  f_laws_heldFileS_L0 xs1 BIG x5 0
def f_laws_heldSessionS_L0 (xs1 : (List GSession)) : Nat → Int → Int → Option (Int)
  | 0, _, _ => none
  | k + 1, x284, x285 =>
    if x285 < (xs1.length : Int) then
      (idx xs1 x285).bind fun x351 =>
      if x351.Client = x284 then
        chk (-9223372036854775808 ≤ x284 + 1 ∧ x284 + 1 < 9223372036854775808) <|
        (idx xs1 x285).bind fun x362 =>
        if x362.Seq = (x284 + 1) then
          chk (-9223372036854775808 ≤ (x284 + 1) + 1 ∧ (x284 + 1) + 1 < 9223372036854775808) <|
          (idx xs1 x285).bind fun x373 =>
          if x373.Reply.Code = ((x284 + 1) + 1) then
            chk (-9223372036854775808 ≤ ((x284 + 1) + 1) + 1 ∧ ((x284 + 1) + 1) + 1 < 9223372036854775808) <|
            (idx xs1 x285).bind fun x384 =>
            if x384.Reply.Version = (((x284 + 1) + 1) + 1) then
              chk (-9223372036854775808 ≤ (((x284 + 1) + 1) + 1) + 1 ∧ (((x284 + 1) + 1) + 1) + 1 < 9223372036854775808) <|
              (idx xs1 x285).bind fun x395 =>
              (f_laws_markText ((((x284 + 1) + 1) + 1) + 1)).bind fun x403 =>
              if lst x395.Reply.Sha = lst x403 then
                chk (-9223372036854775808 ≤ ((((x284 + 1) + 1) + 1) + 1) + 1 ∧ ((((x284 + 1) + 1) + 1) + 1) + 1 < 9223372036854775808) <|
                chk (-9223372036854775808 ≤ x285 + 1 ∧ x285 + 1 < 9223372036854775808) <|
                (f_laws_heldSessionS_L0 xs1 k) (((((x284 + 1) + 1) + 1) + 1) + 1) (x285 + 1)
              else
                some (-1)
            else
              some (-1)
          else
            some (-1)
        else
          some (-1)
      else
        some (-1)
    else
      some x284
def f_laws_heldSessionS (xs1 : (List GSession)) (x5 : Int) : Option (Int) :=
  f_laws_heldSessionS_L0 xs1 BIG x5 0
def f_laws_heldState (x1 : GState) (x8 : Int) : Option (Int) :=
  (f_laws_heldFileS x1.Files x8).bind fun x15 =>
  if x15 < 0 then
    some (-1)
  else
    (f_laws_heldSessionS x1.Sessions x15).bind fun x26 =>
    if x26 < 0 then
      some (-1)
    else
      some x26
def f_laws_FnExactReadState_J2 (x519 : ((List GFile) × Int)) (x556 : ((List GSession) × Int)) (x858 : Bool) : Option (Bool) :=
  if x858 = true then
    some false
  else
    (f_laws_heldState ({ Files := x519.1, Sessions := x556.1 } : GState) 1).bind fun x884 =>
    if x884 < 0 then
      some false
    else
      if x884 = x556.2 then
        some true
      else
        some false
def f_laws_FnExactReadState_J1 (x102 : (GState × Int)) (xs1 : (List UInt8)) (x26 : (GState × Int)) (x476 : Bool) : Option (Bool) :=
  if x476 = true then
    some false
  else
    (f_laws_markFileS x102.1.Files 1).bind fun x519 =>
    (f_laws_markSessionS x102.1.Sessions x519.2).bind fun x556 =>
    (f_laws_heldState ({ Files := x519.1, Sessions := x556.1 } : GState) 1).bind fun x616 =>
    if x616 < 0 then
      some false
    else
      if x616 = x556.2 then
        (f_laws_toByteS xs1).bind fun x639 =>
        (f_impl_ReadState x639).bind fun x683 =>
        (f_laws_eqState ({ Files := x683.1.Files, Sessions := x683.1.Sessions } : GState) ({ Files := x26.1.Files, Sessions := x26.1.Sessions } : GState)).bind fun x958 =>
        if (!x958) = true then
          f_laws_FnExactReadState_J2 x519 x556 true
        else
          f_laws_FnExactReadState_J2 x519 x556 (!decide (x683.2 = x26.2))
      else
        some false
def f_laws_FnExactReadState_J0 (xs1 : (List UInt8)) (x68 : ((List UInt8))) (x102 : (GState × Int)) (x26 : (GState × Int)) (x246 : Bool) : Option (Bool) :=
  if x246 = true then
    some false
  else
    (f_laws_toByteS xs1).bind fun x279 =>
    (f_laws_eqByteS x68 x279).bind fun x336 =>
    if (!x336) = true then
      some false
    else
      (f_laws_markByteS x68 1).bind fun x360 =>
      if x360.2 < 0 then
        f_laws_FnExactReadState_J1 x102 xs1 x26 true
      else
        (f_laws_eqState ({ Files := x102.1.Files, Sessions := x102.1.Sessions } : GState) ({ Files := x26.1.Files, Sessions := x26.1.Sessions } : GState)).bind fun x1032 =>
        if (!x1032) = true then
          f_laws_FnExactReadState_J1 x102 xs1 x26 true
        else
          f_laws_FnExactReadState_J1 x102 xs1 x26 (!decide (x102.2 = x26.2))
def f_laws_FnExactReadState (xs1 : (List UInt8)) : Option (Bool) :=
  if (1048576 : Int) < (xs1.length : Int) then
    some true
  else
    (f_laws_toByteS xs1).bind fun x7 =>
    (f_spec_ReadState x7).bind fun x26 =>
    (f_laws_toByteS xs1).bind fun x68 =>
    (f_impl_ReadState x68).bind fun x102 =>
    (f_laws_eqState ({ Files := x102.1.Files, Sessions := x102.1.Sessions } : GState) ({ Files := x26.1.Files, Sessions := x26.1.Sessions } : GState)).bind fun x1101 =>
    if (!x1101) = true then
      f_laws_FnExactReadState_J0 xs1 x68 x102 x26 true
    else
      f_laws_FnExactReadState_J0 xs1 x68 x102 x26 (!decide (x102.2 = x26.2))
end Go.Proofs.YtmodhnkjimpkbaaAb
