import Derived.Test.YtbdebjoagckcpaaAbP5
set_option linter.all false
set_option maxRecDepth 20000
namespace Go.Proofs.YtbdebjoagckcpaaAb
open Go
structure GRec where
  Term : Int
  Index : Int
  Data : (List UInt8)
deriving DecidableEq, Inhabited
instance : Rp GRec where
  sz := 3
  R F cs x := ∃ (a1 : Option Addr) (c1 : Nat), cs = [.int .i64 x.Term, .int .i64 x.Index, .slice a1 x.Data.length c1] ∧ SR F (.slice a1 x.Data.length c1) x.Data
  len h := by obtain ⟨a1, c1, rfl, _⟩ := h; rfl
  one h := by obtain ⟨a1, c1, rfl, _⟩ := h; repeat' (first | exact List.forall_mem_nil _ | refine List.forall_mem_cons.2 ⟨?_, ?_⟩ | rfl)
  mono h hle := by obtain ⟨a1, c1, rfl, h1⟩ := h; exact ⟨a1, c1, rfl, h1.mono hle⟩
theorem GRec.ofR {F : Heap} {cs : List Value} {x : GRec} (h : Rp.R F cs x) : ∃ (a1 : Option Addr) (c1 : Nat), cs = [.int .i64 x.Term, .int .i64 x.Index, .slice a1 x.Data.length c1] ∧ SR F (.slice a1 x.Data.length c1) x.Data := h
theorem GRec.toR {F : Heap} {x : GRec} {a1 : Option Addr} {c1 : Nat} (h1 : SR F (.slice a1 x.Data.length c1) x.Data) : Rp.R F [.int .i64 x.Term, .int .i64 x.Index, .slice a1 x.Data.length c1] x := ⟨a1, c1, rfl, h1⟩
theorem GRec.zeroR (F : Heap) : Rp.R F [.int .i64 0, .int .i64 0, .slice none 0 0] (({ Term := 0, Index := 0, Data := [] } : GRec)) := ⟨none, 0, rfl, SR.nil⟩
structure GWal where
  Term : Int
  Vote : Int
  Base : Int
  BaseTerm : Int
  Log : (List GRec)
  Good : Int
deriving DecidableEq, Inhabited
instance : Rp GWal where
  sz := 6
  R F cs x := ∃ (a1 : Option Addr) (c1 : Nat), cs = [.int .i64 x.Term, .int .i64 x.Vote, .int .i64 x.Base, .int .i64 x.BaseTerm, .slice a1 x.Log.length c1, .int .i64 x.Good] ∧ SR F (.slice a1 x.Log.length c1) x.Log
  len h := by obtain ⟨a1, c1, rfl, _⟩ := h; rfl
  one h := by obtain ⟨a1, c1, rfl, _⟩ := h; repeat' (first | exact List.forall_mem_nil _ | refine List.forall_mem_cons.2 ⟨?_, ?_⟩ | rfl)
  mono h hle := by obtain ⟨a1, c1, rfl, h1⟩ := h; exact ⟨a1, c1, rfl, h1.mono hle⟩
theorem GWal.ofR {F : Heap} {cs : List Value} {x : GWal} (h : Rp.R F cs x) : ∃ (a1 : Option Addr) (c1 : Nat), cs = [.int .i64 x.Term, .int .i64 x.Vote, .int .i64 x.Base, .int .i64 x.BaseTerm, .slice a1 x.Log.length c1, .int .i64 x.Good] ∧ SR F (.slice a1 x.Log.length c1) x.Log := h
theorem GWal.toR {F : Heap} {x : GWal} {a1 : Option Addr} {c1 : Nat} (h1 : SR F (.slice a1 x.Log.length c1) x.Log) : Rp.R F [.int .i64 x.Term, .int .i64 x.Vote, .int .i64 x.Base, .int .i64 x.BaseTerm, .slice a1 x.Log.length c1, .int .i64 x.Good] x := ⟨a1, c1, rfl, h1⟩
theorem GWal.zeroR (F : Heap) : Rp.R F [.int .i64 0, .int .i64 0, .int .i64 0, .int .i64 0, .slice none 0 0, .int .i64 0] (({ Term := 0, Vote := 0, Base := 0, BaseTerm := 0, Log := [], Good := 0 } : GWal)) := ⟨none, 0, rfl, SR.nil⟩
structure Gl00Src where
  code : (List UInt8)
  at_ : Int
  seed : Int
deriving DecidableEq, Inhabited
instance : Rp Gl00Src where
  sz := 3
  R F cs x := ∃ (a1 : Option Addr) (c1 : Nat), cs = [.slice a1 x.code.length c1, .int .i64 x.at_, .int .i64 x.seed] ∧ SR F (.slice a1 x.code.length c1) x.code
  len h := by obtain ⟨a1, c1, rfl, _⟩ := h; rfl
  one h := by obtain ⟨a1, c1, rfl, _⟩ := h; repeat' (first | exact List.forall_mem_nil _ | refine List.forall_mem_cons.2 ⟨?_, ?_⟩ | rfl)
  mono h hle := by obtain ⟨a1, c1, rfl, h1⟩ := h; exact ⟨a1, c1, rfl, h1.mono hle⟩
theorem Gl00Src.ofR {F : Heap} {cs : List Value} {x : Gl00Src} (h : Rp.R F cs x) : ∃ (a1 : Option Addr) (c1 : Nat), cs = [.slice a1 x.code.length c1, .int .i64 x.at_, .int .i64 x.seed] ∧ SR F (.slice a1 x.code.length c1) x.code := h
theorem Gl00Src.toR {F : Heap} {x : Gl00Src} {a1 : Option Addr} {c1 : Nat} (h1 : SR F (.slice a1 x.code.length c1) x.code) : Rp.R F [.slice a1 x.code.length c1, .int .i64 x.at_, .int .i64 x.seed] x := ⟨a1, c1, rfl, h1⟩
theorem Gl00Src.zeroR (F : Heap) : Rp.R F [.slice none 0 0, .int .i64 0, .int .i64 0] (({ code := [], at_ := 0, seed := 0 } : Gl00Src)) := ⟨none, 0, rfl, SR.nil⟩
def f_spec_l00Source (xs1 : (List UInt8)) : Option (Gl00Src) :=
  chk ((0 : Int) ≤ (xs1.length : Int) ∧ (0 : Int) < 1000) <|
  some ({ code := xs1, at_ := 0, seed := ((xs1.length : Int) % 1000) } : Gl00Src)
def f_spec_l00Src_byte (x1 : Gl00Src) : Option (Gl00Src × Int) :=
  chk (-9223372036854775808 ≤ x1.at_ + 1 ∧ x1.at_ + 1 < 9223372036854775808) <|
  if (x1.at_ + 1) ≤ (x1.code.length : Int) then
    chk (-9223372036854775808 ≤ x1.seed * 31 ∧ x1.seed * 31 < 9223372036854775808) <|
    chk (-9223372036854775808 ≤ (x1.at_ + 1) - 1 ∧ (x1.at_ + 1) - 1 < 9223372036854775808) <|
    (idx x1.code ((x1.at_ + 1) - 1)).bind fun x43 =>
    chk (-9223372036854775808 ≤ (x1.seed * 31) + (x43.toNat : Int) ∧ (x1.seed * 31) + (x43.toNat : Int) < 9223372036854775808) <|
    chk (-9223372036854775808 ≤ ((x1.seed * 31) + (x43.toNat : Int)) + 7 ∧ ((x1.seed * 31) + (x43.toNat : Int)) + 7 < 9223372036854775808) <|
    chk ((0 : Int) ≤ (((x1.seed * 31) + (x43.toNat : Int)) + 7) ∧ (0 : Int) < 2147483648) <|
    chk (-9223372036854775808 ≤ (x1.at_ + 1) - 1 ∧ (x1.at_ + 1) - 1 < 9223372036854775808) <|
    (idx x1.code ((x1.at_ + 1) - 1)).bind fun x59 =>
    some (({ code := x1.code, at_ := (x1.at_ + 1), seed := ((((x1.seed * 31) + (x43.toNat : Int)) + 7) % 2147483648) } : Gl00Src), (x59.toNat : Int))
  else
    if (3000 : Int) < (x1.at_ + 1) then
      some (({ code := x1.code, at_ := (x1.at_ + 1), seed := x1.seed } : Gl00Src), 0)
    else
      chk (-9223372036854775808 ≤ x1.seed * 1103515245 ∧ x1.seed * 1103515245 < 9223372036854775808) <|
      chk (-9223372036854775808 ≤ (x1.seed * 1103515245) + 12345 ∧ (x1.seed * 1103515245) + 12345 < 9223372036854775808) <|
      chk ((0 : Int) ≤ ((x1.seed * 1103515245) + 12345) ∧ (0 : Int) < 2147483648) <|
      chk ((0 : Int) ≤ (((x1.seed * 1103515245) + 12345) % 2147483648) ∧ (((x1.seed * 1103515245) + 12345) % 2147483648) < 9223372036854775808 ∧ (0 : Int) < 65536) <|
      chk ((0 : Int) ≤ ((((x1.seed * 1103515245) + 12345) % 2147483648) / 65536) ∧ (0 : Int) < 256) <|
      some (({ code := x1.code, at_ := (x1.at_ + 1), seed := (((x1.seed * 1103515245) + 12345) % 2147483648) } : Gl00Src), (((((x1.seed * 1103515245) + 12345) % 2147483648) / 65536) % 256))
def f_spec_l00Src_next (x1 : Gl00Src) (x8 : Int) : Option (Gl00Src × Int) :=
  if x8 ≤ 1 then
    some (({ code := x1.code, at_ := x1.at_, seed := x1.seed } : Gl00Src), 0)
  else
    if x8 ≤ 256 then
      (f_spec_l00Src_byte ({ code := x1.code, at_ := x1.at_, seed := x1.seed } : Gl00Src)).bind fun x36 =>
      chk ((0 : Int) ≤ x36.2 ∧ (0 : Int) < x8) <|
      some (({ code := x36.1.code, at_ := x36.1.at_, seed := x36.1.seed } : Gl00Src), (x36.2 % x8))
    else
      (f_spec_l00Src_byte ({ code := x1.code, at_ := x1.at_, seed := x1.seed } : Gl00Src)).bind fun x59 =>
      (f_spec_l00Src_byte ({ code := x59.1.code, at_ := x59.1.at_, seed := x59.1.seed } : Gl00Src)).bind fun x81 =>
      (f_spec_l00Src_byte ({ code := x81.1.code, at_ := x81.1.at_, seed := x81.1.seed } : Gl00Src)).bind fun x103 =>
      chk (-9223372036854775808 ≤ x59.2 * 65536 ∧ x59.2 * 65536 < 9223372036854775808) <|
      chk (-9223372036854775808 ≤ x81.2 * 256 ∧ x81.2 * 256 < 9223372036854775808) <|
      chk (-9223372036854775808 ≤ (x59.2 * 65536) + (x81.2 * 256) ∧ (x59.2 * 65536) + (x81.2 * 256) < 9223372036854775808) <|
      chk (-9223372036854775808 ≤ ((x59.2 * 65536) + (x81.2 * 256)) + x103.2 ∧ ((x59.2 * 65536) + (x81.2 * 256)) + x103.2 < 9223372036854775808) <|
      chk ((0 : Int) ≤ (((x59.2 * 65536) + (x81.2 * 256)) + x103.2) ∧ (0 : Int) < x8) <|
      some (({ code := x103.1.code, at_ := x103.1.at_, seed := x103.1.seed } : Gl00Src), ((((x59.2 * 65536) + (x81.2 * 256)) + x103.2) % x8))
def f_spec_l00Src_size (x1 : Gl00Src) (x8 : Int) : Option (Int) :=
  chk ((0 : Int) ≤ (x1.code.length : Int) ∧ (x1.code.length : Int) < 9223372036854775808 ∧ (0 : Int) < 12) <|
  chk (-9223372036854775808 ≤ (1 : Int) + ((x1.code.length : Int) / 12) ∧ (1 : Int) + ((x1.code.length : Int) / 12) < 9223372036854775808) <|
  some (if x8 < ((1 : Int) + ((x1.code.length : Int) / 12)) then x8 else ((1 : Int) + ((x1.code.length : Int) / 12)))
def f_spec_l00Src_bytes_L0 : Nat → (List UInt8) → Int → (List UInt8) → Int → Int → Option (Gl00Src × (List UInt8))
  | 0, _, _, _, _, _ => none
  | k + 1, xs300, x303, xs306, x308, x309 =>
    if (0 : Int) < x303 then
      (f_spec_l00Src_next ({ code := xs306, at_ := x308, seed := x309 } : Gl00Src) 256).bind fun x369 =>
      chk ((xs300.length : Int) + ([(byteOf x369.2)] : List UInt8).length ≤ 68719476736) <|
      chk (-9223372036854775808 ≤ x303 - 1 ∧ x303 - 1 < 9223372036854775808) <|
      (f_spec_l00Src_bytes_L0 k) (xs300 ++ ([(byteOf x369.2)] : List UInt8)) (x303 - 1) x369.1.code x369.1.at_ x369.1.seed
    else
      some (({ code := xs306, at_ := x308, seed := x309 } : Gl00Src), xs300)
def f_spec_l00Src_bytes (x1 : Gl00Src) (x8 : Int) : Option (Gl00Src × (List UInt8)) :=
  chk (-9223372036854775808 ≤ x8 + 1 ∧ x8 + 1 < 9223372036854775808) <|
  (f_spec_l00Src_next ({ code := x1.code, at_ := x1.at_, seed := x1.seed } : Gl00Src) (x8 + 1)).bind fun x18 =>
  f_spec_l00Src_bytes_L0 BIG ([] : List UInt8) x18.2 x18.1.code x18.1.at_ x18.1.seed
def f_spec_l00Src_wal_L0 (x15 : (Gl00Src × Int)) (x40 : (Gl00Src × Int)) : Nat → Int → (List GRec) → (List UInt8) → Int → Int → Option (Gl00Src × GWal)
  | 0, _, _, _, _, _ => none
  | k + 1, x1478, xs1483, xs1490, x1492, x1493 =>
    if (0 : Int) < x1478 then
      chk (-9223372036854775808 ≤ (xs1483.length : Int) + 1 ∧ (xs1483.length : Int) + 1 < 9223372036854775808) <|
      (f_spec_l00Src_next ({ code := xs1490, at_ := x1492, seed := x1493 } : Gl00Src) 4).bind fun x1633 =>
      (f_spec_l00Src_bytes ({ code := x1633.1.code, at_ := x1633.1.at_, seed := x1633.1.seed } : Gl00Src) 5).bind fun x1664 =>
      chk ((xs1483.length : Int) + ([({ Term := x1633.2, Index := ((xs1483.length : Int) + 1), Data := x1664.2 } : GRec)] : List GRec).length ≤ 68719476736) <|
      chk (-9223372036854775808 ≤ x1478 - 1 ∧ x1478 - 1 < 9223372036854775808) <|
      (f_spec_l00Src_wal_L0 x15 x40 k) (x1478 - 1) (xs1483 ++ ([({ Term := x1633.2, Index := ((xs1483.length : Int) + 1), Data := x1664.2 } : GRec)] : List GRec)) x1664.1.code x1664.1.at_ x1664.1.seed
    else
      some (({ code := xs1490, at_ := x1492, seed := x1493 } : Gl00Src), ({ Term := x15.2, Vote := x40.2, Base := 0, BaseTerm := 0, Log := xs1483, Good := 0 } : GWal))
def f_spec_l00Src_wal (x1 : Gl00Src) : Option (Gl00Src × GWal) :=
  (f_spec_l00Src_next ({ code := x1.code, at_ := x1.at_, seed := x1.seed } : Gl00Src) 9).bind fun x15 =>
  (f_spec_l00Src_next ({ code := x15.1.code, at_ := x15.1.at_, seed := x15.1.seed } : Gl00Src) 4).bind fun x40 =>
  (f_spec_l00Src_size ({ code := x40.1.code, at_ := x40.1.at_, seed := x40.1.seed } : Gl00Src) 6).bind fun x79 =>
  chk (-9223372036854775808 ≤ x79 + 1 ∧ x79 + 1 < 9223372036854775808) <|
  (f_spec_l00Src_next ({ code := x40.1.code, at_ := x40.1.at_, seed := x40.1.seed } : Gl00Src) (x79 + 1)).bind fun x91 =>
  f_spec_l00Src_wal_L0 x15 x40 BIG x91.2 ([]) x91.1.code x91.1.at_ x91.1.seed
def f_spec_WalsOf (xs1 : (List UInt8)) : Option (GWal) :=
  (f_spec_l00Source xs1).bind fun x11 =>
  (f_spec_l00Src_wal ({ code := x11.code, at_ := x11.at_, seed := x11.seed } : Gl00Src)).bind fun x32 =>
  some ({ Term := x32.2.Term, Vote := x32.2.Vote, Base := x32.2.Base, BaseTerm := x32.2.BaseTerm, Log := x32.2.Log, Good := x32.2.Good } : GWal)
def f_impl_within (x1 : Int) (x2 : Int) (x3 : Int) : Option (Bool) :=
  if x2 ≤ x1 then
    some (decide (x1 ≤ x3))
  else
    some false
def f_impl_isTerm (x1 : Int) : Option (Bool) :=
  (f_impl_within x1 0 1000000).bind fun x2 =>
  some x2
def f_impl_recOK (x1 : GRec) : Option (Bool) :=
  (f_impl_isTerm x1.Term).bind fun x11 =>
  if x11 = true then
    (f_impl_within x1.Index 1 1000000).bind fun x21 =>
    if x21 = true then
      some (decide ((x1.Data.length : Int) ≤ 1000))
    else
      some false
  else
    some false
def f_impl_number_L0 : Nat → Int → (List UInt8) → Option ((List UInt8))
  | 0, _, _ => none
  | k + 1, x203, xs206 =>
    if (127 : Int) < x203 then
      chk ((0 : Int) ≤ x203 ∧ (0 : Int) < 128) <|
      chk (-9223372036854775808 ≤ (x203 % 128) + 128 ∧ (x203 % 128) + 128 < 9223372036854775808) <|
      chk ((xs206.length : Int) + ([(byteOf ((x203 % 128) + 128))] : List UInt8).length ≤ 68719476736) <|
      chk ((0 : Int) ≤ x203 ∧ x203 < 9223372036854775808 ∧ (0 : Int) < 128) <|
      (f_impl_number_L0 k) (x203 / 128) (xs206 ++ ([(byteOf ((x203 % 128) + 128))] : List UInt8))
    else
      chk ((xs206.length : Int) + ([(byteOf x203)] : List UInt8).length ≤ 68719476736) <|
      some (xs206 ++ ([(byteOf x203)] : List UInt8))
def f_impl_number (x1 : Int) : Option ((List UInt8)) :=
  f_impl_number_L0 BIG x1 ([] : List UInt8)
def f_slices_Grow_byte_nil0 (x1 : Int) : Option ((List UInt8)) :=
  if x1 < 0 then
    none
  else
    chk (-9223372036854775808 ≤ (0 : Int) - 0 ∧ (0 : Int) - 0 < 9223372036854775808) <|
    chk (-9223372036854775808 ≤ x1 - ((0 : Int) - 0) ∧ x1 - ((0 : Int) - 0) < 9223372036854775808) <|
    if (0 : Int) < (x1 - ((0 : Int) - 0)) then
      chk ((0 : Int) = 0 ∧ (0 : Int) = 0) <|
      chk ((0 : Int) < (x1 - ((0 : Int) - 0)) ∧ (x1 - ((0 : Int) - 0)) ≤ 68719476736) <|
      (slc (List.replicate (x1 - ((0 : Int) - 0)).toNat ((0 : UInt8) : UInt8)) 0 0).bind fun xs17 =>
      some xs17
    else
      some ([])
def f_slices_Concat_byte_L1 (xs1 : (List (List UInt8))) : Nat → (List UInt8) → Int → Option ((List UInt8))
  | 0, _, _ => none
  | k + 1, xs360, x364 =>
    if x364 < (xs1.length : Int) then
      (idx xs1 x364).bind fun x390 =>
      chk ((xs360.length : Int) + x390.length ≤ 68719476736) <|
      chk (-9223372036854775808 ≤ x364 + 1 ∧ x364 + 1 < 9223372036854775808) <|
      (f_slices_Concat_byte_L1 xs1 k) (xs360 ++ x390) (x364 + 1)
    else
      some xs360
def f_slices_Concat_byte_L0 (xs1 : (List (List UInt8))) : Nat → Int → Int → Option ((List UInt8))
  | 0, _, _ => none
  | k + 1, x192, x193 =>
    if x193 < (xs1.length : Int) then
      (idx xs1 x193).bind fun x209 =>
      chk (-9223372036854775808 ≤ x192 + (x209.length : Int) ∧ x192 + (x209.length : Int) < 9223372036854775808) <|
      if (x192 + (x209.length : Int)) < 0 then
        none
      else
        chk (-9223372036854775808 ≤ x193 + 1 ∧ x193 + 1 < 9223372036854775808) <|
        (f_slices_Concat_byte_L0 xs1 k) (x192 + (x209.length : Int)) (x193 + 1)
    else
      (f_slices_Grow_byte_nil0 x192).bind fun x223 =>
      f_slices_Concat_byte_L1 xs1 BIG x223 0
def f_slices_Concat_byte (xs1 : (List (List UInt8))) : Option ((List UInt8)) :=
  f_slices_Concat_byte_L0 xs1 BIG 0 0
def f_impl_crc_J2 (x845 : Int) (rc1 : UInt32 → Int → Option (UInt32)) (x854 : UInt32) : Option (UInt32) :=
  chk (-9223372036854775808 ≤ x845 + 1 ∧ x845 + 1 < 9223372036854775808) <|
  rc1 x854 (x845 + 1)
def f_impl_crc_L1 (x723 : Int) (rc0 : UInt32 → Int → Option (UInt32)) : Nat → UInt32 → Int → Option (UInt32)
  | 0, _, _ => none
  | k + 1, x843, x845 =>
    if x845 < 8 then
      if ((x843 &&& (1 : UInt32)).toNat : Int) = (1 : Int) then
        f_impl_crc_J2 x845 (f_impl_crc_L1 x723 rc0 k) ((x843 >>> (UInt32.ofNat 1)) ^^^ (3988292384 : UInt32))
      else
        f_impl_crc_J2 x845 (f_impl_crc_L1 x723 rc0 k) (x843 >>> (UInt32.ofNat 1))
    else
      chk (-9223372036854775808 ≤ x723 + 1 ∧ x723 + 1 < 9223372036854775808) <|
      rc0 x843 (x723 + 1)
def f_impl_crc_L0 (xs1 : (List UInt8)) : Nat → UInt32 → Int → Option (UInt32)
  | 0, _, _ => none
  | k + 1, x721, x723 =>
    if x723 < (xs1.length : Int) then
      (idx xs1 x723).bind fun x792 =>
      f_impl_crc_L1 x723 (f_impl_crc_L0 xs1 k) BIG (x721 ^^^ x792.toUInt32) 0
    else
      some (4294967295 ^^^ x721)
def f_impl_crc (xs1 : (List UInt8)) : Option (UInt32) :=
  f_impl_crc_L0 xs1 BIG (4294967295 : UInt32) 0
def f_impl_sumBytes (xs1 : (List UInt8)) : Option ((List UInt8)) :=
  (f_impl_crc xs1).bind fun x5 =>
  some ([(byteOf (x5.toNat : Int)), (byteOf ((x5 >>> (UInt32.ofNat 8)).toNat : Int)), (byteOf ((x5 >>> (UInt32.ofNat 16)).toNat : Int)), (byteOf ((x5 >>> (UInt32.ofNat 24)).toNat : Int))] : List UInt8)
def f_impl_frame (xs1 : (List UInt8)) : Option ((List UInt8)) :=
  (f_impl_number (xs1.length : Int)).bind fun x5 =>
  (f_impl_sumBytes xs1).bind fun x18 =>
  (f_slices_Concat_byte ([x5, xs1, x18] : List (List UInt8))).bind fun x59 =>
  some x59
def f_impl_record (x1 : UInt8) (x2 : Int) (x3 : Int) (xs4 : (List UInt8)) : Option ((List UInt8)) :=
  (f_impl_number x2).bind fun x14 =>
  (f_impl_number x3).bind fun x30 =>
  (f_slices_Concat_byte ([([x1] : List UInt8), x14, x30, xs4] : List (List UInt8))).bind fun x82 =>
  (f_impl_frame x82).bind fun x101 =>
  some x101
def f_impl_WalOf_J2 (x526 : Int) (rc1 : Bool → Int → Option ((List UInt8) × Int)) (x573 : Bool) : Option ((List UInt8) × Int) :=
  chk (-9223372036854775808 ≤ x526 + 1 ∧ x526 + 1 < 9223372036854775808) <|
  rc1 x573 (x526 + 1)
def f_impl_WalOf_L3 (x1 : GWal) : Nat → (List UInt8) → Int → Option ((List UInt8) × Int)
  | 0, _, _ => none
  | k + 1, xs1294, x1298 =>
    if x1298 < (x1.Log.length : Int) then
      (idx x1.Log x1298).bind fun x1360 =>
      (f_impl_record (2 : UInt8) x1360.Term x1360.Index x1360.Data).bind fun x1384 =>
      chk ((xs1294.length : Int) + x1384.length ≤ 68719476736) <|
      chk (-9223372036854775808 ≤ x1298 + 1 ∧ x1298 + 1 < 9223372036854775808) <|
      (f_impl_WalOf_L3 x1 k) (xs1294 ++ x1384) (x1298 + 1)
    else
      if (65536 : Int) < (xs1294.length : Int) then
        some ([], 7)
      else
        some (xs1294, 0)
def f_impl_WalOf_L1 (x1 : GWal) : Nat → Bool → Int → Option ((List UInt8) × Int)
  | 0, _, _ => none
  | k + 1, x524, x526 =>
    if x526 < (x1.Log.length : Int) then
      (idx x1.Log x526).bind fun x579 =>
      if x524 = true then
        (f_impl_recOK ({ Term := x579.Term, Index := x579.Index, Data := x579.Data } : GRec)).bind fun x603 =>
        if x603 = true then
          chk (-9223372036854775808 ≤ x526 + 1 ∧ x526 + 1 < 9223372036854775808) <|
          f_impl_WalOf_J2 x526 (f_impl_WalOf_L1 x1 k) (decide (x579.Index = (x526 + 1)))
        else
          f_impl_WalOf_J2 x526 (f_impl_WalOf_L1 x1 k) false
      else
        f_impl_WalOf_J2 x526 (f_impl_WalOf_L1 x1 k) false
    else
      if (!x524) = true then
        some ([], 1)
      else
        (f_impl_record (1 : UInt8) x1.Term x1.Vote ([])).bind fun x617 =>
        f_impl_WalOf_L3 x1 BIG x617 0
def f_impl_WalOf_J0 (x1 : GWal) (x38 : Bool) : Option ((List UInt8) × Int) :=
  f_impl_WalOf_L1 x1 BIG x38 0
def f_impl_WalOf (x1 : GWal) : Option ((List UInt8) × Int) :=
  (f_impl_isTerm x1.Term).bind fun x1421 =>
  if x1421 = true then
    (f_impl_isTerm x1.Vote).bind fun x1431 =>
    if x1431 = true then
      if x1.Base = 0 then
        if x1.BaseTerm = 0 then
          f_impl_WalOf_J0 x1 (decide ((x1.Log.length : Int) ≤ 100))
        else
          f_impl_WalOf_J0 x1 false
      else
        f_impl_WalOf_J0 x1 false
    else
      f_impl_WalOf_J0 x1 false
  else
    f_impl_WalOf_J0 x1 false
def f_impl_unless (x1 : Bool) (x2 : Int) : Option (Int) :=
  if x1 = true then
    some 0
  else
    some x2
def f_impl_longBytes (xs1 : (List UInt8)) : Option (Int) :=
  (f_impl_unless (decide ((xs1.length : Int) ≤ 65536)) 2).bind fun x5 =>
  some x5
def f_impl_readNumber_J1 (x228 : Int) (x227 : Int) (x282 : UInt8) (x316 : Bool) : Option (Int × Int) :=
  if x316 = true then
    some (0, 0)
  else
    chk (-9223372036854775808 ≤ x228 + 1 ∧ x228 + 1 < 9223372036854775808) <|
    some (((x227.toNat ||| (shl64 ((x282 &&& (127 : UInt8)).toNat : Int) ((7 : Int) * x228)).toNat : Nat) : Int), (x228 + 1))
def f_impl_readNumber_L0 (xs1 : (List UInt8)) : Nat → Int → Int → Option (Int × Int)
  | 0, _, _ => none
  | k + 1, x227, x228 =>
    if x228 < 9 then
      if x228 = (xs1.length : Int) then
        some (0, (-1))
      else
        (idx xs1 x228).bind fun x282 =>
        chk (-9223372036854775808 ≤ (7 : Int) * x228 ∧ (7 : Int) * x228 < 9223372036854775808) <|
        chk ((0 : Int) ≤ ((7 : Int) * x228)) <|
        chk ((0 : Int) ≤ x227 ∧ x227 < 9223372036854775808 ∧ (0 : Int) ≤ (shl64 ((x282 &&& (127 : UInt8)).toNat : Int) ((7 : Int) * x228)) ∧ (shl64 ((x282 &&& (127 : UInt8)).toNat : Int) ((7 : Int) * x228)) < 9223372036854775808) <|
        (idx xs1 x228).bind fun x293 =>
        if (x293.toNat : Int) < (128 : Int) then
          if (0 : Int) < x228 then
            (idx xs1 x228).bind fun x321 =>
            f_impl_readNumber_J1 x228 x227 x282 (decide ((x321.toNat : Int) = (0 : Int)))
          else
            f_impl_readNumber_J1 x228 x227 x282 false
        else
          chk (-9223372036854775808 ≤ x228 + 1 ∧ x228 + 1 < 9223372036854775808) <|
          (f_impl_readNumber_L0 xs1 k) ((x227.toNat ||| (shl64 ((x282 &&& (127 : UInt8)).toNat : Int) ((7 : Int) * x228)).toNat : Nat) : Int) (x228 + 1)
    else
      some (0, 0)
def f_impl_readNumber (xs1 : (List UInt8)) : Option (Int × Int) :=
  f_impl_readNumber_L0 xs1 BIG 0 0
def f_slices_Equal_byte_L0 (xs1 : (List UInt8)) (xs5 : (List UInt8)) : Nat → Int → Option (Bool)
  | 0, _ => none
  | k + 1, x107 =>
    if x107 < (xs1.length : Int) then
      (idx xs1 x107).bind fun x127 =>
      (idx xs5 x107).bind fun x135 =>
      if (x127.toNat : Int) = (x135.toNat : Int) then
        chk (-9223372036854775808 ≤ x107 + 1 ∧ x107 + 1 < 9223372036854775808) <|
        (f_slices_Equal_byte_L0 xs1 xs5 k) (x107 + 1)
      else
        some false
    else
      some true
def f_slices_Equal_byte (xs1 : (List UInt8)) (xs5 : (List UInt8)) : Option (Bool) :=
  if (xs1.length : Int) = (xs5.length : Int) then
    f_slices_Equal_byte_L0 xs1 xs5 BIG 0
  else
    some false
def f_slices_Clone_byte (xs1 : List UInt8) : Option (List UInt8) := chk ((xs1.length : Int) ≤ 68719476736) (some xs1)
def f_impl_readFrame (xs1 : (List UInt8)) : Option ((List UInt8) × Int × Int) :=
  (f_impl_readNumber xs1).bind fun x5 =>
  if x5.2 < 0 then
    some ([], 0, 0)
  else
    if x5.2 = 0 then
      some ([], 0, 3)
    else
      if (4096 : Int) < x5.1 then
        some ([], 0, 5)
      else
        chk (-9223372036854775808 ≤ x5.2 + x5.1 ∧ x5.2 + x5.1 < 9223372036854775808) <|
        chk (-9223372036854775808 ≤ (x5.2 + x5.1) + 4 ∧ (x5.2 + x5.1) + 4 < 9223372036854775808) <|
        if (xs1.length : Int) < ((x5.2 + x5.1) + 4) then
          some ([], 0, 0)
        else
          chk (-9223372036854775808 ≤ x5.2 + x5.1 ∧ x5.2 + x5.1 < 9223372036854775808) <|
          (slc xs1 x5.2 (x5.2 + x5.1)).bind fun xs26 =>
          chk (-9223372036854775808 ≤ x5.2 + x5.1 ∧ x5.2 + x5.1 < 9223372036854775808) <|
          chk (-9223372036854775808 ≤ x5.2 + x5.1 ∧ x5.2 + x5.1 < 9223372036854775808) <|
          chk (-9223372036854775808 ≤ (x5.2 + x5.1) + 4 ∧ (x5.2 + x5.1) + 4 < 9223372036854775808) <|
          (slc xs1 (x5.2 + x5.1) ((x5.2 + x5.1) + 4)).bind fun xs34 =>
          (f_impl_sumBytes xs26).bind fun x39 =>
          (f_slices_Equal_byte xs34 x39).bind fun x58 =>
          if (!x58) = true then
            some ([], 0, 8)
          else
            (f_slices_Clone_byte xs26).bind fun x70 =>
            chk (-9223372036854775808 ≤ x5.2 + x5.1 ∧ x5.2 + x5.1 < 9223372036854775808) <|
            chk (-9223372036854775808 ≤ (x5.2 + x5.1) + 4 ∧ (x5.2 + x5.1) + 4 < 9223372036854775808) <|
            some (x70, ((x5.2 + x5.1) + 4), 0)
def f_slices_Clone_implRec (xs1 : List GRec) : Option (List GRec) := chk ((xs1.length : Int) ≤ 68719476736) (some xs1)
def f_impl_Wal_take_J2 (x1 : GWal) (x40 : (Int × Int)) (x21 : (Int × Int)) (x142 : (List UInt8)) (x224 : Bool) : Option (GWal × Bool) :=
  if x224 = true then
    some (({ Term := x1.Term, Vote := x1.Vote, Base := x1.Base, BaseTerm := x1.BaseTerm, Log := x1.Log, Good := x1.Good } : GWal), false)
  else
    chk (-9223372036854775808 ≤ x40.1 - x1.Base ∧ x40.1 - x1.Base < 9223372036854775808) <|
    chk (-9223372036854775808 ≤ (x40.1 - x1.Base) - 1 ∧ (x40.1 - x1.Base) - 1 < 9223372036854775808) <|
    (slc x1.Log 0 ((x40.1 - x1.Base) - 1)).bind fun xs243 =>
    chk ((xs243.length : Int) + ([({ Term := x21.1, Index := x40.1, Data := x142 } : GRec)] : List GRec).length ≤ 68719476736) <|
    some (({ Term := x1.Term, Vote := x1.Vote, Base := x1.Base, BaseTerm := x1.BaseTerm, Log := (xs243 ++ ([({ Term := x21.1, Index := x40.1, Data := x142 } : GRec)] : List GRec)), Good := x1.Good } : GWal), true)
def f_impl_Wal_take_J3 (x1 : GWal) (x21 : (Int × Int)) (x40 : (Int × Int)) (x380 : Bool) : Option (GWal × Bool) :=
  if x380 = true then
    some (({ Term := x1.Term, Vote := x1.Vote, Base := x1.Base, BaseTerm := x1.BaseTerm, Log := x1.Log, Good := x1.Good } : GWal), false)
  else
    (slc x1.Log (x21.1 - x1.Base) x1.Log.length).bind fun xs388 =>
    (f_slices_Clone_implRec xs388).bind fun x395 =>
    some (({ Term := x1.Term, Vote := x1.Vote, Base := x21.1, BaseTerm := x40.1, Log := x395, Good := x1.Good } : GWal), true)
def f_impl_Wal_take_J1 (x1 : GWal) (xs9 : (List UInt8)) (x21 : (Int × Int)) (x40 : (Int × Int)) (xs91 : (List UInt8)) (x112 : Bool) : Option (GWal × Bool) :=
  if x112 = true then
    some (({ Term := x1.Term, Vote := x1.Vote, Base := x1.Base, BaseTerm := x1.BaseTerm, Log := x1.Log, Good := x1.Good } : GWal), false)
  else
    (idx xs9 0).bind fun x120 =>
    if (x120.toNat : Int) = (1 : Int) then
      if x21.1 < x1.Term then
        some (({ Term := x1.Term, Vote := x1.Vote, Base := x1.Base, BaseTerm := x1.BaseTerm, Log := x1.Log, Good := x1.Good } : GWal), false)
      else
        some (({ Term := x21.1, Vote := x40.1, Base := x1.Base, BaseTerm := x1.BaseTerm, Log := x1.Log, Good := x1.Good } : GWal), true)
    else
      if (x120.toNat : Int) = (2 : Int) then
        (f_slices_Clone_byte xs91).bind fun x142 =>
        (f_impl_recOK ({ Term := x21.1, Index := x40.1, Data := x142 } : GRec)).bind fun x313 =>
        if (!x313) = true then
          f_impl_Wal_take_J2 x1 x40 x21 x142 true
        else
          chk (-9223372036854775808 ≤ x1.Base + 1 ∧ x1.Base + 1 < 9223372036854775808) <|
          chk (-9223372036854775808 ≤ (x1.Log.length : Int) + 1 ∧ (x1.Log.length : Int) + 1 < 9223372036854775808) <|
          chk (-9223372036854775808 ≤ x1.Base + (if 100 < ((x1.Log.length : Int) + 1) then 100 else ((x1.Log.length : Int) + 1)) ∧ x1.Base + (if 100 < ((x1.Log.length : Int) + 1) then 100 else ((x1.Log.length : Int) + 1)) < 9223372036854775808) <|
          (f_impl_within x40.1 (x1.Base + 1) (x1.Base + (if 100 < ((x1.Log.length : Int) + 1) then 100 else ((x1.Log.length : Int) + 1)))).bind fun x331 =>
          f_impl_Wal_take_J2 x1 x40 x21 x142 (!x331)
      else
        if (x120.toNat : Int) = (3 : Int) then
          if x21.1 = x1.Base then
            some (({ Term := x1.Term, Vote := x1.Vote, Base := x1.Base, BaseTerm := x1.BaseTerm, Log := x1.Log, Good := x1.Good } : GWal), (decide (x40.1 = x1.BaseTerm)))
          else
            chk (-9223372036854775808 ≤ x21.1 - x1.Base ∧ x21.1 - x1.Base < 9223372036854775808) <|
            (f_impl_within (x21.1 - x1.Base) 1 (x1.Log.length : Int)).bind fun x437 =>
            if (!x437) = true then
              f_impl_Wal_take_J3 x1 x21 x40 true
            else
              chk (-9223372036854775808 ≤ (x21.1 - x1.Base) - 1 ∧ (x21.1 - x1.Base) - 1 < 9223372036854775808) <|
              (idx x1.Log ((x21.1 - x1.Base) - 1)).bind fun x450 =>
              f_impl_Wal_take_J3 x1 x21 x40 (!decide (x450.Term = x40.1))
        else
          some (({ Term := x1.Term, Vote := x1.Vote, Base := x1.Base, BaseTerm := x1.BaseTerm, Log := x1.Log, Good := x1.Good } : GWal), false)
def f_impl_Wal_take_J0 (x1 : GWal) (x21 : (Int × Int)) (x40 : (Int × Int)) (xs9 : (List UInt8)) (x81 : Bool) : Option (GWal × Bool) :=
  if x81 = true then
    some (({ Term := x1.Term, Vote := x1.Vote, Base := x1.Base, BaseTerm := x1.BaseTerm, Log := x1.Log, Good := x1.Good } : GWal), false)
  else
    chk (-9223372036854775808 ≤ (1 : Int) + x21.2 ∧ (1 : Int) + x21.2 < 9223372036854775808) <|
    chk (-9223372036854775808 ≤ ((1 : Int) + x21.2) + x40.2 ∧ ((1 : Int) + x21.2) + x40.2 < 9223372036854775808) <|
    (slc xs9 (((1 : Int) + x21.2) + x40.2) xs9.length).bind fun xs91 =>
    (idx xs9 0).bind fun x463 =>
    if (x463.toNat : Int) = (2 : Int) then
      f_impl_Wal_take_J1 x1 xs9 x21 x40 xs91 false
    else
      f_impl_Wal_take_J1 x1 xs9 x21 x40 xs91 (decide ((0 : Int) < (xs91.length : Int)))
def f_impl_Wal_take (x1 : GWal) (xs9 : (List UInt8)) : Option (GWal × Bool) :=
  if (xs9.length : Int) = 0 then
    some (({ Term := x1.Term, Vote := x1.Vote, Base := x1.Base, BaseTerm := x1.BaseTerm, Log := x1.Log, Good := x1.Good } : GWal), false)
  else
    (slc xs9 1 xs9.length).bind fun xs16 =>
    (f_impl_readNumber xs16).bind fun x21 =>
    if x21.2 ≤ 0 then
      some (({ Term := x1.Term, Vote := x1.Vote, Base := x1.Base, BaseTerm := x1.BaseTerm, Log := x1.Log, Good := x1.Good } : GWal), false)
    else
      chk (-9223372036854775808 ≤ (1 : Int) + x21.2 ∧ (1 : Int) + x21.2 < 9223372036854775808) <|
      (slc xs9 ((1 : Int) + x21.2) xs9.length).bind fun xs35 =>
      (f_impl_readNumber xs35).bind fun x40 =>
      if x40.2 ≤ 0 then
        f_impl_Wal_take_J0 x1 x21 x40 xs9 true
      else
        (f_impl_isTerm x21.1).bind fun x473 =>
        if (!x473) = true then
          f_impl_Wal_take_J0 x1 x21 x40 xs9 true
        else
          (f_impl_isTerm x40.1).bind fun x485 =>
          f_impl_Wal_take_J0 x1 x21 x40 xs9 (!x485)
def f_impl_Recover_J1 (x406 : ((List UInt8) × Int × Int)) (rc0 : Int → Int → Int → Int → (List GRec) → Int → Option (GWal × Int)) (x473 : Bool) (x476 : Int) (x477 : Int) (x478 : Int) (x479 : Int) (xs482 : (List GRec)) (x485 : Int) : Option (GWal × Int) :=
  if x473 = true then
    some (({ Term := x476, Vote := x477, Base := x478, BaseTerm := x479, Log := xs482, Good := x485 } : GWal), 0)
  else
    chk (-9223372036854775808 ≤ x485 + x406.2.1 ∧ x485 + x406.2.1 < 9223372036854775808) <|
    rc0 x476 x477 x478 x479 xs482 (x485 + x406.2.1)
def f_impl_Recover_L0 (xs1 : (List UInt8)) : Nat → Int → Int → Int → Int → (List GRec) → Int → Option (GWal × Int)
  | 0, _, _, _, _, _, _ => none
  | k + 1, x385, x386, x387, x388, xs391, x394 =>
    (slc xs1 x394 xs1.length).bind fun xs401 =>
    (f_impl_readFrame xs401).bind fun x406 =>
    if x406.2.2 = 0 then
      if x406.2.1 = 0 then
        f_impl_Recover_J1 x406 (f_impl_Recover_L0 xs1 k) true x385 x386 x387 x388 xs391 x394
      else
        (f_impl_Wal_take ({ Term := x385, Vote := x386, Base := x387, BaseTerm := x388, Log := xs391, Good := x394 } : GWal) x406.1).bind fun x532 =>
        f_impl_Recover_J1 x406 (f_impl_Recover_L0 xs1 k) (!x532.2) x532.1.Term x532.1.Vote x532.1.Base x532.1.BaseTerm x532.1.Log x532.1.Good
    else
      f_impl_Recover_J1 x406 (f_impl_Recover_L0 xs1 k) true x385 x386 x387 x388 xs391 x394
def f_impl_Recover (xs1 : (List UInt8)) : Option (GWal × Int) :=
  (f_impl_longBytes xs1).bind fun x11 =>
  if x11 = 0 then
    f_impl_Recover_L0 xs1 BIG 0 0 0 0 ([]) 0
  else
    some (({ Term := 0, Vote := 0, Base := 0, BaseTerm := 0, Log := [], Good := 0 } : GWal), x11)
def f_spec_l01Get_J1 (x223 : Int) (rc0 : Int → Int → Int → Option (Int × Int × Int)) (x275 : Int) (x276 : Int) : Option (Int × Int × Int) :=
  chk (-9223372036854775808 ≤ x223 + 1 ∧ x223 + 1 < 9223372036854775808) <|
  rc0 x275 x276 (x223 + 1)
def f_spec_l01Get_J2 (x5 : Int) (x223 : Int) (x221 : Int) (x282 : UInt8) (x222 : Int) (x313 : Bool) : Option (Int × Int × Int) :=
  if x313 = true then
    some (0, 0, 2)
  else
    chk (-9223372036854775808 ≤ x5 + x223 ∧ x5 + x223 < 9223372036854775808) <|
    chk (-9223372036854775808 ≤ (x5 + x223) + 1 ∧ (x5 + x223) + 1 < 9223372036854775808) <|
    some ((x221 + (((x282.toNat : Int) % 128) * x222)), ((x5 + x223) + 1), 0)
def f_spec_l01Get_L0 (x5 : Int) (xs1 : (List UInt8)) : Nat → Int → Int → Int → Option (Int × Int × Int)
  | 0, _, _, _ => none
  | k + 1, x221, x222, x223 =>
    if x223 < 9 then
      chk (-9223372036854775808 ≤ x5 + x223 ∧ x5 + x223 < 9223372036854775808) <|
      if (xs1.length : Int) ≤ (x5 + x223) then
        some (0, 0, 1)
      else
        chk (-9223372036854775808 ≤ x5 + x223 ∧ x5 + x223 < 9223372036854775808) <|
        (idx xs1 (x5 + x223)).bind fun x282 =>
        chk ((0 : Int) ≤ (x282.toNat : Int) ∧ (0 : Int) < 128) <|
        chk (-9223372036854775808 ≤ ((x282.toNat : Int) % 128) * x222 ∧ ((x282.toNat : Int) % 128) * x222 < 9223372036854775808) <|
        chk (-9223372036854775808 ≤ x221 + (((x282.toNat : Int) % 128) * x222) ∧ x221 + (((x282.toNat : Int) % 128) * x222) < 9223372036854775808) <|
        if (x282.toNat : Int) < 128 then
          if (0 : Int) < x223 then
            f_spec_l01Get_J2 x5 x223 x221 x282 x222 (decide ((x282.toNat : Int) = 0))
          else
            f_spec_l01Get_J2 x5 x223 x221 x282 x222 false
        else
          if x223 < 8 then
            chk (-9223372036854775808 ≤ x222 * 128 ∧ x222 * 128 < 9223372036854775808) <|
            f_spec_l01Get_J1 x223 (f_spec_l01Get_L0 x5 xs1 k) (x221 + (((x282.toNat : Int) % 128) * x222)) (x222 * 128)
          else
            f_spec_l01Get_J1 x223 (f_spec_l01Get_L0 x5 xs1 k) (x221 + (((x282.toNat : Int) % 128) * x222)) x222
    else
      some (0, 0, 2)
def f_spec_l01Get (xs1 : (List UInt8)) (x5 : Int) : Option (Int × Int × Int) :=
  f_spec_l01Get_L0 x5 xs1 BIG 0 1 0
def f_spec_l01Crc_J2 (x1137 : Int) (rc1 : Int → Int → Option (Int)) (x1151 : Int) : Option (Int) :=
  chk (-9223372036854775808 ≤ x1137 + 1 ∧ x1137 + 1 < 9223372036854775808) <|
  rc1 x1151 (x1137 + 1)
def f_spec_l01Crc_L1 (x973 : Int) (rc0 : Int → Int → Option (Int)) : Nat → Int → Int → Option (Int)
  | 0, _, _ => none
  | k + 1, x1136, x1137 =>
    if x1137 < 8 then
      chk ((0 : Int) ≤ x1136 ∧ (0 : Int) < 2) <|
      if (x1136 % 2) = 1 then
        chk ((0 : Int) ≤ x1136 ∧ x1136 < 9223372036854775808 ∧ (0 : Int) < 2) <|
        chk ((0 : Int) ≤ (x1136 / 2) ∧ (x1136 / 2) < 9223372036854775808 ∧ (0 : Int) ≤ 3988292384 ∧ (3988292384 : Int) < 9223372036854775808) <|
        f_spec_l01Crc_J2 x1137 (f_spec_l01Crc_L1 x973 rc0 k) (((x1136 / 2).toNat ^^^ (3988292384 : Int).toNat : Nat) : Int)
      else
        chk ((0 : Int) ≤ x1136 ∧ x1136 < 9223372036854775808 ∧ (0 : Int) < 2) <|
        f_spec_l01Crc_J2 x1137 (f_spec_l01Crc_L1 x973 rc0 k) (x1136 / 2)
    else
      chk (-9223372036854775808 ≤ x973 + 1 ∧ x973 + 1 < 9223372036854775808) <|
      rc0 x1136 (x973 + 1)
def f_spec_l01Crc_L0 (xs1 : (List UInt8)) : Nat → Int → Int → Option (Int)
  | 0, _, _ => none
  | k + 1, x972, x973 =>
    if x973 < (xs1.length : Int) then
      (idx xs1 x973).bind fun x1067 =>
      chk ((0 : Int) ≤ x972 ∧ x972 < 9223372036854775808 ∧ (0 : Int) ≤ (x1067.toNat : Int) ∧ (x1067.toNat : Int) < 9223372036854775808) <|
      f_spec_l01Crc_L1 x973 (f_spec_l01Crc_L0 xs1 k) BIG ((x972.toNat ^^^ (x1067.toNat : Int).toNat : Nat) : Int) 0
    else
      chk ((0 : Int) ≤ x972 ∧ x972 < 9223372036854775808 ∧ (0 : Int) ≤ 4294967295 ∧ (4294967295 : Int) < 9223372036854775808) <|
      some ((x972.toNat ^^^ (4294967295 : Int).toNat : Nat) : Int)
def f_spec_l01Crc (xs1 : (List UInt8)) : Option (Int) :=
  f_spec_l01Crc_L0 xs1 BIG 4294967295 0
def f_spec_l01Four (x1 : Int) : Option ((List UInt8)) :=
  chk ((0 : Int) ≤ x1 ∧ (0 : Int) < 256) <|
  chk ((0 : Int) ≤ x1 ∧ x1 < 9223372036854775808 ∧ (0 : Int) < 256) <|
  chk ((0 : Int) ≤ (x1 / 256) ∧ (0 : Int) < 256) <|
  chk ((0 : Int) ≤ x1 ∧ x1 < 9223372036854775808 ∧ (0 : Int) < 65536) <|
  chk ((0 : Int) ≤ (x1 / 65536) ∧ (0 : Int) < 256) <|
  chk ((0 : Int) ≤ x1 ∧ x1 < 9223372036854775808 ∧ (0 : Int) < 16777216) <|
  chk ((0 : Int) ≤ (x1 / 16777216) ∧ (0 : Int) < 256) <|
  some ([(byteOf (x1 % 256)), (byteOf ((x1 / 256) % 256)), (byteOf ((x1 / 65536) % 256)), (byteOf ((x1 / 16777216) % 256))] : List UInt8)
def f_spec_l01Next_L0 (x6 : (Int × Int × Int)) (xs1 : (List UInt8)) (x112 : ((List UInt8))) (xs79 : (List UInt8)) : Nat → Int → Option ((List UInt8) × Int × Int)
  | 0, _ => none
  | k + 1, x529 =>
    if x529 < 4 then
      chk (-9223372036854775808 ≤ x6.2.1 + x6.1 ∧ x6.2.1 + x6.1 < 9223372036854775808) <|
      chk (-9223372036854775808 ≤ (x6.2.1 + x6.1) + x529 ∧ (x6.2.1 + x6.1) + x529 < 9223372036854775808) <|
      (idx xs1 ((x6.2.1 + x6.1) + x529)).bind fun x568 =>
      (idx x112 x529).bind fun x576 =>
      if (x568.toNat : Int) = (x576.toNat : Int) then
        chk (-9223372036854775808 ≤ x529 + 1 ∧ x529 + 1 < 9223372036854775808) <|
        (f_spec_l01Next_L0 x6 xs1 x112 xs79 k) (x529 + 1)
      else
        some (([] : List UInt8), 0, 8)
    else
      chk (-9223372036854775808 ≤ x6.2.1 + x6.1 ∧ x6.2.1 + x6.1 < 9223372036854775808) <|
      chk (-9223372036854775808 ≤ (x6.2.1 + x6.1) + 4 ∧ (x6.2.1 + x6.1) + 4 < 9223372036854775808) <|
      some ((([] : List UInt8) ++ xs79), ((x6.2.1 + x6.1) + 4), 0)
def f_spec_l01Next (xs1 : (List UInt8)) (x5 : Int) : Option ((List UInt8) × Int × Int) :=
  (f_spec_l01Get xs1 x5).bind fun x6 =>
  if x6.2.2 = 1 then
    some (([] : List UInt8), 0, 1)
  else
    if x6.2.2 = 2 then
      some (([] : List UInt8), 0, 3)
    else
      if (4096 : Int) < x6.1 then
        some (([] : List UInt8), 0, 5)
      else
        chk (-9223372036854775808 ≤ x6.2.1 + x6.1 ∧ x6.2.1 + x6.1 < 9223372036854775808) <|
        chk (-9223372036854775808 ≤ (x6.2.1 + x6.1) + 4 ∧ (x6.2.1 + x6.1) + 4 < 9223372036854775808) <|
        if (xs1.length : Int) < ((x6.2.1 + x6.1) + 4) then
          some (([] : List UInt8), 0, 1)
        else
          chk (-9223372036854775808 ≤ x6.2.1 + x6.1 ∧ x6.2.1 + x6.1 < 9223372036854775808) <|
          (slc xs1 x6.2.1 (x6.2.1 + x6.1)).bind fun xs79 =>
          chk ((([] : List UInt8).length : Int) + xs79.length ≤ 68719476736) <|
          (f_spec_l01Crc (([] : List UInt8) ++ xs79)).bind fun x102 =>
          (f_spec_l01Four x102).bind fun x112 =>
          f_spec_l01Next_L0 x6 xs1 x112 xs79 BIG 0
def f_spec_l02In (x1 : Int) (x2 : Int) (x3 : Int) : Option (Bool) :=
  if x2 ≤ x1 then
    some (decide (x1 ≤ x3))
  else
    some false
def f_spec_l03Numbers (xs1 : (List UInt8)) : Option (Int × Int × (List UInt8) × Bool) :=
  (f_spec_l01Get xs1 0).bind fun x5 =>
  if x5.2.2 = 0 then
    (f_spec_l01Get xs1 x5.2.1).bind fun x33 =>
    if x33.2.2 = 0 then
      (slc xs1 x33.2.1 xs1.length).bind fun xs61 =>
      (f_spec_l02In x5.1 0 1000000).bind fun x66 =>
      if x66 = true then
        (f_spec_l02In x33.1 0 1000000).bind fun x75 =>
        some (x5.1, x33.1, xs61, x75)
      else
        some (x5.1, x33.1, xs61, false)
    else
      some (0, 0, ([] : List UInt8), false)
  else
    some (0, 0, ([] : List UInt8), false)
def f_spec_l03TermAt (x1 : GWal) (x5 : Int) : Option (Int) :=
  if x5 = x1.Base then
    some x1.BaseTerm
  else
    chk (-9223372036854775808 ≤ x5 - x1.Base ∧ x5 - x1.Base < 9223372036854775808) <|
    chk (-9223372036854775808 ≤ (x5 - x1.Base) - 1 ∧ (x5 - x1.Base) - 1 < 9223372036854775808) <|
    (idx x1.Log ((x5 - x1.Base) - 1)).bind fun x16 =>
    some x16.Term
def f_spec_l03Take_J2 (x1 : GWal) (x414 : Int) (x415 : Int) (x416 : Int) (x417 : Int) (xs420 : (List GRec)) : Option (GWal × Bool) :=
  some (({ Term := x414, Vote := x415, Base := x416, BaseTerm := x417, Log := xs420, Good := x1.Good } : GWal), true)
def f_spec_l03Take_J3 (x1 : GWal) (x71 : (Int × Int × (List UInt8) × Bool)) (x466 : Bool) : Option (GWal × Bool) :=
  if x466 = true then
    some (({ Term := x1.Term, Vote := x1.Vote, Base := x1.Base, BaseTerm := x1.BaseTerm, Log := x1.Log, Good := x1.Good } : GWal), false)
  else
    chk (-9223372036854775808 ≤ x71.2.1 - x1.Base ∧ x71.2.1 - x1.Base < 9223372036854775808) <|
    chk (-9223372036854775808 ≤ (x71.2.1 - x1.Base) - 1 ∧ (x71.2.1 - x1.Base) - 1 < 9223372036854775808) <|
    (slc x1.Log 0 ((x71.2.1 - x1.Base) - 1)).bind fun xs498 =>
    chk ((([] : List GRec).length : Int) + xs498.length ≤ 68719476736) <|
    chk ((([] : List UInt8).length : Int) + x71.2.2.1.length ≤ 68719476736) <|
    chk (((([] : List GRec) ++ xs498).length : Int) + ([({ Term := x71.1, Index := x71.2.1, Data := (([] : List UInt8) ++ x71.2.2.1) } : GRec)] : List GRec).length ≤ 68719476736) <|
    f_spec_l03Take_J2 x1 x1.Term x1.Vote x1.Base x1.BaseTerm ((([] : List GRec) ++ xs498) ++ ([({ Term := x71.1, Index := x71.2.1, Data := (([] : List UInt8) ++ x71.2.2.1) } : GRec)] : List GRec))
def f_spec_l03Take_J4 (x1 : GWal) (x71 : (Int × Int × (List UInt8) × Bool)) (x630 : Bool) : Option (GWal × Bool) :=
  if x630 = true then
    some (({ Term := x1.Term, Vote := x1.Vote, Base := x1.Base, BaseTerm := x1.BaseTerm, Log := x1.Log, Good := x1.Good } : GWal), false)
  else
    chk (-9223372036854775808 ≤ x71.1 - x1.Base ∧ x71.1 - x1.Base < 9223372036854775808) <|
    (slc x1.Log (x71.1 - x1.Base) x1.Log.length).bind fun xs661 =>
    chk ((([] : List GRec).length : Int) + xs661.length ≤ 68719476736) <|
    f_spec_l03Take_J2 x1 x1.Term x1.Vote x71.1 x71.2.1 (([] : List GRec) ++ xs661)
def f_spec_l03Take_J1 (x1 : GWal) (xs5 : (List UInt8)) (x71 : (Int × Int × (List UInt8) × Bool)) (x106 : Bool) : Option (GWal × Bool) :=
  if x106 = true then
    some (({ Term := x1.Term, Vote := x1.Vote, Base := x1.Base, BaseTerm := x1.BaseTerm, Log := x1.Log, Good := x1.Good } : GWal), false)
  else
    chk (-9223372036854775808 ≤ x1.Base + (x1.Log.length : Int) ∧ x1.Base + (x1.Log.length : Int) < 9223372036854775808) <|
    (idx xs5 0).bind fun x127 =>
    if (x127.toNat : Int) = (1 : Int) then
      if x71.1 < x1.Term then
        some (({ Term := x1.Term, Vote := x1.Vote, Base := x1.Base, BaseTerm := x1.BaseTerm, Log := x1.Log, Good := x1.Good } : GWal), false)
      else
        f_spec_l03Take_J2 x1 x71.1 x71.2.1 x1.Base x1.BaseTerm x1.Log
    else
      if (x127.toNat : Int) = (2 : Int) then
        if x71.2.1 ≤ x1.Base then
          f_spec_l03Take_J3 x1 x71 true
        else
          chk (-9223372036854775808 ≤ (x1.Base + (x1.Log.length : Int)) + 1 ∧ (x1.Base + (x1.Log.length : Int)) + 1 < 9223372036854775808) <|
          if ((x1.Base + (x1.Log.length : Int)) + 1) < x71.2.1 then
            f_spec_l03Take_J3 x1 x71 true
          else
            if (1000 : Int) < (x71.2.2.1.length : Int) then
              f_spec_l03Take_J3 x1 x71 true
            else
              chk (-9223372036854775808 ≤ x71.2.1 - x1.Base ∧ x71.2.1 - x1.Base < 9223372036854775808) <|
              f_spec_l03Take_J3 x1 x71 (decide ((100 : Int) < (x71.2.1 - x1.Base)))
      else
        if x71.1 < x1.Base then
          f_spec_l03Take_J4 x1 x71 true
        else
          if (x1.Base + (x1.Log.length : Int)) < x71.1 then
            f_spec_l03Take_J4 x1 x71 true
          else
            (f_spec_l03TermAt ({ Term := x1.Term, Vote := x1.Vote, Base := x1.Base, BaseTerm := x1.BaseTerm, Log := x1.Log, Good := x1.Good } : GWal) x71.1).bind fun x710 =>
            f_spec_l03Take_J4 x1 x71 (!decide (x710 = x71.2.1))
def f_spec_l03Take_J0 (x1 : GWal) (xs5 : (List UInt8)) (x46 : Bool) : Option (GWal × Bool) :=
  if x46 = true then
    some (({ Term := x1.Term, Vote := x1.Vote, Base := x1.Base, BaseTerm := x1.BaseTerm, Log := x1.Log, Good := x1.Good } : GWal), false)
  else
    (slc xs5 1 xs5.length).bind fun xs66 =>
    (f_spec_l03Numbers xs66).bind fun x71 =>
    if (!x71.2.2.2) = true then
      f_spec_l03Take_J1 x1 xs5 x71 true
    else
      (idx xs5 0).bind fun x721 =>
      if (x721.toNat : Int) = (2 : Int) then
        f_spec_l03Take_J1 x1 xs5 x71 false
      else
        f_spec_l03Take_J1 x1 xs5 x71 (decide ((0 : Int) < (x71.2.2.1.length : Int)))
def f_spec_l03Take (x1 : GWal) (xs5 : (List UInt8)) : Option (GWal × Bool) :=
  if (xs5.length : Int) = 0 then
    f_spec_l03Take_J0 x1 xs5 true
  else
    (idx xs5 0).bind fun x731 =>
    if (x731.toNat : Int) < (1 : Int) then
      f_spec_l03Take_J0 x1 xs5 true
    else
      (idx xs5 0).bind fun x740 =>
      f_spec_l03Take_J0 x1 xs5 (decide ((3 : Int) < (x740.toNat : Int)))
def f_spec_l03Recover_J0 (x291 : Int) (x292 : Int) (x293 : Int) (x294 : Int) (x295 : Int) (xs298 : (List GRec)) (x300 : Int) : Option (GWal) :=
  some ({ Term := x292, Vote := x293, Base := x294, BaseTerm := x295, Log := xs298, Good := x291 } : GWal)
def f_spec_l03Recover_L1 (xs1 : (List UInt8)) : Nat → Int → Int → Int → Int → Int → (List GRec) → Int → Option (GWal)
  | 0, _, _, _, _, _, _, _ => none
  | k + 1, x495, x496, x497, x498, x499, xs502, x504 =>
    if x495 < (xs1.length : Int) then
      (f_spec_l01Next xs1 x495).bind fun x513 =>
      if x513.2.2 = 0 then
        (f_spec_l03Take ({ Term := x496, Vote := x497, Base := x498, BaseTerm := x499, Log := xs502, Good := x504 } : GWal) x513.1).bind fun x540 =>
        if (!x540.2) = true then
          f_spec_l03Recover_J0 x495 x496 x497 x498 x499 xs502 x504
        else
          (f_spec_l03Recover_L1 xs1 k) x513.2.1 x540.1.Term x540.1.Vote x540.1.Base x540.1.BaseTerm x540.1.Log x540.1.Good
      else
        f_spec_l03Recover_J0 x495 x496 x497 x498 x499 xs502 x504
    else
      f_spec_l03Recover_J0 x495 x496 x497 x498 x499 xs502 x504
def f_spec_l03Recover (xs1 : (List UInt8)) : Option (GWal) :=
  f_spec_l03Recover_L1 xs1 BIG 0 0 0 0 0 ([]) 0
def f_spec_Recover (xs1 : (List UInt8)) : Option (GWal × Int) :=
  if (65536 : Int) < (xs1.length : Int) then
    some (({ Term := 0, Vote := 0, Base := 0, BaseTerm := 0, Log := [], Good := 0 } : GWal), 2)
  else
    (f_spec_l03Recover xs1).bind fun x21 =>
    some (({ Term := x21.Term, Vote := x21.Vote, Base := x21.Base, BaseTerm := x21.BaseTerm, Log := x21.Log, Good := x21.Good } : GWal), 0)
def f_laws_sameRecs_J1 (x619 : Int) (rc0 : Int → Option (Bool)) (x842 : Bool) : Option (Bool) :=
  if x842 = true then
    some false
  else
    chk (-9223372036854775808 ≤ x619 + 1 ∧ x619 + 1 < 9223372036854775808) <|
    rc0 (x619 + 1)
def f_laws_sameRecs_L0 (xs1 : (List GRec)) (xs5 : (List GRec)) : Nat → Int → Option (Bool)
  | 0, _ => none
  | k + 1, x619 =>
    if x619 < (xs1.length : Int) then
      (idx xs1 x619).bind fun x845 =>
      (idx xs5 x619).bind fun x856 =>
      if x845.Term = x856.Term then
        (idx xs1 x619).bind fun x868 =>
        (idx xs5 x619).bind fun x879 =>
        if x868.Index = x879.Index then
          (idx xs1 x619).bind fun x891 =>
          (idx xs5 x619).bind fun x902 =>
          f_laws_sameRecs_J1 x619 (f_laws_sameRecs_L0 xs1 xs5 k) (!decide ((x891.Data : List UInt8) = x902.Data))
        else
          f_laws_sameRecs_J1 x619 (f_laws_sameRecs_L0 xs1 xs5 k) true
      else
        f_laws_sameRecs_J1 x619 (f_laws_sameRecs_L0 xs1 xs5 k) true
    else
      some true
def f_laws_sameRecs (xs1 : (List GRec)) (xs5 : (List GRec)) : Option (Bool) :=
  if (xs1.length : Int) = (xs5.length : Int) then
    f_laws_sameRecs_L0 xs1 xs5 BIG 0
  else
    some false
def f_laws_sameWal (x1 : GWal) (x5 : GWal) : Option (Bool) :=
  if x1.Term = x5.Term then
    if x1.Vote = x5.Vote then
      if x1.Base = x5.Base then
        if x1.BaseTerm = x5.BaseTerm then
          (f_laws_sameRecs x1.Log x5.Log).bind fun x26 =>
          some x26
        else
          some false
      else
        some false
    else
      some false
  else
    some false
def f_laws_FnWal_J0 (xs1 : (List UInt8)) (xs5 : (List UInt8)) (x17 : Bool) : Option (Bool) :=
  if x17 = true then
    some true
  else
    (f_spec_WalsOf xs1).bind fun x20 =>
    (f_impl_WalOf ({ Term := x20.Term, Vote := x20.Vote, Base := x20.Base, BaseTerm := x20.BaseTerm, Log := x20.Log, Good := x20.Good } : GWal)).bind fun x44 =>
    (f_impl_Recover x44.1).bind fun x66 =>
    (f_impl_Recover xs5).bind fun x94 =>
    (f_spec_Recover xs5).bind fun x126 =>
    if x44.2 = 0 then
      if x66.2 = 0 then
        if x94.2 = 0 then
          (f_laws_sameWal ({ Term := x66.1.Term, Vote := x66.1.Vote, Base := x66.1.Base, BaseTerm := x66.1.BaseTerm, Log := x66.1.Log, Good := x66.1.Good } : GWal) ({ Term := x20.Term, Vote := x20.Vote, Base := x20.Base, BaseTerm := x20.BaseTerm, Log := x20.Log, Good := x20.Good } : GWal)).bind fun x165 =>
          if x165 = true then
            if x66.1.Good = (x44.1.length : Int) then
              (f_laws_sameWal ({ Term := x94.1.Term, Vote := x94.1.Vote, Base := x94.1.Base, BaseTerm := x94.1.BaseTerm, Log := x94.1.Log, Good := x94.1.Good } : GWal) ({ Term := x126.1.Term, Vote := x126.1.Vote, Base := x126.1.Base, BaseTerm := x126.1.BaseTerm, Log := x126.1.Log, Good := x126.1.Good } : GWal)).bind fun x179 =>
              if x179 = true then
                some (decide (x94.1.Good = x126.1.Good))
              else
                some false
            else
              some false
          else
            some false
        else
          some false
      else
        some false
    else
      some false
def f_laws_FnWal (xs1 : (List UInt8)) (xs5 : (List UInt8)) : Option (Bool) :=
  if (1048576 : Int) < (xs1.length : Int) then
    f_laws_FnWal_J0 xs1 xs5 true
  else
    f_laws_FnWal_J0 xs1 xs5 (decide ((60000 : Int) < (xs5.length : Int)))
def f_spec_l01Put_L0 : Nat → Int → (List UInt8) → Option ((List UInt8))
  | 0, _, _ => none
  | k + 1, x198, xs201 =>
    if (128 : Int) ≤ x198 then
      chk ((0 : Int) ≤ x198 ∧ (0 : Int) < 128) <|
      chk ((xs201.length : Int) + ([((byteOf (x198 % 128)) ||| (128 : UInt8))] : List UInt8).length ≤ 68719476736) <|
      chk ((0 : Int) ≤ x198 ∧ x198 < 9223372036854775808 ∧ (0 : Int) < 128) <|
      (f_spec_l01Put_L0 k) (x198 / 128) (xs201 ++ ([((byteOf (x198 % 128)) ||| (128 : UInt8))] : List UInt8))
    else
      chk ((xs201.length : Int) + ([(byteOf x198)] : List UInt8).length ≤ 68719476736) <|
      some (xs201 ++ ([(byteOf x198)] : List UInt8))
def f_spec_l01Put (x1 : Int) : Option ((List UInt8)) :=
  f_spec_l01Put_L0 BIG x1 ([] : List UInt8)
def f_spec_l01Frame (xs1 : (List UInt8)) : Option ((List UInt8)) :=
  (f_spec_l01Put (xs1.length : Int)).bind fun x5 =>
  chk ((x5.length : Int) + xs1.length ≤ 68719476736) <|
  (f_spec_l01Crc xs1).bind fun x30 =>
  (f_spec_l01Four x30).bind fun x40 =>
  chk (((x5 ++ xs1).length : Int) + x40.length ≤ 68719476736) <|
  some ((x5 ++ xs1) ++ x40)
def f_spec_l03Vote (x1 : Int) (x2 : Int) : Option ((List UInt8)) :=
  (f_spec_l01Put x1).bind fun x9 =>
  chk ((([(1 : UInt8)] : List UInt8).length : Int) + x9.length ≤ 68719476736) <|
  (f_spec_l01Put x2).bind fun x40 =>
  chk (((([(1 : UInt8)] : List UInt8) ++ x9).length : Int) + x40.length ≤ 68719476736) <|
  (f_spec_l01Frame ((([(1 : UInt8)] : List UInt8) ++ x9) ++ x40)).bind fun x85 =>
  some x85
def f_spec_l03Entry (x1 : GRec) : Option ((List UInt8)) :=
  (f_spec_l01Put x1.Term).bind fun x20 =>
  chk ((([(2 : UInt8)] : List UInt8).length : Int) + x20.length ≤ 68719476736) <|
  (f_spec_l01Put x1.Index).bind fun x55 =>
  chk (((([(2 : UInt8)] : List UInt8) ++ x20).length : Int) + x55.length ≤ 68719476736) <|
  chk ((((([(2 : UInt8)] : List UInt8) ++ x20) ++ x55).length : Int) + x1.Data.length ≤ 68719476736) <|
  (f_spec_l01Frame (((([(2 : UInt8)] : List UInt8) ++ x20) ++ x55) ++ x1.Data)).bind fun x125 =>
  some x125
def f_spec_l03Base (x1 : Int) (x2 : Int) : Option ((List UInt8)) :=
  (f_spec_l01Put x1).bind fun x9 =>
  chk ((([(3 : UInt8)] : List UInt8).length : Int) + x9.length ≤ 68719476736) <|
  (f_spec_l01Put x2).bind fun x40 =>
  chk (((([(3 : UInt8)] : List UInt8) ++ x9).length : Int) + x40.length ≤ 68719476736) <|
  (f_spec_l01Frame ((([(3 : UInt8)] : List UInt8) ++ x9) ++ x40)).bind fun x85 =>
  some x85
def f_spec_l00Src_chance (x1 : Gl00Src) (x8 : Int) : Option (Gl00Src × Bool) :=
  (f_spec_l00Src_next ({ code := x1.code, at_ := x1.at_, seed := x1.seed } : Gl00Src) x8).bind fun x9 =>
  chk (-9223372036854775808 ≤ x8 - 1 ∧ x8 - 1 < 9223372036854775808) <|
  some (({ code := x9.1.code, at_ := x9.1.at_, seed := x9.1.seed } : Gl00Src), (decide (x9.2 = (x8 - 1))))
def f_spec_l00Src_records_J2 (xs4287 : (List (List UInt8))) (xs5850 : (List UInt8)) (x4290 : Int) (rc0 : (List (List UInt8)) → Int → Int → Int → Int → Int → (List GRec) → Int → (List UInt8) → Int → Int → Option (Gl00Src × (List (List UInt8)))) (xs5858 : (List UInt8)) (x5860 : Int) (x5861 : Int) (x5962 : Int) (x5963 : Int) (x5964 : Int) (x5965 : Int) (xs5968 : (List GRec)) (x5970 : Int) : Option (Gl00Src × (List (List UInt8))) :=
  chk ((xs4287.length : Int) + ([xs5850] : List (List UInt8)).length ≤ 68719476736) <|
  chk (-9223372036854775808 ≤ x4290 - 1 ∧ x4290 - 1 < 9223372036854775808) <|
  rc0 (xs4287 ++ ([xs5850] : List (List UInt8))) (x4290 - 1) x5962 x5963 x5964 x5965 xs5968 x5970 xs5858 x5860 x5861
def f_spec_l00Src_records_J1 (x4291 : Int) (x4292 : Int) (x4293 : Int) (x4294 : Int) (xs4297 : (List GRec)) (x4299 : Int) (xs4287 : (List (List UInt8))) (x4290 : Int) (rc0 : (List (List UInt8)) → Int → Int → Int → Int → Int → (List GRec) → Int → (List UInt8) → Int → Int → Option (Gl00Src × (List (List UInt8)))) (xs5850 : (List UInt8)) (xs5858 : (List UInt8)) (x5860 : Int) (x5861 : Int) : Option (Gl00Src × (List (List UInt8))) :=
  (f_spec_l01Next xs5850 0).bind fun x5880 =>
  (f_spec_l03Take ({ Term := x4291, Vote := x4292, Base := x4293, BaseTerm := x4294, Log := xs4297, Good := x4299 } : GWal) x5880.1).bind fun x5909 =>
  if x5909.2 = true then
    f_spec_l00Src_records_J2 xs4287 xs5850 x4290 rc0 xs5858 x5860 x5861 x5909.1.Term x5909.1.Vote x5909.1.Base x5909.1.BaseTerm x5909.1.Log x5909.1.Good
  else
    f_spec_l00Src_records_J2 xs4287 xs5850 x4290 rc0 xs5858 x5860 x5861 x4291 x4292 x4293 x4294 xs4297 x4299
def f_spec_l00Src_records_J3 (x5435 : (Gl00Src × Int)) (x4293 : Int) (xs4297 : (List GRec)) (x4291 : Int) (x4292 : Int) (x4294 : Int) (x4299 : Int) (xs4287 : (List (List UInt8))) (x4290 : Int) (rc0 : (List (List UInt8)) → Int → Int → Int → Int → Int → (List GRec) → Int → (List UInt8) → Int → Int → Option (Gl00Src × (List (List UInt8)))) (x5415 : ((List UInt8))) (x6031 : Bool) : Option (Gl00Src × (List (List UInt8))) :=
  if x6031 = true then
    (f_spec_l00Src_next ({ code := x5435.1.code, at_ := x5435.1.at_, seed := x5435.1.seed } : Gl00Src) 4).bind fun x6046 =>
    chk (-9223372036854775808 ≤ (x4293 + (xs4297.length : Int)) + 1 ∧ (x4293 + (xs4297.length : Int)) + 1 < 9223372036854775808) <|
    (f_spec_l00Src_next ({ code := x6046.1.code, at_ := x6046.1.at_, seed := x6046.1.seed } : Gl00Src) 4).bind fun x6078 =>
    chk ((0 : Int) ≤ x6078.2 ∧ x6078.2 < 9223372036854775808 ∧ (0 : Int) < 3) <|
    (f_spec_l00Src_next ({ code := x6078.1.code, at_ := x6078.1.at_, seed := x6078.1.seed } : Gl00Src) 3).bind fun x6110 =>
    chk (-9223372036854775808 ≤ (x6078.2 / 3) * x6110.2 ∧ (x6078.2 / 3) * x6110.2 < 9223372036854775808) <|
    chk (-9223372036854775808 ≤ ((x4293 + (xs4297.length : Int)) + 1) - ((x6078.2 / 3) * x6110.2) ∧ ((x4293 + (xs4297.length : Int)) + 1) - ((x6078.2 / 3) * x6110.2) < 9223372036854775808) <|
    (f_spec_l00Src_bytes ({ code := x6110.1.code, at_ := x6110.1.at_, seed := x6110.1.seed } : Gl00Src) 5).bind fun x6143 =>
    (f_spec_l03Entry ({ Term := x6046.2, Index := (if (((x4293 + (xs4297.length : Int)) + 1) - ((x6078.2 / 3) * x6110.2)) > 1 then (((x4293 + (xs4297.length : Int)) + 1) - ((x6078.2 / 3) * x6110.2)) else 1), Data := x6143.2 } : GRec)).bind fun x6193 =>
    f_spec_l00Src_records_J1 x4291 x4292 x4293 x4294 xs4297 x4299 xs4287 x4290 rc0 x6193 x6143.1.code x6143.1.at_ x6143.1.seed
  else
    if x5435.2 = 4 then
      chk (-9223372036854775808 ≤ (xs4297.length : Int) + 1 ∧ (xs4297.length : Int) + 1 < 9223372036854775808) <|
      (f_spec_l00Src_next ({ code := x5435.1.code, at_ := x5435.1.at_, seed := x5435.1.seed } : Gl00Src) ((xs4297.length : Int) + 1)).bind fun x6219 =>
      chk (-9223372036854775808 ≤ x4293 + x6219.2 ∧ x4293 + x6219.2 < 9223372036854775808) <|
      (f_spec_l03TermAt ({ Term := x4291, Vote := x4292, Base := x4293, BaseTerm := x4294, Log := xs4297, Good := x4299 } : GWal) (x4293 + x6219.2)).bind fun x6251 =>
      (f_spec_l03Base (x4293 + x6219.2) x6251).bind fun x6265 =>
      f_spec_l00Src_records_J1 x4291 x4292 x4293 x4294 xs4297 x4299 xs4287 x4290 rc0 x6265 x6219.1.code x6219.1.at_ x6219.1.seed
    else
      if x5435.2 = 5 then
        (f_spec_l00Src_chance ({ code := x5435.1.code, at_ := x5435.1.at_, seed := x5435.1.seed } : Gl00Src) 4).bind fun x6289 =>
        if x6289.2 = true then
          (f_spec_l00Src_bytes ({ code := x6289.1.code, at_ := x6289.1.at_, seed := x6289.1.seed } : Gl00Src) 6).bind fun x6321 =>
          (f_spec_l01Frame x6321.2).bind fun x6371 =>
          f_spec_l00Src_records_J1 x4291 x4292 x4293 x4294 xs4297 x4299 xs4287 x4290 rc0 x6371 x6321.1.code x6321.1.at_ x6321.1.seed
        else
          f_spec_l00Src_records_J1 x4291 x4292 x4293 x4294 xs4297 x4299 xs4287 x4290 rc0 x5415 x6289.1.code x6289.1.at_ x6289.1.seed
      else
        f_spec_l00Src_records_J1 x4291 x4292 x4293 x4294 xs4297 x4299 xs4287 x4290 rc0 x5415 x5435.1.code x5435.1.at_ x5435.1.seed
def f_spec_l00Src_records_L0 : Nat → (List (List UInt8)) → Int → Int → Int → Int → Int → (List GRec) → Int → (List UInt8) → Int → Int → Option (Gl00Src × (List (List UInt8)))
  | 0, _, _, _, _, _, _, _, _, _, _, _ => none
  | k + 1, xs4287, x4290, x4291, x4292, x4293, x4294, xs4297, x4299, xs4304, x4306, x4307 =>
    if (0 : Int) < x4290 then
      chk (-9223372036854775808 ≤ x4293 + (xs4297.length : Int) ∧ x4293 + (xs4297.length : Int) < 9223372036854775808) <|
      (f_spec_l00Src_next ({ code := xs4304, at_ := x4306, seed := x4307 } : Gl00Src) 2).bind fun x5358 =>
      chk (-9223372036854775808 ≤ x4291 + x5358.2 ∧ x4291 + x5358.2 < 9223372036854775808) <|
      (f_spec_l00Src_next ({ code := x5358.1.code, at_ := x5358.1.at_, seed := x5358.1.seed } : Gl00Src) 4).bind fun x5387 =>
      (f_spec_l03Vote (x4291 + x5358.2) x5387.2).bind fun x5415 =>
      (f_spec_l00Src_next ({ code := x5387.1.code, at_ := x5387.1.at_, seed := x5387.1.seed } : Gl00Src) 8).bind fun x5435 =>
      if x5435.2 = 0 then
        f_spec_l00Src_records_J3 x5435 x4293 xs4297 x4291 x4292 x4294 x4299 xs4287 x4290 (f_spec_l00Src_records_L0 k) x5415 (decide (x5435.2 = 0))
      else
        if x5435.2 = 1 then
          f_spec_l00Src_records_J3 x5435 x4293 xs4297 x4291 x4292 x4294 x4299 xs4287 x4290 (f_spec_l00Src_records_L0 k) x5415 (decide (x5435.2 = 1))
        else
          if x5435.2 = 2 then
            f_spec_l00Src_records_J3 x5435 x4293 xs4297 x4291 x4292 x4294 x4299 xs4287 x4290 (f_spec_l00Src_records_L0 k) x5415 (decide (x5435.2 = 2))
          else
            f_spec_l00Src_records_J3 x5435 x4293 xs4297 x4291 x4292 x4294 x4299 xs4287 x4290 (f_spec_l00Src_records_L0 k) x5415 (decide (x5435.2 = 3))
    else
      some (({ code := xs4304, at_ := x4306, seed := x4307 } : Gl00Src), xs4287)
def f_spec_l00Src_records (x1 : Gl00Src) : Option (Gl00Src × (List (List UInt8))) :=
  (f_spec_l00Src_size ({ code := x1.code, at_ := x1.at_, seed := x1.seed } : Gl00Src) 12).bind fun x30 =>
  chk (-9223372036854775808 ≤ x30 + 2 ∧ x30 + 2 < 9223372036854775808) <|
  (f_spec_l00Src_next ({ code := x1.code, at_ := x1.at_, seed := x1.seed } : Gl00Src) (x30 + 2)).bind fun x43 =>
  f_spec_l00Src_records_L0 BIG ([] : List (List UInt8)) x43.2 0 0 0 0 ([]) 0 x43.1.code x43.1.at_ x43.1.seed
def f_spec_RecordsOf (xs1 : (List UInt8)) : Option ((List (List UInt8))) :=
  (f_spec_l00Source xs1).bind fun x5 =>
  (f_spec_l00Src_records ({ code := x5.code, at_ := x5.at_, seed := x5.seed } : Gl00Src)).bind fun x24 =>
  some x24.2
def f_laws_join_L0 (xs1 : (List (List UInt8))) : Nat → (List UInt8) → Int → Option ((List UInt8))
  | 0, _, _ => none
  | k + 1, xs136, x139 =>
    if x139 < (xs1.length : Int) then
      (idx xs1 x139).bind fun x165 =>
      chk ((xs136.length : Int) + x165.length ≤ 68719476736) <|
      chk (-9223372036854775808 ≤ x139 + 1 ∧ x139 + 1 < 9223372036854775808) <|
      (f_laws_join_L0 xs1 k) (xs136 ++ x165) (x139 + 1)
    else
      some xs136
def f_laws_join (xs1 : (List (List UInt8))) : Option ((List UInt8)) :=
  f_laws_join_L0 xs1 BIG ([] : List UInt8) 0
def f_laws_at (xs1 : (List UInt8)) (x5 : Int) (x6 : Int) : Option (Int) :=
  if x6 ≤ 1 then
    some 0
  else
    if (xs1.length : Int) = 0 then
      chk (-9223372036854775808 ≤ x5 * 7 ∧ x5 * 7 < 9223372036854775808) <|
      chk ((0 : Int) ≤ (x5 * 7) ∧ (0 : Int) < x6) <|
      some ((x5 * 7) % x6)
    else
      chk ((0 : Int) ≤ x5 ∧ (0 : Int) < (xs1.length : Int)) <|
      (idx xs1 (x5 % (xs1.length : Int))).bind fun x16 =>
      chk (-9223372036854775808 ≤ (x16.toNat : Int) * 31 ∧ (x16.toNat : Int) * 31 < 9223372036854775808) <|
      chk (-9223372036854775808 ≤ x5 + 1 ∧ x5 + 1 < 9223372036854775808) <|
      chk ((0 : Int) ≤ (x5 + 1) ∧ (0 : Int) < (xs1.length : Int)) <|
      (idx xs1 ((x5 + 1) % (xs1.length : Int))).bind fun x27 =>
      chk (-9223372036854775808 ≤ ((x16.toNat : Int) * 31) + (x27.toNat : Int) ∧ ((x16.toNat : Int) * 31) + (x27.toNat : Int) < 9223372036854775808) <|
      chk ((0 : Int) ≤ x5 ∧ x5 < 9223372036854775808 ∧ (0 : Int) < (xs1.length : Int)) <|
      chk (-9223372036854775808 ≤ (((x16.toNat : Int) * 31) + (x27.toNat : Int)) + (x5 / (xs1.length : Int)) ∧ (((x16.toNat : Int) * 31) + (x27.toNat : Int)) + (x5 / (xs1.length : Int)) < 9223372036854775808) <|
      chk ((0 : Int) ≤ ((((x16.toNat : Int) * 31) + (x27.toNat : Int)) + (x5 / (xs1.length : Int))) ∧ (0 : Int) < x6) <|
      some (((((x16.toNat : Int) * 31) + (x27.toNat : Int)) + (x5 / (xs1.length : Int))) % x6)
def f_laws_FnRecovers_J3 (x42 : ((List UInt8))) (x538 : (GWal × Int)) (x674 : Bool) : Option (Bool) :=
  if x674 = true then
    some false
  else
    (slc x42 0 x538.1.Good).bind fun xs681 =>
    (f_impl_Recover xs681).bind fun x686 =>
    if x686.2 = 0 then
      (f_laws_sameWal ({ Term := x686.1.Term, Vote := x686.1.Vote, Base := x686.1.Base, BaseTerm := x686.1.BaseTerm, Log := x686.1.Log, Good := x686.1.Good } : GWal) ({ Term := x538.1.Term, Vote := x538.1.Vote, Base := x538.1.Base, BaseTerm := x538.1.BaseTerm, Log := x538.1.Log, Good := x538.1.Good } : GWal)).bind fun x715 =>
      if x715 = true then
        some (decide (x686.1.Good = x538.1.Good))
      else
        some false
    else
      some false
def f_laws_FnRecovers_J2 (x20 : ((List (List UInt8)))) (x467 : Int) (xs470 : (List UInt8)) (rc1 : Int → (List UInt8) → Option (Bool)) (x42 : ((List UInt8))) (x56 : (Int)) (x495 : Bool) : Option (Bool) :=
  if x495 = true then
    (idx x20 x467).bind fun x499 =>
    chk ((xs470.length : Int) + x499.length ≤ 68719476736) <|
    chk (-9223372036854775808 ≤ x467 + 1 ∧ x467 + 1 < 9223372036854775808) <|
    rc1 (x467 + 1) (xs470 ++ x499)
  else
    (slc x42 0 x56).bind fun xs533 =>
    (f_impl_Recover xs533).bind fun x538 =>
    (f_impl_Recover xs470).bind fun x575 =>
    (slc x42 0 x56).bind fun xs603 =>
    (f_spec_Recover xs603).bind fun x608 =>
    if x538.2 = 0 then
      if x575.2 = 0 then
        (f_laws_sameWal ({ Term := x538.1.Term, Vote := x538.1.Vote, Base := x538.1.Base, BaseTerm := x538.1.BaseTerm, Log := x538.1.Log, Good := x538.1.Good } : GWal) ({ Term := x608.1.Term, Vote := x608.1.Vote, Base := x608.1.Base, BaseTerm := x608.1.BaseTerm, Log := x608.1.Log, Good := x608.1.Good } : GWal)).bind fun x728 =>
        if (!x728) = true then
          f_laws_FnRecovers_J3 x42 x538 true
        else
          if x538.1.Good = x608.1.Good then
            (f_laws_sameWal ({ Term := x538.1.Term, Vote := x538.1.Vote, Base := x538.1.Base, BaseTerm := x538.1.BaseTerm, Log := x538.1.Log, Good := x538.1.Good } : GWal) ({ Term := x575.1.Term, Vote := x575.1.Vote, Base := x575.1.Base, BaseTerm := x575.1.BaseTerm, Log := x575.1.Log, Good := x575.1.Good } : GWal)).bind fun x741 =>
            if (!x741) = true then
              f_laws_FnRecovers_J3 x42 x538 true
            else
              if x538.1.Good = x575.1.Good then
                f_laws_FnRecovers_J3 x42 x538 (decide ((xs470.length : Int) < x538.1.Good))
              else
                f_laws_FnRecovers_J3 x42 x538 true
          else
            f_laws_FnRecovers_J3 x42 x538 true
      else
        f_laws_FnRecovers_J3 x42 x538 true
    else
      f_laws_FnRecovers_J3 x42 x538 true
def f_laws_FnRecovers_L1 (x20 : ((List (List UInt8)))) (x42 : ((List UInt8))) (x56 : (Int)) : Nat → Int → (List UInt8) → Option (Bool)
  | 0, _, _ => none
  | k + 1, x467, xs470 =>
    if x467 < (x20.length : Int) then
      (idx x20 x467).bind fun x755 =>
      chk (-9223372036854775808 ≤ (xs470.length : Int) + (x755.length : Int) ∧ (xs470.length : Int) + (x755.length : Int) < 9223372036854775808) <|
      f_laws_FnRecovers_J2 x20 x467 xs470 (f_laws_FnRecovers_L1 x20 x42 x56 k) x42 x56 (decide (((xs470.length : Int) + (x755.length : Int)) ≤ x56))
    else
      f_laws_FnRecovers_J2 x20 x467 xs470 (f_laws_FnRecovers_L1 x20 x42 x56 k) x42 x56 false
def f_laws_FnRecovers_J0 (xs1 : (List UInt8)) (xs5 : (List UInt8)) (x17 : Bool) : Option (Bool) :=
  if x17 = true then
    some true
  else
    (f_spec_RecordsOf xs1).bind fun x20 =>
    (f_laws_join x20).bind fun x42 =>
    chk (-9223372036854775808 ≤ (x42.length : Int) + 1 ∧ (x42.length : Int) + 1 < 9223372036854775808) <|
    (f_laws_at xs5 0 ((x42.length : Int) + 1)).bind fun x56 =>
    f_laws_FnRecovers_L1 x20 x42 x56 BIG 0 ([] : List UInt8)
def f_laws_FnRecovers (xs1 : (List UInt8)) (xs5 : (List UInt8)) : Option (Bool) :=
  if (1048576 : Int) < (xs1.length : Int) then
    f_laws_FnRecovers_J0 xs1 xs5 true
  else
    f_laws_FnRecovers_J0 xs1 xs5 (decide ((1048576 : Int) < (xs5.length : Int)))
end Go.Proofs.YtbdebjoagckcpaaAb
