import Derived.Test.YtmodhnkjimpkbaaPuBd
import Derived.Test.YtmodhnkjimpkbaaPxRsD
set_option linter.all false
set_option maxRecDepth 20000
namespace Go.Proofs.YtmodhnkjimpkbaaAb
open Go
instance : Bd GFile := ⟨fun B x => True⟩
theorem bd_File {F : Heap} {cs : List Value} {x : GFile} (_ : Rp.R F cs x) : Bd.bd BU x := trivial
theorem eq_File : EqOk f_laws_eqFile := by
  intro x hb
  simp [f_laws_eqFile]
theorem eq_FileS : EqOk f_laws_eqFileS := eq_rows eq_File (L := f_laws_eqFileS_L0) (fun _ => if_pos rfl) (fun _ _ _ => rfl)
instance : Bd GReply := ⟨fun B x => True⟩
theorem bd_Reply {F : Heap} {cs : List Value} {x : GReply} (_ : Rp.R F cs x) : Bd.bd BU x := trivial
theorem eq_Reply : EqOk f_laws_eqReply := by
  intro x hb
  simp [f_laws_eqReply]
instance : Bd GSession := ⟨fun B x => Bd.bd B x.Reply⟩
theorem bd_Session {F : Heap} {cs : List Value} {x : GSession} (_ : Rp.R F cs x) : Bd.bd BU x := trivial
theorem eq_Session : EqOk f_laws_eqSession := by
  intro x hb
  simp [f_laws_eqSession, eq_Reply _ hb]
theorem eq_SessionS : EqOk f_laws_eqSessionS := eq_rows eq_Session (L := f_laws_eqSessionS_L0) (fun _ => if_pos rfl) (fun _ _ _ => rfl)
instance : Bd GState := ⟨fun B x => Bd.bd B x.Files ∧ Bd.bd B x.Sessions⟩
theorem bd_State {F : Heap} {cs : List Value} {x : GState} (h : Rp.R F cs x) : Bd.bd BU x := by
  obtain ⟨a0, c0, a1, c1, rfl, h0, h1⟩ := h
  exact ⟨sr_bd bd_File h0, sr_bd bd_Session h1⟩
theorem eq_State : EqOk f_laws_eqState := by
  intro x hb
  simp [f_laws_eqState, eq_FileS _ hb.1, eq_SessionS _ hb.2]
theorem to_ByteS : ToOk f_laws_toByteS := to_rows (g := some) (fun _ _ => rfl) 0 (L := f_laws_toByteS_L0) (fun _ => rfl) (fun _ _ _ _ => rfl)
theorem eq_ByteS : EqOk f_laws_eqByteS := eq_flat (G := fun x y K => if (x.toNat : Int) = (y.toNat : Int) then K else some false) (fun x K => by simp) (L := f_laws_eqByteS_L0) (fun _ => if_pos rfl) (fun _ _ _ => rfl)
end Go.Proofs.YtmodhnkjimpkbaaAb
