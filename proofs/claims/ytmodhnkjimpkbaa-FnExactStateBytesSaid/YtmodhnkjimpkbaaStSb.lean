import Derived.Test.YtmodhnkjimpkbaaPuBd
import Derived.Test.YtmodhnkjimpkbaaPxSbD
set_option linter.all false
set_option maxRecDepth 20000
namespace Go.Proofs.YtmodhnkjimpkbaaAb
open Go
theorem sz_File : SzOk f_laws_szFile := by
  intro x left hb h0 h1
  unfold f_laws_szFile
  have t0 : x.Name.length ≤ BU := hb.1
  unfold BU at t0
  rw [chk_pos (by omega)]
  by_cases c0 : left - (x.Name.length : Int) < 0
  · rw [if_pos c0]; exact ⟨_, rfl, by omega, fun h => by omega⟩
  rw [if_neg c0]
  obtain ⟨r0, e0⟩ : ∃ r, r = left - (x.Name.length : Int) := ⟨_, rfl⟩
  rw [← e0] at c0 ⊢
  have g0 : 0 ≤ r0 → x.Name.length ≤ BS20 := fun _ => by unfold BS20; omega
  have t1 : x.Text.length ≤ BU := hb.2
  unfold BU at t1
  rw [chk_pos (by omega)]
  by_cases c1 : r0 - (x.Text.length : Int) < 0
  · rw [if_pos c1]; exact ⟨_, rfl, by omega, fun h => by omega⟩
  rw [if_neg c1]
  obtain ⟨r1, e1⟩ : ∃ r, r = r0 - (x.Text.length : Int) := ⟨_, rfl⟩
  rw [← e1] at c1 ⊢
  have g1 : 0 ≤ r1 → x.Text.length ≤ BS20 := fun _ => by unfold BS20; omega
  exact ⟨_, rfl, by omega, fun h => ⟨g0 (by omega), g1 (by omega)⟩⟩
theorem to_File : ToOk f_laws_toFile := by
  intro x hb
  unfold f_laws_toFile
  rfl
theorem eq_File : EqOk f_laws_eqFile := by
  intro x hb
  simp [f_laws_eqFile]
theorem sz_FileS : SzOk f_laws_szFileS := sz_rows sz_File (L := f_laws_szFileS_L0) (fun _ _ => rfl) (fun _ _ _ _ => rfl)
theorem to_FileS : ToOk f_laws_toFileS := to_rows to_File default (L := f_laws_toFileS_L0) (fun _ => rfl) (fun _ _ _ _ => rfl)
theorem eq_FileS : EqOk f_laws_eqFileS := eq_rows eq_File (L := f_laws_eqFileS_L0) (fun _ => if_pos rfl) (fun _ _ _ => rfl)
theorem sz_Reply : SzOk f_laws_szReply := by
  intro x left hb h0 h1
  unfold f_laws_szReply
  have t0 : x.Sha.length ≤ BU := hb
  unfold BU at t0
  rw [chk_pos (by omega)]
  by_cases c0 : left - (x.Sha.length : Int) < 0
  · rw [if_pos c0]; exact ⟨_, rfl, by omega, fun h => by omega⟩
  rw [if_neg c0]
  obtain ⟨r0, e0⟩ : ∃ r, r = left - (x.Sha.length : Int) := ⟨_, rfl⟩
  rw [← e0] at c0 ⊢
  have g0 : 0 ≤ r0 → x.Sha.length ≤ BS20 := fun _ => by unfold BS20; omega
  exact ⟨_, rfl, by omega, fun h => g0 (by omega)⟩
theorem to_Reply : ToOk f_laws_toReply := by
  intro x hb
  unfold f_laws_toReply
  rfl
theorem eq_Reply : EqOk f_laws_eqReply := by
  intro x hb
  simp [f_laws_eqReply]
theorem sz_Session : SzOk f_laws_szSession := by
  intro x left hb h0 h1
  unfold f_laws_szSession
  obtain ⟨r0, e0, l0, g0⟩ := sz_Reply x.Reply left hb (by omega) (by omega)
  rw [e0, obind_some]
  by_cases c0 : r0 < 0
  · rw [if_pos c0]; exact ⟨_, rfl, by omega, fun h => by omega⟩
  rw [if_neg c0]
  exact ⟨_, rfl, by omega, fun h => g0 (by omega)⟩
theorem to_Session : ToOk f_laws_toSession := by
  intro x hb
  unfold f_laws_toSession
  rw [to_Reply _ hb, obind_some]
theorem eq_Session : EqOk f_laws_eqSession := by
  intro x hb
  simp [f_laws_eqSession, eq_Reply _ hb]
theorem sz_SessionS : SzOk f_laws_szSessionS := sz_rows sz_Session (L := f_laws_szSessionS_L0) (fun _ _ => rfl) (fun _ _ _ _ => rfl)
theorem to_SessionS : ToOk f_laws_toSessionS := to_rows to_Session default (L := f_laws_toSessionS_L0) (fun _ => rfl) (fun _ _ _ _ => rfl)
theorem eq_SessionS : EqOk f_laws_eqSessionS := eq_rows eq_Session (L := f_laws_eqSessionS_L0) (fun _ => if_pos rfl) (fun _ _ _ => rfl)
theorem sz_State : SzOk f_laws_szState := by
  intro x left hb h0 h1
  unfold f_laws_szState
  obtain ⟨r0, e0, l0, g0⟩ := sz_FileS x.Files left hb.1 (by omega) (by omega)
  rw [e0, obind_some]
  by_cases c0 : r0 < 0
  · rw [if_pos c0]; exact ⟨_, rfl, by omega, fun h => by omega⟩
  rw [if_neg c0]
  obtain ⟨r1, e1, l1, g1⟩ := sz_SessionS x.Sessions r0 hb.2 (by omega) (by omega)
  rw [e1, obind_some]
  by_cases c1 : r1 < 0
  · rw [if_pos c1]; exact ⟨_, rfl, by omega, fun h => by omega⟩
  rw [if_neg c1]
  exact ⟨_, rfl, by omega, fun h => ⟨g0 (by omega), g1 (by omega)⟩⟩
theorem to_State : ToOk f_laws_toState := by
  intro x hb
  unfold f_laws_toState
  rw [to_FileS _ hb.1, obind_some, to_SessionS _ hb.2, obind_some]
theorem eq_State : EqOk f_laws_eqState := by
  intro x hb
  simp [f_laws_eqState, eq_FileS _ hb.1, eq_SessionS _ hb.2]
theorem eq_ByteS : EqOk f_laws_eqByteS := eq_flat (G := fun x y K => if (x.toNat : Int) = (y.toNat : Int) then K else some false) (fun x K => by simp) (L := f_laws_eqByteS_L0) (fun _ => if_pos rfl) (fun _ _ _ => rfl)
end Go.Proofs.YtmodhnkjimpkbaaAb
