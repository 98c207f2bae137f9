import Derived.Test.YtbdebjoagckcpaaPuBd
import Derived.Test.YtbdebjoagckcpaaPxAgD
set_option linter.all false
set_option maxRecDepth 20000
namespace Go.Proofs.YtbdebjoagckcpaaAb
open Go
theorem sz_ByteS : SzOk f_laws_szByteS := sz_flat (fun _ _ => trivial) (fun _ _ => rfl)
theorem to_ByteS : ToOk f_laws_toByteS := to_rows (g := some) (fun _ _ => rfl) 0 (L := f_laws_toByteS_L0) (fun _ => rfl) (fun _ _ _ _ => rfl)
theorem eq_ByteS : EqOk f_laws_eqByteS := eq_flat (G := fun x y K => if (x.toNat : Int) = (y.toNat : Int) then K else some false) (fun x K => by simp) (L := f_laws_eqByteS_L0) (fun _ => if_pos rfl) (fun _ _ _ => rfl)
instance : Bd GRec := ⟨fun B x => Bd.bd B x.Data⟩
theorem bd_Rec {F : Heap} {cs : List Value} {x : GRec} (h : Rp.R F cs x) : Bd.bd BU x := by
  obtain ⟨a0, c0, rfl, h0⟩ := h
  exact sr_bd u_bd h0
theorem sz_Rec : SzOk f_laws_szRec := by
  intro x left hb h0 h1
  unfold f_laws_szRec
  obtain ⟨r0, e0, l0, g0⟩ := sz_ByteS x.Data left hb (by omega) (by omega)
  rw [e0, obind_some]
  by_cases c0 : r0 < 0
  · rw [if_pos c0]; exact ⟨_, rfl, by omega, fun h => by omega⟩
  rw [if_neg c0]
  exact ⟨_, rfl, by omega, fun h => g0 (by omega)⟩
theorem to_Rec : ToOk f_laws_toRec := by
  intro x hb
  unfold f_laws_toRec
  rw [to_ByteS _ hb, obind_some]
theorem eq_Rec : EqOk f_laws_eqRec := by
  intro x hb
  simp [f_laws_eqRec, eq_ByteS _ hb]
theorem sz_RecS : SzOk f_laws_szRecS := sz_rows sz_Rec (L := f_laws_szRecS_L0) (fun _ _ => rfl) (fun _ _ _ _ => rfl)
theorem to_RecS : ToOk f_laws_toRecS := to_rows to_Rec default (L := f_laws_toRecS_L0) (fun _ => rfl) (fun _ _ _ _ => rfl)
theorem eq_RecS : EqOk f_laws_eqRecS := eq_rows eq_Rec (L := f_laws_eqRecS_L0) (fun _ => if_pos rfl) (fun _ _ _ => rfl)
theorem sz_BoolS : SzOk f_laws_szBoolS := sz_flat (fun _ _ => trivial) (fun _ _ => rfl)
theorem to_BoolS : ToOk f_laws_toBoolS := to_rows (g := some) (fun _ _ => rfl) false (L := f_laws_toBoolS_L0) (fun _ => rfl) (fun _ _ _ _ => rfl)
theorem eq_BoolS : EqOk f_laws_eqBoolS := eq_flat (G := fun x y K => if (x != y) = true then some false else K) (fun x K => by simp) (L := f_laws_eqBoolS_L0) (fun _ => if_pos rfl) (fun _ _ _ => rfl)
theorem sz_IntS : SzOk f_laws_szIntS := sz_flat (fun _ _ => trivial) (fun _ _ => rfl)
theorem to_IntS : ToOk f_laws_toIntS := to_rows (g := some) (fun _ _ => rfl) 0 (L := f_laws_toIntS_L0) (fun _ => rfl) (fun _ _ _ _ => rfl)
theorem eq_IntS : EqOk f_laws_eqIntS := eq_flat (G := fun x y K => if x = y then K else some false) (fun x K => by simp) (L := f_laws_eqIntS_L0) (fun _ => if_pos rfl) (fun _ _ _ => rfl)
instance : Bd GPeer := ⟨fun B x => Bd.bd B x.Log ∧ Bd.bd B x.Votes ∧ Bd.bd B x.Next ∧ Bd.bd B x.Match⟩
theorem bd_Peer {F : Heap} {cs : List Value} {x : GPeer} (h : Rp.R F cs x) : Bd.bd BU x := by
  obtain ⟨a0, c0, a1, c1, a2, c2, a3, c3, rfl, h0, h1, h2, h3⟩ := h
  exact ⟨sr_bd bd_Rec h0, sr_bd b_bd h1, sr_bd i_bd h2, sr_bd i_bd h3⟩
theorem sz_Peer : SzOk f_laws_szPeer := by
  intro x left hb h0 h1
  unfold f_laws_szPeer
  obtain ⟨r0, e0, l0, g0⟩ := sz_RecS x.Log left hb.1 (by omega) (by omega)
  rw [e0, obind_some]
  by_cases c0 : r0 < 0
  · rw [if_pos c0]; exact ⟨_, rfl, by omega, fun h => by omega⟩
  rw [if_neg c0]
  obtain ⟨r1, e1, l1, g1⟩ := sz_BoolS x.Votes r0 hb.2.1 (by omega) (by omega)
  rw [e1, obind_some]
  by_cases c1 : r1 < 0
  · rw [if_pos c1]; exact ⟨_, rfl, by omega, fun h => by omega⟩
  rw [if_neg c1]
  obtain ⟨r2, e2, l2, g2⟩ := sz_IntS x.Next r1 hb.2.2.1 (by omega) (by omega)
  rw [e2, obind_some]
  by_cases c2 : r2 < 0
  · rw [if_pos c2]; exact ⟨_, rfl, by omega, fun h => by omega⟩
  rw [if_neg c2]
  obtain ⟨r3, e3, l3, g3⟩ := sz_IntS x.Match r2 hb.2.2.2 (by omega) (by omega)
  rw [e3, obind_some]
  by_cases c3 : r3 < 0
  · rw [if_pos c3]; exact ⟨_, rfl, by omega, fun h => by omega⟩
  rw [if_neg c3]
  exact ⟨_, rfl, by omega, fun h => ⟨g0 (by omega), g1 (by omega), g2 (by omega), g3 (by omega)⟩⟩
theorem to_Peer : ToOk f_laws_toPeer := by
  intro x hb
  unfold f_laws_toPeer
  rw [to_RecS _ hb.1, obind_some, to_BoolS _ hb.2.1, obind_some, to_IntS _ hb.2.2.1, obind_some, to_IntS _ hb.2.2.2, obind_some]
theorem eq_Peer : EqOk f_laws_eqPeer := by
  intro x hb
  simp [f_laws_eqPeer, eq_RecS _ hb.1, eq_BoolS _ hb.2.1, eq_IntS _ hb.2.2.1, eq_IntS _ hb.2.2.2]
theorem sz_PeerS : SzOk f_laws_szPeerS := sz_rows sz_Peer (L := f_laws_szPeerS_L0) (fun _ _ => rfl) (fun _ _ _ _ => rfl)
theorem to_PeerS : ToOk f_laws_toPeerS := to_rows to_Peer default (L := f_laws_toPeerS_L0) (fun _ => rfl) (fun _ _ _ _ => rfl)
theorem eq_PeerS : EqOk f_laws_eqPeerS := eq_rows eq_Peer (L := f_laws_eqPeerS_L0) (fun _ => if_pos rfl) (fun _ _ _ => rfl)
instance : Bd GMsg := ⟨fun B x => Bd.bd B x.Log⟩
theorem bd_Msg {F : Heap} {cs : List Value} {x : GMsg} (h : Rp.R F cs x) : Bd.bd BU x := by
  obtain ⟨a0, c0, rfl, h0⟩ := h
  exact sr_bd bd_Rec h0
theorem sz_Msg : SzOk f_laws_szMsg := by
  intro x left hb h0 h1
  unfold f_laws_szMsg
  obtain ⟨r0, e0, l0, g0⟩ := sz_RecS x.Log left hb (by omega) (by omega)
  rw [e0, obind_some]
  by_cases c0 : r0 < 0
  · rw [if_pos c0]; exact ⟨_, rfl, by omega, fun h => by omega⟩
  rw [if_neg c0]
  exact ⟨_, rfl, by omega, fun h => g0 (by omega)⟩
theorem to_Msg : ToOk f_laws_toMsg := by
  intro x hb
  unfold f_laws_toMsg
  rw [to_RecS _ hb, obind_some]
theorem eq_Msg : EqOk f_laws_eqMsg := by
  intro x hb
  simp [f_laws_eqMsg, eq_RecS _ hb]
theorem sz_MsgS : SzOk f_laws_szMsgS := sz_rows sz_Msg (L := f_laws_szMsgS_L0) (fun _ _ => rfl) (fun _ _ _ _ => rfl)
theorem to_MsgS : ToOk f_laws_toMsgS := to_rows to_Msg default (L := f_laws_toMsgS_L0) (fun _ => rfl) (fun _ _ _ _ => rfl)
theorem eq_MsgS : EqOk f_laws_eqMsgS := eq_rows eq_Msg (L := f_laws_eqMsgS_L0) (fun _ => if_pos rfl) (fun _ _ _ => rfl)
instance : Bd GCluster := ⟨fun B x => Bd.bd B x.Peers ∧ Bd.bd B x.Net ∧ Bd.bd B x.Chosen⟩
theorem bd_Cluster {F : Heap} {cs : List Value} {x : GCluster} (h : Rp.R F cs x) : Bd.bd BU x := by
  obtain ⟨a0, c0, a1, c1, a2, c2, rfl, h0, h1, h2⟩ := h
  exact ⟨sr_bd bd_Peer h0, sr_bd bd_Msg h1, sr_bd bd_Rec h2⟩
theorem sz_Cluster : SzOk f_laws_szCluster := by
  intro x left hb h0 h1
  unfold f_laws_szCluster
  obtain ⟨r0, e0, l0, g0⟩ := sz_PeerS x.Peers left hb.1 (by omega) (by omega)
  rw [e0, obind_some]
  by_cases c0 : r0 < 0
  · rw [if_pos c0]; exact ⟨_, rfl, by omega, fun h => by omega⟩
  rw [if_neg c0]
  obtain ⟨r1, e1, l1, g1⟩ := sz_MsgS x.Net r0 hb.2.1 (by omega) (by omega)
  rw [e1, obind_some]
  by_cases c1 : r1 < 0
  · rw [if_pos c1]; exact ⟨_, rfl, by omega, fun h => by omega⟩
  rw [if_neg c1]
  obtain ⟨r2, e2, l2, g2⟩ := sz_RecS x.Chosen r1 hb.2.2 (by omega) (by omega)
  rw [e2, obind_some]
  by_cases c2 : r2 < 0
  · rw [if_pos c2]; exact ⟨_, rfl, by omega, fun h => by omega⟩
  rw [if_neg c2]
  exact ⟨_, rfl, by omega, fun h => ⟨g0 (by omega), g1 (by omega), g2 (by omega)⟩⟩
theorem to_Cluster : ToOk f_laws_toCluster := by
  intro x hb
  unfold f_laws_toCluster
  rw [to_PeerS _ hb.1, obind_some, to_MsgS _ hb.2.1, obind_some, to_RecS _ hb.2.2, obind_some]
theorem eq_Cluster : EqOk f_laws_eqCluster := by
  intro x hb
  simp [f_laws_eqCluster, eq_PeerS _ hb.1, eq_MsgS _ hb.2.1, eq_RecS _ hb.2.2]
end Go.Proofs.YtbdebjoagckcpaaAb
