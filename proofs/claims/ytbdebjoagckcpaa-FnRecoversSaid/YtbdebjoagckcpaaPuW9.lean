import Derived.Test.YtbdebjoagckcpaaPuW8
set_option linter.all false
namespace Go.Proofs.YtbdebjoagckcpaaAb
open Go
theorem sameRecs_L (xs : List GRec) (hl : xs.length ≤ 1000000) : ∀ (m k i : Nat), xs.length - i = m → m + 1 ≤ k → i ≤ xs.length → f_laws_sameRecs_L0 xs xs k (i : Int) = some true := by
  intro m
  induction m with
  | zero =>
    intro k i hm hk hi
    obtain ⟨k, rfl⟩ : ∃ j, k = j + 1 := ⟨k - 1, by omega⟩
    rw [f_laws_sameRecs_L0, if_neg (by omega)]
  | succ m ih =>
    intro k i hm hk hi
    obtain ⟨k, rfl⟩ : ∃ j, k = j + 1 := ⟨k - 1, by omega⟩
    have hlt : i < xs.length := by omega
    have e : ((i : Int) + 1) = ((i + 1 : Nat) : Int) := by omega
    rw [f_laws_sameRecs_L0, if_pos (by omega), idx_nat hlt]
    simp only [obind_some]
    rw [if_pos trivial, if_pos trivial]
    unfold f_laws_sameRecs_J1
    rw [if_neg (by simp), chk_pos (by omega), e]
    exact ih k (i + 1) (by omega) (by omega) (by omega)
theorem sameWal_m {w v : GWal} (h1 : w.Term = v.Term) (h2 : w.Vote = v.Vote) (h3 : w.Base = v.Base) (h4 : w.BaseTerm = v.BaseTerm) (h5 : w.Log = v.Log) (hl : w.Log.length ≤ 1000000) : f_laws_sameWal w v = some true := by
  unfold f_laws_sameWal f_laws_sameRecs
  rw [if_pos h1, if_pos h2, if_pos h3, if_pos h4, ← h5, if_pos rfl]
  rw [show f_laws_sameRecs_L0 w.Log w.Log BIG 0 = some true from sameRecs_L w.Log hl w.Log.length BIG 0 (by omega) (by rw [BIG_eq]; omega) (by omega), obind_some]
theorem recM_inv : ∀ (k : Nat) (w : GWal) (b : List UInt8), WInv w → WInv (recM k w b)
  | 0, w, b, hw => hw
  | k + 1, w, b, hw => by
    unfold recM
    split
    · exact hw
    · cases ht : takeM w (readFr b).1 with
      | none => exact hw
      | some w' =>
        obtain ⟨hw', _⟩ := takeM_inv hw ht
        exact recM_inv k _ _ ⟨hw'.term, hw'.base, hw'.bterm, hw'.log, hw'.terms⟩
theorem recover_frames {ps : List (List UInt8)} {part : List UInt8} (hp : ∀ p ∈ ps, p.length ≤ 4096) (hs : stop part) (hl : (framesOf ps ++ part).length ≤ 65536) : f_impl_Recover (framesOf ps ++ part) = some (recF ps w0, 0) := by
  rw [recover_m hl, rec_frames ps _ w0 part hp hs (by rw [List.length_append]; omega)]
theorem FnWal_m (xs ys : List UInt8) : f_laws_FnWal xs ys = some true := by
  unfold f_laws_FnWal
  have hJ : ∀ b, (b = false → xs.length ≤ 1000000000 ∧ ys.length ≤ 60000) → f_laws_FnWal_J0 xs ys b = some true := by
    intro b hb
    unfold f_laws_FnWal_J0
    cases b with
    | true => rfl
    | false =>
      obtain ⟨hx, hy⟩ := hb rfl
      obtain ⟨w, e, hw⟩ := walsOf_m hx
      have hlen := hw.len
      obtain ⟨hp, hfl⟩ := walP_le hw
      have hr := recover_frames (part := []) hp stop_nil (by rw [List.append_nil]; exact hfl)
      rw [List.append_nil, recF_wal hw] at hr
      rw [if_neg (by simp), e]
      simp only [obind_some]
      rw [walOf_m hw]
      simp only [obind_some]
      rw [hr, recover_m (by omega), srecover_m (by omega)]
      simp only [obind_some]
      have hi := recM_inv ys.length w0 ys w0_inv
      have hil := hi.log
      rw [sameWal_m (w := recM ys.length w0 ys) (v := recM ys.length w0 ys) rfl rfl rfl rfl rfl (by omega), sameWal_m (w := { w with Good := (framesOf (walP w)).length }) (v := w) rfl rfl rfl rfl rfl (by show w.Log.length ≤ _; omega)]
      simp
  split
  · exact hJ true (fun h => by cases h)
  · exact hJ _ (fun h => by have := of_decide_eq_false h; exact ⟨by omega, by omega⟩)
end Go.Proofs.YtbdebjoagckcpaaAb
