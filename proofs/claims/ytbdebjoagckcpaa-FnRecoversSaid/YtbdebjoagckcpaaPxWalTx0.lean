import Derived.Test.YtbdebjoagckcpaaPxWalD
import Derived.Test.YtbdebjoagckcpaaAbInfo
import Derived.KernelRfl
set_option linter.all false
set_option maxRecDepth 20000
namespace Go.Proofs.YtbdebjoagckcpaaAb
open Go Go.Proofs
theorem f_spec_l00Source_k {Δ : Prims} (g : Env Try.prog Δ) {lo n0 : Nat} {H0 F0 : Heap} (hS : St lo n0 H0 F0) {a2 : Option Addr} {cap3 : Nat} {xs1 : (List UInt8)} (h4 : SR F0 (.slice a2 xs1.length cap3) xs1) {res : (Gl00Src)} (hr : f_spec_l00Source xs1 = some res) :
    C Try.prog Δ n0 39 [.slice a2 xs1.length cap3] n0 H0 (fun v n H => ∃ (F : Heap) (ra5 : Option Addr) (rcap6 : Nat) (rp1 : Nat), Ext n0 F0 n F ∧ St n0 n H F ∧ v = .pointer (some ⟨rp1, 0, none⟩) ∧ n0 ≤ rp1 ∧ H rp1 = some (.row 1 [.slice ra5 res.code.length rcap6, .int .i64 res.at_, .int .i64 res.seed]) ∧ F rp1 = none ∧ SR F (.slice ra5 res.code.length rcap6) res.code) := by
  refine C.body Try.func39 rfl rfl ?_
  unfold f_spec_l00Source at hr
  have hS0 : St n0 n0 H0 F0 := hS.low (Nat.le_refl _)
  have hE0 := Ext.refl n0 F0
  have hlo0 := hS0.lo
  with_reducible refine W.seq ?_
  with_reducible refine W.region ?_
  refine WL.assign .nil rfl rfl rfl rfl ?_
  with_reducible refine WL.nil ?_
  with_reducible refine Ex.thn_norm ?_
  with_reducible refine W.seq ?_
  with_reducible refine W.region ?_
  refine WL.move .nil rfl rfl rfl rfl ?_
  refine WL.move .nil rfl rfl rfl rfl ?_
  refine WL.len .nil rfl rfl rfl Try.underlying24 rfl ?_
  obtain ⟨hc5, hr⟩ := chk_some hr
  refine WL.remI .nil rfl rfl rfl rfl rfl hc5.1 hc5.2 ?_
  refine WL.buildL .nil (cells := [.slice a2 xs1.length cap3, .int .i64 0, .int .i64 ((xs1.length : Int) % 1000)]) rfl rfl rfl Try.underlying107 info107 rfl rfl rfl (by simp only [List.mapM_cons, List.mapM_nil, info24, info3, info3]; rfl) rfl (by first | rfl | ((conv => lhs; simp [splice, fillL, cells_int, cells_bool, cells_string, cells_str, cells_slice, cells_ptr, cells_map, cells_func, cells_nilFunc, cells_nilIface, cells_iface, cells_agg, cells_u8]) <;> rfl)) ?_
  refine GL.box hS0 .nil (vc := [.slice a2 xs1.length cap3, .int .i64 0, .int .i64 ((xs1.length : Int) % 1000)]) rfl rfl rfl rfl rfl (by repeat' (first | exact List.forall_mem_nil _ | refine List.forall_mem_cons.2 ⟨?_, ?_⟩ | rfl)) (fun H6 hS7 ho8 hk9 => ?_)
  have fo10 := hS0.fnone (Nat.le_refl _)
  have hlon01 := hS7.lo
  have lt11 : n0 < (n0 + 1) := by omega
  refine WL.assign .nil rfl rfl rfl rfl ?_
  with_reducible refine WL.nil ?_
  with_reducible refine Ex.thn_norm ?_
  with_reducible refine W.ret ?_
  obtain rfl := Option.some.inj hr
  exact ⟨.inr rfl, _, (.cons (.tmp rfl) .nil), ⟨F0, a2, cap3, n0, (hE0.up (by omega)), hS7, rfl, (by omega), ho8, fo10, h4⟩⟩
theorem f_spec_l00Src_byte_k {Δ : Prims} (g : Env Try.prog Δ) {lo n0 : Nat} {H0 F0 : Heap} (hS : St lo n0 H0 F0) {p0 : Nat} {x1 : Gl00Src} {ez0 : Nat} {a2 : Option Addr} {cap3 : Nat} (ho5 : H0 p0 = some (.row ez0 [.slice a2 x1.code.length cap3, .int .i64 x1.at_, .int .i64 x1.seed])) (fo6 : F0 p0 = none) (lo7 : lo ≤ p0) (h4 : SR F0 (.slice a2 x1.code.length cap3) x1.code) {res : (Gl00Src × Int)} (hr : f_spec_l00Src_byte x1 = some res) :
    C Try.prog Δ lo 113 [.pointer (some ⟨p0, 0, none⟩)] n0 H0 (fun v n H => ∃ (F : Heap) (ra1 : Option Addr) (rcap2 : Nat), Ext n0 F0 n F ∧ St lo n H F ∧ H p0 = some (.row ez0 [.slice ra1 res.1.code.length rcap2, .int .i64 res.1.at_, .int .i64 res.1.seed]) ∧ v = .int .i64 res.2 ∧ SR F (.slice ra1 res.1.code.length rcap2) res.1.code) := by
  refine C.body Try.func113 rfl rfl ?_
  unfold f_spec_l00Src_byte at hr
  have hS0 : St lo n0 H0 F0 := hS
  have hE0 := Ext.refl n0 F0
  have hlo0 := hS0.lo
  have lt0 := hS0.lt ho5
  with_reducible refine W.seq ?_
  with_reducible refine W.region ?_
  refine WL.assign .nil rfl rfl rfl rfl ?_
  with_reducible refine WL.nil ?_
  with_reducible refine Ex.thn_norm ?_
  with_reducible refine W.seq ?_
  with_reducible refine W.region ?_
  refine WL.move .nil rfl rfl rfl rfl ?_
  refine WL.nilCheck .nil rfl rfl rfl rfl ?_
  refine WL.fieldAddr .nil rfl rfl rfl Try.underlying107 rfl info3 rfl rfl ?_
  refine WL.load1 .nil rfl rfl rfl Try.underlying3 rfl rfl ho5 rfl ?_
  obtain ⟨hc8, hr⟩ := chk_some hr
  refine WL.addI .nil rfl rfl rfl rfl rfl hc8.1 hc8.2 ?_
  refine WL.nilCheck .nil rfl rfl rfl rfl ?_
  refine WL.fieldAddr .nil rfl rfl rfl Try.underlying107 rfl info3 rfl rfl ?_
  refine GL.store hS0 .nil (vc := [.int .i64 (x1.at_ + 1)]) (c' := [.slice a2 x1.code.length cap3, .int .i64 (x1.at_ + 1), .int .i64 x1.seed]) rfl rfl rfl info3 rfl rfl rfl rfl ho5 fo6 (Nat.le_of_ble_eq_true rfl) lo7 (by repeat' (first | exact List.forall_mem_nil _ | refine List.forall_mem_cons.2 ⟨?_, ?_⟩ | rfl)) rfl (fun H9 hS10 ho11 hk12 => ?_)
  with_reducible refine WL.nil ?_
  with_reducible refine Ex.thn_norm ?_
  with_reducible refine W.seq ?_
  with_reducible refine W.seq ?_
  refine W.regionD [0, 1, 2, 3, 4, 5, 6, 7, 8, 9] [false, false, false, false, false, false, false, false, false, false] rfl rfl (by kernel_rfl) (by kernel_rfl) (by (conv => lhs; simp only [List.map_cons, List.map_nil, List.getD_cons_zero, List.getD_cons_succ]) <;> rfl) ?_
  refine WL.move .r rfl rfl rfl rfl ?_
  refine WL.nilCheck .r rfl rfl rfl rfl ?_
  refine WL.fieldAddr .r rfl rfl rfl Try.underlying107 rfl info3 rfl rfl ?_
  refine WL.load1 .r rfl rfl rfl Try.underlying3 rfl rfl ho11 rfl ?_
  refine WL.move .r rfl rfl rfl rfl ?_
  refine WL.nilCheck .r rfl rfl rfl rfl ?_
  refine WL.fieldAddr .r rfl rfl rfl Try.underlying107 rfl info24 rfl rfl ?_
  refine WL.load1 .r rfl rfl rfl Try.underlying24 rfl rfl ho11 rfl ?_
  refine WL.len .r rfl rfl rfl Try.underlying24 rfl ?_
  refine WL.bin .r rfl rfl rfl rfl rfl rfl ?_
  with_reducible refine WL.nil ?_
  with_reducible refine Ex.thn_norm ?_
  refine W.condD rfl (fun hc40 => ?_) (fun hc40 => ?_)
  · replace hr := ite_pos hr hc40
    with_reducible refine W.seq ?_
    refine W.regionD [0, 1, 2, 3, 4, 5, 6, 7, 8, 9, 10, 11, 12, 13, 14, 15, 16, 17, 18, 19, 20, 21, 22, 23] [false, false, false, false, false, false, false, false, false, false, false, false, false, false, false, false, false, false, false, false, false, false, false, true] rfl rfl (by kernel_rfl) (by kernel_rfl) (by (conv => lhs; simp only [List.map_cons, List.map_nil, List.getD_cons_zero, List.getD_cons_succ]) <;> rfl) ?_
    refine WL.move .r rfl rfl rfl rfl ?_
    refine WL.move .r rfl rfl rfl rfl ?_
    refine WL.nilCheck .r rfl rfl rfl rfl ?_
    refine WL.fieldAddr .r rfl rfl rfl Try.underlying107 rfl info3 rfl rfl ?_
    refine WL.load1 .r rfl rfl rfl Try.underlying3 rfl rfl ho11 rfl ?_
    obtain ⟨hc41, hr⟩ := chk_some hr
    refine WL.mulI .r rfl rfl rfl rfl rfl hc41.1 hc41.2 ?_
    refine WL.move .r rfl rfl rfl rfl ?_
    refine WL.nilCheck .r rfl rfl rfl rfl ?_
    refine WL.fieldAddr .r rfl rfl rfl Try.underlying107 rfl info24 rfl rfl ?_
    refine WL.load1 .r rfl rfl rfl Try.underlying24 rfl rfl ho11 rfl ?_
    refine WL.move .r rfl rfl rfl rfl ?_
    refine WL.nilCheck .r rfl rfl rfl rfl ?_
    refine WL.fieldAddr .r rfl rfl rfl Try.underlying107 rfl info3 rfl rfl ?_
    refine WL.load1 .r rfl rfl rfl Try.underlying3 rfl rfl ho11 rfl ?_
    obtain ⟨hc42, hr⟩ := chk_some hr
    refine WL.subI .r rfl rfl rfl rfl rfl hc42.1 hc42.2 ?_
    obtain ⟨x43, hx43, hr⟩ := bnd_some hr
    refine GL.index .r rfl rfl rfl Try.underlying24 info5 rfl rfl h4 hS10.fh rfl hx43 (fun b44 kp45 c46 ecs47 hrow48 hwin49 hR50 => ?_)
    have hcs : _ = ([u8 x43] : List Value) := hR50
    subst hcs
    refine WL.load1 .r rfl rfl rfl Try.underlying5 rfl rfl hrow48 ((win_get0 hwin49 (show (0 : Nat) < 1 by decide)).trans rfl) ?_
    refine WL.convN .r rfl rfl rfl Try.underlying5 Try.underlying3 rfl topI64 (u8_bnd _).1 (u8_lt63 _) ?_
    obtain ⟨hc51, hr⟩ := chk_some hr
    refine WL.addI .r rfl rfl rfl rfl rfl hc51.1 hc51.2 ?_
    obtain ⟨hc52, hr⟩ := chk_some hr
    refine WL.addI .r rfl rfl rfl rfl rfl hc52.1 hc52.2 ?_
    obtain ⟨hc53, hr⟩ := chk_some hr
    refine WL.remI .r rfl rfl rfl rfl rfl hc53.1 hc53.2 ?_
    refine WL.nilCheck .r rfl rfl rfl rfl ?_
    refine WL.fieldAddr .r rfl rfl rfl Try.underlying107 rfl info3 rfl rfl ?_
    refine GL.store hS10 .w (vc := [.int .i64 ((((x1.seed * 31) + (x43.toNat : Int)) + 7) % 2147483648)]) (c' := [.slice a2 x1.code.length cap3, .int .i64 (x1.at_ + 1), .int .i64 ((((x1.seed * 31) + (x43.toNat : Int)) + 7) % 2147483648)]) rfl rfl rfl info3 rfl rfl rfl rfl ho11 fo6 (Nat.le_of_ble_eq_true rfl) lo7 (by repeat' (first | exact List.forall_mem_nil _ | refine List.forall_mem_cons.2 ⟨?_, ?_⟩ | rfl)) rfl (fun H54 hS55 ho56 hk57 => ?_)
    with_reducible refine WL.nil ?_
    with_reducible refine Ex.thn_norm ?_
    with_reducible refine W.seq ?_
    refine W.regionD [0, 1, 2, 3, 4, 5, 6, 7, 8, 9, 10, 11, 12] [false, false, false, false, false, false, false, false, false, false, false, false, false] rfl rfl (by kernel_rfl) (by kernel_rfl) (by (conv => lhs; simp only [List.map_cons, List.map_nil, List.getD_cons_zero, List.getD_cons_succ]) <;> rfl) ?_
    refine WL.move .r rfl rfl rfl rfl ?_
    refine WL.nilCheck .r rfl rfl rfl rfl ?_
    refine WL.fieldAddr .r rfl rfl rfl Try.underlying107 rfl info24 rfl rfl ?_
    refine WL.load1 .r rfl rfl rfl Try.underlying24 rfl rfl ho56 rfl ?_
    refine WL.move .r rfl rfl rfl rfl ?_
    refine WL.nilCheck .r rfl rfl rfl rfl ?_
    refine WL.fieldAddr .r rfl rfl rfl Try.underlying107 rfl info3 rfl rfl ?_
    refine WL.load1 .r rfl rfl rfl Try.underlying3 rfl rfl ho56 rfl ?_
    obtain ⟨hc58, hr⟩ := chk_some hr
    refine WL.subI .r rfl rfl rfl rfl rfl hc58.1 hc58.2 ?_
    obtain ⟨x59, hx59, hr⟩ := bnd_some hr
    refine GL.index .r rfl rfl rfl Try.underlying24 info5 rfl rfl h4 hS55.fh rfl hx59 (fun b60 kp61 c62 ecs63 hrow64 hwin65 hR66 => ?_)
    have hcs : _ = ([u8 x59] : List Value) := hR66
    subst hcs
    refine WL.load1 .r rfl rfl rfl Try.underlying5 rfl rfl hrow64 ((win_get0 hwin65 (show (0 : Nat) < 1 by decide)).trans rfl) ?_
    refine WL.convN .r rfl rfl rfl Try.underlying5 Try.underlying3 rfl topI64 (u8_bnd _).1 (u8_lt63 _) ?_
    refine WL.assign .r rfl rfl rfl rfl ?_
    with_reducible refine WL.nil ?_
    with_reducible refine Ex.thn_norm ?_
    with_reducible refine W.ret ?_
    with_reducible refine Ex.thn_ret ?_
    obtain rfl := Option.some.inj hr
    exact ⟨.inr rfl, _, (.cons (.tmp rfl) .nil), ⟨F0, a2, cap3, (hE0.up (by omega)), hS55, ho56, rfl, h4⟩⟩
  · replace hr := ite_neg hr hc40
    with_reducible refine W.skip ?_
    with_reducible refine Ex.thn_norm ?_
    with_reducible refine W.seq ?_
    with_reducible refine W.seq ?_
    with_reducible refine W.region ?_
    refine WL.move .nil rfl rfl rfl rfl ?_
    refine WL.nilCheck .nil rfl rfl rfl rfl ?_
    refine WL.fieldAddr .nil rfl rfl rfl Try.underlying107 rfl info3 rfl rfl ?_
    refine WL.load1 .nil rfl rfl rfl Try.underlying3 rfl rfl ho11 rfl ?_
    refine WL.bin .nil rfl rfl rfl rfl rfl rfl ?_
    with_reducible refine WL.nil ?_
    with_reducible refine Ex.thn_norm ?_
    refine W.condD rfl (fun hc68 => ?_) (fun hc68 => ?_)
    · replace hr := ite_pos hr hc68
      with_reducible refine W.seq ?_
      with_reducible refine W.region ?_
      refine WL.assign .nil rfl rfl rfl rfl ?_
      with_reducible refine WL.nil ?_
      with_reducible refine Ex.thn_norm ?_
      with_reducible refine W.ret ?_
      with_reducible refine Ex.thn_ret ?_
      obtain rfl := Option.some.inj hr
      exact ⟨.inr rfl, _, (.cons (.tmp rfl) .nil), ⟨F0, a2, cap3, (hE0.up (by omega)), hS10, ho11, rfl, h4⟩⟩
    · replace hr := ite_neg hr hc68
      with_reducible refine W.skip ?_
      with_reducible refine Ex.thn_norm ?_
      with_reducible refine W.seq ?_
      with_reducible refine W.region ?_
      refine WL.move .nil rfl rfl rfl rfl ?_
      refine WL.move .nil rfl rfl rfl rfl ?_
      refine WL.nilCheck .nil rfl rfl rfl rfl ?_
      refine WL.fieldAddr .nil rfl rfl rfl Try.underlying107 rfl info3 rfl rfl ?_
      refine WL.load1 .nil rfl rfl rfl Try.underlying3 rfl rfl ho11 rfl ?_
      obtain ⟨hc69, hr⟩ := chk_some hr
      refine WL.mulI .nil rfl rfl rfl rfl rfl hc69.1 hc69.2 ?_
      obtain ⟨hc70, hr⟩ := chk_some hr
      refine WL.addI .nil rfl rfl rfl rfl rfl hc70.1 hc70.2 ?_
      obtain ⟨hc71, hr⟩ := chk_some hr
      refine WL.remI .nil rfl rfl rfl rfl rfl hc71.1 hc71.2 ?_
      refine WL.nilCheck .nil rfl rfl rfl rfl ?_
      refine WL.fieldAddr .nil rfl rfl rfl Try.underlying107 rfl info3 rfl rfl ?_
      refine GL.store hS10 .nil (vc := [.int .i64 (((x1.seed * 1103515245) + 12345) % 2147483648)]) (c' := [.slice a2 x1.code.length cap3, .int .i64 (x1.at_ + 1), .int .i64 (((x1.seed * 1103515245) + 12345) % 2147483648)]) rfl rfl rfl info3 rfl rfl rfl rfl ho11 fo6 (Nat.le_of_ble_eq_true rfl) lo7 (by repeat' (first | exact List.forall_mem_nil _ | refine List.forall_mem_cons.2 ⟨?_, ?_⟩ | rfl)) rfl (fun H72 hS73 ho74 hk75 => ?_)
      with_reducible refine WL.nil ?_
      with_reducible refine Ex.thn_norm ?_
      with_reducible refine W.seq ?_
      with_reducible refine W.region ?_
      refine WL.move .nil rfl rfl rfl rfl ?_
      refine WL.nilCheck .nil rfl rfl rfl rfl ?_
      refine WL.fieldAddr .nil rfl rfl rfl Try.underlying107 rfl info3 rfl rfl ?_
      refine WL.load1 .nil rfl rfl rfl Try.underlying3 rfl rfl ho74 rfl ?_
      obtain ⟨hc76, hr⟩ := chk_some hr
      refine WL.quoI .nil rfl rfl rfl rfl rfl hc76.1 hc76.2.1 hc76.2.2 ?_
      obtain ⟨hc77, hr⟩ := chk_some hr
      refine WL.remI .nil rfl rfl rfl rfl rfl hc77.1 hc77.2 ?_
      refine WL.assign .nil rfl rfl rfl rfl ?_
      with_reducible refine WL.nil ?_
      with_reducible refine Ex.thn_norm ?_
      with_reducible refine W.ret ?_
      obtain rfl := Option.some.inj hr
      exact ⟨.inr rfl, _, (.cons (.tmp rfl) .nil), ⟨F0, a2, cap3, (hE0.up (by omega)), hS73, ho74, rfl, h4⟩⟩
theorem f_spec_l00Src_next_k {Δ : Prims} (g : Env Try.prog Δ) {lo n0 : Nat} {H0 F0 : Heap} (hS : St lo n0 H0 F0) {p0 : Nat} {x1 : Gl00Src} {ez0 : Nat} {a2 : Option Addr} {cap3 : Nat} {x8 : Int} (ho5 : H0 p0 = some (.row ez0 [.slice a2 x1.code.length cap3, .int .i64 x1.at_, .int .i64 x1.seed])) (fo6 : F0 p0 = none) (lo7 : lo ≤ p0) (h4 : SR F0 (.slice a2 x1.code.length cap3) x1.code) {res : (Gl00Src × Int)} (hr : f_spec_l00Src_next x1 x8 = some res) :
    C Try.prog Δ lo 74 [.pointer (some ⟨p0, 0, none⟩), .int .i64 x8] n0 H0 (fun v n H => ∃ (F : Heap) (ra1 : Option Addr) (rcap2 : Nat), Ext n0 F0 n F ∧ St lo n H F ∧ H p0 = some (.row ez0 [.slice ra1 res.1.code.length rcap2, .int .i64 res.1.at_, .int .i64 res.1.seed]) ∧ v = .int .i64 res.2 ∧ SR F (.slice ra1 res.1.code.length rcap2) res.1.code) := by
  refine C.body Try.func74 rfl rfl ?_
  unfold f_spec_l00Src_next at hr
  have hS0 : St lo n0 H0 F0 := hS
  have hE0 := Ext.refl n0 F0
  have hlo0 := hS0.lo
  have lt0 := hS0.lt ho5
  with_reducible refine W.seq ?_
  with_reducible refine W.region ?_
  refine WL.assign .nil rfl rfl rfl rfl ?_
  with_reducible refine WL.nil ?_
  with_reducible refine Ex.thn_norm ?_
  with_reducible refine W.seq ?_
  with_reducible refine W.seq ?_
  with_reducible refine W.region ?_
  refine WL.move .nil rfl rfl rfl rfl ?_
  refine WL.bin .nil rfl rfl rfl rfl rfl rfl ?_
  with_reducible refine WL.nil ?_
  with_reducible refine Ex.thn_norm ?_
  refine W.condD rfl (fun hc10 => ?_) (fun hc10 => ?_)
  · replace hr := ite_pos hr hc10
    with_reducible refine W.seq ?_
    with_reducible refine W.region ?_
    refine WL.assign .nil rfl rfl rfl rfl ?_
    with_reducible refine WL.nil ?_
    with_reducible refine Ex.thn_norm ?_
    with_reducible refine W.ret ?_
    with_reducible refine Ex.thn_ret ?_
    obtain rfl := Option.some.inj hr
    exact ⟨.inr rfl, _, (.cons (.tmp rfl) .nil), ⟨F0, a2, cap3, (hE0.up (by omega)), hS0, ho5, rfl, h4⟩⟩
  · replace hr := ite_neg hr hc10
    with_reducible refine W.skip ?_
    with_reducible refine Ex.thn_norm ?_
    with_reducible refine W.seq ?_
    with_reducible refine W.seq ?_
    with_reducible refine W.region ?_
    refine WL.move .nil rfl rfl rfl rfl ?_
    refine WL.bin .nil rfl rfl rfl rfl rfl rfl ?_
    with_reducible refine WL.nil ?_
    with_reducible refine Ex.thn_norm ?_
    refine W.condD rfl (fun hc35 => ?_) (fun hc35 => ?_)
    · replace hr := ite_pos hr hc35
      with_reducible refine W.seq ?_
      with_reducible refine W.region ?_
      refine WL.move .nil rfl rfl rfl rfl ?_
      obtain ⟨x36, hx36, hr⟩ := bnd_some hr
      refine GL.callIO g .nil (fun i => (F0 i).isSome = true ∨ i = p0) rfl rfl rfl rfl rfl rfl Try.func113 rfl rfl (Nat.le_refl _) hS0.lo (f_spec_l00Src_byte_k (x1 := ({ code := x1.code, at_ := x1.at_, seed := x1.seed } : Gl00Src)) g (St.vis hS0 (fun i hi => .inl hi)) (vis_get ho5 (.inr (rfl))) fo6 lo7 h4 hx36) (fun v n37 H38 H39 hn40 hp41 hle42 hnew43 hk44 hd45 => ?_)
      obtain ⟨F50, a46, cap47, hX51, hS49, ho52, rfl, h48⟩ := hp41
      have hS53 : St lo n37 H38 _ := ⟨hS49.lo, fun i hi => (hnew43 i (by omega)).trans (hS49.hb i hi), hS49.fh.trans hle42⟩
      have fo54 := (hX51.eq _ (by have := lt0; omega)).trans fo6
      have hE55 := (hE0.up (n' := n0) (by omega)).trans hX51
      have ho56 := hle42 _ _ ho52
      have hlon37 := hS53.lo
      have lt57 := hS53.lt ho56
      refine WL.move .nil rfl rfl rfl rfl ?_
      obtain ⟨hc58, hr⟩ := chk_some hr
      refine WL.remI .nil rfl rfl rfl rfl rfl hc58.1 hc58.2 ?_
      refine WL.assign .nil rfl rfl rfl rfl ?_
      with_reducible refine WL.nil ?_
      with_reducible refine Ex.thn_norm ?_
      with_reducible refine W.ret ?_
      with_reducible refine Ex.thn_ret ?_
      obtain rfl := Option.some.inj hr
      exact ⟨.inr rfl, _, (.cons (.tmp rfl) .nil), ⟨F50, a46, cap47, (hE55.up (by omega)), hS53, ho56, rfl, h48⟩⟩
    · replace hr := ite_neg hr hc35
      with_reducible refine W.skip ?_
      with_reducible refine Ex.thn_norm ?_
      with_reducible refine W.seq ?_
      with_reducible refine W.region ?_
      refine WL.move .nil rfl rfl rfl rfl ?_
      obtain ⟨x59, hx59, hr⟩ := bnd_some hr
      refine GL.callIO g .nil (fun i => (F0 i).isSome = true ∨ i = p0) rfl rfl rfl rfl rfl rfl Try.func113 rfl rfl (Nat.le_refl _) hS0.lo (f_spec_l00Src_byte_k (x1 := ({ code := x1.code, at_ := x1.at_, seed := x1.seed } : Gl00Src)) g (St.vis hS0 (fun i hi => .inl hi)) (vis_get ho5 (.inr (rfl))) fo6 lo7 h4 hx59) (fun v n60 H61 H62 hn63 hp64 hle65 hnew66 hk67 hd68 => ?_)
      obtain ⟨F73, a69, cap70, hX74, hS72, ho75, rfl, h71⟩ := hp64
      have hS76 : St lo n60 H61 _ := ⟨hS72.lo, fun i hi => (hnew66 i (by omega)).trans (hS72.hb i hi), hS72.fh.trans hle65⟩
      have fo77 := (hX74.eq _ (by have := lt0; omega)).trans fo6
      have hE78 := (hE0.up (n' := n0) (by omega)).trans hX74
      have ho79 := hle65 _ _ ho75
      have hlon60 := hS76.lo
      have lt80 := hS76.lt ho79
      refine WL.assign .nil rfl rfl rfl rfl ?_
      with_reducible refine WL.nil ?_
      with_reducible refine Ex.thn_norm ?_
      with_reducible refine W.seq ?_
      with_reducible refine W.region ?_
      refine WL.move .nil rfl rfl rfl rfl ?_
      obtain ⟨x81, hx81, hr⟩ := bnd_some hr
      refine GL.callIO g .nil (fun i => (F73 i).isSome = true ∨ i = p0) rfl rfl rfl rfl rfl rfl Try.func113 rfl rfl (Nat.le_refl _) hS76.lo (f_spec_l00Src_byte_k (x1 := ({ code := x59.1.code, at_ := x59.1.at_, seed := x59.1.seed } : Gl00Src)) g (St.vis hS76 (fun i hi => .inl hi)) (vis_get ho79 (.inr (rfl))) fo77 lo7 h71 hx81) (fun v n82 H83 H84 hn85 hp86 hle87 hnew88 hk89 hd90 => ?_)
      obtain ⟨F95, a91, cap92, hX96, hS94, ho97, rfl, h93⟩ := hp86
      have hS98 : St lo n82 H83 _ := ⟨hS94.lo, fun i hi => (hnew88 i (by omega)).trans (hS94.hb i hi), hS94.fh.trans hle87⟩
      have fo99 := (hX96.eq _ (by have := lt80; omega)).trans fo77
      have hE100 := (hE78.up (n' := n60) (by omega)).trans hX96
      have ho101 := hle87 _ _ ho97
      have hlon82 := hS98.lo
      have lt102 := hS98.lt ho101
      refine WL.assign .nil rfl rfl rfl rfl ?_
      with_reducible refine WL.nil ?_
      with_reducible refine Ex.thn_norm ?_
      with_reducible refine W.seq ?_
      with_reducible refine W.region ?_
      refine WL.move .nil rfl rfl rfl rfl ?_
      obtain ⟨x103, hx103, hr⟩ := bnd_some hr
      refine GL.callIO g .nil (fun i => (F95 i).isSome = true ∨ i = p0) rfl rfl rfl rfl rfl rfl Try.func113 rfl rfl (Nat.le_refl _) hS98.lo (f_spec_l00Src_byte_k (x1 := ({ code := x81.1.code, at_ := x81.1.at_, seed := x81.1.seed } : Gl00Src)) g (St.vis hS98 (fun i hi => .inl hi)) (vis_get ho101 (.inr (rfl))) fo99 lo7 h93 hx103) (fun v n104 H105 H106 hn107 hp108 hle109 hnew110 hk111 hd112 => ?_)
      obtain ⟨F117, a113, cap114, hX118, hS116, ho119, rfl, h115⟩ := hp108
      have hS120 : St lo n104 H105 _ := ⟨hS116.lo, fun i hi => (hnew110 i (by omega)).trans (hS116.hb i hi), hS116.fh.trans hle109⟩
      have fo121 := (hX118.eq _ (by have := lt102; omega)).trans fo99
      have hE122 := (hE100.up (n' := n82) (by omega)).trans hX118
      have ho123 := hle109 _ _ ho119
      have hlon104 := hS120.lo
      have lt124 := hS120.lt ho123
      refine WL.assign .nil rfl rfl rfl rfl ?_
      with_reducible refine WL.nil ?_
      with_reducible refine Ex.thn_norm ?_
      with_reducible refine W.seq ?_
      with_reducible refine W.region ?_
      refine WL.move .nil rfl rfl rfl rfl ?_
      obtain ⟨hc125, hr⟩ := chk_some hr
      refine WL.mulI .nil rfl rfl rfl rfl rfl hc125.1 hc125.2 ?_
      refine WL.move .nil rfl rfl rfl rfl ?_
      obtain ⟨hc126, hr⟩ := chk_some hr
      refine WL.mulI .nil rfl rfl rfl rfl rfl hc126.1 hc126.2 ?_
      obtain ⟨hc127, hr⟩ := chk_some hr
      refine WL.addI .nil rfl rfl rfl rfl rfl hc127.1 hc127.2 ?_
      refine WL.move .nil rfl rfl rfl rfl ?_
      obtain ⟨hc128, hr⟩ := chk_some hr
      refine WL.addI .nil rfl rfl rfl rfl rfl hc128.1 hc128.2 ?_
      refine WL.move .nil rfl rfl rfl rfl ?_
      obtain ⟨hc129, hr⟩ := chk_some hr
      refine WL.remI .nil rfl rfl rfl rfl rfl hc129.1 hc129.2 ?_
      refine WL.assign .nil rfl rfl rfl rfl ?_
      with_reducible refine WL.nil ?_
      with_reducible refine Ex.thn_norm ?_
      with_reducible refine W.ret ?_
      obtain rfl := Option.some.inj hr
      exact ⟨.inr rfl, _, (.cons (.tmp rfl) .nil), ⟨F117, a113, cap114, (hE122.up (by omega)), hS120, ho123, rfl, h115⟩⟩
theorem f_spec_l00Src_size_k {Δ : Prims} (g : Env Try.prog Δ) {lo n0 : Nat} {H0 F0 : Heap} (hS : St lo n0 H0 F0) {p0 : Nat} {x1 : Gl00Src} {ez0 : Nat} {a2 : Option Addr} {cap3 : Nat} {x8 : Int} (ho5 : H0 p0 = some (.row ez0 [.slice a2 x1.code.length cap3, .int .i64 x1.at_, .int .i64 x1.seed])) (fo6 : F0 p0 = none) (h4 : SR F0 (.slice a2 x1.code.length cap3) x1.code) {res : (Int)} (hr : f_spec_l00Src_size x1 x8 = some res) :
    C Try.prog Δ n0 75 [.pointer (some ⟨p0, 0, none⟩), .int .i64 x8] n0 H0 (fun v n H => St n0 n H F0 ∧ v = .int .i64 res) := by
  refine C.body Try.func75 rfl rfl ?_
  unfold f_spec_l00Src_size at hr
  have hS0 : St n0 n0 H0 F0 := hS.low (Nat.le_refl _)
  have hE0 := Ext.refl n0 F0
  have hlo0 := hS0.lo
  have lt0 := hS0.lt ho5
  with_reducible refine W.seq ?_
  with_reducible refine W.region ?_
  refine WL.assign .nil rfl rfl rfl rfl ?_
  with_reducible refine WL.nil ?_
  with_reducible refine Ex.thn_norm ?_
  with_reducible refine W.seq ?_
  with_reducible refine W.region ?_
  refine WL.move .nil rfl rfl rfl rfl ?_
  refine WL.nilCheck .nil rfl rfl rfl rfl ?_
  refine WL.fieldAddr .nil rfl rfl rfl Try.underlying107 rfl info24 rfl rfl ?_
  refine WL.load1 .nil rfl rfl rfl Try.underlying24 rfl rfl ho5 rfl ?_
  refine WL.len .nil rfl rfl rfl Try.underlying24 rfl ?_
  obtain ⟨hc9, hr⟩ := chk_some hr
  refine WL.quoI .nil rfl rfl rfl rfl rfl hc9.1 hc9.2.1 hc9.2.2 ?_
  obtain ⟨hc10, hr⟩ := chk_some hr
  refine WL.addI .nil rfl rfl rfl rfl rfl hc10.1 hc10.2 ?_
  refine WL.move .nil rfl rfl rfl rfl ?_
  refine WL.min2 .nil rfl rfl rfl rfl rfl ?_
  refine WL.assign .nil rfl rfl rfl rfl ?_
  with_reducible refine WL.nil ?_
  with_reducible refine Ex.thn_norm ?_
  with_reducible refine W.ret ?_
  obtain rfl := Option.some.inj hr
  exact ⟨.inr rfl, _, (.cons (.tmp rfl) .nil), ⟨(Ext.st hE0 hS0), rfl⟩⟩
theorem f_spec_l00Src_bytes_k {Δ : Prims} (g : Env Try.prog Δ) {lo n0 : Nat} {H0 F0 : Heap} (hS : St lo n0 H0 F0) {p0 : Nat} {x1 : Gl00Src} {ez0 : Nat} {a2 : Option Addr} {cap3 : Nat} {x8 : Int} (ho5 : H0 p0 = some (.row ez0 [.slice a2 x1.code.length cap3, .int .i64 x1.at_, .int .i64 x1.seed])) (fo6 : F0 p0 = none) (lo7 : lo ≤ p0) (h4 : SR F0 (.slice a2 x1.code.length cap3) x1.code) {res : (Gl00Src × (List UInt8))} (hr : f_spec_l00Src_bytes x1 x8 = some res) :
    C Try.prog Δ lo 76 [.pointer (some ⟨p0, 0, none⟩), .int .i64 x8] n0 H0 (fun v n H => ∃ (F : Heap) (ra1 : Option Addr) (rcap2 : Nat) (ra4 : Option Addr) (rcap5 : Nat), Ext n0 F0 n F ∧ St lo n H F ∧ H p0 = some (.row ez0 [.slice ra1 res.1.code.length rcap2, .int .i64 res.1.at_, .int .i64 res.1.seed]) ∧ v = .slice ra4 res.2.length rcap5 ∧ SR F (.slice ra1 res.1.code.length rcap2) res.1.code ∧ OW n0 n H F (.slice ra4 res.2.length rcap5) res.2) := by
  refine C.body Try.func76 rfl rfl ?_
  unfold f_spec_l00Src_bytes at hr
  have hS0 : St lo n0 H0 F0 := hS
  have hE0 := Ext.refl n0 F0
  have hlo0 := hS0.lo
  have lt0 := hS0.lt ho5
  with_reducible refine W.seq ?_
  with_reducible refine W.region ?_
  refine WL.assign .nil rfl rfl rfl rfl ?_
  with_reducible refine WL.nil ?_
  with_reducible refine Ex.thn_norm ?_
  with_reducible refine W.seq ?_
  with_reducible refine W.region ?_
  refine GL.lit (cs := []) (xs := ([] : List UInt8)) hS0 .nil rfl rfl rfl Try.underlying24 info5 rfl rfl rfl (by decide) (by decide) rfl rfl rfl rfl rfl RA.nil rfl (fun H9 hS10 hO11 hk12 => ?_)
  have ho13 := (hk12 _ (by have := lt0; omega)).trans ho5
  have h14 := OW.lower (lo' := n0) hO11 (by omega)
  have hlon01 := hS10.lo
  have ap16 : idOf (.slice (some ⟨n0, 0, none⟩) ([] : List UInt8).length 0) ≠ some p0 := fun hj => by have := (OW.id_lt hO11 hj).1; have := lt0; omega
  refine WL.assign .nil rfl rfl rfl rfl ?_
  with_reducible refine WL.nil ?_
  with_reducible refine Ex.thn_norm ?_
  with_reducible refine W.seq ?_
  with_reducible refine W.seq ?_
  with_reducible refine W.region ?_
  refine WL.move .nil rfl rfl rfl rfl ?_
  refine WL.move .nil rfl rfl rfl rfl ?_
  obtain ⟨hc17, hr⟩ := chk_some hr
  refine WL.addI .nil rfl rfl rfl rfl rfl hc17.1 hc17.2 ?_
  obtain ⟨x18, hx18, hr⟩ := bnd_some hr
  have hb28 := fun b hb => (OW.id_lt (i := b) h14 hb).2
  refine GL.callIO g .nil (fun i => (F0 i).isSome = true ∨ i = p0) rfl rfl rfl rfl rfl rfl Try.func74 rfl rfl (Nat.le_refl _) hS10.lo (f_spec_l00Src_next_k (x1 := ({ code := x1.code, at_ := x1.at_, seed := x1.seed } : Gl00Src)) g (St.vis hS10 (fun i hi => .inl hi)) (vis_get ho13 (.inr (rfl))) fo6 lo7 h4 hx18) (fun v n19 H20 H21 hn22 hp23 hle24 hnew25 hk26 hd27 => ?_)
  obtain ⟨F33, a29, cap30, hX34, hS32, ho35, rfl, h31⟩ := hp23
  have hS36 : St lo n19 H20 _ := ⟨hS32.lo, fun i hi => (hnew25 i (by omega)).trans (hS32.hb i hi), hS32.fh.trans hle24⟩
  have h37 := OW.keep (n' := n19) h14 (by omega) (fun i hi => hk26 i (OW.id_lt h14 hi).2 (fun hs => by
      rcases hs with h | h
      · rw [(OW.fnone h14 hi)] at h; cases h
      · exact ap16 (h ▸ hi)))
  have fo38 := (hX34.eq _ (by have := lt0; omega)).trans fo6
  have h39 := OW.keepF h37 hX34.sub (fun i hi => (hX34.eq i (by have := hb28 i hi; omega)).trans (OW.fnone h37 hi))
  have hE40 := (hE0.up (n' := (n0 + 1)) (by omega)).trans hX34
  have ho41 := hle24 _ _ ho35
  have hlon19 := hS36.lo
  have lt42 := hS36.lt ho41
  refine WL.assign .nil rfl rfl rfl rfl ?_
  with_reducible refine WL.nil ?_
  with_reducible refine Ex.thn_norm ?_
  with_reducible refine W.block ?_
  refine W.loopF (fun k0 fr n H => ∃ (a298 : Option Addr) (cap299 : Nat) (xs300 : (List UInt8)) (x303 : Int) (a304 : Option Addr) (cap305 : Nat) (xs306 : (List UInt8)) (x308 : Int) (x309 : Int) (F : Heap), fr = [(0, .pointer (some ⟨p0, 0, none⟩)), (5, .slice a298 xs300.length cap299), (6, .int .i64 x303)] ∧ St lo n H F ∧ Ext n0 F0 n F ∧ H p0 = some (.row ez0 [.slice a304 xs306.length cap305, .int .i64 x308, .int .i64 x309]) ∧ F p0 = none ∧ OW n0 n H F (.slice a298 xs300.length cap299) xs300 ∧ SR F (.slice a304 xs306.length cap305) xs306 ∧ idOf (.slice a298 xs300.length cap299) ≠ some p0 ∧ f_spec_l00Src_bytes_L0 k0 xs300 x303 xs306 x308 x309 = some res) BIG (fr0 := [(0, .pointer (some ⟨p0, 0, none⟩)), (5, .slice (some ⟨n0, 0, none⟩) ([] : List UInt8).length 0), (6, .int .i64 x18.2)]) (Fr.le_cons rfl (Fr.le_cons rfl (Fr.le_cons rfl Fr.le_nil))) ?_ ?_ ?_
  · exact ⟨(some ⟨n0, 0, none⟩), 0, ([] : List UInt8), x18.2, a29, cap30, x18.1.code, x18.1.at_, x18.1.seed, F33, rfl, hS36, hE40, ho41, fo38, h39, h31, ap16, hr⟩
  · intro fr n H hI
    obtain ⟨a298, cap299, xs300, x303, a304, cap305, xs306, x308, x309, F295, hfr, hS296, hE297, ho310, fo311, h301, h307, ap312, hr⟩ := hI
    rw [f_spec_l00Src_bytes_L0] at hr
    cases hr
  · intro k0 _ n293 H294 hI
    obtain ⟨a298, cap299, xs300, x303, a304, cap305, xs306, x308, x309, F295, rfl, hS296, hE297, ho310, fo311, h301, h307, ap312, hr⟩ := hI
    have lt313 := hS296.lt ho310
    have hlen293 := hE297.le
    have hlon293 := hS296.lo
    rw [f_spec_l00Src_bytes_L0] at hr
    with_reducible refine W.seq ?_
    with_reducible refine W.seq ?_
    with_reducible refine W.region ?_
    refine WL.move .nil rfl rfl rfl rfl ?_
    refine WL.bin .nil rfl rfl rfl rfl rfl rfl ?_
    with_reducible refine WL.nil ?_
    with_reducible refine Ex.thn_norm ?_
    refine W.condD rfl (fun hc315 => ?_) (fun hc315 => ?_)
    · replace hr := ite_pos hr hc315
      with_reducible refine W.skip ?_
      with_reducible refine Ex.thn_norm ?_
      with_reducible refine W.seq ?_
      with_reducible refine W.block ?_
      with_reducible refine W.region ?_
      refine WL.move .nil rfl rfl rfl rfl ?_
      refine WL.move .nil rfl rfl rfl rfl ?_
      obtain ⟨x369, hx369, hr⟩ := bnd_some hr
      have hb379 := fun b hb => (OW.id_lt (i := b) h301 hb).2
      refine GL.callIO g .nil (fun i => (F295 i).isSome = true ∨ i = p0) rfl rfl rfl rfl rfl rfl Try.func74 rfl rfl (Nat.le_refl _) hS296.lo (f_spec_l00Src_next_k (x1 := ({ code := xs306, at_ := x308, seed := x309 } : Gl00Src)) g (St.vis hS296 (fun i hi => .inl hi)) (vis_get ho310 (.inr (rfl))) fo311 lo7 h307 hx369) (fun v n370 H371 H372 hn373 hp374 hle375 hnew376 hk377 hd378 => ?_)
      obtain ⟨F384, a380, cap381, hX385, hS383, ho386, rfl, h382⟩ := hp374
      have hS387 : St lo n370 H371 _ := ⟨hS383.lo, fun i hi => (hnew376 i (by omega)).trans (hS383.hb i hi), hS383.fh.trans hle375⟩
      have h388 := OW.keep (n' := n370) h301 (by omega) (fun i hi => hk377 i (OW.id_lt h301 hi).2 (fun hs => by
      rcases hs with h | h
      · rw [(OW.fnone h301 hi)] at h; cases h
      · exact ap312 (h ▸ hi)))
      have fo389 := (hX385.eq _ (by have := lt313; omega)).trans fo311
      have h390 := OW.keepF h388 hX385.sub (fun i hi => (hX385.eq i (by have := hb379 i hi; omega)).trans (OW.fnone h388 hi))
      have hE391 := (hE297.up (n' := n293) (by omega)).trans hX385
      have ho392 := hle375 _ _ ho386
      have hlon370 := hS387.lo
      have lt393 := hS387.lt ho392
      refine WL.convB .nil rfl rfl rfl Try.underlying3 Try.underlying5 rfl ?_
      have hb398 := fun b hb => (OW.id_lt (i := b) h390 hb).2
      refine GL.lit (cs := [u8 (byteOf x369.2)]) (xs := ([(byteOf x369.2)] : List UInt8)) hS387 .nil rfl rfl rfl Try.underlying24 info5 rfl rfl rfl (by decide) (by decide) rfl rfl rfl rfl rfl (RA.cons (cs := [u8 (byteOf x369.2)]) (a := ((byteOf x369.2) : UInt8)) rfl RA.nil) rfl (fun H394 hS395 hO396 hk397 => ?_)
      have ho399 := (hk397 _ (by have := lt393; omega)).trans ho392
      have h400 := OW.keep (n' := (n370 + 1)) h390 (by omega) (fun i hi => hk397 i (OW.id_lt h390 hi).2)
      have h401 := OW.lower (lo' := n0) hO396 (by omega)
      have hlon3701 := hS395.lo
      have ap403 : idOf (.slice (some ⟨n370, 0, none⟩) ([(byteOf x369.2)] : List UInt8).length 1) ≠ some p0 := fun hj => by have := (OW.id_lt hO396 hj).1; have := lt393; omega
      have ap404 : ∀ b, idOf (.slice (some ⟨n370, 0, none⟩) ([(byteOf x369.2)] : List UInt8).length 1) = some b → idOf (.slice a298 xs300.length cap299) ≠ some b := fun b hj hi => by have := (OW.id_lt hO396 hj).1; have := hb398 b hi; omega
      obtain ⟨hc405, hr⟩ := chk_some hr
      have hb415 := fun b hb => (OW.id_lt (i := b) h400 hb).2
      have hb416 := fun b hb => (OW.id_lt (i := b) h401 hb).2
      refine GL.append (α := UInt8) hS395 .nil rfl rfl rfl Try.underlying24 Try.underlying24 rfl info5 rfl rfl rfl (by decide) rfl rfl h400 (by omega) (by omega) (OW.src h401) hc405 (fun a406 cap407 n408 H409 hS410 hn411 hO412 hk413 hid414 => ?_)
      have ho417 := (hk413 _ (by have := lt393; omega) ap312).trans ho399
      have h418 := OW.keep h401 hn411 (fun i hi => hk413 i (OW.id_lt h401 hi).2 (fun hj => (fun b h1 h2 => ap404 b h2 h1) _ hj hi))
      have ap420 : idOf (.slice a406 (xs300 ++ ([(byteOf x369.2)] : List UInt8)).length cap407) ≠ some p0 := fun hj => (hid414 _ hj).elim (fun h => by have := lt393; omega) ap312
      have ap421 : ∀ b, idOf (.slice a406 (xs300 ++ ([(byteOf x369.2)] : List UInt8)).length cap407) = some b → idOf (.slice (some ⟨n370, 0, none⟩) ([(byteOf x369.2)] : List UInt8).length 1) ≠ some b := fun b hj hi => (hid414 _ hj).elim (fun h => by have := hb416 b hi; omega) (fun h => (fun b h1 h2 => ap404 b h2 h1) _ h hi)
      have hlon408 := hS410.lo
      refine WL.assign .nil rfl rfl rfl rfl ?_
      with_reducible refine WL.nil ?_
      with_reducible refine Ex.blk_norm ?_
      with_reducible refine Ex.thn_norm ?_
      with_reducible refine W.region ?_
      refine WL.move .nil rfl rfl rfl rfl ?_
      obtain ⟨hc422, hr⟩ := chk_some hr
      refine WL.subI .nil rfl rfl rfl rfl rfl hc422.1 hc422.2 ?_
      refine WL.assign .nil rfl rfl rfl rfl ?_
      with_reducible refine WL.nil ?_
      with_reducible refine Ex.thn_norm ?_
      exact ⟨[(0, .pointer (some ⟨p0, 0, none⟩)), (5, .slice a406 (xs300 ++ ([(byteOf x369.2)] : List UInt8)).length cap407), (6, .int .i64 (x303 - 1))], (Fr.le_cons rfl (Fr.le_cons rfl (Fr.le_cons rfl Fr.le_nil))), a406, cap407, (xs300 ++ ([(byteOf x369.2)] : List UInt8)), (x303 - 1), a380, cap381, x369.1.code, x369.1.at_, x369.1.seed, F384, rfl, hS410, (hE391.up (by omega)), ho417, fo389, hO412, h382, ap420, hr⟩
    · replace hr := ite_neg hr hc315
      with_reducible refine W.exit ?_
      with_reducible refine Ex.thn_ex ?_
      with_reducible refine Ex.thn_ex ?_
      with_reducible refine Ex.blk_here ?_
      with_reducible refine Ex.thn_norm ?_
      with_reducible refine W.seq ?_
      with_reducible refine W.region ?_
      refine WL.move .nil rfl rfl rfl rfl ?_
      refine WL.assign .nil rfl rfl rfl rfl ?_
      with_reducible refine WL.nil ?_
      with_reducible refine Ex.thn_norm ?_
      with_reducible refine W.ret ?_
      obtain rfl := Option.some.inj hr
      exact ⟨.inr rfl, _, (.cons (.tmp rfl) .nil), ⟨F295, a304, cap305, a298, cap299, (hE297.up (by omega)), hS296, ho310, rfl, h307, h301⟩⟩
theorem f_spec_l00Src_wal_k {Δ : Prims} (g : Env Try.prog Δ) {lo n0 : Nat} {H0 F0 : Heap} (hS : St lo n0 H0 F0) {p0 : Nat} {x1 : Gl00Src} {ez0 : Nat} {a2 : Option Addr} {cap3 : Nat} (ho5 : H0 p0 = some (.row ez0 [.slice a2 x1.code.length cap3, .int .i64 x1.at_, .int .i64 x1.seed])) (fo6 : F0 p0 = none) (lo7 : lo ≤ p0) (h4 : SR F0 (.slice a2 x1.code.length cap3) x1.code) {res : (Gl00Src × GWal)} (hr : f_spec_l00Src_wal x1 = some res) :
    C Try.prog Δ lo 40 [.pointer (some ⟨p0, 0, none⟩)] n0 H0 (fun v n H => ∃ (F : Heap) (ra1 : Option Addr) (rcap2 : Nat) (ra4 : Option Addr) (rcap5 : Nat), Ext n0 F0 n F ∧ St lo n H F ∧ H p0 = some (.row ez0 [.slice ra1 res.1.code.length rcap2, .int .i64 res.1.at_, .int .i64 res.1.seed]) ∧ v = .agg [.int .i64 res.2.Term, .int .i64 res.2.Vote, .int .i64 res.2.Base, .int .i64 res.2.BaseTerm, .slice ra4 res.2.Log.length rcap5, .int .i64 res.2.Good].toArray ∧ SR F (.slice ra1 res.1.code.length rcap2) res.1.code ∧ SR F (.slice ra4 res.2.Log.length rcap5) res.2.Log) := by
  refine C.body Try.func40 rfl rfl ?_
  unfold f_spec_l00Src_wal at hr
  have hS0 : St lo n0 H0 F0 := hS
  have hE0 := Ext.refl n0 F0
  have hlo0 := hS0.lo
  have lt0 := hS0.lt ho5
  with_reducible refine W.seq ?_
  with_reducible refine W.region ?_
  refine GL.alloc hS0 .nil (zc := [.int .i64 0, .int .i64 0, .int .i64 0, .int .i64 0, .slice none 0 0, .int .i64 0]) rfl rfl rfl info40 rfl rfl rfl (fun H8 hS9 ho10 hk11 => ?_)
  have fo12 := hS0.fnone (Nat.le_refl _)
  have ho14 := (hk11 _ (by have := lt0; omega)).trans ho5
  have hlon01 := hS9.lo
  have lt13 : n0 < (n0 + 1) := by omega
  with_reducible refine WL.nil ?_
  with_reducible refine Ex.thn_norm ?_
  with_reducible refine W.seq ?_
  with_reducible refine W.region ?_
  refine WL.move .nil rfl rfl rfl rfl ?_
  obtain ⟨x15, hx15, hr⟩ := bnd_some hr
  refine GL.callIO g .nil (fun i => (F0 i).isSome = true ∨ i = p0) rfl rfl rfl rfl rfl rfl Try.func74 rfl rfl (Nat.le_refl _) hS9.lo (f_spec_l00Src_next_k (x1 := ({ code := x1.code, at_ := x1.at_, seed := x1.seed } : Gl00Src)) g (St.vis hS9 (fun i hi => .inl hi)) (vis_get ho14 (.inr (rfl))) fo6 lo7 h4 hx15) (fun v n16 H17 H18 hn19 hp20 hle21 hnew22 hk23 hd24 => ?_)
  obtain ⟨F29, a25, cap26, hX30, hS28, ho31, rfl, h27⟩ := hp20
  have hS32 : St lo n16 H17 _ := ⟨hS28.lo, fun i hi => (hnew22 i (by omega)).trans (hS28.hb i hi), hS28.fh.trans hle21⟩
  have ho33 := (hk23 _ (by have := lt13; omega) (fun hs => by
      rcases hs with h | h
      · rw [fo12] at h; cases h
      · omega)).trans ho10
  have fo34 := (hX30.eq _ (by have := lt0; omega)).trans fo6
  have fo35 := (hX30.eq _ (by have := lt13; omega)).trans fo12
  have hE36 := (hE0.up (n' := (n0 + 1)) (by omega)).trans hX30
  have ho37 := hle21 _ _ ho31
  have hlon16 := hS32.lo
  have lt38 := hS32.lt ho37
  have lt39 := hS32.lt ho33
  refine WL.move .nil rfl rfl rfl rfl ?_
  obtain ⟨x40, hx40, hr⟩ := bnd_some hr
  refine GL.callIO g .nil (fun i => (F29 i).isSome = true ∨ i = p0) rfl rfl rfl rfl rfl rfl Try.func74 rfl rfl (Nat.le_refl _) hS32.lo (f_spec_l00Src_next_k (x1 := ({ code := x15.1.code, at_ := x15.1.at_, seed := x15.1.seed } : Gl00Src)) g (St.vis hS32 (fun i hi => .inl hi)) (vis_get ho37 (.inr (rfl))) fo34 lo7 h27 hx40) (fun v n41 H42 H43 hn44 hp45 hle46 hnew47 hk48 hd49 => ?_)
  obtain ⟨F54, a50, cap51, hX55, hS53, ho56, rfl, h52⟩ := hp45
  have hS57 : St lo n41 H42 _ := ⟨hS53.lo, fun i hi => (hnew47 i (by omega)).trans (hS53.hb i hi), hS53.fh.trans hle46⟩
  have ho58 := (hk48 _ (by have := lt39; omega) (fun hs => by
      rcases hs with h | h
      · rw [fo35] at h; cases h
      · omega)).trans ho33
  have fo59 := (hX55.eq _ (by have := lt38; omega)).trans fo34
  have fo60 := (hX55.eq _ (by have := lt39; omega)).trans fo35
  have hE61 := (hE36.up (n' := n16) (by omega)).trans hX55
  have ho62 := hle46 _ _ ho56
  have hlon41 := hS57.lo
  have lt63 := hS57.lt ho62
  have lt64 := hS57.lt ho58
  refine WL.buildL .nil (cells := [.int .i64 x15.2, .int .i64 x40.2, .int .i64 0, .int .i64 0, .slice none 0 0, .int .i64 0]) rfl rfl rfl Try.underlying40 info40 rfl rfl rfl (by simp only [List.mapM_cons, List.mapM_nil, info3, info3, info3, info3, info30, info3]; rfl) rfl (by first | rfl | ((conv => lhs; simp [splice, fillL, cells_int, cells_bool, cells_string, cells_str, cells_slice, cells_ptr, cells_map, cells_func, cells_nilFunc, cells_nilIface, cells_iface, cells_agg, cells_u8]) <;> rfl)) ?_
  refine GL.alloc hS57 .nil (zc := [.int .i64 0, .int .i64 0, .int .i64 0, .int .i64 0, .slice none 0 0, .int .i64 0]) rfl rfl rfl info40 rfl rfl rfl (fun H65 hS66 ho67 hk68 => ?_)
  have fo69 := hS57.fnone (Nat.le_refl _)
  have ho71 := (hk68 _ (by have := lt63; omega)).trans ho62
  have ho72 := (hk68 _ (by have := lt64; omega)).trans ho58
  have hlon411 := hS66.lo
  have lt70 : n41 < (n41 + 1) := by omega
  refine GL.store hS66 .nil (vc := [.int .i64 x15.2, .int .i64 x40.2, .int .i64 0, .int .i64 0, .slice none 0 0, .int .i64 0]) (c' := [.int .i64 x15.2, .int .i64 x40.2, .int .i64 0, .int .i64 0, .slice none 0 0, .int .i64 0]) rfl rfl rfl info40 rfl rfl rfl rfl ho67 fo69 (Nat.le_of_ble_eq_true rfl) (by omega) (by repeat' (first | exact List.forall_mem_nil _ | refine List.forall_mem_cons.2 ⟨?_, ?_⟩ | rfl)) rfl (fun H73 hS74 ho75 hk76 => ?_)
  have ho77 := (hk76 _ (by omega)).trans ho71
  have ho78 := (hk76 _ (by omega)).trans ho72
  with_reducible refine WL.nil ?_
  with_reducible refine Ex.thn_norm ?_
  with_reducible refine W.seq ?_
  with_reducible refine W.seq ?_
  with_reducible refine W.region ?_
  refine WL.move .nil rfl rfl rfl rfl ?_
  refine WL.move .nil rfl rfl rfl rfl ?_
  obtain ⟨x79, hx79, hr⟩ := bnd_some hr
  refine GL.callP g.good .nil rfl rfl rfl rfl rfl rfl Try.func75 rfl rfl hS74.lo (f_spec_l00Src_size_k (x1 := ({ code := x40.1.code, at_ := x40.1.at_, seed := x40.1.seed } : Gl00Src)) g hS74 ho77 fo59 h52 hx79) (fun v n80 H81 hn82 hk83 hp84 => ?_)
  obtain ⟨hS85, rfl⟩ := hp84
  have ho86 := (hk83 _ (by have := lt63; omega)).trans ho77
  have ho87 := (hk83 _ (by have := lt64; omega)).trans ho78
  have ho88 := (hk83 _ (by have := lt70; omega)).trans ho75
  have hS89 : St lo n80 H81 F54 := ⟨by have := hS74.lo; omega, hS85.hb, hS85.fh⟩
  have hlon80 := hS89.lo
  obtain ⟨hc90, hr⟩ := chk_some hr
  refine WL.addI .nil rfl rfl rfl rfl rfl hc90.1 hc90.2 ?_
  obtain ⟨x91, hx91, hr⟩ := bnd_some hr
  refine GL.callIO g .nil (fun i => (F54 i).isSome = true ∨ i = p0) rfl rfl rfl rfl rfl rfl Try.func74 rfl rfl (Nat.le_refl _) hS89.lo (f_spec_l00Src_next_k (x1 := ({ code := x40.1.code, at_ := x40.1.at_, seed := x40.1.seed } : Gl00Src)) g (St.vis hS89 (fun i hi => .inl hi)) (vis_get ho86 (.inr (rfl))) fo59 lo7 h52 hx91) (fun v n92 H93 H94 hn95 hp96 hle97 hnew98 hk99 hd100 => ?_)
  obtain ⟨F105, a101, cap102, hX106, hS104, ho107, rfl, h103⟩ := hp96
  have hS108 : St lo n92 H93 _ := ⟨hS104.lo, fun i hi => (hnew98 i (by omega)).trans (hS104.hb i hi), hS104.fh.trans hle97⟩
  have ho109 := (hk99 _ (by have := lt64; omega) (fun hs => by
      rcases hs with h | h
      · rw [fo60] at h; cases h
      · omega)).trans ho87
  have ho110 := (hk99 _ (by have := lt70; omega) (fun hs => by
      rcases hs with h | h
      · rw [fo69] at h; cases h
      · omega)).trans ho88
  have fo111 := (hX106.eq _ (by have := lt63; omega)).trans fo59
  have fo112 := (hX106.eq _ (by have := lt64; omega)).trans fo60
  have fo113 := (hX106.eq _ (by have := lt70; omega)).trans fo69
  have hE114 := (hE61.up (n' := n80) (by omega)).trans hX106
  have ho115 := hle97 _ _ ho107
  have hlon92 := hS108.lo
  have lt116 := hS108.lt ho115
  have lt117 := hS108.lt ho109
  have lt118 := hS108.lt ho110
  refine WL.assign .nil rfl rfl rfl rfl ?_
  with_reducible refine WL.nil ?_
  with_reducible refine Ex.thn_norm ?_
  with_reducible refine W.block ?_
  refine W.loopF (fun k0 fr n H => ∃ (x1478 : Int) (a1481 : Option Addr) (cap1482 : Nat) (xs1483 : (List GRec)) (a1488 : Option Addr) (cap1489 : Nat) (xs1490 : (List UInt8)) (x1492 : Int) (x1493 : Int) (F : Heap), fr = [(0, .pointer (some ⟨p0, 0, none⟩)), (2, .pointer (some ⟨n0, 0, none⟩)), (3, .pointer (some ⟨n41, 0, none⟩)), (4, .int .i64 x1478)] ∧ St lo n H F ∧ Ext n0 F0 n F ∧ H n0 = some (.row 1 [.int .i64 0, .int .i64 0, .int .i64 0, .int .i64 0, .slice none 0 0, .int .i64 0]) ∧ F n0 = none ∧ H n41 = some (.row 1 [.int .i64 x15.2, .int .i64 x40.2, .int .i64 0, .int .i64 0, .slice a1481 xs1483.length cap1482, .int .i64 0]) ∧ F n41 = none ∧ H p0 = some (.row ez0 [.slice a1488 xs1490.length cap1489, .int .i64 x1492, .int .i64 x1493]) ∧ F p0 = none ∧ OW n0 n H F (.slice a1481 xs1483.length cap1482) xs1483 ∧ SR F (.slice a1488 xs1490.length cap1489) xs1490 ∧ idOf (.slice a1481 xs1483.length cap1482) ≠ some n0 ∧ idOf (.slice a1481 xs1483.length cap1482) ≠ some n41 ∧ idOf (.slice a1481 xs1483.length cap1482) ≠ some p0 ∧ f_spec_l00Src_wal_L0 x15 x40 k0 x1478 xs1483 xs1490 x1492 x1493 = some res) BIG (fr0 := [(0, .pointer (some ⟨p0, 0, none⟩)), (2, .pointer (some ⟨n0, 0, none⟩)), (3, .pointer (some ⟨n41, 0, none⟩)), (4, .int .i64 x91.2)]) (Fr.le_cons rfl (Fr.le_cons rfl (Fr.le_cons rfl (Fr.le_cons rfl Fr.le_nil)))) ?_ ?_ ?_
  · exact ⟨x91.2, none, 0, [], a101, cap102, x91.1.code, x91.1.at_, x91.1.seed, F105, rfl, hS108, hE114, ho109, fo112, ho110, fo113, ho115, fo111, OW.nil, h103, (fun h => by cases h), (fun h => by cases h), (fun h => by cases h), hr⟩
  · intro fr n H hI
    obtain ⟨x1478, a1481, cap1482, xs1483, a1488, cap1489, xs1490, x1492, x1493, F1475, hfr, hS1476, hE1477, ho1479, fo1480, ho1486, fo1487, ho1494, fo1495, h1484, h1491, ap1496, ap1497, ap1498, hr⟩ := hI
    rw [f_spec_l00Src_wal_L0] at hr
    cases hr
  · intro k0 _ n1473 H1474 hI
    obtain ⟨x1478, a1481, cap1482, xs1483, a1488, cap1489, xs1490, x1492, x1493, F1475, rfl, hS1476, hE1477, ho1479, fo1480, ho1486, fo1487, ho1494, fo1495, h1484, h1491, ap1496, ap1497, ap1498, hr⟩ := hI
    have lt1499 := hS1476.lt ho1479
    have lt1500 := hS1476.lt ho1486
    have lt1501 := hS1476.lt ho1494
    have hlen1473 := hE1477.le
    have hlon1473 := hS1476.lo
    rw [f_spec_l00Src_wal_L0] at hr
    with_reducible refine W.seq ?_
    with_reducible refine W.seq ?_
    with_reducible refine W.region ?_
    refine WL.move .nil rfl rfl rfl rfl ?_
    refine WL.bin .nil rfl rfl rfl rfl rfl rfl ?_
    with_reducible refine WL.nil ?_
    with_reducible refine Ex.thn_norm ?_
    refine W.condD rfl (fun hc1503 => ?_) (fun hc1503 => ?_)
    · replace hr := ite_pos hr hc1503
      with_reducible refine W.skip ?_
      with_reducible refine Ex.thn_norm ?_
      with_reducible refine W.seq ?_
      with_reducible refine W.block ?_
      refine W.regionI (fun H => H n41 = some (.row 1 [.int .i64 x15.2, .int .i64 x40.2, .int .i64 0, .int .i64 0, .slice a1481 xs1483.length cap1482, .int .i64 0])) [0, 1, 2, 4, 5, 6, 7, 8, 3, 9, 10, 11, 12, 13, 14] [(false, true, false), (false, true, false), (false, false, false), (false, true, false), (false, true, false), (false, true, false), (false, true, false), (false, true, false), (true, false, false), (true, false, true), (false, false, false), (false, false, false), (true, false, true), (false, false, false), (true, false, false)] false rfl (by kernel_rfl) (by kernel_rfl) (by (conv => lhs; simp only [List.map_cons, List.map_nil, List.getD_cons_zero, List.getD_cons_succ]) <;> rfl) ?_
      refine WLI.late (v := .pointer (some ⟨n41, 4, none⟩)) (fun h => by cases h) rfl rfl (fun H2 hI2 => Step.fieldAddr' rfl Try.underlying40 rfl info30 rfl rfl rfl) ?_
      refine WLI.late (v := .slice a1481 xs1483.length cap1482) (fun h => by cases h) rfl rfl (fun H2 hI2 => Step.load1' rfl Try.underlying30 rfl rfl (hI2.elim (fun e => by rw [e]; exact ho1486) (fun h => h)) rfl) ?_
      refine WLI.op (fun h => by cases h) ?_
      refine WL.move .r rfl rfl rfl rfl ?_
      with_reducible refine WL.nil ⟨rfl, ?_⟩
      refine WLI.late (v := .pointer (some ⟨n41, 4, none⟩)) (fun h => by cases h) rfl rfl (fun H2 hI2 => Step.fieldAddr' rfl Try.underlying40 rfl info30 rfl rfl rfl) ?_
      refine WLI.late (v := .slice a1481 xs1483.length cap1482) (fun h => by cases h) rfl rfl (fun H2 hI2 => Step.load1' rfl Try.underlying30 rfl rfl (hI2.elim (fun e => by rw [e]; exact ho1486) (fun h => h)) rfl) ?_
      refine WLI.late (v := .int .i64 (xs1483.length : Int)) (fun h => by cases h) rfl rfl (fun H2 hI2 => Step.len' rfl Try.underlying30 rfl) ?_
      obtain ⟨hc1632, hr⟩ := chk_some hr
      refine WLI.late (v := .int .i64 ((xs1483.length : Int) + 1)) (fun h => by cases h) rfl rfl (fun H2 hI2 => Step.addI rfl rfl rfl hc1632.1 hc1632.2) ?_
      refine WLI.late (v := .pointer (some ⟨p0, 0, none⟩)) (fun h => by cases h) rfl rfl (fun H2 hI2 => .move (.inl rfl) rfl) ?_
      refine WLI.op (fun h => by cases h) ?_
      obtain ⟨x1633, hx1633, hr⟩ := bnd_some hr
      have hb1643 := fun b hb => (OW.id_lt (i := b) h1484 hb).2
      refine GL.callIO g .w (fun i => (F1475 i).isSome = true ∨ i = p0) rfl rfl rfl rfl rfl rfl Try.func74 rfl rfl (Nat.le_refl _) hS1476.lo (f_spec_l00Src_next_k (x1 := ({ code := xs1490, at_ := x1492, seed := x1493 } : Gl00Src)) g (St.vis hS1476 (fun i hi => .inl hi)) (vis_get ho1494 (.inr (rfl))) fo1495 lo7 h1491 hx1633) (fun v n1634 H1635 H1636 hn1637 hp1638 hle1639 hnew1640 hk1641 hd1642 => ?_)
      obtain ⟨F1648, a1644, cap1645, hX1649, hS1647, ho1650, rfl, h1646⟩ := hp1638
      have hS1651 : St lo n1634 H1635 _ := ⟨hS1647.lo, fun i hi => (hnew1640 i (by omega)).trans (hS1647.hb i hi), hS1647.fh.trans hle1639⟩
      have ho1652 := (hk1641 _ (by have := lt1499; omega) (fun hs => by
      rcases hs with h | h
      · rw [fo1480] at h; cases h
      · omega)).trans ho1479
      have ho1653 := (hk1641 _ (by have := lt1500; omega) (fun hs => by
      rcases hs with h | h
      · rw [fo1487] at h; cases h
      · omega)).trans ho1486
      have h1654 := OW.keep (n' := n1634) h1484 (by omega) (fun i hi => hk1641 i (OW.id_lt h1484 hi).2 (fun hs => by
      rcases hs with h | h
      · rw [(OW.fnone h1484 hi)] at h; cases h
      · exact ap1498 (h ▸ hi)))
      have fo1655 := (hX1649.eq _ (by have := lt1499; omega)).trans fo1480
      have fo1656 := (hX1649.eq _ (by have := lt1500; omega)).trans fo1487
      have fo1657 := (hX1649.eq _ (by have := lt1501; omega)).trans fo1495
      have h1658 := OW.keepF h1654 hX1649.sub (fun i hi => (hX1649.eq i (by have := hb1643 i hi; omega)).trans (OW.fnone h1654 hi))
      have hE1659 := (hE1477.up (n' := n1473) (by omega)).trans hX1649
      have ho1660 := hle1639 _ _ ho1650
      have hlon1634 := hS1651.lo
      have lt1661 := hS1651.lt ho1652
      have lt1662 := hS1651.lt ho1653
      have lt1663 := hS1651.lt ho1660
      with_reducible refine WL.nil ⟨rfl, ?_⟩
      refine WLI.op (fun _ => ho1653) ?_
      obtain ⟨x1664, hx1664, hr⟩ := bnd_some hr
      have hb1674 := fun b hb => (OW.id_lt (i := b) h1658 hb).2
      refine GL.callIO g .w (fun i => (F1648 i).isSome = true ∨ i = p0) rfl rfl rfl rfl rfl rfl Try.func76 rfl rfl (Nat.le_refl _) hS1651.lo (f_spec_l00Src_bytes_k (x1 := ({ code := x1633.1.code, at_ := x1633.1.at_, seed := x1633.1.seed } : Gl00Src)) g (St.vis hS1651 (fun i hi => .inl hi)) (vis_get ho1660 (.inr (rfl))) fo1657 lo7 h1646 hx1664) (fun v n1665 H1666 H1667 hn1668 hp1669 hle1670 hnew1671 hk1672 hd1673 => ?_)
      obtain ⟨F1682, a1675, cap1676, a1678, cap1679, hX1683, hS1681, ho1684, rfl, h1677, h1680⟩ := hp1669
      have hS1685 : St lo n1665 H1666 _ := ⟨hS1681.lo, fun i hi => (hnew1671 i (by omega)).trans (hS1681.hb i hi), hS1681.fh.trans hle1670⟩
      have ho1686 := (hk1672 _ (by have := lt1661; omega) (fun hs => by
      rcases hs with h | h
      · rw [fo1655] at h; cases h
      · omega)).trans ho1652
      have ho1687 := (hk1672 _ (by have := lt1662; omega) (fun hs => by
      rcases hs with h | h
      · rw [fo1656] at h; cases h
      · omega)).trans ho1653
      have h1688 := OW.keep (n' := n1665) h1658 (by omega) (fun i hi => hk1672 i (OW.id_lt h1658 hi).2 (fun hs => by
      rcases hs with h | h
      · rw [(OW.fnone h1658 hi)] at h; cases h
      · exact ap1498 (h ▸ hi)))
      have fo1689 := (hX1683.eq _ (by have := lt1661; omega)).trans fo1655
      have fo1690 := (hX1683.eq _ (by have := lt1662; omega)).trans fo1656
      have fo1691 := (hX1683.eq _ (by have := lt1663; omega)).trans fo1657
      have h1692 := OW.keepF h1688 hX1683.sub (fun i hi => (hX1683.eq i (by have := hb1674 i hi; omega)).trans (OW.fnone h1688 hi))
      have hE1693 := (hE1659.up (n' := n1634) (by omega)).trans hX1683
      have ho1694 := hle1670 _ _ ho1684
      have h1696 := OW.lower (lo' := n0) (OW.le h1680 hle1670) (by omega)
      have ap1697 : idOf (.slice a1678 x1664.2.length cap1679) ≠ some n0 := fun hj => (OW.after h1680 hd1673 hj).elim (fun h => by have := lt1661; omega) (fun hs => by
      rcases hs with h | h
      · rw [fo1655] at h; cases h
      · omega)
      have ap1698 : idOf (.slice a1678 x1664.2.length cap1679) ≠ some n41 := fun hj => (OW.after h1680 hd1673 hj).elim (fun h => by have := lt1662; omega) (fun hs => by
      rcases hs with h | h
      · rw [fo1656] at h; cases h
      · omega)
      have ap1699 : ∀ b, idOf (.slice a1678 x1664.2.length cap1679) = some b → idOf (.slice a1481 xs1483.length cap1482) ≠ some b := fun b hj hi => (OW.after h1680 hd1673 hj).elim (fun h => by have := hb1674 b hi; omega) (fun hs => by
      rcases hs with h | h
      · rw [(OW.fnone h1658 hi)] at h; cases h
      · exact ap1498 (h ▸ hi))
      have ap1700 : idOf (.slice a1678 x1664.2.length cap1679) ≠ some p0 := fun hj => by have := (OW.id_lt h1680 hj).1; have := lt1663; omega
      have hlon1665 := hS1685.lo
      have lt1701 := hS1685.lt ho1686
      have lt1702 := hS1685.lt ho1687
      have lt1703 := hS1685.lt ho1694
      with_reducible refine WL.nil ⟨rfl, ?_⟩
      refine WLI.op (fun h => by cases h) ?_
      refine WL.buildL .r (cells := [.int .i64 x1633.2, .int .i64 ((xs1483.length : Int) + 1), .slice a1678 x1664.2.length cap1679]) rfl rfl rfl Try.underlying37 info37 rfl rfl rfl (by simp only [List.mapM_cons, List.mapM_nil, info3, info3, info24]; rfl) rfl (by first | rfl | ((conv => lhs; simp [splice, fillL, cells_int, cells_bool, cells_string, cells_str, cells_slice, cells_ptr, cells_map, cells_func, cells_nilFunc, cells_nilIface, cells_iface, cells_agg, cells_u8]) <;> rfl)) ?_
      with_reducible refine WL.nil ⟨rfl, ?_⟩
      refine WLI.op (fun h => by cases h) ?_
      obtain ⟨F1704, hS1705, hle1706, h1707, hf1708⟩ := OW.freeze h1696 hS1685
      have fo1709 := (hf1708 _ ap1697).trans fo1689
      have fo1710 := (hf1708 _ ap1698).trans fo1690
      have fo1711 := (hf1708 _ ap1700).trans fo1691
      have h1712 := OW.keepF h1692 hle1706 (fun i hi => (hf1708 i (fun hj => ap1699 i hj hi)).trans (OW.fnone h1692 hi))
      have hE1713 : Ext n0 F0 n1665 F1704 := ⟨Nat.le_trans hE1693.le (by omega), hE1693.sub.trans hle1706, fun i hi => (hf1708 i (fun hj => by have := OW.id_lt h1696 hj; omega)).trans (hE1693.eq i hi)⟩
      have hb1718 := fun b hb => (OW.id_lt (i := b) h1712 hb).2
      refine GL.lit (cs := [.int .i64 x1633.2, .int .i64 ((xs1483.length : Int) + 1), .slice a1678 x1664.2.length cap1679]) (xs := ([({ Term := x1633.2, Index := ((xs1483.length : Int) + 1), Data := x1664.2 } : GRec)] : List GRec)) hS1705 .r rfl rfl rfl Try.underlying30 info37 rfl rfl rfl (by decide) (by decide) rfl rfl rfl rfl rfl (RA.cons (cs := [.int .i64 x1633.2, .int .i64 ((xs1483.length : Int) + 1), .slice a1678 x1664.2.length cap1679]) (a := (({ Term := x1633.2, Index := ((xs1483.length : Int) + 1), Data := x1664.2 } : GRec) : GRec)) (GRec.toR (x := ({ Term := x1633.2, Index := ((xs1483.length : Int) + 1), Data := x1664.2 } : GRec)) h1707) RA.nil) rfl (fun H1714 hS1715 hO1716 hk1717 => ?_)
      have ho1719 := (hk1717 _ (by have := lt1701; omega)).trans ho1686
      have ho1720 := (hk1717 _ (by have := lt1702; omega)).trans ho1687
      have ho1721 := (hk1717 _ (by have := lt1703; omega)).trans ho1694
      have h1722 := OW.keep (n' := (n1665 + 1)) h1712 (by omega) (fun i hi => hk1717 i (OW.id_lt h1712 hi).2)
      have h1723 := OW.lower (lo' := n0) hO1716 (by omega)
      have hlon16651 := hS1715.lo
      have ap1725 : idOf (.slice (some ⟨n1665, 0, none⟩) ([({ Term := x1633.2, Index := ((xs1483.length : Int) + 1), Data := x1664.2 } : GRec)] : List GRec).length 1) ≠ some n0 := fun hj => by have := (OW.id_lt hO1716 hj).1; have := lt1701; omega
      have ap1726 : idOf (.slice (some ⟨n1665, 0, none⟩) ([({ Term := x1633.2, Index := ((xs1483.length : Int) + 1), Data := x1664.2 } : GRec)] : List GRec).length 1) ≠ some n41 := fun hj => by have := (OW.id_lt hO1716 hj).1; have := lt1702; omega
      have ap1727 : idOf (.slice (some ⟨n1665, 0, none⟩) ([({ Term := x1633.2, Index := ((xs1483.length : Int) + 1), Data := x1664.2 } : GRec)] : List GRec).length 1) ≠ some p0 := fun hj => by have := (OW.id_lt hO1716 hj).1; have := lt1703; omega
      have ap1728 : ∀ b, idOf (.slice (some ⟨n1665, 0, none⟩) ([({ Term := x1633.2, Index := ((xs1483.length : Int) + 1), Data := x1664.2 } : GRec)] : List GRec).length 1) = some b → idOf (.slice a1481 xs1483.length cap1482) ≠ some b := fun b hj hi => by have := (OW.id_lt hO1716 hj).1; have := hb1718 b hi; omega
      with_reducible refine WL.nil ⟨rfl, ?_⟩
      refine WLI.op (fun _ => ho1720) ?_
      obtain ⟨hc1729, hr⟩ := chk_some hr
      have hb1739 := fun b hb => (OW.id_lt (i := b) h1722 hb).2
      have hb1740 := fun b hb => (OW.id_lt (i := b) h1723 hb).2
      refine GL.append (α := GRec) hS1715 .w rfl rfl rfl Try.underlying30 Try.underlying30 rfl info37 rfl rfl rfl (by decide) rfl rfl h1722 (by omega) (by omega) (OW.src h1723) hc1729 (fun a1730 cap1731 n1732 H1733 hS1734 hn1735 hO1736 hk1737 hid1738 => ?_)
      have ho1741 := (hk1737 _ (by have := lt1701; omega) ap1496).trans ho1719
      have ho1742 := (hk1737 _ (by have := lt1702; omega) ap1497).trans ho1720
      have ho1743 := (hk1737 _ (by have := lt1703; omega) ap1498).trans ho1721
      have h1744 := OW.keep h1723 hn1735 (fun i hi => hk1737 i (OW.id_lt h1723 hi).2 (fun hj => (fun b h1 h2 => ap1728 b h2 h1) _ hj hi))
      have ap1746 : idOf (.slice a1730 (xs1483 ++ ([({ Term := x1633.2, Index := ((xs1483.length : Int) + 1), Data := x1664.2 } : GRec)] : List GRec)).length cap1731) ≠ some n0 := fun hj => (hid1738 _ hj).elim (fun h => by have := lt1701; omega) ap1496
      have ap1747 : idOf (.slice a1730 (xs1483 ++ ([({ Term := x1633.2, Index := ((xs1483.length : Int) + 1), Data := x1664.2 } : GRec)] : List GRec)).length cap1731) ≠ some n41 := fun hj => (hid1738 _ hj).elim (fun h => by have := lt1702; omega) ap1497
      have ap1748 : idOf (.slice a1730 (xs1483 ++ ([({ Term := x1633.2, Index := ((xs1483.length : Int) + 1), Data := x1664.2 } : GRec)] : List GRec)).length cap1731) ≠ some p0 := fun hj => (hid1738 _ hj).elim (fun h => by have := lt1703; omega) ap1498
      have ap1749 : ∀ b, idOf (.slice a1730 (xs1483 ++ ([({ Term := x1633.2, Index := ((xs1483.length : Int) + 1), Data := x1664.2 } : GRec)] : List GRec)).length cap1731) = some b → idOf (.slice (some ⟨n1665, 0, none⟩) ([({ Term := x1633.2, Index := ((xs1483.length : Int) + 1), Data := x1664.2 } : GRec)] : List GRec).length 1) ≠ some b := fun b hj hi => (hid1738 _ hj).elim (fun h => by have := hb1740 b hi; omega) (fun h => (fun b h1 h2 => ap1728 b h2 h1) _ h hi)
      have hlon1732 := hS1734.lo
      with_reducible refine WL.nil ⟨rfl, ?_⟩
      refine WLI.op (fun h => by cases h) ?_
      refine WL.fieldAddr .r rfl rfl rfl Try.underlying40 rfl info30 rfl rfl ?_
      with_reducible refine WL.nil ⟨rfl, ?_⟩
      refine WLI.op (fun h => by cases h) ?_
      refine GL.store hS1734 .w (vc := [.slice a1730 (xs1483 ++ ([({ Term := x1633.2, Index := ((xs1483.length : Int) + 1), Data := x1664.2 } : GRec)] : List GRec)).length cap1731]) (c' := [.int .i64 x15.2, .int .i64 x40.2, .int .i64 0, .int .i64 0, .slice a1730 (xs1483 ++ ([({ Term := x1633.2, Index := ((xs1483.length : Int) + 1), Data := x1664.2 } : GRec)] : List GRec)).length cap1731, .int .i64 0]) rfl rfl rfl info30 rfl rfl rfl rfl ho1742 fo1710 (Nat.le_of_ble_eq_true rfl) (by omega) (by repeat' (first | exact List.forall_mem_nil _ | refine List.forall_mem_cons.2 ⟨?_, ?_⟩ | rfl)) rfl (fun H1750 hS1751 ho1752 hk1753 => ?_)
      have ho1754 := (hk1753 _ (by omega)).trans ho1741
      have ho1755 := (hk1753 _ (by omega)).trans ho1743
      have h1756 := OW.keep h1744 (Nat.le_refl _) (fun i hi => hk1753 i (fun hj => ap1726 (hj ▸ hi)))
      have h1757 := OW.keep hO1736 (Nat.le_refl _) (fun i hi => hk1753 i (fun hj => ap1747 (hj ▸ hi)))
      with_reducible refine WL.nil ⟨rfl, ?_⟩
      refine WLI.nil (fun h => by cases h) ?_
      with_reducible refine Ex.blk_norm ?_
      with_reducible refine Ex.thn_norm ?_
      with_reducible refine W.region ?_
      refine WL.move .nil rfl rfl rfl rfl ?_
      obtain ⟨hc1758, hr⟩ := chk_some hr
      refine WL.subI .nil rfl rfl rfl rfl rfl hc1758.1 hc1758.2 ?_
      refine WL.assign .nil rfl rfl rfl rfl ?_
      with_reducible refine WL.nil ?_
      with_reducible refine Ex.thn_norm ?_
      exact ⟨[(0, .pointer (some ⟨p0, 0, none⟩)), (2, .pointer (some ⟨n0, 0, none⟩)), (3, .pointer (some ⟨n41, 0, none⟩)), (4, .int .i64 (x1478 - 1))], (Fr.le_cons rfl (Fr.le_cons rfl (Fr.le_cons rfl (Fr.le_cons rfl Fr.le_nil)))), (x1478 - 1), a1730, cap1731, (xs1483 ++ ([({ Term := x1633.2, Index := ((xs1483.length : Int) + 1), Data := x1664.2 } : GRec)] : List GRec)), a1675, cap1676, x1664.1.code, x1664.1.at_, x1664.1.seed, F1704, rfl, hS1751, (hE1713.up (by omega)), ho1754, fo1709, ho1752, fo1710, ho1755, fo1711, h1757, (h1677.mono hle1706), ap1746, ap1747, ap1748, hr⟩
    · replace hr := ite_neg hr hc1503
      with_reducible refine W.exit ?_
      with_reducible refine Ex.thn_ex ?_
      with_reducible refine Ex.thn_ex ?_
      with_reducible refine Ex.blk_here ?_
      with_reducible refine Ex.thn_norm ?_
      with_reducible refine W.seq ?_
      with_reducible refine W.region ?_
      refine WL.loadN .nil (l' := [.int .i64 x15.2, .int .i64 x40.2, .int .i64 0, .int .i64 0, .slice a1481 xs1483.length cap1482, .int .i64 0]) rfl rfl rfl Try.underlying40 rfl info40 rfl ho1486 rfl rfl ?_
      refine GL.store hS1476 .nil (vc := [.int .i64 x15.2, .int .i64 x40.2, .int .i64 0, .int .i64 0, .slice a1481 xs1483.length cap1482, .int .i64 0]) (c' := [.int .i64 x15.2, .int .i64 x40.2, .int .i64 0, .int .i64 0, .slice a1481 xs1483.length cap1482, .int .i64 0]) rfl rfl rfl info40 rfl rfl rfl rfl ho1479 fo1480 (Nat.le_of_ble_eq_true rfl) (by omega) (by repeat' (first | exact List.forall_mem_nil _ | refine List.forall_mem_cons.2 ⟨?_, ?_⟩ | rfl)) rfl (fun H1759 hS1760 ho1761 hk1762 => ?_)
      have ho1763 := (hk1762 _ (by omega)).trans ho1486
      have ho1764 := (hk1762 _ (by omega)).trans ho1494
      have h1765 := OW.keep h1484 (Nat.le_refl _) (fun i hi => hk1762 i (fun hj => ap1496 (hj ▸ hi)))
      with_reducible refine WL.nil ?_
      with_reducible refine Ex.thn_norm ?_
      with_reducible refine W.ret ?_
      obtain ⟨F1766, hS1767, hle1768, h1769, hf1770⟩ := OW.freeze h1765 hS1760
      have fo1771 := (hf1770 _ ap1496).trans fo1480
      have fo1772 := (hf1770 _ ap1497).trans fo1487
      have fo1773 := (hf1770 _ ap1498).trans fo1495
      have hE1774 : Ext n0 F0 n1473 F1766 := ⟨Nat.le_trans hE1477.le (by omega), hE1477.sub.trans hle1768, fun i hi => (hf1770 i (fun hj => by have := OW.id_lt h1765 hj; omega)).trans (hE1477.eq i hi)⟩
      obtain rfl := Option.some.inj hr
      exact ⟨.inr rfl, _, (.cons (.cellN (l := [.int .i64 x15.2, .int .i64 x40.2, .int .i64 0, .int .i64 0, .slice a1481 xs1483.length cap1482, .int .i64 0]) rfl Try.underlying40 rfl info40 ho1761 rfl rfl) .nil), ⟨F1766, a1488, cap1489, a1481, cap1482, (hE1774.up (by omega)), hS1767, ho1764, rfl, (h1491.mono hle1768), h1769⟩⟩
theorem f_spec_WalsOf_k {Δ : Prims} (g : Env Try.prog Δ) {lo n0 : Nat} {H0 F0 : Heap} (hS : St lo n0 H0 F0) {a2 : Option Addr} {cap3 : Nat} {xs1 : (List UInt8)} (h4 : SR F0 (.slice a2 xs1.length cap3) xs1) {res : (GWal)} (hr : f_spec_WalsOf xs1 = some res) :
    C Try.prog Δ n0 12 [.slice a2 xs1.length cap3] n0 H0 (fun v n H => ∃ (F : Heap) (ra1 : Option Addr) (rcap2 : Nat), Ext n0 F0 n F ∧ St n0 n H F ∧ v = .agg [.int .i64 res.Term, .int .i64 res.Vote, .int .i64 res.Base, .int .i64 res.BaseTerm, .slice ra1 res.Log.length rcap2, .int .i64 res.Good].toArray ∧ SR F (.slice ra1 res.Log.length rcap2) res.Log) := by
  refine C.body Try.func12 rfl rfl ?_
  unfold f_spec_WalsOf at hr
  have hS0 : St n0 n0 H0 F0 := hS.low (Nat.le_refl _)
  have hE0 := Ext.refl n0 F0
  have hlo0 := hS0.lo
  with_reducible refine W.seq ?_
  with_reducible refine W.region ?_
  refine GL.alloc hS0 .nil (zc := [.int .i64 0, .int .i64 0, .int .i64 0, .int .i64 0, .slice none 0 0, .int .i64 0]) rfl rfl rfl info40 rfl rfl rfl (fun H5 hS6 ho7 hk8 => ?_)
  have fo9 := hS0.fnone (Nat.le_refl _)
  have hlon01 := hS6.lo
  have lt10 : n0 < (n0 + 1) := by omega
  with_reducible refine WL.nil ?_
  with_reducible refine Ex.thn_norm ?_
  with_reducible refine W.seq ?_
  with_reducible refine W.region ?_
  refine WL.move .nil rfl rfl rfl rfl ?_
  obtain ⟨x11, hx11, hr⟩ := bnd_some hr
  refine GL.callP g.good .nil rfl rfl rfl rfl rfl rfl Try.func39 rfl rfl hS6.lo (f_spec_l00Source_k  g hS6 h4 hx11) (fun v n12 H13 hn14 hk15 hp16 => ?_)
  obtain ⟨F25, a21, cap22, p17, hX26, hS24, rfl, lo18, ho19, fo20, h23⟩ := hp16
  have ho27 := (hk15 _ (by have := lt10; omega)).trans ho7
  have hS28 : St n0 n12 H13 F25 := ⟨by have := hS6.lo; omega, hS24.hb, hS24.fh⟩
  have fo29 := (hX26.eq _ (by have := lt10; omega)).trans fo9
  have hE30 := (hE0.up (n' := (n0 + 1)) (by omega)).trans hX26
  have hlon12 := hS28.lo
  have lt31 := hS28.lt ho19
  obtain ⟨x32, hx32, hr⟩ := bnd_some hr
  refine GL.callIO g .nil (fun i => (F25 i).isSome = true ∨ i = p17) rfl rfl rfl rfl rfl rfl Try.func40 rfl rfl (Nat.le_refl _) hS28.lo (f_spec_l00Src_wal_k (x1 := ({ code := x11.code, at_ := x11.at_, seed := x11.seed } : Gl00Src)) g (St.vis hS28 (fun i hi => .inl hi)) (vis_get ho19 (.inr (rfl))) fo20 (by omega) h23 hx32) (fun v n33 H34 H35 hn36 hp37 hle38 hnew39 hk40 hd41 => ?_)
  obtain ⟨F49, a42, cap43, a45, cap46, hX50, hS48, ho51, rfl, h44, h47⟩ := hp37
  have hS52 : St n0 n33 H34 _ := ⟨hS48.lo, fun i hi => (hnew39 i (by omega)).trans (hS48.hb i hi), hS48.fh.trans hle38⟩
  have ho53 := (hk40 _ (by have := lt10; omega) (fun hs => by
      rcases hs with h | h
      · rw [fo29] at h; cases h
      · omega)).trans ho27
  have fo54 := (hX50.eq _ (by have := lt10; omega)).trans fo29
  have fo55 := (hX50.eq _ (by have := lt31; omega)).trans fo20
  have hE56 := (hE30.up (n' := n12) (by omega)).trans hX50
  have ho57 := hle38 _ _ ho51
  have hlon33 := hS52.lo
  have lt58 := hS52.lt ho53
  have lt59 := hS52.lt ho57
  refine GL.store hS52 .nil (vc := [.int .i64 x32.2.Term, .int .i64 x32.2.Vote, .int .i64 x32.2.Base, .int .i64 x32.2.BaseTerm, .slice a45 x32.2.Log.length cap46, .int .i64 x32.2.Good]) (c' := [.int .i64 x32.2.Term, .int .i64 x32.2.Vote, .int .i64 x32.2.Base, .int .i64 x32.2.BaseTerm, .slice a45 x32.2.Log.length cap46, .int .i64 x32.2.Good]) rfl rfl rfl info40 rfl rfl rfl rfl ho53 fo54 (Nat.le_of_ble_eq_true rfl) (by omega) (by repeat' (first | exact List.forall_mem_nil _ | refine List.forall_mem_cons.2 ⟨?_, ?_⟩ | rfl)) rfl (fun H60 hS61 ho62 hk63 => ?_)
  have ho64 := (hk63 _ (by omega)).trans ho57
  with_reducible refine WL.nil ?_
  with_reducible refine Ex.thn_norm ?_
  with_reducible refine W.ret ?_
  obtain rfl := Option.some.inj hr
  exact ⟨.inr rfl, _, (.cons (.cellN (l := [.int .i64 x32.2.Term, .int .i64 x32.2.Vote, .int .i64 x32.2.Base, .int .i64 x32.2.BaseTerm, .slice a45 x32.2.Log.length cap46, .int .i64 x32.2.Good]) rfl Try.underlying40 rfl info40 ho62 rfl rfl) .nil), ⟨F49, a45, cap46, (hE56.up (by omega)), hS61, rfl, h47⟩⟩
theorem f_impl_within_k {Δ : Prims} (g : Env Try.prog Δ) {lo n0 : Nat} {H0 F0 : Heap} (hS : St lo n0 H0 F0) {x1 : Int} {x2 : Int} {x3 : Int} {res : (Bool)} (hr : f_impl_within x1 x2 x3 = some res) :
    C Try.prog Δ n0 31 [.int .i64 x1, .int .i64 x2, .int .i64 x3] n0 H0 (fun v n H => St n0 n H F0 ∧ v = .bool res) := by
  refine C.body Try.func31 rfl rfl ?_
  unfold f_impl_within at hr
  have hS0 : St n0 n0 H0 F0 := hS.low (Nat.le_refl _)
  have hE0 := Ext.refl n0 F0
  have hlo0 := hS0.lo
  with_reducible refine W.seq ?_
  with_reducible refine W.region ?_
  refine WL.assign .nil rfl rfl rfl rfl ?_
  with_reducible refine WL.nil ?_
  with_reducible refine Ex.thn_norm ?_
  with_reducible refine W.seq ?_
  with_reducible refine W.region ?_
  refine WL.move .nil rfl rfl rfl rfl ?_
  refine WL.move .nil rfl rfl rfl rfl ?_
  refine WL.bin .nil rfl rfl rfl rfl rfl rfl ?_
  refine WL.move .nil rfl rfl rfl rfl ?_
  refine WL.guardD rfl rfl rfl (fun hg4 => ?_) (fun hg4 => ?_)
  · replace hr := ite_pos hr hg4
    refine WL.move .nil rfl rfl rfl rfl ?_
    refine WL.move .nil rfl rfl rfl rfl ?_
    refine WL.bin .nil rfl rfl rfl rfl rfl rfl ?_
    refine WL.pick .nil rfl rfl rfl rfl rfl ?_
    refine WL.assign .nil rfl rfl rfl rfl ?_
    with_reducible refine WL.nil ?_
    with_reducible refine Ex.thn_norm ?_
    with_reducible refine W.ret ?_
    obtain rfl := Option.some.inj hr
    exact ⟨.inr rfl, _, (.cons (.tmp rfl) .nil), ⟨(Ext.st hE0 hS0), rfl⟩⟩
  · replace hr := ite_neg hr hg4
    refine WL.skip .nil rfl rfl ?_
    refine WL.skip .nil rfl rfl ?_
    refine WL.skip .nil rfl rfl ?_
    refine WL.pick .nil rfl rfl rfl rfl rfl ?_
    refine WL.assign .nil rfl rfl rfl rfl ?_
    with_reducible refine WL.nil ?_
    with_reducible refine Ex.thn_norm ?_
    with_reducible refine W.ret ?_
    obtain rfl := Option.some.inj hr
    exact ⟨.inr rfl, _, (.cons (.tmp rfl) .nil), ⟨(Ext.st hE0 hS0), rfl⟩⟩
theorem f_impl_isTerm_k {Δ : Prims} (g : Env Try.prog Δ) {lo n0 : Nat} {H0 F0 : Heap} (hS : St lo n0 H0 F0) {x1 : Int} {res : (Bool)} (hr : f_impl_isTerm x1 = some res) :
    C Try.prog Δ n0 41 [.int .i64 x1] n0 H0 (fun v n H => St n0 n H F0 ∧ v = .bool res) := by
  refine C.body Try.func41 rfl rfl ?_
  unfold f_impl_isTerm at hr
  have hS0 : St n0 n0 H0 F0 := hS.low (Nat.le_refl _)
  have hE0 := Ext.refl n0 F0
  have hlo0 := hS0.lo
  with_reducible refine W.seq ?_
  with_reducible refine W.region ?_
  refine WL.assign .nil rfl rfl rfl rfl ?_
  with_reducible refine WL.nil ?_
  with_reducible refine Ex.thn_norm ?_
  with_reducible refine W.seq ?_
  with_reducible refine W.region ?_
  refine WL.move .nil rfl rfl rfl rfl ?_
  obtain ⟨x2, hx2, hr⟩ := bnd_some hr
  refine GL.callP g.good .nil rfl rfl rfl rfl rfl rfl Try.func31 rfl rfl hS0.lo (f_impl_within_k  g hS0 hx2) (fun v n3 H4 hn5 hk6 hp7 => ?_)
  obtain ⟨hS8, rfl⟩ := hp7
  have hS9 : St n0 n3 H4 F0 := ⟨by have := hS0.lo; omega, hS8.hb, hS8.fh⟩
  have hlon3 := hS9.lo
  refine WL.assign .nil rfl rfl rfl rfl ?_
  with_reducible refine WL.nil ?_
  with_reducible refine Ex.thn_norm ?_
  with_reducible refine W.ret ?_
  obtain rfl := Option.some.inj hr
  exact ⟨.inr rfl, _, (.cons (.tmp rfl) .nil), ⟨(Ext.st hE0 hS9), rfl⟩⟩
theorem f_impl_recOK_k {Δ : Prims} (g : Env Try.prog Δ) {lo n0 : Nat} {H0 F0 : Heap} (hS : St lo n0 H0 F0) {x1 : GRec} {a2 : Option Addr} {cap3 : Nat} (h4 : SR F0 (.slice a2 x1.Data.length cap3) x1.Data) {res : (Bool)} (hr : f_impl_recOK x1 = some res) :
    C Try.prog Δ n0 42 [.agg [.int .i64 x1.Term, .int .i64 x1.Index, .slice a2 x1.Data.length cap3].toArray] n0 H0 (fun v n H => St n0 n H F0 ∧ v = .bool res) := by
  refine C.body Try.func42 rfl rfl ?_
  unfold f_impl_recOK at hr
  have hS0 : St n0 n0 H0 F0 := hS.low (Nat.le_refl _)
  have hE0 := Ext.refl n0 F0
  have hlo0 := hS0.lo
  with_reducible refine W.seq ?_
  with_reducible refine W.region ?_
  refine GL.box hS0 .nil (vc := [.int .i64 x1.Term, .int .i64 x1.Index, .slice a2 x1.Data.length cap3]) rfl rfl rfl rfl rfl (by repeat' (first | exact List.forall_mem_nil _ | refine List.forall_mem_cons.2 ⟨?_, ?_⟩ | rfl)) (fun H5 hS6 ho7 hk8 => ?_)
  have fo9 := hS0.fnone (Nat.le_refl _)
  have hlon01 := hS6.lo
  have lt10 : n0 < (n0 + 1) := by omega
  refine WL.assign .nil rfl rfl rfl rfl ?_
  with_reducible refine WL.nil ?_
  with_reducible refine Ex.thn_norm ?_
  with_reducible refine W.seq ?_
  with_reducible refine W.region ?_
  refine WL.fieldAddr .nil rfl rfl rfl Try.underlying37 rfl info3 rfl rfl ?_
  refine WL.load1 .nil rfl rfl rfl Try.underlying3 rfl rfl ho7 rfl ?_
  obtain ⟨x11, hx11, hr⟩ := bnd_some hr
  refine GL.callP g.good .nil rfl rfl rfl rfl rfl rfl Try.func41 rfl rfl hS6.lo (f_impl_isTerm_k  g hS6 hx11) (fun v n12 H13 hn14 hk15 hp16 => ?_)
  obtain ⟨hS17, rfl⟩ := hp16
  have ho18 := (hk15 _ (by have := lt10; omega)).trans ho7
  have hS19 : St n0 n12 H13 F0 := ⟨by have := hS6.lo; omega, hS17.hb, hS17.fh⟩
  have hlon12 := hS19.lo
  refine WL.move .nil rfl rfl rfl rfl ?_
  refine WL.guard rfl rfl rfl (fun hg20 => ?_) (fun hg20 => ?_)
  · replace hr := iteB_pos hr hg20
    refine WL.fieldAddr .nil rfl rfl rfl Try.underlying37 rfl info3 rfl rfl ?_
    refine WL.load1 .nil rfl rfl rfl Try.underlying3 rfl rfl ho18 rfl ?_
    obtain ⟨x21, hx21, hr⟩ := bnd_some hr
    refine GL.callP g.good .nil rfl rfl rfl rfl rfl rfl Try.func31 rfl rfl hS19.lo (f_impl_within_k  g hS19 hx21) (fun v n22 H23 hn24 hk25 hp26 => ?_)
    obtain ⟨hS27, rfl⟩ := hp26
    have ho28 := (hk25 _ (by have := lt10; omega)).trans ho18
    have hS29 : St n0 n22 H23 F0 := ⟨by have := hS19.lo; omega, hS27.hb, hS27.fh⟩
    have hlon22 := hS29.lo
    refine WL.pick .nil rfl rfl rfl rfl rfl ?_
    refine WL.move .nil rfl rfl rfl rfl ?_
    refine WL.guard rfl rfl rfl (fun hg30 => ?_) (fun hg30 => ?_)
    · replace hr := iteB_pos hr hg30
      refine WL.fieldAddr .nil rfl rfl rfl Try.underlying37 rfl info24 rfl rfl ?_
      refine WL.load1 .nil rfl rfl rfl Try.underlying24 rfl rfl ho28 rfl ?_
      refine WL.len .nil rfl rfl rfl Try.underlying24 rfl ?_
      refine WL.bin .nil rfl rfl rfl rfl rfl rfl ?_
      refine WL.pick .nil rfl rfl rfl rfl rfl ?_
      refine WL.assign .nil rfl rfl rfl rfl ?_
      with_reducible refine WL.nil ?_
      with_reducible refine Ex.thn_norm ?_
      with_reducible refine W.ret ?_
      obtain rfl := Option.some.inj hr
      exact ⟨.inr rfl, _, (.cons (.tmp rfl) .nil), ⟨(Ext.st hE0 hS29), rfl⟩⟩
    · replace hr := iteB_neg hr hg30
      refine WL.skip .nil rfl rfl ?_
      refine WL.skip .nil rfl rfl ?_
      refine WL.skip .nil rfl rfl ?_
      refine WL.skip .nil rfl rfl ?_
      refine WL.pick .nil rfl rfl rfl rfl rfl ?_
      refine WL.assign .nil rfl rfl rfl rfl ?_
      with_reducible refine WL.nil ?_
      with_reducible refine Ex.thn_norm ?_
      with_reducible refine W.ret ?_
      obtain rfl := Option.some.inj hr
      exact ⟨.inr rfl, _, (.cons (.tmp rfl) .nil), ⟨(Ext.st hE0 hS29), rfl⟩⟩
  · replace hr := iteB_neg hr hg20
    refine WL.skip .nil rfl rfl ?_
    refine WL.skip .nil rfl rfl ?_
    refine WL.skip .nil rfl rfl ?_
    refine WL.pick .nil rfl rfl rfl rfl rfl ?_
    refine WL.move .nil rfl rfl rfl rfl ?_
    refine WL.skip .nil rfl rfl ?_
    refine WL.skip .nil rfl rfl ?_
    refine WL.skip .nil rfl rfl ?_
    refine WL.skip .nil rfl rfl ?_
    refine WL.pick .nil rfl rfl rfl rfl rfl ?_
    refine WL.assign .nil rfl rfl rfl rfl ?_
    with_reducible refine WL.nil ?_
    with_reducible refine Ex.thn_norm ?_
    with_reducible refine W.ret ?_
    obtain rfl := Option.some.inj hr
    exact ⟨.inr rfl, _, (.cons (.tmp rfl) .nil), ⟨(Ext.st hE0 hS19), rfl⟩⟩
theorem f_impl_number_k {Δ : Prims} (g : Env Try.prog Δ) {lo n0 : Nat} {H0 F0 : Heap} (hS : St lo n0 H0 F0) {x1 : Int} {res : ((List UInt8))} (hr : f_impl_number x1 = some res) :
    C Try.prog Δ n0 79 [.int .i64 x1] n0 H0 (fun v n H => ∃ (ra1 : Option Addr) (rcap2 : Nat), St n0 n H F0 ∧ v = .slice ra1 res.length rcap2 ∧ OW n0 n H F0 (.slice ra1 res.length rcap2) res) := by
  refine C.body Try.func79 rfl rfl ?_
  unfold f_impl_number at hr
  have hS0 : St n0 n0 H0 F0 := hS.low (Nat.le_refl _)
  have hE0 := Ext.refl n0 F0
  have hlo0 := hS0.lo
  with_reducible refine W.seq ?_
  with_reducible refine W.region ?_
  refine WL.assign .nil rfl rfl rfl rfl ?_
  with_reducible refine WL.nil ?_
  with_reducible refine Ex.thn_norm ?_
  with_reducible refine W.seq ?_
  with_reducible refine W.region ?_
  refine GL.lit (cs := []) (xs := ([] : List UInt8)) hS0 .nil rfl rfl rfl Try.underlying24 info5 rfl rfl rfl (by decide) (by decide) rfl rfl rfl rfl rfl RA.nil rfl (fun H2 hS3 hO4 hk5 => ?_)
  have h6 := OW.lower (lo' := n0) hO4 (by omega)
  have hlon01 := hS3.lo
  refine WL.assign .nil rfl rfl rfl rfl ?_
  with_reducible refine WL.nil ?_
  with_reducible refine Ex.thn_norm ?_
  with_reducible refine W.seq ?_
  with_reducible refine W.block ?_
  refine W.loopF (fun k0 fr n H => ∃ (x203 : Int) (a204 : Option Addr) (cap205 : Nat) (xs206 : (List UInt8)) (F : Heap), fr = [(0, .int .i64 x203), (3, .slice a204 xs206.length cap205)] ∧ St n0 n H F ∧ Ext n0 F0 n F ∧ OW n0 n H F (.slice a204 xs206.length cap205) xs206 ∧ f_impl_number_L0 k0 x203 xs206 = some res) BIG (fr0 := [(0, .int .i64 x1), (3, .slice (some ⟨n0, 0, none⟩) ([] : List UInt8).length 0)]) (Fr.le_cons rfl (Fr.le_cons rfl Fr.le_nil)) ?_ ?_ ?_
  · exact ⟨x1, (some ⟨n0, 0, none⟩), 0, ([] : List UInt8), F0, rfl, hS3, (hE0.up (by omega)), h6, hr⟩
  · intro fr n H hI
    obtain ⟨x203, a204, cap205, xs206, F200, hfr, hS201, hE202, h207, hr⟩ := hI
    rw [f_impl_number_L0] at hr
    cases hr
  · intro k0 _ n198 H199 hI
    obtain ⟨x203, a204, cap205, xs206, F200, rfl, hS201, hE202, h207, hr⟩ := hI
    have hlen198 := hE202.le
    have hlon198 := hS201.lo
    rw [f_impl_number_L0] at hr
    with_reducible refine W.seq ?_
    with_reducible refine W.seq ?_
    with_reducible refine W.region ?_
    refine WL.move .nil rfl rfl rfl rfl ?_
    refine WL.bin .nil rfl rfl rfl rfl rfl rfl ?_
    with_reducible refine WL.nil ?_
    with_reducible refine Ex.thn_norm ?_
    refine W.condD rfl (fun hc210 => ?_) (fun hc210 => ?_)
    · replace hr := ite_pos hr hc210
      with_reducible refine W.skip ?_
      with_reducible refine Ex.thn_norm ?_
      with_reducible refine W.block ?_
      with_reducible refine W.seq ?_
      with_reducible refine W.region ?_
      refine WL.move .nil rfl rfl rfl rfl ?_
      refine WL.move .nil rfl rfl rfl rfl ?_
      obtain ⟨hc211, hr⟩ := chk_some hr
      refine WL.remI .nil rfl rfl rfl rfl rfl hc211.1 hc211.2 ?_
      obtain ⟨hc212, hr⟩ := chk_some hr
      refine WL.addI .nil rfl rfl rfl rfl rfl hc212.1 hc212.2 ?_
      refine WL.convB .nil rfl rfl rfl Try.underlying3 Try.underlying5 rfl ?_
      have hb217 := fun b hb => (OW.id_lt (i := b) h207 hb).2
      refine GL.lit (cs := [u8 (byteOf ((x203 % 128) + 128))]) (xs := ([(byteOf ((x203 % 128) + 128))] : List UInt8)) hS201 .nil rfl rfl rfl Try.underlying24 info5 rfl rfl rfl (by decide) (by decide) rfl rfl rfl rfl rfl (RA.cons (cs := [u8 (byteOf ((x203 % 128) + 128))]) (a := ((byteOf ((x203 % 128) + 128)) : UInt8)) rfl RA.nil) rfl (fun H213 hS214 hO215 hk216 => ?_)
      have h218 := OW.keep (n' := (n198 + 1)) h207 (by omega) (fun i hi => hk216 i (OW.id_lt h207 hi).2)
      have h219 := OW.lower (lo' := n0) hO215 (by omega)
      have hlon1981 := hS214.lo
      have ap221 : ∀ b, idOf (.slice (some ⟨n198, 0, none⟩) ([(byteOf ((x203 % 128) + 128))] : List UInt8).length 1) = some b → idOf (.slice a204 xs206.length cap205) ≠ some b := fun b hj hi => by have := (OW.id_lt hO215 hj).1; have := hb217 b hi; omega
      obtain ⟨hc222, hr⟩ := chk_some hr
      have hb232 := fun b hb => (OW.id_lt (i := b) h218 hb).2
      have hb233 := fun b hb => (OW.id_lt (i := b) h219 hb).2
      refine GL.append (α := UInt8) hS214 .nil rfl rfl rfl Try.underlying24 Try.underlying24 rfl info5 rfl rfl rfl (by decide) rfl rfl h218 (by omega) (by omega) (OW.src h219) hc222 (fun a223 cap224 n225 H226 hS227 hn228 hO229 hk230 hid231 => ?_)
      have h234 := OW.keep h219 hn228 (fun i hi => hk230 i (OW.id_lt h219 hi).2 (fun hj => (fun b h1 h2 => ap221 b h2 h1) _ hj hi))
      have ap236 : ∀ b, idOf (.slice a223 (xs206 ++ ([(byteOf ((x203 % 128) + 128))] : List UInt8)).length cap224) = some b → idOf (.slice (some ⟨n198, 0, none⟩) ([(byteOf ((x203 % 128) + 128))] : List UInt8).length 1) ≠ some b := fun b hj hi => (hid231 _ hj).elim (fun h => by have := hb233 b hi; omega) (fun h => (fun b h1 h2 => ap221 b h2 h1) _ h hi)
      have hlon225 := hS227.lo
      refine WL.assign .nil rfl rfl rfl rfl ?_
      with_reducible refine WL.nil ?_
      with_reducible refine Ex.thn_norm ?_
      with_reducible refine W.region ?_
      refine WL.move .nil rfl rfl rfl rfl ?_
      obtain ⟨hc237, hr⟩ := chk_some hr
      refine WL.quoI .nil rfl rfl rfl rfl rfl hc237.1 hc237.2.1 hc237.2.2 ?_
      refine WL.assign .nil rfl rfl rfl rfl ?_
      with_reducible refine WL.nil ?_
      with_reducible refine Ex.blk_norm ?_
      with_reducible refine Ex.thn_norm ?_
      exact ⟨[(0, .int .i64 (x203 / 128)), (3, .slice a223 (xs206 ++ ([(byteOf ((x203 % 128) + 128))] : List UInt8)).length cap224)], (Fr.le_cons rfl (Fr.le_cons rfl Fr.le_nil)), (x203 / 128), a223, cap224, (xs206 ++ ([(byteOf ((x203 % 128) + 128))] : List UInt8)), F200, rfl, hS227, (hE202.up (by omega)), hO229, hr⟩
    · replace hr := ite_neg hr hc210
      with_reducible refine W.exit ?_
      with_reducible refine Ex.thn_ex ?_
      with_reducible refine Ex.thn_ex ?_
      with_reducible refine Ex.blk_here ?_
      with_reducible refine Ex.thn_norm ?_
      with_reducible refine W.seq ?_
      with_reducible refine W.region ?_
      refine WL.move .nil rfl rfl rfl rfl ?_
      refine WL.move .nil rfl rfl rfl rfl ?_
      refine WL.convB .nil rfl rfl rfl Try.underlying3 Try.underlying5 rfl ?_
      have hb242 := fun b hb => (OW.id_lt (i := b) h207 hb).2
      refine GL.lit (cs := [u8 (byteOf x203)]) (xs := ([(byteOf x203)] : List UInt8)) hS201 .nil rfl rfl rfl Try.underlying24 info5 rfl rfl rfl (by decide) (by decide) rfl rfl rfl rfl rfl (RA.cons (cs := [u8 (byteOf x203)]) (a := ((byteOf x203) : UInt8)) rfl RA.nil) rfl (fun H238 hS239 hO240 hk241 => ?_)
      have h243 := OW.keep (n' := (n198 + 1)) h207 (by omega) (fun i hi => hk241 i (OW.id_lt h207 hi).2)
      have h244 := OW.lower (lo' := n0) hO240 (by omega)
      have hlon1981 := hS239.lo
      have ap246 : ∀ b, idOf (.slice (some ⟨n198, 0, none⟩) ([(byteOf x203)] : List UInt8).length 1) = some b → idOf (.slice a204 xs206.length cap205) ≠ some b := fun b hj hi => by have := (OW.id_lt hO240 hj).1; have := hb242 b hi; omega
      obtain ⟨hc247, hr⟩ := chk_some hr
      have hb257 := fun b hb => (OW.id_lt (i := b) h243 hb).2
      have hb258 := fun b hb => (OW.id_lt (i := b) h244 hb).2
      refine GL.append (α := UInt8) hS239 .nil rfl rfl rfl Try.underlying24 Try.underlying24 rfl info5 rfl rfl rfl (by decide) rfl rfl h243 (by omega) (by omega) (OW.src h244) hc247 (fun a248 cap249 n250 H251 hS252 hn253 hO254 hk255 hid256 => ?_)
      have h259 := OW.keep h244 hn253 (fun i hi => hk255 i (OW.id_lt h244 hi).2 (fun hj => (fun b h1 h2 => ap246 b h2 h1) _ hj hi))
      have ap261 : ∀ b, idOf (.slice a248 (xs206 ++ ([(byteOf x203)] : List UInt8)).length cap249) = some b → idOf (.slice (some ⟨n198, 0, none⟩) ([(byteOf x203)] : List UInt8).length 1) ≠ some b := fun b hj hi => (hid256 _ hj).elim (fun h => by have := hb258 b hi; omega) (fun h => (fun b h1 h2 => ap246 b h2 h1) _ h hi)
      have hlon250 := hS252.lo
      refine WL.assign .nil rfl rfl rfl rfl ?_
      with_reducible refine WL.nil ?_
      with_reducible refine Ex.thn_norm ?_
      with_reducible refine W.ret ?_
      obtain rfl := Option.some.inj hr
      exact ⟨.inr rfl, _, (.cons (.tmp rfl) .nil), ⟨a248, cap249, (Ext.st hE202 hS252), rfl, (OW.downSc hE202.sub hO254)⟩⟩
theorem f_slices_Grow_byte_nil0_k {Δ : Prims} (g : Env Try.prog Δ) {lo n0 : Nat} {H0 F0 : Heap} (hS : St lo n0 H0 F0) {x1 : Int} {res : ((List UInt8))} (hr : f_slices_Grow_byte_nil0 x1 = some res) :
    C Try.prog Δ n0 114 [.slice none 0 0, .int .i64 x1] n0 H0 (fun v n H => ∃ (ra1 : Option Addr) (rcap2 : Nat), St n0 n H F0 ∧ v = .slice ra1 res.length rcap2 ∧ OW n0 n H F0 (.slice ra1 res.length rcap2) res) := by
  refine C.body Try.func114 rfl rfl ?_
  unfold f_slices_Grow_byte_nil0 at hr
  have hS0 : St n0 n0 H0 F0 := hS.low (Nat.le_refl _)
  have hE0 := Ext.refl n0 F0
  have hlo0 := hS0.lo
  with_reducible refine W.seq ?_
  with_reducible refine W.region ?_
  refine WL.assign .nil rfl rfl rfl rfl ?_
  with_reducible refine WL.nil ?_
  with_reducible refine Ex.thn_norm ?_
  with_reducible refine W.seq ?_
  with_reducible refine W.seq ?_
  with_reducible refine W.region ?_
  refine WL.move .nil rfl rfl rfl rfl ?_
  refine WL.bin .nil rfl rfl rfl rfl rfl rfl ?_
  with_reducible refine WL.nil ?_
  with_reducible refine Ex.thn_norm ?_
  refine W.condD rfl (fun hc3 => ?_) (fun hc3 => ?_)
  · replace hr := ite_pos hr hc3
    cases hr
  · replace hr := ite_neg hr hc3
    with_reducible refine W.skip ?_
    with_reducible refine Ex.thn_norm ?_
    with_reducible refine W.seq ?_
    with_reducible refine W.seq ?_
    with_reducible refine W.region ?_
    refine WL.move .nil rfl rfl rfl rfl ?_
    refine WL.move .nil rfl rfl rfl rfl ?_
    refine WL.capE .nil rfl rfl rfl Try.underlying24 rfl (by decide) ?_
    refine WL.move .nil rfl rfl rfl rfl ?_
    refine WL.len .nil rfl rfl rfl Try.underlying24 rfl ?_
    obtain ⟨hc4, hr⟩ := chk_some hr
    refine WL.subI .nil rfl rfl rfl rfl rfl hc4.1 hc4.2 ?_
    obtain ⟨hc5, hr⟩ := chk_some hr
    refine WL.subI .nil rfl rfl rfl rfl rfl hc5.1 hc5.2 ?_
    refine WL.assign .nil rfl rfl rfl rfl ?_
    with_reducible refine WL.nil ?_
    with_reducible refine Ex.thn_norm ?_
    with_reducible refine W.seq ?_
    with_reducible refine W.region ?_
    refine WL.move .nil rfl rfl rfl rfl ?_
    refine WL.bin .nil rfl rfl rfl rfl rfl rfl ?_
    with_reducible refine WL.nil ?_
    with_reducible refine Ex.thn_norm ?_
    refine W.condD rfl (fun hc6 => ?_) (fun hc6 => ?_)
    · replace hr := ite_pos hr hc6
      with_reducible refine W.region ?_
      refine WL.move .nil rfl rfl rfl rfl ?_
      refine WL.move .nil rfl rfl rfl rfl ?_
      refine WL.capE .nil rfl rfl rfl Try.underlying24 rfl (by decide) ?_
      obtain ⟨hc7, hr⟩ := chk_some hr
      refine GL.sliceNil .nil rfl rfl rfl Try.underlying24 info5 rfl rfl ⟨_, rfl⟩ hc7.1 hc7.2 ?_
      refine WL.move .nil rfl rfl rfl rfl ?_
      obtain ⟨hc8, hr⟩ := chk_some hr
      refine GL.appendZ (α := UInt8) (z0 := (0 : UInt8)) hS0 .nil rfl rfl rfl Try.underlying24 Try.underlying3 info5 rfl rfl (by decide) rfl rfl (by decide) rfl rfl rfl hc8.1 hc8.2 (fun a9 cap10 H11 hS12 hO13 hk14 => ?_)
      have h15 := OW.lower (lo' := n0) hO13 (by omega)
      have hlon01 := hS12.lo
      refine WL.move .nil rfl rfl rfl rfl ?_
      refine WL.len .nil rfl rfl rfl Try.underlying24 rfl ?_
      obtain ⟨xs17, hxs17, hr⟩ := bnd_some hr
      refine GL.sliceO .nil rfl rfl rfl Try.underlying24 info5 rfl rfl h15 rfl ⟨_, rfl⟩ hxs17 (fun a18 cap19 hid20 h21 => ?_)
      refine WL.assign .nil rfl rfl rfl rfl ?_
      with_reducible refine WL.nil ?_
      with_reducible refine Ex.thn_norm ?_
      with_reducible refine W.seq ?_
      with_reducible refine W.region ?_
      refine WL.move .nil rfl rfl rfl rfl ?_
      refine WL.assign .nil rfl rfl rfl rfl ?_
      with_reducible refine WL.nil ?_
      with_reducible refine Ex.thn_norm ?_
      with_reducible refine W.ret ?_
      obtain rfl := Option.some.inj hr
      exact ⟨.inr rfl, _, (.cons (.tmp rfl) .nil), ⟨a18, cap19, (Ext.st hE0 hS12), rfl, (OW.downSc hE0.sub h21)⟩⟩
    · replace hr := ite_neg hr hc6
      with_reducible refine W.skip ?_
      with_reducible refine Ex.thn_norm ?_
      with_reducible refine W.seq ?_
      with_reducible refine W.region ?_
      refine WL.move .nil rfl rfl rfl rfl ?_
      refine WL.assign .nil rfl rfl rfl rfl ?_
      with_reducible refine WL.nil ?_
      with_reducible refine Ex.thn_norm ?_
      with_reducible refine W.ret ?_
      obtain rfl := Option.some.inj hr
      exact ⟨.inr rfl, _, (.cons (.tmp rfl) .nil), ⟨none, 0, (Ext.st hE0 hS0), rfl, OW.nil⟩⟩
theorem f_slices_Concat_byte_k {Δ : Prims} (g : Env Try.prog Δ) {lo n0 : Nat} {H0 F0 : Heap} (hS : St lo n0 H0 F0) {a2 : Option Addr} {cap3 : Nat} {xs1 : (List (List UInt8))} (h4 : SR F0 (.slice a2 xs1.length cap3) xs1) {res : ((List UInt8))} (hr : f_slices_Concat_byte xs1 = some res) :
    C Try.prog Δ n0 78 [.slice a2 xs1.length cap3] n0 H0 (fun v n H => ∃ (ra1 : Option Addr) (rcap2 : Nat), St n0 n H F0 ∧ v = .slice ra1 res.length rcap2 ∧ OW n0 n H F0 (.slice ra1 res.length rcap2) res) := by
  refine C.body Try.func78 rfl rfl ?_
  unfold f_slices_Concat_byte at hr
  have hS0 : St n0 n0 H0 F0 := hS.low (Nat.le_refl _)
  have hE0 := Ext.refl n0 F0
  have hlo0 := hS0.lo
  with_reducible refine W.seq ?_
  with_reducible refine W.region ?_
  refine WL.assign .nil rfl rfl rfl rfl ?_
  with_reducible refine WL.nil ?_
  with_reducible refine Ex.thn_norm ?_
  with_reducible refine W.seq ?_
  with_reducible refine W.region ?_
  refine WL.assign .nil rfl rfl rfl rfl ?_
  with_reducible refine WL.nil ?_
  with_reducible refine Ex.thn_norm ?_
  with_reducible refine W.seq ?_
  with_reducible refine W.seq ?_
  with_reducible refine W.region ?_
  refine WL.move .nil rfl rfl rfl rfl ?_
  refine WL.len .nil rfl rfl rfl Try.underlying48 rfl ?_
  refine WL.move .nil rfl rfl rfl rfl ?_
  with_reducible refine WL.nil ?_
  with_reducible refine Ex.thn_norm ?_
  with_reducible refine W.block ?_
  refine W.loopF (fun k0 fr n H => ∃ (x192 : Int) (x193 : Int) (F : Heap), fr = [(0, .slice a2 xs1.length cap3), (3, .int .i64 x192), (9, .slice a2 xs1.length cap3), (10, .int .i64 (xs1.length : Int)), (11, .int .i64 x193)] ∧ St n0 n H F ∧ Ext n0 F0 n F ∧ SR F (.slice a2 xs1.length cap3) xs1 ∧ f_slices_Concat_byte_L0 xs1 k0 x192 x193 = some res) BIG (fr0 := [(0, .slice a2 xs1.length cap3), (3, .int .i64 0), (9, .slice a2 xs1.length cap3), (10, .int .i64 (xs1.length : Int)), (11, .int .i64 0)]) (Fr.le_cons rfl (Fr.le_cons rfl (Fr.le_cons rfl (Fr.le_cons rfl (Fr.le_cons rfl Fr.le_nil))))) ?_ ?_ ?_
  · exact ⟨0, 0, F0, rfl, hS0, hE0, h4, hr⟩
  · intro fr n H hI
    obtain ⟨x192, x193, F188, hfr, hS189, hE190, h191, hr⟩ := hI
    rw [f_slices_Concat_byte_L0] at hr
    cases hr
  · intro k0 _ n186 H187 hI
    obtain ⟨x192, x193, F188, rfl, hS189, hE190, h191, hr⟩ := hI
    have hlen186 := hE190.le
    have hlon186 := hS189.lo
    rw [f_slices_Concat_byte_L0] at hr
    with_reducible refine W.seq ?_
    with_reducible refine W.region ?_
    refine WL.bin .nil rfl rfl rfl rfl rfl rfl ?_
    with_reducible refine WL.nil ?_
    with_reducible refine Ex.thn_norm ?_
    with_reducible refine W.seq ?_
    refine W.condD rfl (fun hc195 => ?_) (fun hc195 => ?_)
    · replace hr := ite_pos hr hc195
      with_reducible refine W.skip ?_
      with_reducible refine Ex.thn_norm ?_
      with_reducible refine W.seq ?_
      with_reducible refine W.block ?_
      with_reducible refine W.seq ?_
      with_reducible refine W.region ?_
      obtain ⟨x209, hx209, hr⟩ := bnd_some hr
      refine GL.index .nil rfl rfl rfl Try.underlying48 info24 rfl rfl h191 hS189.fh rfl hx209 (fun b210 kp211 c212 ecs213 hrow214 hwin215 hR216 => ?_)
      obtain ⟨_, hcs, h219⟩ := hR216
      obtain ⟨a217, cap218, rfl⟩ := SR.form h219
      subst hcs
      refine WL.load1 .nil rfl rfl rfl Try.underlying24 rfl rfl hrow214 ((win_get0 hwin215 (show (0 : Nat) < 1 by decide)).trans rfl) ?_
      refine WL.assign .nil rfl rfl rfl rfl ?_
      with_reducible refine WL.nil ?_
      with_reducible refine Ex.thn_norm ?_
      with_reducible refine W.seq ?_
      with_reducible refine W.region ?_
      refine WL.move .nil rfl rfl rfl rfl ?_
      refine WL.move .nil rfl rfl rfl rfl ?_
      refine WL.len .nil rfl rfl rfl Try.underlying24 rfl ?_
      obtain ⟨hc220, hr⟩ := chk_some hr
      refine WL.addI .nil rfl rfl rfl rfl rfl hc220.1 hc220.2 ?_
      refine WL.assign .nil rfl rfl rfl rfl ?_
      with_reducible refine WL.nil ?_
      with_reducible refine Ex.thn_norm ?_
      with_reducible refine W.seq ?_
      with_reducible refine W.region ?_
      refine WL.move .nil rfl rfl rfl rfl ?_
      refine WL.bin .nil rfl rfl rfl rfl rfl rfl ?_
      with_reducible refine WL.nil ?_
      with_reducible refine Ex.thn_norm ?_
      refine W.condD rfl (fun hc221 => ?_) (fun hc221 => ?_)
      · replace hr := ite_pos hr hc221
        cases hr
      · replace hr := ite_neg hr hc221
        with_reducible refine W.skip ?_
        with_reducible refine Ex.blk_norm ?_
        with_reducible refine Ex.thn_norm ?_
        with_reducible refine W.region ?_
        obtain ⟨hc222, hr⟩ := chk_some hr
        refine WL.addI .nil rfl rfl rfl rfl rfl hc222.1 hc222.2 ?_
        refine WL.move .nil rfl rfl rfl rfl ?_
        with_reducible refine WL.nil ?_
        with_reducible refine Ex.thn_norm ?_
        exact ⟨[(0, .slice a2 xs1.length cap3), (3, .int .i64 (x192 + (x209.length : Int))), (9, .slice a2 xs1.length cap3), (10, .int .i64 (xs1.length : Int)), (11, .int .i64 (x193 + 1))], (Fr.le_cons rfl (Fr.le_cons rfl (Fr.le_cons rfl (Fr.le_cons rfl (Fr.le_cons rfl Fr.le_nil))))), (x192 + (x209.length : Int)), (x193 + 1), F188, rfl, hS189, hE190, h191, hr⟩
    · replace hr := ite_neg hr hc195
      with_reducible refine W.exit ?_
      with_reducible refine Ex.thn_ex ?_
      with_reducible refine Ex.thn_ex ?_
      with_reducible refine Ex.blk_here ?_
      with_reducible refine Ex.thn_norm ?_
      with_reducible refine W.seq ?_
      with_reducible refine W.region ?_
      refine WL.move .nil rfl rfl rfl rfl ?_
      obtain ⟨x223, hx223, hr⟩ := bnd_some hr
      refine GL.callP g.good .nil rfl rfl rfl rfl rfl rfl Try.func114 rfl rfl hS189.lo (f_slices_Grow_byte_nil0_k  g hS189 hx223) (fun v n224 H225 hn226 hk227 hp228 => ?_)
      obtain ⟨a229, cap230, hS232, rfl, h231⟩ := hp228
      have hS233 : St n0 n224 H225 F188 := ⟨by have := hS189.lo; omega, hS232.hb, hS232.fh⟩
      have hlon224 := hS233.lo
      have h234 := OW.lower (lo' := n0) h231 (by omega)
      refine WL.assign .nil rfl rfl rfl rfl ?_
      with_reducible refine WL.nil ?_
      with_reducible refine Ex.thn_norm ?_
      with_reducible refine W.seq ?_
      with_reducible refine W.seq ?_
      with_reducible refine W.region ?_
      refine WL.move .nil rfl rfl rfl rfl ?_
      refine WL.len .nil rfl rfl rfl Try.underlying48 rfl ?_
      refine WL.move .nil rfl rfl rfl rfl ?_
      with_reducible refine WL.nil ?_
      with_reducible refine Ex.thn_norm ?_
      with_reducible refine W.block ?_
      refine W.loopF (fun k1 fr n H => ∃ (a358 : Option Addr) (cap359 : Nat) (xs360 : (List UInt8)) (x364 : Int) (F : Heap), fr = [(6, .slice a358 xs360.length cap359), (25, .slice a2 xs1.length cap3), (26, .int .i64 (xs1.length : Int)), (27, .int .i64 x364)] ∧ St n0 n H F ∧ Ext n0 F0 n F ∧ OW n0 n H F (.slice a358 xs360.length cap359) xs360 ∧ SR F (.slice a2 xs1.length cap3) xs1 ∧ f_slices_Concat_byte_L1 xs1 k1 xs360 x364 = some res) BIG (fr0 := [(6, .slice a229 x223.length cap230), (25, .slice a2 xs1.length cap3), (26, .int .i64 (xs1.length : Int)), (27, .int .i64 0)]) (Fr.le_cons rfl (Fr.le_cons rfl (Fr.le_cons rfl (Fr.le_cons rfl Fr.le_nil)))) ?_ ?_ ?_
      · exact ⟨a229, cap230, x223, 0, F188, rfl, hS233, (hE190.up (by omega)), h234, h191, hr⟩
      · intro fr n H hI
        obtain ⟨a358, cap359, xs360, x364, F355, hfr, hS356, hE357, h361, h363, hr⟩ := hI
        rw [f_slices_Concat_byte_L1] at hr
        cases hr
      · intro k1 _ n353 H354 hI
        obtain ⟨a358, cap359, xs360, x364, F355, rfl, hS356, hE357, h361, h363, hr⟩ := hI
        have hlen353 := hE357.le
        have hlon353 := hS356.lo
        rw [f_slices_Concat_byte_L1] at hr
        with_reducible refine W.seq ?_
        with_reducible refine W.region ?_
        refine WL.bin .nil rfl rfl rfl rfl rfl rfl ?_
        with_reducible refine WL.nil ?_
        with_reducible refine Ex.thn_norm ?_
        with_reducible refine W.seq ?_
        refine W.condD rfl (fun hc366 => ?_) (fun hc366 => ?_)
        · replace hr := ite_pos hr hc366
          with_reducible refine W.skip ?_
          with_reducible refine Ex.thn_norm ?_
          with_reducible refine W.seq ?_
          with_reducible refine W.block ?_
          with_reducible refine W.seq ?_
          with_reducible refine W.region ?_
          obtain ⟨x390, hx390, hr⟩ := bnd_some hr
          refine GL.index .nil rfl rfl rfl Try.underlying48 info24 rfl rfl h363 hS356.fh rfl hx390 (fun b391 kp392 c393 ecs394 hrow395 hwin396 hR397 => ?_)
          obtain ⟨_, hcs, h400⟩ := hR397
          obtain ⟨a398, cap399, rfl⟩ := SR.form h400
          subst hcs
          refine WL.load1 .nil rfl rfl rfl Try.underlying24 rfl rfl hrow395 ((win_get0 hwin396 (show (0 : Nat) < 1 by decide)).trans rfl) ?_
          refine WL.assign .nil rfl rfl rfl rfl ?_
          with_reducible refine WL.nil ?_
          with_reducible refine Ex.thn_norm ?_
          with_reducible refine W.region ?_
          refine WL.move .nil rfl rfl rfl rfl ?_
          refine WL.move .nil rfl rfl rfl rfl ?_
          obtain ⟨hc401, hr⟩ := chk_some hr
          have hb411 := fun b hb => (OW.id_lt (i := b) h361 hb).2
          refine GL.append (α := UInt8) hS356 .nil rfl rfl rfl Try.underlying24 Try.underlying24 rfl info5 rfl rfl rfl (by decide) rfl rfl h361 (by omega) (by omega) (SR.src h400 hS356.fh) hc401 (fun a402 cap403 n404 H405 hS406 hn407 hO408 hk409 hid410 => ?_)
          have hlon404 := hS406.lo
          refine WL.assign .nil rfl rfl rfl rfl ?_
          with_reducible refine WL.nil ?_
          with_reducible refine Ex.blk_norm ?_
          with_reducible refine Ex.thn_norm ?_
          with_reducible refine W.region ?_
          obtain ⟨hc413, hr⟩ := chk_some hr
          refine WL.addI .nil rfl rfl rfl rfl rfl hc413.1 hc413.2 ?_
          refine WL.move .nil rfl rfl rfl rfl ?_
          with_reducible refine WL.nil ?_
          with_reducible refine Ex.thn_norm ?_
          exact ⟨[(6, .slice a402 (xs360 ++ x390).length cap403), (25, .slice a2 xs1.length cap3), (26, .int .i64 (xs1.length : Int)), (27, .int .i64 (x364 + 1))], (Fr.le_cons rfl (Fr.le_cons rfl (Fr.le_cons rfl (Fr.le_cons rfl Fr.le_nil)))), a402, cap403, (xs360 ++ x390), (x364 + 1), F355, rfl, hS406, (hE357.up (by omega)), hO408, h363, hr⟩
        · replace hr := ite_neg hr hc366
          with_reducible refine W.exit ?_
          with_reducible refine Ex.thn_ex ?_
          with_reducible refine Ex.thn_ex ?_
          with_reducible refine Ex.blk_here ?_
          with_reducible refine Ex.thn_norm ?_
          with_reducible refine W.seq ?_
          with_reducible refine W.region ?_
          refine WL.move .nil rfl rfl rfl rfl ?_
          refine WL.assign .nil rfl rfl rfl rfl ?_
          with_reducible refine WL.nil ?_
          with_reducible refine Ex.thn_norm ?_
          with_reducible refine W.ret ?_
          obtain rfl := Option.some.inj hr
          exact ⟨.inr rfl, _, (.cons (.tmp rfl) .nil), ⟨a358, cap359, (Ext.st hE357 hS356), rfl, (OW.downSc hE357.sub h361)⟩⟩
theorem f_impl_crc_k {Δ : Prims} (g : Env Try.prog Δ) {lo n0 : Nat} {H0 F0 : Heap} (hS : St lo n0 H0 F0) {a2 : Option Addr} {cap3 : Nat} {xs1 : (List UInt8)} (h4 : SR F0 (.slice a2 xs1.length cap3) xs1) {res : (UInt32)} (hr : f_impl_crc xs1 = some res) :
    C Try.prog Δ n0 115 [.slice a2 xs1.length cap3] n0 H0 (fun v n H => St n0 n H F0 ∧ v = u32 res) := by
  refine C.body Try.func115 rfl rfl ?_
  unfold f_impl_crc at hr
  have hS0 : St n0 n0 H0 F0 := hS.low (Nat.le_refl _)
  have hE0 := Ext.refl n0 F0
  have hlo0 := hS0.lo
  with_reducible refine W.seq ?_
  with_reducible refine W.region ?_
  refine WL.assign .nil rfl rfl rfl rfl ?_
  with_reducible refine WL.nil ?_
  with_reducible refine Ex.thn_norm ?_
  with_reducible refine W.seq ?_
  with_reducible refine W.region ?_
  refine WL.assign .nil rfl rfl rfl rfl ?_
  with_reducible refine WL.nil ?_
  with_reducible refine Ex.thn_norm ?_
  with_reducible refine W.seq ?_
  with_reducible refine W.seq ?_
  with_reducible refine W.region ?_
  refine WL.move .nil rfl rfl rfl rfl ?_
  refine WL.len .nil rfl rfl rfl Try.underlying24 rfl ?_
  refine WL.move .nil rfl rfl rfl rfl ?_
  with_reducible refine WL.nil ?_
  with_reducible refine Ex.thn_norm ?_
  with_reducible refine W.block ?_
  refine W.loopF (fun k0 fr n H => ∃ (x721 : UInt32) (x723 : Int) (F : Heap), fr = [(3, u32 x721), (7, .slice a2 xs1.length cap3), (8, .int .i64 (xs1.length : Int)), (9, .int .i64 x723)] ∧ St n0 n H F ∧ Ext n0 F0 n F ∧ SR F (.slice a2 xs1.length cap3) xs1 ∧ f_impl_crc_L0 xs1 k0 x721 x723 = some res) BIG (fr0 := [(3, u32 (4294967295 : UInt32)), (7, .slice a2 xs1.length cap3), (8, .int .i64 (xs1.length : Int)), (9, .int .i64 0)]) (Fr.le_cons rfl (Fr.le_cons rfl (Fr.le_cons rfl (Fr.le_cons rfl Fr.le_nil)))) ?_ ?_ ?_
  · exact ⟨(4294967295 : UInt32), 0, F0, rfl, hS0, hE0, h4, hr⟩
  · intro fr n H hI
    obtain ⟨x721, x723, F718, hfr, hS719, hE720, h722, hr⟩ := hI
    rw [f_impl_crc_L0] at hr
    cases hr
  · intro k0 _ n716 H717 hI
    obtain ⟨x721, x723, F718, rfl, hS719, hE720, h722, hr⟩ := hI
    have hlen716 := hE720.le
    have hlon716 := hS719.lo
    rw [f_impl_crc_L0] at hr
    with_reducible refine W.seq ?_
    with_reducible refine W.region ?_
    refine WL.bin .nil rfl rfl rfl rfl rfl rfl ?_
    with_reducible refine WL.nil ?_
    with_reducible refine Ex.thn_norm ?_
    with_reducible refine W.seq ?_
    refine W.condD rfl (fun hc725 => ?_) (fun hc725 => ?_)
    · replace hr := ite_pos hr hc725
      with_reducible refine W.skip ?_
      with_reducible refine Ex.thn_norm ?_
      with_reducible refine W.seq ?_
      with_reducible refine W.block ?_
      with_reducible refine W.seq ?_
      with_reducible refine W.region ?_
      obtain ⟨x792, hx792, hr⟩ := bnd_some hr
      refine GL.index .nil rfl rfl rfl Try.underlying24 info5 rfl rfl h722 hS719.fh rfl hx792 (fun b793 kp794 c795 ecs796 hrow797 hwin798 hR799 => ?_)
      have hcs : _ = ([u8 x792] : List Value) := hR799
      subst hcs
      refine WL.load1 .nil rfl rfl rfl Try.underlying5 rfl rfl hrow797 ((win_get0 hwin798 (show (0 : Nat) < 1 by decide)).trans rfl) ?_
      refine WL.assign .nil rfl rfl rfl rfl ?_
      with_reducible refine WL.nil ?_
      with_reducible refine Ex.thn_norm ?_
      with_reducible refine W.seq ?_
      with_reducible refine W.region ?_
      refine WL.move .nil rfl rfl rfl rfl ?_
      refine WL.move .nil rfl rfl rfl rfl ?_
      refine GL.u8u32 .nil x792 rfl rfl rfl Try.underlying5 Try.underlying137 rfl ?_
      refine GL.u32xor .nil x721 x792.toUInt32 rfl rfl rfl rfl rfl ?_
      refine WL.assign .nil rfl rfl rfl rfl ?_
      with_reducible refine WL.nil ?_
      with_reducible refine Ex.thn_norm ?_
      with_reducible refine W.seq ?_
      with_reducible refine W.region ?_
      refine WL.move .nil rfl rfl rfl rfl ?_
      with_reducible refine WL.nil ?_
      with_reducible refine Ex.thn_norm ?_
      with_reducible refine W.block ?_
      refine W.loopF (fun k1 fr n H => ∃ (x843 : UInt32) (x845 : Int) (F : Heap), fr = [(3, u32 x843), (7, .slice a2 xs1.length cap3), (8, .int .i64 (xs1.length : Int)), (9, .int .i64 x723), (17, .int .i64 x845)] ∧ St n0 n H F ∧ Ext n0 F0 n F ∧ SR F (.slice a2 xs1.length cap3) xs1 ∧ f_impl_crc_L1 x723 (f_impl_crc_L0 xs1 k0) k1 x843 x845 = some res) BIG (fr0 := [(3, u32 (x721 ^^^ x792.toUInt32)), (7, .slice a2 xs1.length cap3), (8, .int .i64 (xs1.length : Int)), (9, .int .i64 x723), (17, .int .i64 0)]) (Fr.le_cons rfl (Fr.le_cons rfl (Fr.le_cons rfl (Fr.le_cons rfl (Fr.le_cons rfl Fr.le_nil))))) ?_ ?_ ?_
      · exact ⟨(x721 ^^^ x792.toUInt32), 0, F718, rfl, hS719, hE720, h722, hr⟩
      · intro fr n H hI
        obtain ⟨x843, x845, F840, hfr, hS841, hE842, h844, hr⟩ := hI
        rw [f_impl_crc_L1] at hr
        cases hr
      · intro k1 _ n838 H839 hI
        obtain ⟨x843, x845, F840, rfl, hS841, hE842, h844, hr⟩ := hI
        have hlen838 := hE842.le
        have hlon838 := hS841.lo
        rw [f_impl_crc_L1] at hr
        with_reducible refine W.seq ?_
        with_reducible refine W.region ?_
        refine WL.bin .nil rfl rfl rfl rfl rfl rfl ?_
        with_reducible refine WL.nil ?_
        with_reducible refine Ex.thn_norm ?_
        with_reducible refine W.seq ?_
        refine W.condD rfl (fun hc847 => ?_) (fun hc847 => ?_)
        · replace hr := ite_pos hr hc847
          with_reducible refine W.skip ?_
          with_reducible refine Ex.thn_norm ?_
          with_reducible refine W.seq ?_
          refine W.cut (fun fr n H => ∃ (x854 : UInt32) (F : Heap), fr = [(3, u32 x854), (7, .slice a2 xs1.length cap3), (8, .int .i64 (xs1.length : Int)), (9, .int .i64 x723), (17, .int .i64 x845)] ∧ St n0 n H F ∧ Ext n0 F0 n F ∧ SR F (.slice a2 xs1.length cap3) xs1 ∧ f_impl_crc_J2 x845 (f_impl_crc_L1 x723 (f_impl_crc_L0 xs1 k0) k1) x854 = some res) ?_ ?_
          · with_reducible refine W.block ?_
            with_reducible refine W.seq ?_
            with_reducible refine W.region ?_
            refine WL.move .nil rfl rfl rfl rfl ?_
            refine GL.u32and .nil x843 (1 : UInt32) rfl rfl rfl rfl rfl ?_
            refine WL.assign .nil rfl rfl rfl rfl ?_
            with_reducible refine WL.nil ?_
            with_reducible refine Ex.thn_norm ?_
            with_reducible refine W.seq ?_
            with_reducible refine W.region ?_
            refine WL.move .nil rfl rfl rfl rfl ?_
            refine GL.u32shr .nil x843 1 rfl rfl rfl rfl rfl (by decide) ?_
            refine WL.assign .nil rfl rfl rfl rfl ?_
            with_reducible refine WL.nil ?_
            with_reducible refine Ex.thn_norm ?_
            with_reducible refine W.seq ?_
            with_reducible refine W.region ?_
            refine WL.move .nil rfl rfl rfl rfl ?_
            refine WL.bin .nil rfl rfl rfl rfl rfl rfl ?_
            with_reducible refine WL.nil ?_
            with_reducible refine Ex.thn_norm ?_
            refine W.condD rfl (fun hc857 => ?_) (fun hc857 => ?_)
            · replace hr := ite_pos hr hc857
              with_reducible refine W.region ?_
              refine WL.move .nil rfl rfl rfl rfl ?_
              refine GL.u32xor .nil (x843 >>> (UInt32.ofNat 1)) (3988292384 : UInt32) rfl rfl rfl rfl rfl ?_
              refine WL.assign .nil rfl rfl rfl rfl ?_
              with_reducible refine WL.nil ?_
              with_reducible refine Ex.blk_norm ?_
              with_reducible refine Ex.thn_norm ?_
              exact ⟨[(3, u32 ((x843 >>> (UInt32.ofNat 1)) ^^^ (3988292384 : UInt32))), (7, .slice a2 xs1.length cap3), (8, .int .i64 (xs1.length : Int)), (9, .int .i64 x723), (17, .int .i64 x845)], (Fr.le_cons rfl (Fr.le_cons rfl (Fr.le_cons rfl (Fr.le_cons rfl (Fr.le_cons rfl Fr.le_nil))))), ((x843 >>> (UInt32.ofNat 1)) ^^^ (3988292384 : UInt32)), F840, rfl, hS841, hE842, h844, hr⟩
            · replace hr := ite_neg hr hc857
              with_reducible refine W.skip ?_
              with_reducible refine Ex.blk_norm ?_
              with_reducible refine Ex.thn_norm ?_
              exact ⟨[(3, u32 (x843 >>> (UInt32.ofNat 1))), (7, .slice a2 xs1.length cap3), (8, .int .i64 (xs1.length : Int)), (9, .int .i64 x723), (17, .int .i64 x845)], (Fr.le_cons rfl (Fr.le_cons rfl (Fr.le_cons rfl (Fr.le_cons rfl (Fr.le_cons rfl Fr.le_nil))))), (x843 >>> (UInt32.ofNat 1)), F840, rfl, hS841, hE842, h844, hr⟩
          · intro _ n849 H850 hI
            obtain ⟨x854, F851, rfl, hS852, hE853, h855, hr⟩ := hI
            have hlen849 := hE853.le
            have hlon849 := hS852.lo
            unfold f_impl_crc_J2 at hr
            with_reducible refine W.region ?_
            obtain ⟨hc856, hr⟩ := chk_some hr
            refine WL.addI .nil rfl rfl rfl rfl rfl hc856.1 hc856.2 ?_
            refine WL.move .nil rfl rfl rfl rfl ?_
            with_reducible refine WL.nil ?_
            with_reducible refine Ex.thn_norm ?_
            exact ⟨[(3, u32 x854), (7, .slice a2 xs1.length cap3), (8, .int .i64 (xs1.length : Int)), (9, .int .i64 x723), (17, .int .i64 (x845 + 1))], (Fr.le_cons rfl (Fr.le_cons rfl (Fr.le_cons rfl (Fr.le_cons rfl (Fr.le_cons rfl Fr.le_nil))))), x854, (x845 + 1), F851, rfl, hS852, hE853, h855, hr⟩
        · replace hr := ite_neg hr hc847
          with_reducible refine W.exit ?_
          with_reducible refine Ex.thn_ex ?_
          with_reducible refine Ex.thn_ex ?_
          with_reducible refine Ex.blk_here ?_
          with_reducible refine Ex.blk_norm ?_
          with_reducible refine Ex.thn_norm ?_
          with_reducible refine W.region ?_
          obtain ⟨hc858, hr⟩ := chk_some hr
          refine WL.addI .nil rfl rfl rfl rfl rfl hc858.1 hc858.2 ?_
          refine WL.move .nil rfl rfl rfl rfl ?_
          with_reducible refine WL.nil ?_
          with_reducible refine Ex.thn_norm ?_
          exact ⟨[(3, u32 x843), (7, .slice a2 xs1.length cap3), (8, .int .i64 (xs1.length : Int)), (9, .int .i64 (x723 + 1))], (Fr.le_cons rfl (Fr.le_cons rfl (Fr.le_cons rfl (Fr.le_cons rfl Fr.le_nil)))), x843, (x723 + 1), F840, rfl, hS841, hE842, h844, hr⟩
    · replace hr := ite_neg hr hc725
      with_reducible refine W.exit ?_
      with_reducible refine Ex.thn_ex ?_
      with_reducible refine Ex.thn_ex ?_
      with_reducible refine Ex.blk_here ?_
      with_reducible refine Ex.thn_norm ?_
      with_reducible refine W.seq ?_
      with_reducible refine W.region ?_
      refine WL.move .nil rfl rfl rfl rfl ?_
      refine GL.u32not .nil x721 rfl rfl rfl rfl ?_
      refine WL.assign .nil rfl rfl rfl rfl ?_
      with_reducible refine WL.nil ?_
      with_reducible refine Ex.thn_norm ?_
      with_reducible refine W.ret ?_
      obtain rfl := Option.some.inj hr
      exact ⟨.inr rfl, _, (.cons (.tmp rfl) .nil), ⟨(Ext.st hE720 hS719), rfl⟩⟩
theorem f_impl_sumBytes_k {Δ : Prims} (g : Env Try.prog Δ) {lo n0 : Nat} {H0 F0 : Heap} (hS : St lo n0 H0 F0) {a2 : Option Addr} {cap3 : Nat} {xs1 : (List UInt8)} (h4 : SR F0 (.slice a2 xs1.length cap3) xs1) {res : ((List UInt8))} (hr : f_impl_sumBytes xs1 = some res) :
    C Try.prog Δ n0 82 [.slice a2 xs1.length cap3] n0 H0 (fun v n H => ∃ (ra1 : Option Addr) (rcap2 : Nat), St n0 n H F0 ∧ v = .slice ra1 res.length rcap2 ∧ OW n0 n H F0 (.slice ra1 res.length rcap2) res) := by
  refine C.body Try.func82 rfl rfl ?_
  unfold f_impl_sumBytes at hr
  have hS0 : St n0 n0 H0 F0 := hS.low (Nat.le_refl _)
  have hE0 := Ext.refl n0 F0
  have hlo0 := hS0.lo
  with_reducible refine W.seq ?_
  with_reducible refine W.region ?_
  refine WL.assign .nil rfl rfl rfl rfl ?_
  with_reducible refine WL.nil ?_
  with_reducible refine Ex.thn_norm ?_
  with_reducible refine W.seq ?_
  with_reducible refine W.region ?_
  refine WL.move .nil rfl rfl rfl rfl ?_
  obtain ⟨x5, hx5, hr⟩ := bnd_some hr
  refine GL.callP g.good .nil rfl rfl rfl rfl rfl rfl Try.func115 rfl rfl hS0.lo (f_impl_crc_k  g hS0 h4 hx5) (fun v n6 H7 hn8 hk9 hp10 => ?_)
  obtain ⟨hS11, rfl⟩ := hp10
  have hS12 : St n0 n6 H7 F0 := ⟨by have := hS0.lo; omega, hS11.hb, hS11.fh⟩
  have hlon6 := hS12.lo
  refine WL.assign .nil rfl rfl rfl rfl ?_
  with_reducible refine WL.nil ?_
  with_reducible refine Ex.thn_norm ?_
  with_reducible refine W.seq ?_
  with_reducible refine W.region ?_
  refine WL.move .nil rfl rfl rfl rfl ?_
  refine WL.convB .nil rfl rfl rfl Try.underlying137 Try.underlying5 rfl ?_
  refine WL.move .nil rfl rfl rfl rfl ?_
  refine GL.u32shr .nil x5 8 rfl rfl rfl rfl rfl (by decide) ?_
  refine WL.convB .nil rfl rfl rfl Try.underlying137 Try.underlying5 rfl ?_
  refine WL.move .nil rfl rfl rfl rfl ?_
  refine GL.u32shr .nil x5 16 rfl rfl rfl rfl rfl (by decide) ?_
  refine WL.convB .nil rfl rfl rfl Try.underlying137 Try.underlying5 rfl ?_
  refine WL.move .nil rfl rfl rfl rfl ?_
  refine GL.u32shr .nil x5 24 rfl rfl rfl rfl rfl (by decide) ?_
  refine WL.convB .nil rfl rfl rfl Try.underlying137 Try.underlying5 rfl ?_
  refine GL.lit (cs := [u8 (byteOf (x5.toNat : Int)), u8 (byteOf ((x5 >>> (UInt32.ofNat 8)).toNat : Int)), u8 (byteOf ((x5 >>> (UInt32.ofNat 16)).toNat : Int)), u8 (byteOf ((x5 >>> (UInt32.ofNat 24)).toNat : Int))]) (xs := ([(byteOf (x5.toNat : Int)), (byteOf ((x5 >>> (UInt32.ofNat 8)).toNat : Int)), (byteOf ((x5 >>> (UInt32.ofNat 16)).toNat : Int)), (byteOf ((x5 >>> (UInt32.ofNat 24)).toNat : Int))] : List UInt8)) hS12 .nil rfl rfl rfl Try.underlying24 info5 rfl rfl rfl (by decide) (by decide) rfl rfl rfl rfl rfl (RA.cons (cs := [u8 (byteOf (x5.toNat : Int))]) (a := ((byteOf (x5.toNat : Int)) : UInt8)) rfl (RA.cons (cs := [u8 (byteOf ((x5 >>> (UInt32.ofNat 8)).toNat : Int))]) (a := ((byteOf ((x5 >>> (UInt32.ofNat 8)).toNat : Int)) : UInt8)) rfl (RA.cons (cs := [u8 (byteOf ((x5 >>> (UInt32.ofNat 16)).toNat : Int))]) (a := ((byteOf ((x5 >>> (UInt32.ofNat 16)).toNat : Int)) : UInt8)) rfl (RA.cons (cs := [u8 (byteOf ((x5 >>> (UInt32.ofNat 24)).toNat : Int))]) (a := ((byteOf ((x5 >>> (UInt32.ofNat 24)).toNat : Int)) : UInt8)) rfl RA.nil)))) rfl (fun H13 hS14 hO15 hk16 => ?_)
  have h17 := OW.lower (lo' := n0) hO15 (by omega)
  have hlon61 := hS14.lo
  refine WL.assign .nil rfl rfl rfl rfl ?_
  with_reducible refine WL.nil ?_
  with_reducible refine Ex.thn_norm ?_
  with_reducible refine W.ret ?_
  obtain rfl := Option.some.inj hr
  exact ⟨.inr rfl, _, (.cons (.tmp rfl) .nil), ⟨(some ⟨n6, 0, none⟩), 4, (Ext.st hE0 hS14), rfl, (OW.downSc hE0.sub h17)⟩⟩
theorem f_impl_frame_k {Δ : Prims} (g : Env Try.prog Δ) {lo n0 : Nat} {H0 F0 : Heap} (hS : St lo n0 H0 F0) {a2 : Option Addr} {cap3 : Nat} {xs1 : (List UInt8)} (h4 : SR F0 (.slice a2 xs1.length cap3) xs1) {res : ((List UInt8))} (hr : f_impl_frame xs1 = some res) :
    C Try.prog Δ n0 77 [.slice a2 xs1.length cap3] n0 H0 (fun v n H => ∃ (ra1 : Option Addr) (rcap2 : Nat), St n0 n H F0 ∧ v = .slice ra1 res.length rcap2 ∧ OW n0 n H F0 (.slice ra1 res.length rcap2) res) := by
  refine C.body Try.func77 rfl rfl ?_
  unfold f_impl_frame at hr
  have hS0 : St n0 n0 H0 F0 := hS.low (Nat.le_refl _)
  have hE0 := Ext.refl n0 F0
  have hlo0 := hS0.lo
  with_reducible refine W.seq ?_
  with_reducible refine W.region ?_
  refine WL.assign .nil rfl rfl rfl rfl ?_
  with_reducible refine WL.nil ?_
  with_reducible refine Ex.thn_norm ?_
  with_reducible refine W.seq ?_
  with_reducible refine W.region ?_
  refine WL.move .nil rfl rfl rfl rfl ?_
  refine WL.len .nil rfl rfl rfl Try.underlying24 rfl ?_
  obtain ⟨x5, hx5, hr⟩ := bnd_some hr
  refine GL.callP g.good .nil rfl rfl rfl rfl rfl rfl Try.func79 rfl rfl hS0.lo (f_impl_number_k  g hS0 hx5) (fun v n6 H7 hn8 hk9 hp10 => ?_)
  obtain ⟨a11, cap12, hS14, rfl, h13⟩ := hp10
  have hS15 : St n0 n6 H7 F0 := ⟨by have := hS0.lo; omega, hS14.hb, hS14.fh⟩
  have hlon6 := hS15.lo
  have h16 := OW.lower (lo' := n0) h13 (by omega)
  refine WL.move .nil rfl rfl rfl rfl ?_
  refine WL.move .nil rfl rfl rfl rfl ?_
  obtain ⟨x18, hx18, hr⟩ := bnd_some hr
  have hb24 := fun b hb => (OW.id_lt (i := b) h16 hb).2
  refine GL.callP g.good .nil rfl rfl rfl rfl rfl rfl Try.func82 rfl rfl hS15.lo (f_impl_sumBytes_k  g hS15 h4 hx18) (fun v n19 H20 hn21 hk22 hp23 => ?_)
  obtain ⟨a25, cap26, hS28, rfl, h27⟩ := hp23
  have h29 := OW.keep (n' := n19) h16 (by omega) (fun i hi => hk22 i (OW.id_lt h16 hi).2)
  have hS30 : St n0 n19 H20 F0 := ⟨by have := hS15.lo; omega, hS28.hb, hS28.fh⟩
  have hlon19 := hS30.lo
  have h31 := OW.lower (lo' := n0) h27 (by omega)
  have ap33 : ∀ b, idOf (.slice a25 x18.length cap26) = some b → idOf (.slice a11 x5.length cap12) ≠ some b := fun b hj hi => by have := (OW.id_lt h27 hj).1; have := hb24 b hi; omega
  obtain ⟨F34, hS35, hle36, h37, hf38⟩ := OW.freeze h29 hS30
  have h39 := OW.keepF h31 hle36 (fun i hi => (hf38 i (fun hj => (fun b h1 h2 => ap33 b h2 h1) i hj hi)).trans (OW.fnone h31 hi))
  have hE40 : Ext n0 F0 n19 F34 := ⟨Nat.le_trans hE0.le (by omega), hE0.sub.trans hle36, fun i hi => (hf38 i (fun hj => by have := OW.id_lt h29 hj; omega)).trans (hE0.eq i hi)⟩
  obtain ⟨F41, hS42, hle43, h44, hf45⟩ := OW.freeze h39 hS35
  have hE46 : Ext n0 F0 n19 F41 := ⟨Nat.le_trans hE40.le (by omega), hE40.sub.trans hle43, fun i hi => (hf45 i (fun hj => by have := OW.id_lt h39 hj; omega)).trans (hE40.eq i hi)⟩
  refine GL.lit (cs := [.slice a11 x5.length cap12, .slice a2 xs1.length cap3, .slice a25 x18.length cap26]) (xs := ([x5, xs1, x18] : List (List UInt8))) hS42 .nil rfl rfl rfl Try.underlying48 info24 rfl rfl rfl (by decide) (by decide) rfl rfl rfl rfl rfl (RA.cons (cs := [.slice a11 x5.length cap12]) (a := (x5 : (List UInt8))) ⟨_, rfl, (h37.mono hle43)⟩ (RA.cons (cs := [.slice a2 xs1.length cap3]) (a := (xs1 : (List UInt8))) ⟨_, rfl, ((h4.mono hle36).mono hle43)⟩ (RA.cons (cs := [.slice a25 x18.length cap26]) (a := (x18 : (List UInt8))) ⟨_, rfl, h44⟩ RA.nil))) rfl (fun H47 hS48 hO49 hk50 => ?_)
  have h51 := OW.lower (lo' := n0) hO49 (by omega)
  have hlon191 := hS48.lo
  obtain ⟨F53, hS54, hle55, h56, hf57⟩ := OW.freeze h51 hS48
  have hE58 : Ext n0 F0 (n19 + 1) F53 := ⟨Nat.le_trans hE46.le (by omega), hE46.sub.trans hle55, fun i hi => (hf57 i (fun hj => by have := OW.id_lt h51 hj; omega)).trans (hE46.eq i hi)⟩
  obtain ⟨x59, hx59, hr⟩ := bnd_some hr
  refine GL.callP g.good .nil rfl rfl rfl rfl rfl rfl Try.func78 rfl rfl hS54.lo (f_slices_Concat_byte_k  g hS54 h56 hx59) (fun v n60 H61 hn62 hk63 hp64 => ?_)
  obtain ⟨a65, cap66, hS68, rfl, h67⟩ := hp64
  have hS69 : St n0 n60 H61 F53 := ⟨by have := hS54.lo; omega, hS68.hb, hS68.fh⟩
  have hlon60 := hS69.lo
  have h70 := OW.lower (lo' := n0) h67 (by omega)
  refine WL.assign .nil rfl rfl rfl rfl ?_
  with_reducible refine WL.nil ?_
  with_reducible refine Ex.thn_norm ?_
  with_reducible refine W.ret ?_
  obtain rfl := Option.some.inj hr
  exact ⟨.inr rfl, _, (.cons (.tmp rfl) .nil), ⟨a65, cap66, (Ext.st hE58 hS69), rfl, (OW.downSc hE58.sub h70)⟩⟩
theorem f_impl_record_k {Δ : Prims} (g : Env Try.prog Δ) {lo n0 : Nat} {H0 F0 : Heap} (hS : St lo n0 H0 F0) {x1 : UInt8} {x2 : Int} {x3 : Int} {a5 : Option Addr} {cap6 : Nat} {xs4 : (List UInt8)} (h7 : SR F0 (.slice a5 xs4.length cap6) xs4) {res : ((List UInt8))} (hr : f_impl_record x1 x2 x3 xs4 = some res) :
    C Try.prog Δ n0 43 [u8 x1, .int .i64 x2, .int .i64 x3, .slice a5 xs4.length cap6] n0 H0 (fun v n H => ∃ (ra1 : Option Addr) (rcap2 : Nat), St n0 n H F0 ∧ v = .slice ra1 res.length rcap2 ∧ OW n0 n H F0 (.slice ra1 res.length rcap2) res) := by
  refine C.body Try.func43 rfl rfl ?_
  unfold f_impl_record at hr
  have hS0 : St n0 n0 H0 F0 := hS.low (Nat.le_refl _)
  have hE0 := Ext.refl n0 F0
  have hlo0 := hS0.lo
  with_reducible refine W.seq ?_
  with_reducible refine W.region ?_
  refine WL.assign .nil rfl rfl rfl rfl ?_
  with_reducible refine WL.nil ?_
  with_reducible refine Ex.thn_norm ?_
  with_reducible refine W.seq ?_
  with_reducible refine W.region ?_
  refine WL.move .nil rfl rfl rfl rfl ?_
  refine GL.lit (cs := [u8 x1]) (xs := ([x1] : List UInt8)) hS0 .nil rfl rfl rfl Try.underlying24 info5 rfl rfl rfl (by decide) (by decide) rfl rfl rfl rfl rfl (RA.cons (cs := [u8 x1]) (a := (x1 : UInt8)) rfl RA.nil) rfl (fun H8 hS9 hO10 hk11 => ?_)
  have h12 := OW.lower (lo' := n0) hO10 (by omega)
  have hlon01 := hS9.lo
  refine WL.move .nil rfl rfl rfl rfl ?_
  obtain ⟨x14, hx14, hr⟩ := bnd_some hr
  have hb20 := fun b hb => (OW.id_lt (i := b) h12 hb).2
  refine GL.callP g.good .nil rfl rfl rfl rfl rfl rfl Try.func79 rfl rfl hS9.lo (f_impl_number_k  g hS9 hx14) (fun v n15 H16 hn17 hk18 hp19 => ?_)
  obtain ⟨a21, cap22, hS24, rfl, h23⟩ := hp19
  have h25 := OW.keep (n' := n15) h12 (by omega) (fun i hi => hk18 i (OW.id_lt h12 hi).2)
  have hS26 : St n0 n15 H16 F0 := ⟨by have := hS9.lo; omega, hS24.hb, hS24.fh⟩
  have hlon15 := hS26.lo
  have h27 := OW.lower (lo' := n0) h23 (by omega)
  have ap29 : ∀ b, idOf (.slice a21 x14.length cap22) = some b → idOf (.slice (some ⟨n0, 0, none⟩) ([x1] : List UInt8).length 1) ≠ some b := fun b hj hi => by have := (OW.id_lt h23 hj).1; have := hb20 b hi; omega
  refine WL.move .nil rfl rfl rfl rfl ?_
  obtain ⟨x30, hx30, hr⟩ := bnd_some hr
  have hb36 := fun b hb => (OW.id_lt (i := b) h25 hb).2
  have hb37 := fun b hb => (OW.id_lt (i := b) h27 hb).2
  refine GL.callP g.good .nil rfl rfl rfl rfl rfl rfl Try.func79 rfl rfl hS26.lo (f_impl_number_k  g hS26 hx30) (fun v n31 H32 hn33 hk34 hp35 => ?_)
  obtain ⟨a38, cap39, hS41, rfl, h40⟩ := hp35
  have h42 := OW.keep (n' := n31) h25 (by omega) (fun i hi => hk34 i (OW.id_lt h25 hi).2)
  have h43 := OW.keep (n' := n31) h27 (by omega) (fun i hi => hk34 i (OW.id_lt h27 hi).2)
  have hS44 : St n0 n31 H32 F0 := ⟨by have := hS26.lo; omega, hS41.hb, hS41.fh⟩
  have hlon31 := hS44.lo
  have h45 := OW.lower (lo' := n0) h40 (by omega)
  have ap47 : ∀ b, idOf (.slice a38 x30.length cap39) = some b → idOf (.slice (some ⟨n0, 0, none⟩) ([x1] : List UInt8).length 1) ≠ some b := fun b hj hi => by have := (OW.id_lt h40 hj).1; have := hb36 b hi; omega
  have ap48 : ∀ b, idOf (.slice a38 x30.length cap39) = some b → idOf (.slice a21 x14.length cap22) ≠ some b := fun b hj hi => by have := (OW.id_lt h40 hj).1; have := hb37 b hi; omega
  refine WL.move .nil rfl rfl rfl rfl ?_
  obtain ⟨F49, hS50, hle51, h52, hf53⟩ := OW.freeze h42 hS44
  have h54 := OW.keepF h43 hle51 (fun i hi => (hf53 i (fun hj => (fun b h1 h2 => ap29 b h2 h1) i hj hi)).trans (OW.fnone h43 hi))
  have h55 := OW.keepF h45 hle51 (fun i hi => (hf53 i (fun hj => (fun b h1 h2 => ap47 b h2 h1) i hj hi)).trans (OW.fnone h45 hi))
  have hE56 : Ext n0 F0 n31 F49 := ⟨Nat.le_trans hE0.le (by omega), hE0.sub.trans hle51, fun i hi => (hf53 i (fun hj => by have := OW.id_lt h42 hj; omega)).trans (hE0.eq i hi)⟩
  obtain ⟨F57, hS58, hle59, h60, hf61⟩ := OW.freeze h54 hS50
  have h62 := OW.keepF h55 hle59 (fun i hi => (hf61 i (fun hj => (fun b h1 h2 => ap48 b h2 h1) i hj hi)).trans (OW.fnone h55 hi))
  have hE63 : Ext n0 F0 n31 F57 := ⟨Nat.le_trans hE56.le (by omega), hE56.sub.trans hle59, fun i hi => (hf61 i (fun hj => by have := OW.id_lt h54 hj; omega)).trans (hE56.eq i hi)⟩
  obtain ⟨F64, hS65, hle66, h67, hf68⟩ := OW.freeze h62 hS58
  have hE69 : Ext n0 F0 n31 F64 := ⟨Nat.le_trans hE63.le (by omega), hE63.sub.trans hle66, fun i hi => (hf68 i (fun hj => by have := OW.id_lt h62 hj; omega)).trans (hE63.eq i hi)⟩
  refine GL.lit (cs := [.slice (some ⟨n0, 0, none⟩) ([x1] : List UInt8).length 1, .slice a21 x14.length cap22, .slice a38 x30.length cap39, .slice a5 xs4.length cap6]) (xs := ([([x1] : List UInt8), x14, x30, xs4] : List (List UInt8))) hS65 .nil rfl rfl rfl Try.underlying48 info24 rfl rfl rfl (by decide) (by decide) rfl rfl rfl rfl rfl (RA.cons (cs := [.slice (some ⟨n0, 0, none⟩) ([x1] : List UInt8).length 1]) (a := (([x1] : List UInt8) : (List UInt8))) ⟨_, rfl, ((h52.mono hle59).mono hle66)⟩ (RA.cons (cs := [.slice a21 x14.length cap22]) (a := (x14 : (List UInt8))) ⟨_, rfl, (h60.mono hle66)⟩ (RA.cons (cs := [.slice a38 x30.length cap39]) (a := (x30 : (List UInt8))) ⟨_, rfl, h67⟩ (RA.cons (cs := [.slice a5 xs4.length cap6]) (a := (xs4 : (List UInt8))) ⟨_, rfl, (((h7.mono hle51).mono hle59).mono hle66)⟩ RA.nil)))) rfl (fun H70 hS71 hO72 hk73 => ?_)
  have h74 := OW.lower (lo' := n0) hO72 (by omega)
  have hlon311 := hS71.lo
  obtain ⟨F76, hS77, hle78, h79, hf80⟩ := OW.freeze h74 hS71
  have hE81 : Ext n0 F0 (n31 + 1) F76 := ⟨Nat.le_trans hE69.le (by omega), hE69.sub.trans hle78, fun i hi => (hf80 i (fun hj => by have := OW.id_lt h74 hj; omega)).trans (hE69.eq i hi)⟩
  obtain ⟨x82, hx82, hr⟩ := bnd_some hr
  refine GL.callP g.good .nil rfl rfl rfl rfl rfl rfl Try.func78 rfl rfl hS77.lo (f_slices_Concat_byte_k  g hS77 h79 hx82) (fun v n83 H84 hn85 hk86 hp87 => ?_)
  obtain ⟨a88, cap89, hS91, rfl, h90⟩ := hp87
  have hS92 : St n0 n83 H84 F76 := ⟨by have := hS77.lo; omega, hS91.hb, hS91.fh⟩
  have hlon83 := hS92.lo
  have h93 := OW.lower (lo' := n0) h90 (by omega)
  obtain ⟨F95, hS96, hle97, h98, hf99⟩ := OW.freeze h93 hS92
  have hE100 : Ext n0 F0 n83 F95 := ⟨Nat.le_trans hE81.le (by omega), hE81.sub.trans hle97, fun i hi => (hf99 i (fun hj => by have := OW.id_lt h93 hj; omega)).trans (hE81.eq i hi)⟩
  obtain ⟨x101, hx101, hr⟩ := bnd_some hr
  refine GL.callP g.good .nil rfl rfl rfl rfl rfl rfl Try.func77 rfl rfl hS96.lo (f_impl_frame_k  g hS96 h98 hx101) (fun v n102 H103 hn104 hk105 hp106 => ?_)
  obtain ⟨a107, cap108, hS110, rfl, h109⟩ := hp106
  have hS111 : St n0 n102 H103 F95 := ⟨by have := hS96.lo; omega, hS110.hb, hS110.fh⟩
  have hlon102 := hS111.lo
  have h112 := OW.lower (lo' := n0) h109 (by omega)
  refine WL.assign .nil rfl rfl rfl rfl ?_
  with_reducible refine WL.nil ?_
  with_reducible refine Ex.thn_norm ?_
  with_reducible refine W.ret ?_
  obtain rfl := Option.some.inj hr
  exact ⟨.inr rfl, _, (.cons (.tmp rfl) .nil), ⟨a107, cap108, (Ext.st hE100 hS111), rfl, (OW.downSc hE100.sub h112)⟩⟩
theorem f_impl_WalOf_k {Δ : Prims} (g : Env Try.prog Δ) {lo n0 : Nat} {H0 F0 : Heap} (hS : St lo n0 H0 F0) {x1 : GWal} {a2 : Option Addr} {cap3 : Nat} (h4 : SR F0 (.slice a2 x1.Log.length cap3) x1.Log) {res : ((List UInt8) × Int)} (hr : f_impl_WalOf x1 = some res) :
    C Try.prog Δ n0 13 [.agg [.int .i64 x1.Term, .int .i64 x1.Vote, .int .i64 x1.Base, .int .i64 x1.BaseTerm, .slice a2 x1.Log.length cap3, .int .i64 x1.Good].toArray] n0 H0 (fun v n H => ∃ (ra1 : Option Addr) (rcap2 : Nat), St n0 n H F0 ∧ v = .tuple #[.slice ra1 res.1.length rcap2, .int .i64 res.2] ∧ OW n0 n H F0 (.slice ra1 res.1.length rcap2) res.1) := by
  refine C.body Try.func13 rfl rfl ?_
  unfold f_impl_WalOf at hr
  have hS0 : St n0 n0 H0 F0 := hS.low (Nat.le_refl _)
  have hE0 := Ext.refl n0 F0
  have hlo0 := hS0.lo
  with_reducible refine W.seq ?_
  with_reducible refine W.region ?_
  refine GL.box hS0 .nil (vc := [.int .i64 x1.Term, .int .i64 x1.Vote, .int .i64 x1.Base, .int .i64 x1.BaseTerm, .slice a2 x1.Log.length cap3, .int .i64 x1.Good]) rfl rfl rfl rfl rfl (by repeat' (first | exact List.forall_mem_nil _ | refine List.forall_mem_cons.2 ⟨?_, ?_⟩ | rfl)) (fun H5 hS6 ho7 hk8 => ?_)
  have fo9 := hS0.fnone (Nat.le_refl _)
  have hlon01 := hS6.lo
  have lt10 : n0 < (n0 + 1) := by omega
  refine WL.assign .nil rfl rfl rfl rfl ?_
  refine WL.assign .nil rfl rfl rfl rfl ?_
  with_reducible refine WL.nil ?_
  with_reducible refine Ex.thn_norm ?_
  with_reducible refine W.seq ?_
  refine W.cut (fun fr n H => ∃ (x38 : Bool) (F : Heap), fr = [(1, .pointer (some ⟨n0, 0, none⟩)), (4, .bool x38)] ∧ St n0 n H F ∧ Ext n0 F0 n F ∧ H n0 = some (.row 1 [.int .i64 x1.Term, .int .i64 x1.Vote, .int .i64 x1.Base, .int .i64 x1.BaseTerm, .slice a2 x1.Log.length cap3, .int .i64 x1.Good]) ∧ F n0 = none ∧ SR F (.slice a2 x1.Log.length cap3) x1.Log ∧ f_impl_WalOf_J0 x1 x38 = some res) ?_ ?_
  · with_reducible refine W.region ?_
    refine WL.fieldAddr .nil rfl rfl rfl Try.underlying40 rfl info3 rfl rfl ?_
    refine WL.load1 .nil rfl rfl rfl Try.underlying3 rfl rfl ho7 rfl ?_
    obtain ⟨x1421, hx1421, hr⟩ := bnd_some hr
    refine GL.callP g.good .nil rfl rfl rfl rfl rfl rfl Try.func41 rfl rfl hS6.lo (f_impl_isTerm_k  g hS6 hx1421) (fun v n1422 H1423 hn1424 hk1425 hp1426 => ?_)
    obtain ⟨hS1427, rfl⟩ := hp1426
    have ho1428 := (hk1425 _ (by have := lt10; omega)).trans ho7
    have hS1429 : St n0 n1422 H1423 F0 := ⟨by have := hS6.lo; omega, hS1427.hb, hS1427.fh⟩
    have hlon1422 := hS1429.lo
    refine WL.move .nil rfl rfl rfl rfl ?_
    refine WL.guard rfl rfl rfl (fun hg1430 => ?_) (fun hg1430 => ?_)
    · replace hr := iteB_pos hr hg1430
      refine WL.fieldAddr .nil rfl rfl rfl Try.underlying40 rfl info3 rfl rfl ?_
      refine WL.load1 .nil rfl rfl rfl Try.underlying3 rfl rfl ho1428 rfl ?_
      obtain ⟨x1431, hx1431, hr⟩ := bnd_some hr
      refine GL.callP g.good .nil rfl rfl rfl rfl rfl rfl Try.func41 rfl rfl hS1429.lo (f_impl_isTerm_k  g hS1429 hx1431) (fun v n1432 H1433 hn1434 hk1435 hp1436 => ?_)
      obtain ⟨hS1437, rfl⟩ := hp1436
      have ho1438 := (hk1435 _ (by have := lt10; omega)).trans ho1428
      have hS1439 : St n0 n1432 H1433 F0 := ⟨by have := hS1429.lo; omega, hS1437.hb, hS1437.fh⟩
      have hlon1432 := hS1439.lo
      refine WL.pick .nil rfl rfl rfl rfl rfl ?_
      refine WL.move .nil rfl rfl rfl rfl ?_
      refine WL.guard rfl rfl rfl (fun hg1440 => ?_) (fun hg1440 => ?_)
      · replace hr := iteB_pos hr hg1440
        refine WL.fieldAddr .nil rfl rfl rfl Try.underlying40 rfl info3 rfl rfl ?_
        refine WL.load1 .nil rfl rfl rfl Try.underlying3 rfl rfl ho1438 rfl ?_
        refine WL.bin .nil rfl rfl rfl rfl rfl rfl ?_
        refine WL.pick .nil rfl rfl rfl rfl rfl ?_
        refine WL.move .nil rfl rfl rfl rfl ?_
        refine WL.guardD rfl rfl rfl (fun hg1441 => ?_) (fun hg1441 => ?_)
        · replace hr := ite_pos hr hg1441
          refine WL.fieldAddr .nil rfl rfl rfl Try.underlying40 rfl info3 rfl rfl ?_
          refine WL.load1 .nil rfl rfl rfl Try.underlying3 rfl rfl ho1438 rfl ?_
          refine WL.bin .nil rfl rfl rfl rfl rfl rfl ?_
          refine WL.pick .nil rfl rfl rfl rfl rfl ?_
          refine WL.move .nil rfl rfl rfl rfl ?_
          refine WL.guardD rfl rfl rfl (fun hg1442 => ?_) (fun hg1442 => ?_)
          · replace hr := ite_pos hr hg1442
            refine WL.fieldAddr .nil rfl rfl rfl Try.underlying40 rfl info30 rfl rfl ?_
            refine WL.load1 .nil rfl rfl rfl Try.underlying30 rfl rfl ho1438 rfl ?_
            refine WL.len .nil rfl rfl rfl Try.underlying30 rfl ?_
            refine WL.bin .nil rfl rfl rfl rfl rfl rfl ?_
            refine WL.pick .nil rfl rfl rfl rfl rfl ?_
            refine WL.assign .nil rfl rfl rfl rfl ?_
            with_reducible refine WL.nil ?_
            with_reducible refine Ex.thn_norm ?_
            exact ⟨[(1, .pointer (some ⟨n0, 0, none⟩)), (4, .bool (decide ((x1.Log.length : Int) ≤ 100)))], (Fr.le_cons rfl (Fr.le_cons rfl Fr.le_nil)), (decide ((x1.Log.length : Int) ≤ 100)), F0, rfl, hS1439, (hE0.up (by omega)), ho1438, fo9, h4, hr⟩
          · replace hr := ite_neg hr hg1442
            refine WL.skip .nil rfl rfl ?_
            refine WL.skip .nil rfl rfl ?_
            refine WL.skip .nil rfl rfl ?_
            refine WL.skip .nil rfl rfl ?_
            refine WL.pick .nil rfl rfl rfl rfl rfl ?_
            refine WL.assign .nil rfl rfl rfl rfl ?_
            with_reducible refine WL.nil ?_
            with_reducible refine Ex.thn_norm ?_
            exact ⟨[(1, .pointer (some ⟨n0, 0, none⟩)), (4, .bool false)], (Fr.le_cons rfl (Fr.le_cons rfl Fr.le_nil)), false, F0, rfl, hS1439, (hE0.up (by omega)), ho1438, fo9, h4, hr⟩
        · replace hr := ite_neg hr hg1441
          refine WL.skip .nil rfl rfl ?_
          refine WL.skip .nil rfl rfl ?_
          refine WL.skip .nil rfl rfl ?_
          refine WL.pick .nil rfl rfl rfl rfl rfl ?_
          refine WL.move .nil rfl rfl rfl rfl ?_
          refine WL.skip .nil rfl rfl ?_
          refine WL.skip .nil rfl rfl ?_
          refine WL.skip .nil rfl rfl ?_
          refine WL.skip .nil rfl rfl ?_
          refine WL.pick .nil rfl rfl rfl rfl rfl ?_
          refine WL.assign .nil rfl rfl rfl rfl ?_
          with_reducible refine WL.nil ?_
          with_reducible refine Ex.thn_norm ?_
          exact ⟨[(1, .pointer (some ⟨n0, 0, none⟩)), (4, .bool false)], (Fr.le_cons rfl (Fr.le_cons rfl Fr.le_nil)), false, F0, rfl, hS1439, (hE0.up (by omega)), ho1438, fo9, h4, hr⟩
      · replace hr := iteB_neg hr hg1440
        refine WL.skip .nil rfl rfl ?_
        refine WL.skip .nil rfl rfl ?_
        refine WL.skip .nil rfl rfl ?_
        refine WL.pick .nil rfl rfl rfl rfl rfl ?_
        refine WL.move .nil rfl rfl rfl rfl ?_
        refine WL.skip .nil rfl rfl ?_
        refine WL.skip .nil rfl rfl ?_
        refine WL.skip .nil rfl rfl ?_
        refine WL.pick .nil rfl rfl rfl rfl rfl ?_
        refine WL.move .nil rfl rfl rfl rfl ?_
        refine WL.skip .nil rfl rfl ?_
        refine WL.skip .nil rfl rfl ?_
        refine WL.skip .nil rfl rfl ?_
        refine WL.skip .nil rfl rfl ?_
        refine WL.pick .nil rfl rfl rfl rfl rfl ?_
        refine WL.assign .nil rfl rfl rfl rfl ?_
        with_reducible refine WL.nil ?_
        with_reducible refine Ex.thn_norm ?_
        exact ⟨[(1, .pointer (some ⟨n0, 0, none⟩)), (4, .bool false)], (Fr.le_cons rfl (Fr.le_cons rfl Fr.le_nil)), false, F0, rfl, hS1439, (hE0.up (by omega)), ho1438, fo9, h4, hr⟩
    · replace hr := iteB_neg hr hg1430
      refine WL.skip .nil rfl rfl ?_
      refine WL.skip .nil rfl rfl ?_
      refine WL.skip .nil rfl rfl ?_
      refine WL.pick .nil rfl rfl rfl rfl rfl ?_
      refine WL.move .nil rfl rfl rfl rfl ?_
      refine WL.skip .nil rfl rfl ?_
      refine WL.skip .nil rfl rfl ?_
      refine WL.skip .nil rfl rfl ?_
      refine WL.pick .nil rfl rfl rfl rfl rfl ?_
      refine WL.move .nil rfl rfl rfl rfl ?_
      refine WL.skip .nil rfl rfl ?_
      refine WL.skip .nil rfl rfl ?_
      refine WL.skip .nil rfl rfl ?_
      refine WL.pick .nil rfl rfl rfl rfl rfl ?_
      refine WL.move .nil rfl rfl rfl rfl ?_
      refine WL.skip .nil rfl rfl ?_
      refine WL.skip .nil rfl rfl ?_
      refine WL.skip .nil rfl rfl ?_
      refine WL.skip .nil rfl rfl ?_
      refine WL.pick .nil rfl rfl rfl rfl rfl ?_
      refine WL.assign .nil rfl rfl rfl rfl ?_
      with_reducible refine WL.nil ?_
      with_reducible refine Ex.thn_norm ?_
      exact ⟨[(1, .pointer (some ⟨n0, 0, none⟩)), (4, .bool false)], (Fr.le_cons rfl (Fr.le_cons rfl Fr.le_nil)), false, F0, rfl, hS1429, (hE0.up (by omega)), ho1428, fo9, h4, hr⟩
  · intro _ n33 H34 hI
    obtain ⟨x38, F35, rfl, hS36, hE37, ho40, fo41, h39, hr⟩ := hI
    have lt42 := hS36.lt ho40
    have hlen33 := hE37.le
    have hlon33 := hS36.lo
    unfold f_impl_WalOf_J0 at hr
    with_reducible refine W.seq ?_
    with_reducible refine W.seq ?_
    with_reducible refine W.region ?_
    refine WL.fieldAddr .nil rfl rfl rfl Try.underlying40 rfl info30 rfl rfl ?_
    refine WL.load1 .nil rfl rfl rfl Try.underlying30 rfl rfl ho40 rfl ?_
    refine WL.len .nil rfl rfl rfl Try.underlying30 rfl ?_
    refine WL.move .nil rfl rfl rfl rfl ?_
    with_reducible refine WL.nil ?_
    with_reducible refine Ex.thn_norm ?_
    with_reducible refine W.block ?_
    refine W.loopF (fun k1 fr n H => ∃ (x524 : Bool) (x526 : Int) (F : Heap), fr = [(1, .pointer (some ⟨n0, 0, none⟩)), (4, .bool x524), (35, .slice a2 x1.Log.length cap3), (36, .int .i64 (x1.Log.length : Int)), (37, .int .i64 x526)] ∧ St n0 n H F ∧ Ext n0 F0 n F ∧ H n0 = some (.row 1 [.int .i64 x1.Term, .int .i64 x1.Vote, .int .i64 x1.Base, .int .i64 x1.BaseTerm, .slice a2 x1.Log.length cap3, .int .i64 x1.Good]) ∧ F n0 = none ∧ SR F (.slice a2 x1.Log.length cap3) x1.Log ∧ f_impl_WalOf_L1 x1 k1 x524 x526 = some res) BIG (fr0 := [(1, .pointer (some ⟨n0, 0, none⟩)), (4, .bool x38), (35, .slice a2 x1.Log.length cap3), (36, .int .i64 (x1.Log.length : Int)), (37, .int .i64 0)]) (Fr.le_cons rfl (Fr.le_cons rfl (Fr.le_cons rfl (Fr.le_cons rfl (Fr.le_cons rfl Fr.le_nil))))) ?_ ?_ ?_
    · exact ⟨x38, 0, F35, rfl, hS36, hE37, ho40, fo41, h39, hr⟩
    · intro fr n H hI
      obtain ⟨x524, x526, F521, hfr, hS522, hE523, ho527, fo528, h525, hr⟩ := hI
      rw [f_impl_WalOf_L1] at hr
      cases hr
    · intro k1 _ n519 H520 hI
      obtain ⟨x524, x526, F521, rfl, hS522, hE523, ho527, fo528, h525, hr⟩ := hI
      have lt529 := hS522.lt ho527
      have hlen519 := hE523.le
      have hlon519 := hS522.lo
      rw [f_impl_WalOf_L1] at hr
      with_reducible refine W.seq ?_
      with_reducible refine W.region ?_
      refine WL.bin .nil rfl rfl rfl rfl rfl rfl ?_
      with_reducible refine WL.nil ?_
      with_reducible refine Ex.thn_norm ?_
      with_reducible refine W.seq ?_
      refine W.condD rfl (fun hc531 => ?_) (fun hc531 => ?_)
      · replace hr := ite_pos hr hc531
        with_reducible refine W.skip ?_
        with_reducible refine Ex.thn_norm ?_
        with_reducible refine W.seq ?_
        refine W.cut (fun fr n H => ∃ (x573 : Bool) (F : Heap), fr = [(1, .pointer (some ⟨n0, 0, none⟩)), (4, .bool x573), (35, .slice a2 x1.Log.length cap3), (36, .int .i64 (x1.Log.length : Int)), (37, .int .i64 x526)] ∧ St n0 n H F ∧ Ext n0 F0 n F ∧ H n0 = some (.row 1 [.int .i64 x1.Term, .int .i64 x1.Vote, .int .i64 x1.Base, .int .i64 x1.BaseTerm, .slice a2 x1.Log.length cap3, .int .i64 x1.Good]) ∧ F n0 = none ∧ SR F (.slice a2 x1.Log.length cap3) x1.Log ∧ f_impl_WalOf_J2 x526 (f_impl_WalOf_L1 x1 k1) x573 = some res) ?_ ?_
        · with_reducible refine W.block ?_
          with_reducible refine W.seq ?_
          with_reducible refine W.region ?_
          refine WL.move .nil rfl rfl rfl rfl ?_
          obtain ⟨x579, hx579, hr⟩ := bnd_some hr
          refine GL.index .nil rfl rfl rfl Try.underlying30 info37 rfl rfl h525 hS522.fh rfl hx579 (fun b580 kp581 c582 ecs583 hrow584 hwin585 hR586 => ?_)
          obtain ⟨a587, cap588, rfl, h589⟩ := GRec.ofR hR586
          refine WL.loadN .nil (l' := [.int .i64 x579.Term, .int .i64 x579.Index, .slice a587 x579.Data.length cap588]) rfl rfl rfl Try.underlying37 rfl info37 rfl hrow584 hwin585 rfl ?_
          refine GL.alloc hS522 .nil (zc := [.int .i64 0, .int .i64 0, .slice none 0 0]) rfl rfl rfl info37 rfl rfl rfl (fun H590 hS591 ho592 hk593 => ?_)
          have fo594 := hS522.fnone (Nat.le_refl _)
          have ho596 := (hk593 _ (by have := lt529; omega)).trans ho527
          have hlon5191 := hS591.lo
          have lt595 : n519 < (n519 + 1) := by omega
          refine WL.assign .nil rfl rfl rfl rfl ?_
          refine GL.store hS591 .nil (vc := [.int .i64 x579.Term, .int .i64 x579.Index, .slice a587 x579.Data.length cap588]) (c' := [.int .i64 x579.Term, .int .i64 x579.Index, .slice a587 x579.Data.length cap588]) rfl rfl rfl info37 rfl rfl rfl rfl ho592 fo594 (Nat.le_of_ble_eq_true rfl) (by omega) (by repeat' (first | exact List.forall_mem_nil _ | refine List.forall_mem_cons.2 ⟨?_, ?_⟩ | rfl)) rfl (fun H597 hS598 ho599 hk600 => ?_)
          have ho601 := (hk600 _ (by omega)).trans ho596
          with_reducible refine WL.nil ?_
          with_reducible refine Ex.thn_norm ?_
          with_reducible refine W.region ?_
          refine WL.move .nil rfl rfl rfl rfl ?_
          refine WL.move .nil rfl rfl rfl rfl ?_
          refine WL.guard rfl rfl rfl (fun hg602 => ?_) (fun hg602 => ?_)
          · replace hr := iteB_pos hr hg602
            refine WL.loadN .nil (l' := [.int .i64 x579.Term, .int .i64 x579.Index, .slice a587 x579.Data.length cap588]) rfl rfl rfl Try.underlying37 rfl info37 rfl ho599 rfl rfl ?_
            obtain ⟨x603, hx603, hr⟩ := bnd_some hr
            refine GL.callP g.good .nil rfl rfl rfl rfl rfl rfl Try.func42 rfl rfl hS598.lo (f_impl_recOK_k  g hS598 h589 hx603) (fun v n604 H605 hn606 hk607 hp608 => ?_)
            obtain ⟨hS609, rfl⟩ := hp608
            have ho610 := (hk607 _ (by have := lt529; omega)).trans ho601
            have ho611 := (hk607 _ (by have := lt595; omega)).trans ho599
            have hS612 : St n0 n604 H605 F521 := ⟨by have := hS598.lo; omega, hS609.hb, hS609.fh⟩
            have hlon604 := hS612.lo
            refine WL.pick .nil rfl rfl rfl rfl rfl ?_
            refine WL.move .nil rfl rfl rfl rfl ?_
            refine WL.guard rfl rfl rfl (fun hg613 => ?_) (fun hg613 => ?_)
            · replace hr := iteB_pos hr hg613
              refine WL.fieldAddr .nil rfl rfl rfl Try.underlying37 rfl info3 rfl rfl ?_
              refine WL.load1 .nil rfl rfl rfl Try.underlying3 rfl rfl ho611 rfl ?_
              refine WL.move .nil rfl rfl rfl rfl ?_
              obtain ⟨hc614, hr⟩ := chk_some hr
              refine WL.addI .nil rfl rfl rfl rfl rfl hc614.1 hc614.2 ?_
              refine WL.bin .nil rfl rfl rfl rfl rfl rfl ?_
              refine WL.pick .nil rfl rfl rfl rfl rfl ?_
              refine WL.assign .nil rfl rfl rfl rfl ?_
              with_reducible refine WL.nil ?_
              with_reducible refine Ex.blk_norm ?_
              with_reducible refine Ex.thn_norm ?_
              exact ⟨[(1, .pointer (some ⟨n0, 0, none⟩)), (4, .bool (decide (x579.Index = (x526 + 1)))), (35, .slice a2 x1.Log.length cap3), (36, .int .i64 (x1.Log.length : Int)), (37, .int .i64 x526)], (Fr.le_cons rfl (Fr.le_cons rfl (Fr.le_cons rfl (Fr.le_cons rfl (Fr.le_cons rfl Fr.le_nil))))), (decide (x579.Index = (x526 + 1))), F521, rfl, hS612, (hE523.up (by omega)), ho610, fo528, h525, hr⟩
            · replace hr := iteB_neg hr hg613
              refine WL.skip .nil rfl rfl ?_
              refine WL.skip .nil rfl rfl ?_
              refine WL.skip .nil rfl rfl ?_
              refine WL.skip .nil rfl rfl ?_
              refine WL.skip .nil rfl rfl ?_
              refine WL.pick .nil rfl rfl rfl rfl rfl ?_
              refine WL.assign .nil rfl rfl rfl rfl ?_
              with_reducible refine WL.nil ?_
              with_reducible refine Ex.blk_norm ?_
              with_reducible refine Ex.thn_norm ?_
              exact ⟨[(1, .pointer (some ⟨n0, 0, none⟩)), (4, .bool false), (35, .slice a2 x1.Log.length cap3), (36, .int .i64 (x1.Log.length : Int)), (37, .int .i64 x526)], (Fr.le_cons rfl (Fr.le_cons rfl (Fr.le_cons rfl (Fr.le_cons rfl (Fr.le_cons rfl Fr.le_nil))))), false, F521, rfl, hS612, (hE523.up (by omega)), ho610, fo528, h525, hr⟩
          · replace hr := iteB_neg hr hg602
            refine WL.skip .nil rfl rfl ?_
            refine WL.skip .nil rfl rfl ?_
            refine WL.pick .nil rfl rfl rfl rfl rfl ?_
            refine WL.move .nil rfl rfl rfl rfl ?_
            refine WL.skip .nil rfl rfl ?_
            refine WL.skip .nil rfl rfl ?_
            refine WL.skip .nil rfl rfl ?_
            refine WL.skip .nil rfl rfl ?_
            refine WL.skip .nil rfl rfl ?_
            refine WL.pick .nil rfl rfl rfl rfl rfl ?_
            refine WL.assign .nil rfl rfl rfl rfl ?_
            with_reducible refine WL.nil ?_
            with_reducible refine Ex.blk_norm ?_
            with_reducible refine Ex.thn_norm ?_
            exact ⟨[(1, .pointer (some ⟨n0, 0, none⟩)), (4, .bool false), (35, .slice a2 x1.Log.length cap3), (36, .int .i64 (x1.Log.length : Int)), (37, .int .i64 x526)], (Fr.le_cons rfl (Fr.le_cons rfl (Fr.le_cons rfl (Fr.le_cons rfl (Fr.le_cons rfl Fr.le_nil))))), false, F521, rfl, hS598, (hE523.up (by omega)), ho601, fo528, h525, hr⟩
        · intro _ n568 H569 hI
          obtain ⟨x573, F570, rfl, hS571, hE572, ho575, fo576, h574, hr⟩ := hI
          have lt577 := hS571.lt ho575
          have hlen568 := hE572.le
          have hlon568 := hS571.lo
          unfold f_impl_WalOf_J2 at hr
          with_reducible refine W.region ?_
          obtain ⟨hc578, hr⟩ := chk_some hr
          refine WL.addI .nil rfl rfl rfl rfl rfl hc578.1 hc578.2 ?_
          refine WL.move .nil rfl rfl rfl rfl ?_
          with_reducible refine WL.nil ?_
          with_reducible refine Ex.thn_norm ?_
          exact ⟨[(1, .pointer (some ⟨n0, 0, none⟩)), (4, .bool x573), (35, .slice a2 x1.Log.length cap3), (36, .int .i64 (x1.Log.length : Int)), (37, .int .i64 (x526 + 1))], (Fr.le_cons rfl (Fr.le_cons rfl (Fr.le_cons rfl (Fr.le_cons rfl (Fr.le_cons rfl Fr.le_nil))))), x573, (x526 + 1), F570, rfl, hS571, hE572, ho575, fo576, h574, hr⟩
      · replace hr := ite_neg hr hc531
        with_reducible refine W.exit ?_
        with_reducible refine Ex.thn_ex ?_
        with_reducible refine Ex.thn_ex ?_
        with_reducible refine Ex.blk_here ?_
        with_reducible refine Ex.thn_norm ?_
        with_reducible refine W.seq ?_
        with_reducible refine W.seq ?_
        with_reducible refine W.region ?_
        refine WL.move .nil rfl rfl rfl rfl ?_
        refine WL.not .nil rfl rfl rfl rfl ?_
        with_reducible refine WL.nil ?_
        with_reducible refine Ex.thn_norm ?_
        refine W.cond rfl (fun hc616 => ?_) (fun hc616 => ?_)
        · replace hr := iteB_pos hr hc616
          with_reducible refine W.seq ?_
          with_reducible refine W.region ?_
          refine WL.assign .nil rfl rfl rfl rfl ?_
          refine WL.assign .nil rfl rfl rfl rfl ?_
          with_reducible refine WL.nil ?_
          with_reducible refine Ex.thn_norm ?_
          with_reducible refine W.ret ?_
          with_reducible refine Ex.thn_ret ?_
          obtain rfl := Option.some.inj hr
          exact ⟨.inr rfl, _, (.cons (.tmp rfl) (.cons (.tmp rfl) .nil)), ⟨none, 0, (Ext.st hE523 hS522), rfl, OW.nil⟩⟩
        · replace hr := iteB_neg hr hc616
          with_reducible refine W.skip ?_
          with_reducible refine Ex.thn_norm ?_
          with_reducible refine W.seq ?_
          with_reducible refine W.region ?_
          refine WL.fieldAddr .nil rfl rfl rfl Try.underlying40 rfl info3 rfl rfl ?_
          refine WL.load1 .nil rfl rfl rfl Try.underlying3 rfl rfl ho527 rfl ?_
          refine WL.fieldAddr .nil rfl rfl rfl Try.underlying40 rfl info3 rfl rfl ?_
          refine WL.load1 .nil rfl rfl rfl Try.underlying3 rfl rfl ho527 rfl ?_
          obtain ⟨x617, hx617, hr⟩ := bnd_some hr
          refine GL.callP g.good .nil rfl rfl rfl rfl rfl rfl Try.func43 rfl rfl hS522.lo (f_impl_record_k  g hS522 SR.nil hx617) (fun v n618 H619 hn620 hk621 hp622 => ?_)
          obtain ⟨a623, cap624, hS626, rfl, h625⟩ := hp622
          have ho627 := (hk621 _ (by have := lt529; omega)).trans ho527
          have hS628 : St n0 n618 H619 F521 := ⟨by have := hS522.lo; omega, hS626.hb, hS626.fh⟩
          have hlon618 := hS628.lo
          have h629 := OW.lower (lo' := n0) h625 (by omega)
          have ap631 : idOf (.slice a623 x617.length cap624) ≠ some n0 := fun hj => by have := (OW.id_lt h625 hj).1; have := lt529; omega
          refine WL.assign .nil rfl rfl rfl rfl ?_
          with_reducible refine WL.nil ?_
          with_reducible refine Ex.thn_norm ?_
          with_reducible refine W.seq ?_
          with_reducible refine W.seq ?_
          with_reducible refine W.region ?_
          refine WL.fieldAddr .nil rfl rfl rfl Try.underlying40 rfl info30 rfl rfl ?_
          refine WL.load1 .nil rfl rfl rfl Try.underlying30 rfl rfl ho627 rfl ?_
          refine WL.len .nil rfl rfl rfl Try.underlying30 rfl ?_
          refine WL.move .nil rfl rfl rfl rfl ?_
          with_reducible refine WL.nil ?_
          with_reducible refine Ex.thn_norm ?_
          with_reducible refine W.block ?_
          refine W.loopF (fun k3 fr n H => ∃ (a1292 : Option Addr) (cap1293 : Nat) (xs1294 : (List UInt8)) (x1298 : Int) (F : Heap), fr = [(7, .slice a1292 xs1294.length cap1293), (63, .slice a2 x1.Log.length cap3), (64, .int .i64 (x1.Log.length : Int)), (65, .int .i64 x1298)] ∧ St n0 n H F ∧ Ext n0 F0 n F ∧ OW n0 n H F (.slice a1292 xs1294.length cap1293) xs1294 ∧ SR F (.slice a2 x1.Log.length cap3) x1.Log ∧ f_impl_WalOf_L3 x1 k3 xs1294 x1298 = some res) BIG (fr0 := [(7, .slice a623 x617.length cap624), (63, .slice a2 x1.Log.length cap3), (64, .int .i64 (x1.Log.length : Int)), (65, .int .i64 0)]) (Fr.le_cons rfl (Fr.le_cons rfl (Fr.le_cons rfl (Fr.le_cons rfl Fr.le_nil)))) ?_ ?_ ?_
          · exact ⟨a623, cap624, x617, 0, F521, rfl, hS628, (hE523.up (by omega)), h629, h525, hr⟩
          · intro fr n H hI
            obtain ⟨a1292, cap1293, xs1294, x1298, F1289, hfr, hS1290, hE1291, h1295, h1297, hr⟩ := hI
            rw [f_impl_WalOf_L3] at hr
            cases hr
          · intro k3 _ n1287 H1288 hI
            obtain ⟨a1292, cap1293, xs1294, x1298, F1289, rfl, hS1290, hE1291, h1295, h1297, hr⟩ := hI
            have hlen1287 := hE1291.le
            have hlon1287 := hS1290.lo
            rw [f_impl_WalOf_L3] at hr
            with_reducible refine W.seq ?_
            with_reducible refine W.region ?_
            refine WL.bin .nil rfl rfl rfl rfl rfl rfl ?_
            with_reducible refine WL.nil ?_
            with_reducible refine Ex.thn_norm ?_
            with_reducible refine W.seq ?_
            refine W.condD rfl (fun hc1300 => ?_) (fun hc1300 => ?_)
            · replace hr := ite_pos hr hc1300
              with_reducible refine W.skip ?_
              with_reducible refine Ex.thn_norm ?_
              with_reducible refine W.seq ?_
              with_reducible refine W.block ?_
              with_reducible refine W.seq ?_
              with_reducible refine W.region ?_
              obtain ⟨x1360, hx1360, hr⟩ := bnd_some hr
              refine GL.index .nil rfl rfl rfl Try.underlying30 info37 rfl rfl h1297 hS1290.fh rfl hx1360 (fun b1361 kp1362 c1363 ecs1364 hrow1365 hwin1366 hR1367 => ?_)
              obtain ⟨a1368, cap1369, rfl, h1370⟩ := GRec.ofR hR1367
              refine WL.loadN .nil (l' := [.int .i64 x1360.Term, .int .i64 x1360.Index, .slice a1368 x1360.Data.length cap1369]) rfl rfl rfl Try.underlying37 rfl info37 rfl hrow1365 hwin1366 rfl ?_
              refine GL.alloc hS1290 .nil (zc := [.int .i64 0, .int .i64 0, .slice none 0 0]) rfl rfl rfl info37 rfl rfl rfl (fun H1371 hS1372 ho1373 hk1374 => ?_)
              have fo1375 := hS1290.fnone (Nat.le_refl _)
              have ap1377 : idOf (.slice a1292 xs1294.length cap1293) ≠ some n1287 := fun hj => by have := OW.id_lt h1295 hj; omega
              have h1378 := OW.keep (n' := (n1287 + 1)) h1295 (by omega) (fun i hi => hk1374 i (OW.id_lt h1295 hi).2)
              have hlon12871 := hS1372.lo
              have lt1376 : n1287 < (n1287 + 1) := by omega
              refine GL.store hS1372 .nil (vc := [.int .i64 x1360.Term, .int .i64 x1360.Index, .slice a1368 x1360.Data.length cap1369]) (c' := [.int .i64 x1360.Term, .int .i64 x1360.Index, .slice a1368 x1360.Data.length cap1369]) rfl rfl rfl info37 rfl rfl rfl rfl ho1373 fo1375 (Nat.le_of_ble_eq_true rfl) (by omega) (by repeat' (first | exact List.forall_mem_nil _ | refine List.forall_mem_cons.2 ⟨?_, ?_⟩ | rfl)) rfl (fun H1379 hS1380 ho1381 hk1382 => ?_)
              have h1383 := OW.keep h1378 (Nat.le_refl _) (fun i hi => hk1382 i (fun hj => ap1377 (hj ▸ hi)))
              with_reducible refine WL.nil ?_
              with_reducible refine Ex.thn_norm ?_
              with_reducible refine W.region ?_
              refine WL.move .nil rfl rfl rfl rfl ?_
              refine WL.fieldAddr .nil rfl rfl rfl Try.underlying37 rfl info3 rfl rfl ?_
              refine WL.load1 .nil rfl rfl rfl Try.underlying3 rfl rfl ho1381 rfl ?_
              refine WL.fieldAddr .nil rfl rfl rfl Try.underlying37 rfl info3 rfl rfl ?_
              refine WL.load1 .nil rfl rfl rfl Try.underlying3 rfl rfl ho1381 rfl ?_
              refine WL.fieldAddr .nil rfl rfl rfl Try.underlying37 rfl info24 rfl rfl ?_
              refine WL.load1 .nil rfl rfl rfl Try.underlying24 rfl rfl ho1381 rfl ?_
              obtain ⟨x1384, hx1384, hr⟩ := bnd_some hr
              have hb1390 := fun b hb => (OW.id_lt (i := b) h1383 hb).2
              refine GL.callP g.good .nil rfl rfl rfl rfl rfl rfl Try.func43 rfl rfl hS1380.lo (f_impl_record_k  g hS1380 h1370 hx1384) (fun v n1385 H1386 hn1387 hk1388 hp1389 => ?_)
              obtain ⟨a1391, cap1392, hS1394, rfl, h1393⟩ := hp1389
              have ho1395 := (hk1388 _ (by have := lt1376; omega)).trans ho1381
              have h1396 := OW.keep (n' := n1385) h1383 (by omega) (fun i hi => hk1388 i (OW.id_lt h1383 hi).2)
              have hS1397 : St n0 n1385 H1386 F1289 := ⟨by have := hS1380.lo; omega, hS1394.hb, hS1394.fh⟩
              have hlon1385 := hS1397.lo
              have h1398 := OW.lower (lo' := n0) h1393 (by omega)
              have ap1400 : idOf (.slice a1391 x1384.length cap1392) ≠ some n1287 := fun hj => by have := (OW.id_lt h1393 hj).1; have := lt1376; omega
              have ap1401 : ∀ b, idOf (.slice a1391 x1384.length cap1392) = some b → idOf (.slice a1292 xs1294.length cap1293) ≠ some b := fun b hj hi => by have := (OW.id_lt h1393 hj).1; have := hb1390 b hi; omega
              obtain ⟨hc1402, hr⟩ := chk_some hr
              have hb1412 := fun b hb => (OW.id_lt (i := b) h1396 hb).2
              have hb1413 := fun b hb => (OW.id_lt (i := b) h1398 hb).2
              refine GL.append (α := UInt8) hS1397 .nil rfl rfl rfl Try.underlying24 Try.underlying24 rfl info5 rfl rfl rfl (by decide) rfl rfl h1396 (by omega) (by omega) (OW.src h1398) hc1402 (fun a1403 cap1404 n1405 H1406 hS1407 hn1408 hO1409 hk1410 hid1411 => ?_)
              have ho1414 := (hk1410 _ (by have := lt1376; omega) ap1377).trans ho1395
              have h1415 := OW.keep h1398 hn1408 (fun i hi => hk1410 i (OW.id_lt h1398 hi).2 (fun hj => (fun b h1 h2 => ap1401 b h2 h1) _ hj hi))
              have ap1417 : idOf (.slice a1403 (xs1294 ++ x1384).length cap1404) ≠ some n1287 := fun hj => (hid1411 _ hj).elim (fun h => by have := lt1376; omega) ap1377
              have ap1418 : ∀ b, idOf (.slice a1403 (xs1294 ++ x1384).length cap1404) = some b → idOf (.slice a1391 x1384.length cap1392) ≠ some b := fun b hj hi => (hid1411 _ hj).elim (fun h => by have := hb1413 b hi; omega) (fun h => (fun b h1 h2 => ap1401 b h2 h1) _ h hi)
              have hlon1405 := hS1407.lo
              refine WL.assign .nil rfl rfl rfl rfl ?_
              with_reducible refine WL.nil ?_
              with_reducible refine Ex.blk_norm ?_
              with_reducible refine Ex.thn_norm ?_
              with_reducible refine W.region ?_
              obtain ⟨hc1419, hr⟩ := chk_some hr
              refine WL.addI .nil rfl rfl rfl rfl rfl hc1419.1 hc1419.2 ?_
              refine WL.move .nil rfl rfl rfl rfl ?_
              with_reducible refine WL.nil ?_
              with_reducible refine Ex.thn_norm ?_
              exact ⟨[(7, .slice a1403 (xs1294 ++ x1384).length cap1404), (63, .slice a2 x1.Log.length cap3), (64, .int .i64 (x1.Log.length : Int)), (65, .int .i64 (x1298 + 1))], (Fr.le_cons rfl (Fr.le_cons rfl (Fr.le_cons rfl (Fr.le_cons rfl Fr.le_nil)))), a1403, cap1404, (xs1294 ++ x1384), (x1298 + 1), F1289, rfl, hS1407, (hE1291.up (by omega)), hO1409, h1297, hr⟩
            · replace hr := ite_neg hr hc1300
              with_reducible refine W.exit ?_
              with_reducible refine Ex.thn_ex ?_
              with_reducible refine Ex.thn_ex ?_
              with_reducible refine Ex.blk_here ?_
              with_reducible refine Ex.thn_norm ?_
              with_reducible refine W.seq ?_
              with_reducible refine W.seq ?_
              with_reducible refine W.region ?_
              refine WL.move .nil rfl rfl rfl rfl ?_
              refine WL.len .nil rfl rfl rfl Try.underlying24 rfl ?_
              refine WL.bin .nil rfl rfl rfl rfl rfl rfl ?_
              with_reducible refine WL.nil ?_
              with_reducible refine Ex.thn_norm ?_
              refine W.condD rfl (fun hc1420 => ?_) (fun hc1420 => ?_)
              · replace hr := ite_pos hr hc1420
                with_reducible refine W.seq ?_
                with_reducible refine W.region ?_
                refine WL.assign .nil rfl rfl rfl rfl ?_
                refine WL.assign .nil rfl rfl rfl rfl ?_
                with_reducible refine WL.nil ?_
                with_reducible refine Ex.thn_norm ?_
                with_reducible refine W.ret ?_
                with_reducible refine Ex.thn_ret ?_
                obtain rfl := Option.some.inj hr
                exact ⟨.inr rfl, _, (.cons (.tmp rfl) (.cons (.tmp rfl) .nil)), ⟨none, 0, (Ext.st hE1291 hS1290), rfl, OW.nil⟩⟩
              · replace hr := ite_neg hr hc1420
                with_reducible refine W.skip ?_
                with_reducible refine Ex.thn_norm ?_
                with_reducible refine W.seq ?_
                with_reducible refine W.region ?_
                refine WL.move .nil rfl rfl rfl rfl ?_
                refine WL.assign .nil rfl rfl rfl rfl ?_
                refine WL.assign .nil rfl rfl rfl rfl ?_
                with_reducible refine WL.nil ?_
                with_reducible refine Ex.thn_norm ?_
                with_reducible refine W.ret ?_
                obtain rfl := Option.some.inj hr
                exact ⟨.inr rfl, _, (.cons (.tmp rfl) (.cons (.tmp rfl) .nil)), ⟨a1292, cap1293, (Ext.st hE1291 hS1290), rfl, (OW.downSc hE1291.sub h1295)⟩⟩
theorem f_impl_unless_k {Δ : Prims} (g : Env Try.prog Δ) {lo n0 : Nat} {H0 F0 : Heap} (hS : St lo n0 H0 F0) {x1 : Bool} {x2 : Int} {res : (Int)} (hr : f_impl_unless x1 x2 = some res) :
    C Try.prog Δ n0 35 [.bool x1, .int .i64 x2] n0 H0 (fun v n H => St n0 n H F0 ∧ v = .int .i64 res) := by
  refine C.body Try.func35 rfl rfl ?_
  unfold f_impl_unless at hr
  have hS0 : St n0 n0 H0 F0 := hS.low (Nat.le_refl _)
  have hE0 := Ext.refl n0 F0
  have hlo0 := hS0.lo
  with_reducible refine W.seq ?_
  with_reducible refine W.region ?_
  refine WL.assign .nil rfl rfl rfl rfl ?_
  with_reducible refine WL.nil ?_
  with_reducible refine Ex.thn_norm ?_
  with_reducible refine W.seq ?_
  with_reducible refine W.seq ?_
  with_reducible refine W.region ?_
  refine WL.move .nil rfl rfl rfl rfl ?_
  with_reducible refine WL.nil ?_
  with_reducible refine Ex.thn_norm ?_
  refine W.cond rfl (fun hc3 => ?_) (fun hc3 => ?_)
  · replace hr := iteB_pos hr hc3
    with_reducible refine W.seq ?_
    with_reducible refine W.region ?_
    refine WL.assign .nil rfl rfl rfl rfl ?_
    with_reducible refine WL.nil ?_
    with_reducible refine Ex.thn_norm ?_
    with_reducible refine W.ret ?_
    with_reducible refine Ex.thn_ret ?_
    obtain rfl := Option.some.inj hr
    exact ⟨.inr rfl, _, (.cons (.tmp rfl) .nil), ⟨(Ext.st hE0 hS0), rfl⟩⟩
  · replace hr := iteB_neg hr hc3
    with_reducible refine W.skip ?_
    with_reducible refine Ex.thn_norm ?_
    with_reducible refine W.seq ?_
    with_reducible refine W.region ?_
    refine WL.move .nil rfl rfl rfl rfl ?_
    refine WL.assign .nil rfl rfl rfl rfl ?_
    with_reducible refine WL.nil ?_
    with_reducible refine Ex.thn_norm ?_
    with_reducible refine W.ret ?_
    obtain rfl := Option.some.inj hr
    exact ⟨.inr rfl, _, (.cons (.tmp rfl) .nil), ⟨(Ext.st hE0 hS0), rfl⟩⟩
theorem f_impl_longBytes_k {Δ : Prims} (g : Env Try.prog Δ) {lo n0 : Nat} {H0 F0 : Heap} (hS : St lo n0 H0 F0) {a2 : Option Addr} {cap3 : Nat} {xs1 : (List UInt8)} (h4 : SR F0 (.slice a2 xs1.length cap3) xs1) {res : (Int)} (hr : f_impl_longBytes xs1 = some res) :
    C Try.prog Δ n0 44 [.slice a2 xs1.length cap3] n0 H0 (fun v n H => St n0 n H F0 ∧ v = .int .i64 res) := by
  refine C.body Try.func44 rfl rfl ?_
  unfold f_impl_longBytes at hr
  have hS0 : St n0 n0 H0 F0 := hS.low (Nat.le_refl _)
  have hE0 := Ext.refl n0 F0
  have hlo0 := hS0.lo
  with_reducible refine W.seq ?_
  with_reducible refine W.region ?_
  refine WL.assign .nil rfl rfl rfl rfl ?_
  with_reducible refine WL.nil ?_
  with_reducible refine Ex.thn_norm ?_
  with_reducible refine W.seq ?_
  with_reducible refine W.region ?_
  refine WL.move .nil rfl rfl rfl rfl ?_
  refine WL.len .nil rfl rfl rfl Try.underlying24 rfl ?_
  refine WL.bin .nil rfl rfl rfl rfl rfl rfl ?_
  obtain ⟨x5, hx5, hr⟩ := bnd_some hr
  refine GL.callP g.good .nil rfl rfl rfl rfl rfl rfl Try.func35 rfl rfl hS0.lo (f_impl_unless_k  g hS0 hx5) (fun v n6 H7 hn8 hk9 hp10 => ?_)
  obtain ⟨hS11, rfl⟩ := hp10
  have hS12 : St n0 n6 H7 F0 := ⟨by have := hS0.lo; omega, hS11.hb, hS11.fh⟩
  have hlon6 := hS12.lo
  refine WL.assign .nil rfl rfl rfl rfl ?_
  with_reducible refine WL.nil ?_
  with_reducible refine Ex.thn_norm ?_
  with_reducible refine W.ret ?_
  obtain rfl := Option.some.inj hr
  exact ⟨.inr rfl, _, (.cons (.tmp rfl) .nil), ⟨(Ext.st hE0 hS12), rfl⟩⟩
theorem f_impl_readNumber_k {Δ : Prims} (g : Env Try.prog Δ) {lo n0 : Nat} {H0 F0 : Heap} (hS : St lo n0 H0 F0) {a2 : Option Addr} {cap3 : Nat} {xs1 : (List UInt8)} (h4 : SR F0 (.slice a2 xs1.length cap3) xs1) {res : (Int × Int)} (hr : f_impl_readNumber xs1 = some res) :
    C Try.prog Δ n0 80 [.slice a2 xs1.length cap3] n0 H0 (fun v n H => St n0 n H F0 ∧ v = .tuple #[.int .i64 res.1, .int .i64 res.2]) := by
  refine C.body Try.func80 rfl rfl ?_
  unfold f_impl_readNumber at hr
  have hS0 : St n0 n0 H0 F0 := hS.low (Nat.le_refl _)
  have hE0 := Ext.refl n0 F0
  have hlo0 := hS0.lo
  with_reducible refine W.seq ?_
  with_reducible refine W.region ?_
  refine WL.assign .nil rfl rfl rfl rfl ?_
  refine WL.assign .nil rfl rfl rfl rfl ?_
  with_reducible refine WL.nil ?_
  with_reducible refine Ex.thn_norm ?_
  with_reducible refine W.seq ?_
  with_reducible refine W.region ?_
  refine WL.assign .nil rfl rfl rfl rfl ?_
  with_reducible refine WL.nil ?_
  with_reducible refine Ex.thn_norm ?_
  with_reducible refine W.seq ?_
  with_reducible refine W.seq ?_
  with_reducible refine W.region ?_
  refine WL.assign .nil rfl rfl rfl rfl ?_
  with_reducible refine WL.nil ?_
  with_reducible refine Ex.thn_norm ?_
  with_reducible refine W.block ?_
  refine W.loopF (fun k0 fr n H => ∃ (x227 : Int) (x228 : Int) (F : Heap), fr = [(0, .slice a2 xs1.length cap3), (4, .int .i64 x227), (5, .int .i64 x228)] ∧ St n0 n H F ∧ Ext n0 F0 n F ∧ SR F (.slice a2 xs1.length cap3) xs1 ∧ f_impl_readNumber_L0 xs1 k0 x227 x228 = some res) BIG (fr0 := [(0, .slice a2 xs1.length cap3), (4, .int .i64 0), (5, .int .i64 0)]) (Fr.le_cons rfl (Fr.le_cons rfl (Fr.le_cons rfl Fr.le_nil))) ?_ ?_ ?_
  · exact ⟨0, 0, F0, rfl, hS0, hE0, h4, hr⟩
  · intro fr n H hI
    obtain ⟨x227, x228, F223, hfr, hS224, hE225, h226, hr⟩ := hI
    rw [f_impl_readNumber_L0] at hr
    cases hr
  · intro k0 _ n221 H222 hI
    obtain ⟨x227, x228, F223, rfl, hS224, hE225, h226, hr⟩ := hI
    have hlen221 := hE225.le
    have hlon221 := hS224.lo
    rw [f_impl_readNumber_L0] at hr
    with_reducible refine W.seq ?_
    with_reducible refine W.seq ?_
    with_reducible refine W.region ?_
    refine WL.move .nil rfl rfl rfl rfl ?_
    refine WL.bin .nil rfl rfl rfl rfl rfl rfl ?_
    with_reducible refine WL.nil ?_
    with_reducible refine Ex.thn_norm ?_
    refine W.condD rfl (fun hc230 => ?_) (fun hc230 => ?_)
    · replace hr := ite_pos hr hc230
      with_reducible refine W.skip ?_
      with_reducible refine Ex.thn_norm ?_
      with_reducible refine W.seq ?_
      with_reducible refine W.block ?_
      with_reducible refine W.seq ?_
      with_reducible refine W.seq ?_
      with_reducible refine W.region ?_
      refine WL.move .nil rfl rfl rfl rfl ?_
      refine WL.move .nil rfl rfl rfl rfl ?_
      refine WL.len .nil rfl rfl rfl Try.underlying24 rfl ?_
      refine WL.bin .nil rfl rfl rfl rfl rfl rfl ?_
      with_reducible refine WL.nil ?_
      with_reducible refine Ex.thn_norm ?_
      refine W.condD rfl (fun hc281 => ?_) (fun hc281 => ?_)
      · replace hr := ite_pos hr hc281
        with_reducible refine W.seq ?_
        with_reducible refine W.region ?_
        refine WL.assign .nil rfl rfl rfl rfl ?_
        refine WL.assign .nil rfl rfl rfl rfl ?_
        with_reducible refine WL.nil ?_
        with_reducible refine Ex.thn_norm ?_
        with_reducible refine W.ret ?_
        with_reducible refine Ex.thn_ret ?_
        with_reducible refine Ex.blk_ret ?_
        with_reducible refine Ex.thn_ret ?_
        with_reducible refine Ex.thn_ret ?_
        with_reducible refine Ex.blk_ret ?_
        with_reducible refine Ex.thn_ret ?_
        obtain rfl := Option.some.inj hr
        exact ⟨.inr rfl, _, (.cons (.tmp rfl) (.cons (.tmp rfl) .nil)), ⟨(Ext.st hE225 hS224), rfl⟩⟩
      · replace hr := ite_neg hr hc281
        with_reducible refine W.skip ?_
        with_reducible refine Ex.thn_norm ?_
        with_reducible refine W.seq ?_
        with_reducible refine W.region ?_
        refine WL.move .nil rfl rfl rfl rfl ?_
        refine WL.move .nil rfl rfl rfl rfl ?_
        refine WL.move .nil rfl rfl rfl rfl ?_
        obtain ⟨x282, hx282, hr⟩ := bnd_some hr
        refine GL.index .nil rfl rfl rfl Try.underlying24 info5 rfl rfl h226 hS224.fh rfl hx282 (fun b283 kp284 c285 ecs286 hrow287 hwin288 hR289 => ?_)
        have hcs : _ = ([u8 x282] : List Value) := hR289
        subst hcs
        refine WL.load1 .nil rfl rfl rfl Try.underlying5 rfl rfl hrow287 ((win_get0 hwin288 (show (0 : Nat) < 1 by decide)).trans rfl) ?_
        refine GL.u8and .nil x282 (127 : UInt8) rfl rfl rfl rfl rfl ?_
        refine WL.convN .nil rfl rfl rfl Try.underlying5 Try.underlying3 rfl topI64 (u8_bnd _).1 (u8_lt63 _) ?_
        refine WL.move .nil rfl rfl rfl rfl ?_
        obtain ⟨hc290, hr⟩ := chk_some hr
        refine WL.mulI .nil rfl rfl rfl rfl rfl hc290.1 hc290.2 ?_
        obtain ⟨hc291, hr⟩ := chk_some hr
        refine GL.shlI .nil rfl rfl rfl rfl rfl hc291 ?_
        obtain ⟨hc292, hr⟩ := chk_some hr
        refine WL.orN .nil rfl rfl rfl rfl rfl topI64 rfl rfl hc292.1 hc292.2.1 hc292.2.2.1 hc292.2.2.2 (fun _ => ?_)
        refine WL.assign .nil rfl rfl rfl rfl ?_
        with_reducible refine WL.nil ?_
        with_reducible refine Ex.thn_norm ?_
        with_reducible refine W.seq ?_
        with_reducible refine W.region ?_
        refine WL.move .nil rfl rfl rfl rfl ?_
        refine WL.move .nil rfl rfl rfl rfl ?_
        obtain ⟨x293, hx293, hr⟩ := bnd_some hr
        refine GL.index .nil rfl rfl rfl Try.underlying24 info5 rfl rfl h226 hS224.fh rfl hx293 (fun b294 kp295 c296 ecs297 hrow298 hwin299 hR300 => ?_)
        have hcs : _ = ([u8 x293] : List Value) := hR300
        subst hcs
        refine WL.load1 .nil rfl rfl rfl Try.underlying5 rfl rfl hrow298 ((win_get0 hwin299 (show (0 : Nat) < 1 by decide)).trans rfl) ?_
        refine WL.bin .nil rfl rfl rfl rfl rfl rfl ?_
        with_reducible refine WL.nil ?_
        with_reducible refine Ex.thn_norm ?_
        refine W.condD rfl (fun hc301 => ?_) (fun hc301 => ?_)
        · replace hr := ite_pos hr hc301
          with_reducible refine W.seq ?_
          with_reducible refine W.seq ?_
          refine W.cut (fun fr n H => ∃ (x316 : Bool) (F : Heap), fr = [(4, .int .i64 ((x227.toNat ||| (shl64 ((x282 &&& (127 : UInt8)).toNat : Int) ((7 : Int) * x228)).toNat : Nat) : Int)), (5, .int .i64 x228), (38, .bool x316)] ∧ St n0 n H F ∧ Ext n0 F0 n F ∧ f_impl_readNumber_J1 x228 x227 x282 x316 = some res) ?_ ?_
          · with_reducible refine W.region ?_
            refine WL.move .nil rfl rfl rfl rfl ?_
            refine WL.bin .nil rfl rfl rfl rfl rfl rfl ?_
            refine WL.move .nil rfl rfl rfl rfl ?_
            refine WL.guardD rfl rfl rfl (fun hg320 => ?_) (fun hg320 => ?_)
            · replace hr := ite_pos hr hg320
              refine WL.move .nil rfl rfl rfl rfl ?_
              refine WL.move .nil rfl rfl rfl rfl ?_
              obtain ⟨x321, hx321, hr⟩ := bnd_some hr
              refine GL.index .nil rfl rfl rfl Try.underlying24 info5 rfl rfl h226 hS224.fh rfl hx321 (fun b322 kp323 c324 ecs325 hrow326 hwin327 hR328 => ?_)
              have hcs : _ = ([u8 x321] : List Value) := hR328
              subst hcs
              refine WL.load1 .nil rfl rfl rfl Try.underlying5 rfl rfl hrow326 ((win_get0 hwin327 (show (0 : Nat) < 1 by decide)).trans rfl) ?_
              refine WL.bin .nil rfl rfl rfl rfl rfl rfl ?_
              refine WL.pick .nil rfl rfl rfl rfl rfl ?_
              with_reducible refine WL.nil ?_
              with_reducible refine Ex.thn_norm ?_
              exact ⟨[(4, .int .i64 ((x227.toNat ||| (shl64 ((x282 &&& (127 : UInt8)).toNat : Int) ((7 : Int) * x228)).toNat : Nat) : Int)), (5, .int .i64 x228), (38, .bool (decide ((x321.toNat : Int) = (0 : Int))))], (Fr.le_cons rfl (Fr.le_cons rfl (Fr.le_cons rfl Fr.le_nil))), (decide ((x321.toNat : Int) = (0 : Int))), F223, rfl, hS224, hE225, hr⟩
            · replace hr := ite_neg hr hg320
              refine WL.skip .nil rfl rfl ?_
              refine WL.skip .nil rfl rfl ?_
              refine WL.skip .nil rfl rfl ?_
              refine WL.skip .nil rfl rfl ?_
              refine WL.skip .nil rfl rfl ?_
              refine WL.pick .nil rfl rfl rfl rfl rfl ?_
              with_reducible refine WL.nil ?_
              with_reducible refine Ex.thn_norm ?_
              exact ⟨[(4, .int .i64 ((x227.toNat ||| (shl64 ((x282 &&& (127 : UInt8)).toNat : Int) ((7 : Int) * x228)).toNat : Nat) : Int)), (5, .int .i64 x228), (38, .bool false)], (Fr.le_cons rfl (Fr.le_cons rfl (Fr.le_cons rfl Fr.le_nil))), false, F223, rfl, hS224, hE225, hr⟩
          · intro _ n311 H312 hI
            obtain ⟨x316, F313, rfl, hS314, hE315, hr⟩ := hI
            have hlen311 := hE315.le
            have hlon311 := hS314.lo
            unfold f_impl_readNumber_J1 at hr
            refine W.cond rfl (fun hc318 => ?_) (fun hc318 => ?_)
            · replace hr := iteB_pos hr hc318
              with_reducible refine W.seq ?_
              with_reducible refine W.region ?_
              refine WL.assign .nil rfl rfl rfl rfl ?_
              refine WL.assign .nil rfl rfl rfl rfl ?_
              with_reducible refine WL.nil ?_
              with_reducible refine Ex.thn_norm ?_
              with_reducible refine W.ret ?_
              with_reducible refine Ex.thn_ret ?_
              with_reducible refine Ex.blk_ret ?_
              with_reducible refine Ex.thn_ret ?_
              with_reducible refine Ex.thn_ret ?_
              with_reducible refine Ex.blk_ret ?_
              with_reducible refine Ex.thn_ret ?_
              obtain rfl := Option.some.inj hr
              exact ⟨.inr rfl, _, (.cons (.tmp rfl) (.cons (.tmp rfl) .nil)), ⟨(Ext.st hE315 hS314), rfl⟩⟩
            · replace hr := iteB_neg hr hc318
              with_reducible refine W.skip ?_
              with_reducible refine Ex.thn_norm ?_
              with_reducible refine W.seq ?_
              with_reducible refine W.region ?_
              refine WL.move .nil rfl rfl rfl rfl ?_
              refine WL.move .nil rfl rfl rfl rfl ?_
              obtain ⟨hc319, hr⟩ := chk_some hr
              refine WL.addI .nil rfl rfl rfl rfl rfl hc319.1 hc319.2 ?_
              refine WL.assign .nil rfl rfl rfl rfl ?_
              refine WL.assign .nil rfl rfl rfl rfl ?_
              with_reducible refine WL.nil ?_
              with_reducible refine Ex.thn_norm ?_
              with_reducible refine W.ret ?_
              with_reducible refine Ex.blk_ret ?_
              with_reducible refine Ex.thn_ret ?_
              with_reducible refine Ex.thn_ret ?_
              with_reducible refine Ex.blk_ret ?_
              with_reducible refine Ex.thn_ret ?_
              obtain rfl := Option.some.inj hr
              exact ⟨.inr rfl, _, (.cons (.tmp rfl) (.cons (.tmp rfl) .nil)), ⟨(Ext.st hE315 hS314), rfl⟩⟩
        · replace hr := ite_neg hr hc301
          with_reducible refine W.skip ?_
          with_reducible refine Ex.blk_norm ?_
          with_reducible refine Ex.thn_norm ?_
          with_reducible refine W.region ?_
          refine WL.move .nil rfl rfl rfl rfl ?_
          obtain ⟨hc329, hr⟩ := chk_some hr
          refine WL.addI .nil rfl rfl rfl rfl rfl hc329.1 hc329.2 ?_
          refine WL.assign .nil rfl rfl rfl rfl ?_
          with_reducible refine WL.nil ?_
          with_reducible refine Ex.thn_norm ?_
          exact ⟨[(0, .slice a2 xs1.length cap3), (4, .int .i64 ((x227.toNat ||| (shl64 ((x282 &&& (127 : UInt8)).toNat : Int) ((7 : Int) * x228)).toNat : Nat) : Int)), (5, .int .i64 (x228 + 1))], (Fr.le_cons rfl (Fr.le_cons rfl (Fr.le_cons rfl Fr.le_nil))), ((x227.toNat ||| (shl64 ((x282 &&& (127 : UInt8)).toNat : Int) ((7 : Int) * x228)).toNat : Nat) : Int), (x228 + 1), F223, rfl, hS224, hE225, h226, hr⟩
    · replace hr := ite_neg hr hc230
      with_reducible refine W.exit ?_
      with_reducible refine Ex.thn_ex ?_
      with_reducible refine Ex.thn_ex ?_
      with_reducible refine Ex.blk_here ?_
      with_reducible refine Ex.thn_norm ?_
      with_reducible refine W.seq ?_
      with_reducible refine W.region ?_
      refine WL.assign .nil rfl rfl rfl rfl ?_
      refine WL.assign .nil rfl rfl rfl rfl ?_
      with_reducible refine WL.nil ?_
      with_reducible refine Ex.thn_norm ?_
      with_reducible refine W.ret ?_
      obtain rfl := Option.some.inj hr
      exact ⟨.inr rfl, _, (.cons (.tmp rfl) (.cons (.tmp rfl) .nil)), ⟨(Ext.st hE225 hS224), rfl⟩⟩
theorem f_slices_Equal_byte_k {Δ : Prims} (g : Env Try.prog Δ) {lo n0 : Nat} {H0 F0 : Heap} (hS : St lo n0 H0 F0) {a2 : Option Addr} {cap3 : Nat} {xs1 : (List UInt8)} {a6 : Option Addr} {cap7 : Nat} {xs5 : (List UInt8)} (h4 : SR F0 (.slice a2 xs1.length cap3) xs1) (h8 : SR F0 (.slice a6 xs5.length cap7) xs5) {res : (Bool)} (hr : f_slices_Equal_byte xs1 xs5 = some res) :
    C Try.prog Δ n0 81 [.slice a2 xs1.length cap3, .slice a6 xs5.length cap7] n0 H0 (fun v n H => St n0 n H F0 ∧ v = .bool res) := by
  refine C.body Try.func81 rfl rfl ?_
  unfold f_slices_Equal_byte at hr
  have hS0 : St n0 n0 H0 F0 := hS.low (Nat.le_refl _)
  have hE0 := Ext.refl n0 F0
  have hlo0 := hS0.lo
  with_reducible refine W.seq ?_
  with_reducible refine W.region ?_
  refine WL.assign .nil rfl rfl rfl rfl ?_
  with_reducible refine WL.nil ?_
  with_reducible refine Ex.thn_norm ?_
  with_reducible refine W.seq ?_
  with_reducible refine W.seq ?_
  with_reducible refine W.region ?_
  refine WL.move .nil rfl rfl rfl rfl ?_
  refine WL.len .nil rfl rfl rfl Try.underlying24 rfl ?_
  refine WL.move .nil rfl rfl rfl rfl ?_
  refine WL.len .nil rfl rfl rfl Try.underlying24 rfl ?_
  refine WL.bin .nil rfl rfl rfl rfl rfl rfl ?_
  with_reducible refine WL.nil ?_
  with_reducible refine Ex.thn_norm ?_
  refine W.condN rfl (fun hc10 => ?_) (fun hc10 => ?_)
  · replace hr := ite_neg hr hc10
    with_reducible refine W.seq ?_
    with_reducible refine W.region ?_
    refine WL.assign .nil rfl rfl rfl rfl ?_
    with_reducible refine WL.nil ?_
    with_reducible refine Ex.thn_norm ?_
    with_reducible refine W.ret ?_
    with_reducible refine Ex.thn_ret ?_
    obtain rfl := Option.some.inj hr
    exact ⟨.inr rfl, _, (.cons (.tmp rfl) .nil), ⟨(Ext.st hE0 hS0), rfl⟩⟩
  · replace hr := ite_pos hr hc10
    with_reducible refine W.skip ?_
    with_reducible refine Ex.thn_norm ?_
    with_reducible refine W.seq ?_
    with_reducible refine W.seq ?_
    with_reducible refine W.region ?_
    refine WL.move .nil rfl rfl rfl rfl ?_
    refine WL.len .nil rfl rfl rfl Try.underlying24 rfl ?_
    refine WL.move .nil rfl rfl rfl rfl ?_
    with_reducible refine WL.nil ?_
    with_reducible refine Ex.thn_norm ?_
    with_reducible refine W.block ?_
    refine W.loopF (fun k0 fr n H => ∃ (x107 : Int) (F : Heap), fr = [(0, .slice a2 xs1.length cap3), (1, .slice a6 xs5.length cap7), (12, .int .i64 (xs1.length : Int)), (13, .int .i64 x107)] ∧ St n0 n H F ∧ Ext n0 F0 n F ∧ SR F (.slice a2 xs1.length cap3) xs1 ∧ SR F (.slice a6 xs5.length cap7) xs5 ∧ f_slices_Equal_byte_L0 xs1 xs5 k0 x107 = some res) BIG (fr0 := [(0, .slice a2 xs1.length cap3), (1, .slice a6 xs5.length cap7), (12, .int .i64 (xs1.length : Int)), (13, .int .i64 0)]) (Fr.le_cons rfl (Fr.le_cons rfl (Fr.le_cons rfl (Fr.le_cons rfl Fr.le_nil)))) ?_ ?_ ?_
    · exact ⟨0, F0, rfl, hS0, hE0, h4, h8, hr⟩
    · intro fr n H hI
      obtain ⟨x107, F102, hfr, hS103, hE104, h105, h106, hr⟩ := hI
      rw [f_slices_Equal_byte_L0] at hr
      cases hr
    · intro k0 _ n100 H101 hI
      obtain ⟨x107, F102, rfl, hS103, hE104, h105, h106, hr⟩ := hI
      have hlen100 := hE104.le
      have hlon100 := hS103.lo
      rw [f_slices_Equal_byte_L0] at hr
      with_reducible refine W.seq ?_
      with_reducible refine W.region ?_
      refine WL.bin .nil rfl rfl rfl rfl rfl rfl ?_
      with_reducible refine WL.nil ?_
      with_reducible refine Ex.thn_norm ?_
      with_reducible refine W.seq ?_
      refine W.condD rfl (fun hc109 => ?_) (fun hc109 => ?_)
      · replace hr := ite_pos hr hc109
        with_reducible refine W.skip ?_
        with_reducible refine Ex.thn_norm ?_
        with_reducible refine W.seq ?_
        with_reducible refine W.block ?_
        with_reducible refine W.seq ?_
        with_reducible refine W.region ?_
        refine WL.move .nil rfl rfl rfl rfl ?_
        refine WL.assign .nil rfl rfl rfl rfl ?_
        with_reducible refine WL.nil ?_
        with_reducible refine Ex.thn_norm ?_
        with_reducible refine W.seq ?_
        refine W.regionD [0, 1, 2, 3, 4, 5, 6, 7, 8] [false, false, false, false, false, false, false, false, false] rfl rfl (by kernel_rfl) (by kernel_rfl) (by (conv => lhs; simp only [List.map_cons, List.map_nil, List.getD_cons_zero, List.getD_cons_succ]) <;> rfl) ?_
        refine WL.move .r rfl rfl rfl rfl ?_
        refine WL.move .r rfl rfl rfl rfl ?_
        obtain ⟨x127, hx127, hr⟩ := bnd_some hr
        refine GL.index .r rfl rfl rfl Try.underlying24 info5 rfl rfl h105 hS103.fh rfl hx127 (fun b128 kp129 c130 ecs131 hrow132 hwin133 hR134 => ?_)
        have hcs : _ = ([u8 x127] : List Value) := hR134
        subst hcs
        refine WL.load1 .r rfl rfl rfl Try.underlying5 rfl rfl hrow132 ((win_get0 hwin133 (show (0 : Nat) < 1 by decide)).trans rfl) ?_
        refine WL.move .r rfl rfl rfl rfl ?_
        refine WL.move .r rfl rfl rfl rfl ?_
        obtain ⟨x135, hx135, hr⟩ := bnd_some hr
        refine GL.index .r rfl rfl rfl Try.underlying24 info5 rfl rfl h106 hS103.fh rfl hx135 (fun b136 kp137 c138 ecs139 hrow140 hwin141 hR142 => ?_)
        have hcs : _ = ([u8 x135] : List Value) := hR142
        subst hcs
        refine WL.load1 .r rfl rfl rfl Try.underlying5 rfl rfl hrow140 ((win_get0 hwin141 (show (0 : Nat) < 1 by decide)).trans rfl) ?_
        refine WL.bin .r rfl rfl rfl rfl rfl rfl ?_
        with_reducible refine WL.nil ?_
        with_reducible refine Ex.thn_norm ?_
        refine W.condN rfl (fun hc143 => ?_) (fun hc143 => ?_)
        · replace hr := ite_neg hr hc143
          with_reducible refine W.seq ?_
          with_reducible refine W.region ?_
          refine WL.assign .nil rfl rfl rfl rfl ?_
          with_reducible refine WL.nil ?_
          with_reducible refine Ex.thn_norm ?_
          with_reducible refine W.ret ?_
          with_reducible refine Ex.blk_ret ?_
          with_reducible refine Ex.thn_ret ?_
          with_reducible refine Ex.thn_ret ?_
          with_reducible refine Ex.blk_ret ?_
          with_reducible refine Ex.thn_ret ?_
          obtain rfl := Option.some.inj hr
          exact ⟨.inr rfl, _, (.cons (.tmp rfl) .nil), ⟨(Ext.st hE104 hS103), rfl⟩⟩
        · replace hr := ite_pos hr hc143
          with_reducible refine W.skip ?_
          with_reducible refine Ex.blk_norm ?_
          with_reducible refine Ex.thn_norm ?_
          with_reducible refine W.region ?_
          obtain ⟨hc144, hr⟩ := chk_some hr
          refine WL.addI .nil rfl rfl rfl rfl rfl hc144.1 hc144.2 ?_
          refine WL.move .nil rfl rfl rfl rfl ?_
          with_reducible refine WL.nil ?_
          with_reducible refine Ex.thn_norm ?_
          exact ⟨[(0, .slice a2 xs1.length cap3), (1, .slice a6 xs5.length cap7), (12, .int .i64 (xs1.length : Int)), (13, .int .i64 (x107 + 1))], (Fr.le_cons rfl (Fr.le_cons rfl (Fr.le_cons rfl (Fr.le_cons rfl Fr.le_nil)))), (x107 + 1), F102, rfl, hS103, hE104, h105, h106, hr⟩
      · replace hr := ite_neg hr hc109
        with_reducible refine W.exit ?_
        with_reducible refine Ex.thn_ex ?_
        with_reducible refine Ex.thn_ex ?_
        with_reducible refine Ex.blk_here ?_
        with_reducible refine Ex.thn_norm ?_
        with_reducible refine W.seq ?_
        with_reducible refine W.region ?_
        refine WL.assign .nil rfl rfl rfl rfl ?_
        with_reducible refine WL.nil ?_
        with_reducible refine Ex.thn_norm ?_
        with_reducible refine W.ret ?_
        obtain rfl := Option.some.inj hr
        exact ⟨.inr rfl, _, (.cons (.tmp rfl) .nil), ⟨(Ext.st hE104 hS103), rfl⟩⟩
theorem f_slices_Clone_byte_k {Δ : Prims} (g : Env Try.prog Δ) {lo n0 : Nat} {H0 F0 : Heap} (hS : St lo n0 H0 F0) {a2 : Option Addr} {cap3 : Nat} {xs1 : List UInt8} (h4 : SrcX H0 F0 (.slice a2 xs1.length cap3) xs1) {res : List UInt8} (hr : f_slices_Clone_byte xs1 = some res) :
    C Try.prog Δ n0 68 [.slice a2 xs1.length cap3] n0 H0 (fun v n H => ∃ (ra1 : Option Addr) (rcap2 : Nat), St n0 n H F0 ∧ v = .slice ra1 res.length rcap2 ∧ OW n0 n H F0 (.slice ra1 res.length rcap2) res) := by
  refine C.body Try.func68 rfl rfl ?_
  obtain ⟨hlen, hr⟩ := chk_some hr
  obtain rfl := Option.some.inj hr
  have hS0 : St n0 n0 H0 F0 := hS.low (Nat.le_refl _)
  with_reducible refine W.seq ?_
  with_reducible refine W.region ?_
  refine WL.assign .nil rfl rfl rfl rfl ?_
  with_reducible refine WL.nil ?_
  with_reducible refine Ex.thn_norm ?_
  with_reducible refine W.seq ?_
  with_reducible refine W.seq ?_
  with_reducible refine W.region ?_
  refine WL.move .nil rfl rfl rfl rfl ?_
  refine WL.eqNil .nil rfl rfl rfl (by decide) Try.underlying24 rfl rfl ?_
  with_reducible refine WL.nil ?_
  with_reducible refine Ex.thn_norm ?_
  refine W.cond rfl (fun hc => ?_) (fun hc => ?_)
  · have hnil := SrcX.isNone h4 hc
    subst hnil
    with_reducible refine W.seq ?_
    with_reducible refine W.region ?_
    refine WL.assign .nil rfl rfl rfl rfl ?_
    with_reducible refine WL.nil ?_
    with_reducible refine Ex.thn_norm ?_
    with_reducible refine W.ret ?_
    repeat (with_reducible refine Ex.thn_ret ?_)
    exact ⟨.inr rfl, _, resl1 rfl, none, 0, hS0, rfl, OW.nil⟩
  · with_reducible refine W.skip ?_
    with_reducible refine Ex.thn_norm ?_
    with_reducible refine W.seq ?_
    with_reducible refine W.region ?_
    refine GL.lit (cs := []) (xs := ([] : List UInt8)) hS0 .nil rfl rfl rfl Try.underlying24 info5 rfl rfl rfl (by decide) (by decide) rfl rfl rfl rfl rfl RA.nil rfl (fun H5 hS6 hO7 hk8 => ?_)
    refine WL.move .nil rfl rfl rfl rfl ?_
    refine GL.append (α := UInt8) hS6 .nil rfl rfl rfl Try.underlying24 Try.underlying24 rfl info5 rfl rfl rfl (by decide) rfl rfl hO7 (by omega) (by omega) (h4.up (n' := n0) hS0 hk8) (by simpa using hlen) (fun a9 c10 n11 H12 hS13 hn14 hO15 hk16 hid17 => ?_)
    refine WL.assign .nil rfl rfl rfl rfl ?_
    with_reducible refine WL.nil ?_
    with_reducible refine Ex.thn_norm ?_
    with_reducible refine W.ret ?_
    rw [List.nil_append] at hO15
    exact ⟨.inr rfl, _, resl1 rfl, a9, c10, hS13, rfl, hO15⟩
theorem f_impl_readFrame_k {Δ : Prims} (g : Env Try.prog Δ) {lo n0 : Nat} {H0 F0 : Heap} (hS : St lo n0 H0 F0) {a2 : Option Addr} {cap3 : Nat} {xs1 : (List UInt8)} (h4 : SR F0 (.slice a2 xs1.length cap3) xs1) {res : ((List UInt8) × Int × Int)} (hr : f_impl_readFrame xs1 = some res) :
    C Try.prog Δ n0 45 [.slice a2 xs1.length cap3] n0 H0 (fun v n H => ∃ (ra1 : Option Addr) (rcap2 : Nat), St n0 n H F0 ∧ v = .tuple #[.slice ra1 res.1.length rcap2, .int .i64 res.2.1, .int .i64 res.2.2] ∧ OW n0 n H F0 (.slice ra1 res.1.length rcap2) res.1) := by
  refine C.body Try.func45 rfl rfl ?_
  unfold f_impl_readFrame at hr
  have hS0 : St n0 n0 H0 F0 := hS.low (Nat.le_refl _)
  have hE0 := Ext.refl n0 F0
  have hlo0 := hS0.lo
  with_reducible refine W.seq ?_
  with_reducible refine W.region ?_
  refine WL.assign .nil rfl rfl rfl rfl ?_
  refine WL.assign .nil rfl rfl rfl rfl ?_
  refine WL.assign .nil rfl rfl rfl rfl ?_
  with_reducible refine WL.nil ?_
  with_reducible refine Ex.thn_norm ?_
  with_reducible refine W.seq ?_
  with_reducible refine W.region ?_
  refine WL.move .nil rfl rfl rfl rfl ?_
  obtain ⟨x5, hx5, hr⟩ := bnd_some hr
  refine GL.callP g.good .nil rfl rfl rfl rfl rfl rfl Try.func80 rfl rfl hS0.lo (f_impl_readNumber_k  g hS0 h4 hx5) (fun v n6 H7 hn8 hk9 hp10 => ?_)
  obtain ⟨hS11, rfl⟩ := hp10
  have hS12 : St n0 n6 H7 F0 := ⟨by have := hS0.lo; omega, hS11.hb, hS11.fh⟩
  have hlon6 := hS12.lo
  refine WL.move .nil rfl rfl rfl rfl ?_
  refine WL.extract .nil rfl rfl rfl rfl rfl ?_
  refine WL.extract .nil rfl rfl rfl rfl rfl ?_
  refine WL.assign .nil rfl rfl rfl rfl ?_
  refine WL.assign .nil rfl rfl rfl rfl ?_
  with_reducible refine WL.nil ?_
  with_reducible refine Ex.thn_norm ?_
  with_reducible refine W.seq ?_
  with_reducible refine W.block ?_
  with_reducible refine W.seq ?_
  with_reducible refine W.region ?_
  refine WL.move .nil rfl rfl rfl rfl ?_
  refine WL.bin .nil rfl rfl rfl rfl rfl rfl ?_
  refine WL.assign .nil rfl rfl rfl rfl ?_
  with_reducible refine WL.nil ?_
  with_reducible refine Ex.thn_norm ?_
  refine W.condD rfl (fun hc19 => ?_) (fun hc19 => ?_)
  · replace hr := ite_pos hr hc19
    with_reducible refine W.seq ?_
    with_reducible refine W.region ?_
    refine WL.assign .nil rfl rfl rfl rfl ?_
    refine WL.assign .nil rfl rfl rfl rfl ?_
    refine WL.assign .nil rfl rfl rfl rfl ?_
    with_reducible refine WL.nil ?_
    with_reducible refine Ex.thn_norm ?_
    with_reducible refine W.ret ?_
    with_reducible refine Ex.blk_ret ?_
    with_reducible refine Ex.thn_ret ?_
    obtain rfl := Option.some.inj hr
    exact ⟨.inr rfl, _, (.cons (.tmp rfl) (.cons (.tmp rfl) (.cons (.tmp rfl) .nil))), ⟨none, 0, (Ext.st hE0 hS12), rfl, OW.nil⟩⟩
  · replace hr := ite_neg hr hc19
    with_reducible refine W.seq ?_
    with_reducible refine W.region ?_
    refine WL.move .nil rfl rfl rfl rfl ?_
    refine WL.bin .nil rfl rfl rfl rfl rfl rfl ?_
    refine WL.assign .nil rfl rfl rfl rfl ?_
    with_reducible refine WL.nil ?_
    with_reducible refine Ex.thn_norm ?_
    refine W.condD rfl (fun hc20 => ?_) (fun hc20 => ?_)
    · replace hr := ite_pos hr hc20
      with_reducible refine W.seq ?_
      with_reducible refine W.region ?_
      refine WL.assign .nil rfl rfl rfl rfl ?_
      refine WL.assign .nil rfl rfl rfl rfl ?_
      refine WL.assign .nil rfl rfl rfl rfl ?_
      with_reducible refine WL.nil ?_
      with_reducible refine Ex.thn_norm ?_
      with_reducible refine W.ret ?_
      with_reducible refine Ex.blk_ret ?_
      with_reducible refine Ex.thn_ret ?_
      obtain rfl := Option.some.inj hr
      exact ⟨.inr rfl, _, (.cons (.tmp rfl) (.cons (.tmp rfl) (.cons (.tmp rfl) .nil))), ⟨none, 0, (Ext.st hE0 hS12), rfl, OW.nil⟩⟩
    · replace hr := ite_neg hr hc20
      with_reducible refine W.seq ?_
      with_reducible refine W.region ?_
      refine WL.move .nil rfl rfl rfl rfl ?_
      refine WL.bin .nil rfl rfl rfl rfl rfl rfl ?_
      refine WL.assign .nil rfl rfl rfl rfl ?_
      with_reducible refine WL.nil ?_
      with_reducible refine Ex.thn_norm ?_
      refine W.condD rfl (fun hc21 => ?_) (fun hc21 => ?_)
      · replace hr := ite_pos hr hc21
        with_reducible refine W.seq ?_
        with_reducible refine W.region ?_
        refine WL.assign .nil rfl rfl rfl rfl ?_
        refine WL.assign .nil rfl rfl rfl rfl ?_
        refine WL.assign .nil rfl rfl rfl rfl ?_
        with_reducible refine WL.nil ?_
        with_reducible refine Ex.thn_norm ?_
        with_reducible refine W.ret ?_
        with_reducible refine Ex.blk_ret ?_
        with_reducible refine Ex.thn_ret ?_
        obtain rfl := Option.some.inj hr
        exact ⟨.inr rfl, _, (.cons (.tmp rfl) (.cons (.tmp rfl) (.cons (.tmp rfl) .nil))), ⟨none, 0, (Ext.st hE0 hS12), rfl, OW.nil⟩⟩
      · replace hr := ite_neg hr hc21
        with_reducible refine W.seq ?_
        with_reducible refine W.region ?_
        refine WL.move .nil rfl rfl rfl rfl ?_
        refine WL.len .nil rfl rfl rfl Try.underlying24 rfl ?_
        refine WL.move .nil rfl rfl rfl rfl ?_
        refine WL.move .nil rfl rfl rfl rfl ?_
        obtain ⟨hc22, hr⟩ := chk_some hr
        refine WL.addI .nil rfl rfl rfl rfl rfl hc22.1 hc22.2 ?_
        obtain ⟨hc23, hr⟩ := chk_some hr
        refine WL.addI .nil rfl rfl rfl rfl rfl hc23.1 hc23.2 ?_
        refine WL.bin .nil rfl rfl rfl rfl rfl rfl ?_
        refine WL.assign .nil rfl rfl rfl rfl ?_
        with_reducible refine WL.nil ?_
        with_reducible refine Ex.thn_norm ?_
        refine W.condD rfl (fun hc24 => ?_) (fun hc24 => ?_)
        · replace hr := ite_pos hr hc24
          with_reducible refine W.seq ?_
          with_reducible refine W.region ?_
          refine WL.assign .nil rfl rfl rfl rfl ?_
          refine WL.assign .nil rfl rfl rfl rfl ?_
          refine WL.assign .nil rfl rfl rfl rfl ?_
          with_reducible refine WL.nil ?_
          with_reducible refine Ex.thn_norm ?_
          with_reducible refine W.ret ?_
          with_reducible refine Ex.blk_ret ?_
          with_reducible refine Ex.thn_ret ?_
          obtain rfl := Option.some.inj hr
          exact ⟨.inr rfl, _, (.cons (.tmp rfl) (.cons (.tmp rfl) (.cons (.tmp rfl) .nil))), ⟨none, 0, (Ext.st hE0 hS12), rfl, OW.nil⟩⟩
        · replace hr := ite_neg hr hc24
          with_reducible refine W.skip ?_
          with_reducible refine Ex.blk_norm ?_
          with_reducible refine Ex.thn_norm ?_
          with_reducible refine W.seq ?_
          with_reducible refine W.region ?_
          refine WL.move .nil rfl rfl rfl rfl ?_
          refine WL.move .nil rfl rfl rfl rfl ?_
          refine WL.move .nil rfl rfl rfl rfl ?_
          refine WL.move .nil rfl rfl rfl rfl ?_
          obtain ⟨hc25, hr⟩ := chk_some hr
          refine WL.addI .nil rfl rfl rfl rfl rfl hc25.1 hc25.2 ?_
          obtain ⟨xs26, hxs26, hr⟩ := bnd_some hr
          refine GL.slice .nil rfl rfl rfl Try.underlying24 info5 rfl rfl h4 hS12.fh ⟨_, rfl⟩ ⟨_, rfl⟩ hxs26 (fun a27 cap28 hid29 h30 => ?_)
          refine WL.assign .nil rfl rfl rfl rfl ?_
          with_reducible refine WL.nil ?_
          with_reducible refine Ex.thn_norm ?_
          with_reducible refine W.seq ?_
          with_reducible refine W.seq ?_
          refine W.regionD [0, 1, 2, 3, 4, 5, 6, 7, 8, 9, 10, 11, 12] [false, false, false, false, false, false, false, false, false, false, false, false, false] rfl rfl (by kernel_rfl) (by kernel_rfl) (by (conv => lhs; simp only [List.map_cons, List.map_nil, List.getD_cons_zero, List.getD_cons_succ]) <;> rfl) ?_
          refine WL.move .r rfl rfl rfl rfl ?_
          refine WL.move .r rfl rfl rfl rfl ?_
          refine WL.move .r rfl rfl rfl rfl ?_
          obtain ⟨hc31, hr⟩ := chk_some hr
          refine WL.addI .r rfl rfl rfl rfl rfl hc31.1 hc31.2 ?_
          refine WL.move .r rfl rfl rfl rfl ?_
          refine WL.move .r rfl rfl rfl rfl ?_
          obtain ⟨hc32, hr⟩ := chk_some hr
          refine WL.addI .r rfl rfl rfl rfl rfl hc32.1 hc32.2 ?_
          obtain ⟨hc33, hr⟩ := chk_some hr
          refine WL.addI .r rfl rfl rfl rfl rfl hc33.1 hc33.2 ?_
          obtain ⟨xs34, hxs34, hr⟩ := bnd_some hr
          refine GL.slice .r rfl rfl rfl Try.underlying24 info5 rfl rfl h4 hS12.fh ⟨_, rfl⟩ ⟨_, rfl⟩ hxs34 (fun a35 cap36 hid37 h38 => ?_)
          refine WL.move .r rfl rfl rfl rfl ?_
          obtain ⟨x39, hx39, hr⟩ := bnd_some hr
          refine GL.callP g.good .r rfl rfl rfl rfl rfl rfl Try.func82 rfl rfl (Nat.le_refl _) (f_impl_sumBytes_k  g hS12 h30 hx39) (fun v n40 H41 hn42 hk43 hp44 => ?_)
          obtain ⟨a45, cap46, hS48, rfl, h47⟩ := hp44
          have hS49 : St n0 n40 H41 F0 := ⟨by have := hS12.lo; omega, hS48.hb, hS48.fh⟩
          have hlon40 := hS49.lo
          have h50 := OW.lower (lo' := n0) h47 (by omega)
          obtain ⟨F52, hS53, hle54, h55, hf56⟩ := OW.freeze h50 hS49
          obtain ⟨x58, hx58, hr⟩ := bnd_some hr
          have hb64 := fun b hb => (OW.id_lt (i := b) h50 hb).2
          refine GL.callP g.good .r rfl rfl rfl rfl rfl rfl Try.func81 rfl rfl (Nat.le_refl _) (f_slices_Equal_byte_k  g hS53 (h38.mono hle54) h55 hx58) (fun v n59 H60 hn61 hk62 hp63 => ?_)
          obtain ⟨hS65, rfl⟩ := hp63
          have h66 := OW.keep (n' := n59) h50 (by omega) (fun i hi => hk62 i (OW.id_lt h50 hi).2)
          have hS67 : St n0 n59 H60 F0 := ⟨by have := hS49.lo; omega, hS65.hb, fun i o hi => (hk62 i (hS49.lt (hS49.fh i o hi))).trans (hS49.fh i o hi)⟩
          have hlon59 := hS67.lo
          refine WL.not .r rfl rfl rfl rfl ?_
          with_reducible refine WL.nil ?_
          with_reducible refine Ex.thn_norm ?_
          refine W.cond rfl (fun hc69 => ?_) (fun hc69 => ?_)
          · replace hr := iteB_pos hr hc69
            with_reducible refine W.seq ?_
            with_reducible refine W.region ?_
            refine WL.assign .nil rfl rfl rfl rfl ?_
            refine WL.assign .nil rfl rfl rfl rfl ?_
            refine WL.assign .nil rfl rfl rfl rfl ?_
            with_reducible refine WL.nil ?_
            with_reducible refine Ex.thn_norm ?_
            with_reducible refine W.ret ?_
            with_reducible refine Ex.thn_ret ?_
            obtain rfl := Option.some.inj hr
            exact ⟨.inr rfl, _, (.cons (.tmp rfl) (.cons (.tmp rfl) (.cons (.tmp rfl) .nil))), ⟨none, 0, (Ext.st hE0 hS67), rfl, OW.nil⟩⟩
          · replace hr := iteB_neg hr hc69
            with_reducible refine W.skip ?_
            with_reducible refine Ex.thn_norm ?_
            with_reducible refine W.seq ?_
            with_reducible refine W.region ?_
            refine WL.move .nil rfl rfl rfl rfl ?_
            obtain ⟨x70, hx70, hr⟩ := bnd_some hr
            have hb76 := fun b hb => (OW.id_lt (i := b) h66 hb).2
            refine GL.callP g.good .nil rfl rfl rfl rfl rfl rfl Try.func68 rfl rfl hS67.lo (f_slices_Clone_byte_k  g hS67 (SR.src h30 hS67.fh) hx70) (fun v n71 H72 hn73 hk74 hp75 => ?_)
            obtain ⟨a77, cap78, hS80, rfl, h79⟩ := hp75
            have h81 := OW.keep (n' := n71) h66 (by omega) (fun i hi => hk74 i (OW.id_lt h66 hi).2)
            have hS82 : St n0 n71 H72 F0 := ⟨by have := hS67.lo; omega, hS80.hb, hS80.fh⟩
            have hlon71 := hS82.lo
            have h83 := OW.lower (lo' := n0) h79 (by omega)
            have ap85 : ∀ b, idOf (.slice a77 x70.length cap78) = some b → idOf (.slice a45 x39.length cap46) ≠ some b := fun b hj hi => by have := (OW.id_lt h79 hj).1; have := hb76 b hi; omega
            refine WL.move .nil rfl rfl rfl rfl ?_
            refine WL.move .nil rfl rfl rfl rfl ?_
            obtain ⟨hc86, hr⟩ := chk_some hr
            refine WL.addI .nil rfl rfl rfl rfl rfl hc86.1 hc86.2 ?_
            obtain ⟨hc87, hr⟩ := chk_some hr
            refine WL.addI .nil rfl rfl rfl rfl rfl hc87.1 hc87.2 ?_
            refine WL.assign .nil rfl rfl rfl rfl ?_
            refine WL.assign .nil rfl rfl rfl rfl ?_
            refine WL.assign .nil rfl rfl rfl rfl ?_
            with_reducible refine WL.nil ?_
            with_reducible refine Ex.thn_norm ?_
            with_reducible refine W.ret ?_
            obtain rfl := Option.some.inj hr
            exact ⟨.inr rfl, _, (.cons (.tmp rfl) (.cons (.tmp rfl) (.cons (.tmp rfl) .nil))), ⟨a77, cap78, (Ext.st hE0 hS82), rfl, (OW.downSc hE0.sub h83)⟩⟩
theorem f_slices_Clone_implRec_k {Δ : Prims} (g : Env Try.prog Δ) {lo n0 : Nat} {H0 F0 : Heap} (hS : St lo n0 H0 F0) {a2 : Option Addr} {cap3 : Nat} {xs1 : List GRec} (h4 : SrcX H0 F0 (.slice a2 xs1.length cap3) xs1) {res : List GRec} (hr : f_slices_Clone_implRec xs1 = some res) :
    C Try.prog Δ n0 83 [.slice a2 xs1.length cap3] n0 H0 (fun v n H => ∃ (ra1 : Option Addr) (rcap2 : Nat), St n0 n H F0 ∧ v = .slice ra1 res.length rcap2 ∧ OW n0 n H F0 (.slice ra1 res.length rcap2) res) := by
  refine C.body Try.func83 rfl rfl ?_
  obtain ⟨hlen, hr⟩ := chk_some hr
  obtain rfl := Option.some.inj hr
  have hS0 : St n0 n0 H0 F0 := hS.low (Nat.le_refl _)
  with_reducible refine W.seq ?_
  with_reducible refine W.region ?_
  refine WL.assign .nil rfl rfl rfl rfl ?_
  with_reducible refine WL.nil ?_
  with_reducible refine Ex.thn_norm ?_
  with_reducible refine W.seq ?_
  with_reducible refine W.seq ?_
  with_reducible refine W.region ?_
  refine WL.move .nil rfl rfl rfl rfl ?_
  refine WL.eqNil .nil rfl rfl rfl (by decide) Try.underlying30 rfl rfl ?_
  with_reducible refine WL.nil ?_
  with_reducible refine Ex.thn_norm ?_
  refine W.cond rfl (fun hc => ?_) (fun hc => ?_)
  · have hnil := SrcX.isNone h4 hc
    subst hnil
    with_reducible refine W.seq ?_
    with_reducible refine W.region ?_
    refine WL.assign .nil rfl rfl rfl rfl ?_
    with_reducible refine WL.nil ?_
    with_reducible refine Ex.thn_norm ?_
    with_reducible refine W.ret ?_
    repeat (with_reducible refine Ex.thn_ret ?_)
    exact ⟨.inr rfl, _, resl1 rfl, none, 0, hS0, rfl, OW.nil⟩
  · with_reducible refine W.skip ?_
    with_reducible refine Ex.thn_norm ?_
    with_reducible refine W.seq ?_
    with_reducible refine W.region ?_
    refine GL.lit (cs := []) (xs := ([] : List GRec)) hS0 .nil rfl rfl rfl Try.underlying30 info37 rfl rfl rfl (by decide) (by decide) rfl rfl rfl rfl rfl RA.nil rfl (fun H5 hS6 hO7 hk8 => ?_)
    refine WL.move .nil rfl rfl rfl rfl ?_
    refine GL.append (α := GRec) hS6 .nil rfl rfl rfl Try.underlying30 Try.underlying30 rfl info37 rfl rfl rfl (by decide) rfl rfl hO7 (by omega) (by omega) (h4.up (n' := n0) hS0 hk8) (by simpa using hlen) (fun a9 c10 n11 H12 hS13 hn14 hO15 hk16 hid17 => ?_)
    refine WL.assign .nil rfl rfl rfl rfl ?_
    with_reducible refine WL.nil ?_
    with_reducible refine Ex.thn_norm ?_
    with_reducible refine W.ret ?_
    rw [List.nil_append] at hO15
    exact ⟨.inr rfl, _, resl1 rfl, a9, c10, hS13, rfl, hO15⟩
theorem f_impl_Wal_take_k {Δ : Prims} (g : Env Try.prog Δ) {lo n0 : Nat} {H0 F0 : Heap} (hS : St lo n0 H0 F0) {p0 : Nat} {x1 : GWal} {ez0 : Nat} {a2 : Option Addr} {cap3 : Nat} {a10 : Option Addr} {cap11 : Nat} {xs9 : (List UInt8)} (ho6 : H0 p0 = some (.row ez0 [.int .i64 x1.Term, .int .i64 x1.Vote, .int .i64 x1.Base, .int .i64 x1.BaseTerm, .slice a2 x1.Log.length cap3, .int .i64 x1.Good])) (fo7 : F0 p0 = none) (lo8 : lo ≤ p0) (h4 : OW lo n0 H0 F0 (.slice a2 x1.Log.length cap3) x1.Log) (h12 : SR F0 (.slice a10 xs9.length cap11) xs9) (ap13 : idOf (.slice a2 x1.Log.length cap3) ≠ some p0) {res : (GWal × Bool)} (hr : f_impl_Wal_take x1 xs9 = some res) :
    C Try.prog Δ lo 46 [.pointer (some ⟨p0, 0, none⟩), .slice a10 xs9.length cap11] n0 H0 (fun v n H => ∃ (F : Heap) (ra1 : Option Addr) (rcap2 : Nat), Ext n0 F0 n F ∧ St lo n H F ∧ H p0 = some (.row ez0 [.int .i64 res.1.Term, .int .i64 res.1.Vote, .int .i64 res.1.Base, .int .i64 res.1.BaseTerm, .slice ra1 res.1.Log.length rcap2, .int .i64 res.1.Good]) ∧ v = .bool res.2 ∧ OW lo n H F (.slice ra1 res.1.Log.length rcap2) res.1.Log ∧ idOf (.slice ra1 res.1.Log.length rcap2) ≠ some p0) := by
  refine C.body Try.func46 rfl rfl ?_
  unfold f_impl_Wal_take at hr
  have hS0 : St lo n0 H0 F0 := hS
  have hE0 := Ext.refl n0 F0
  have hlo0 := hS0.lo
  have lt0 := hS0.lt ho6
  with_reducible refine W.seq ?_
  with_reducible refine W.region ?_
  refine WL.assign .nil rfl rfl rfl rfl ?_
  with_reducible refine WL.nil ?_
  with_reducible refine Ex.thn_norm ?_
  with_reducible refine W.seq ?_
  with_reducible refine W.seq ?_
  with_reducible refine W.region ?_
  refine WL.move .nil rfl rfl rfl rfl ?_
  refine WL.len .nil rfl rfl rfl Try.underlying24 rfl ?_
  refine WL.bin .nil rfl rfl rfl rfl rfl rfl ?_
  with_reducible refine WL.nil ?_
  with_reducible refine Ex.thn_norm ?_
  refine W.condD rfl (fun hc15 => ?_) (fun hc15 => ?_)
  · replace hr := ite_pos hr hc15
    with_reducible refine W.seq ?_
    with_reducible refine W.region ?_
    refine WL.assign .nil rfl rfl rfl rfl ?_
    with_reducible refine WL.nil ?_
    with_reducible refine Ex.thn_norm ?_
    with_reducible refine W.ret ?_
    with_reducible refine Ex.thn_ret ?_
    obtain rfl := Option.some.inj hr
    exact ⟨.inr rfl, _, (.cons (.tmp rfl) .nil), ⟨F0, a2, cap3, (hE0.up (by omega)), hS0, ho6, rfl, h4, ap13⟩⟩
  · replace hr := ite_neg hr hc15
    with_reducible refine W.skip ?_
    with_reducible refine Ex.thn_norm ?_
    with_reducible refine W.seq ?_
    with_reducible refine W.region ?_
    refine WL.move .nil rfl rfl rfl rfl ?_
    obtain ⟨xs16, hxs16, hr⟩ := bnd_some hr
    refine GL.slice .nil rfl rfl rfl Try.underlying24 info5 rfl rfl h12 hS0.fh ⟨_, rfl⟩ rfl hxs16 (fun a17 cap18 hid19 h20 => ?_)
    obtain ⟨x21, hx21, hr⟩ := bnd_some hr
    have hb27 := fun b hb => (OW.id_lt (i := b) h4 hb).2
    refine GL.callP g.good .nil rfl rfl rfl rfl rfl rfl Try.func80 rfl rfl hS0.lo (f_impl_readNumber_k  g hS0 h20 hx21) (fun v n22 H23 hn24 hk25 hp26 => ?_)
    obtain ⟨hS28, rfl⟩ := hp26
    have ho29 := (hk25 _ (by have := lt0; omega)).trans ho6
    have h30 := OW.keep (n' := n22) h4 (by omega) (fun i hi => hk25 i (OW.id_lt h4 hi).2)
    have hS31 : St lo n22 H23 F0 := ⟨by have := hS0.lo; omega, hS28.hb, hS28.fh⟩
    have hlon22 := hS31.lo
    refine WL.move .nil rfl rfl rfl rfl ?_
    refine WL.extract .nil rfl rfl rfl rfl rfl ?_
    refine WL.extract .nil rfl rfl rfl rfl rfl ?_
    refine WL.assign .nil rfl rfl rfl rfl ?_
    refine WL.assign .nil rfl rfl rfl rfl ?_
    with_reducible refine WL.nil ?_
    with_reducible refine Ex.thn_norm ?_
    with_reducible refine W.seq ?_
    with_reducible refine W.seq ?_
    with_reducible refine W.region ?_
    refine WL.move .nil rfl rfl rfl rfl ?_
    refine WL.bin .nil rfl rfl rfl rfl rfl rfl ?_
    with_reducible refine WL.nil ?_
    with_reducible refine Ex.thn_norm ?_
    refine W.condD rfl (fun hc33 => ?_) (fun hc33 => ?_)
    · replace hr := ite_pos hr hc33
      with_reducible refine W.seq ?_
      with_reducible refine W.region ?_
      refine WL.assign .nil rfl rfl rfl rfl ?_
      with_reducible refine WL.nil ?_
      with_reducible refine Ex.thn_norm ?_
      with_reducible refine W.ret ?_
      with_reducible refine Ex.thn_ret ?_
      obtain rfl := Option.some.inj hr
      exact ⟨.inr rfl, _, (.cons (.tmp rfl) .nil), ⟨F0, a2, cap3, (hE0.up (by omega)), hS31, ho29, rfl, h30, ap13⟩⟩
    · replace hr := ite_neg hr hc33
      with_reducible refine W.skip ?_
      with_reducible refine Ex.thn_norm ?_
      with_reducible refine W.seq ?_
      with_reducible refine W.region ?_
      refine WL.move .nil rfl rfl rfl rfl ?_
      refine WL.move .nil rfl rfl rfl rfl ?_
      obtain ⟨hc34, hr⟩ := chk_some hr
      refine WL.addI .nil rfl rfl rfl rfl rfl hc34.1 hc34.2 ?_
      obtain ⟨xs35, hxs35, hr⟩ := bnd_some hr
      refine GL.slice .nil rfl rfl rfl Try.underlying24 info5 rfl rfl h12 hS31.fh ⟨_, rfl⟩ rfl hxs35 (fun a36 cap37 hid38 h39 => ?_)
      obtain ⟨x40, hx40, hr⟩ := bnd_some hr
      have hb46 := fun b hb => (OW.id_lt (i := b) h30 hb).2
      refine GL.callP g.good .nil rfl rfl rfl rfl rfl rfl Try.func80 rfl rfl hS31.lo (f_impl_readNumber_k  g hS31 h39 hx40) (fun v n41 H42 hn43 hk44 hp45 => ?_)
      obtain ⟨hS47, rfl⟩ := hp45
      have ho48 := (hk44 _ (by have := lt0; omega)).trans ho29
      have h49 := OW.keep (n' := n41) h30 (by omega) (fun i hi => hk44 i (OW.id_lt h30 hi).2)
      have hS50 : St lo n41 H42 F0 := ⟨by have := hS31.lo; omega, hS47.hb, hS47.fh⟩
      have hlon41 := hS50.lo
      refine WL.move .nil rfl rfl rfl rfl ?_
      refine WL.extract .nil rfl rfl rfl rfl rfl ?_
      refine WL.extract .nil rfl rfl rfl rfl rfl ?_
      refine WL.assign .nil rfl rfl rfl rfl ?_
      refine WL.assign .nil rfl rfl rfl rfl ?_
      with_reducible refine WL.nil ?_
      with_reducible refine Ex.thn_norm ?_
      with_reducible refine W.seq ?_
      with_reducible refine W.seq ?_
      refine W.cut (fun fr n H => ∃ (x81 : Bool) (F : Heap), fr = [(0, .pointer (some ⟨p0, 0, none⟩)), (1, .slice a10 xs9.length cap11), (5, .int .i64 x21.1), (6, .int .i64 x21.2), (7, .int .i64 x40.1), (8, .int .i64 x40.2), (42, .bool x81)] ∧ St lo n H F ∧ Ext n0 F0 n F ∧ H p0 = some (.row ez0 [.int .i64 x1.Term, .int .i64 x1.Vote, .int .i64 x1.Base, .int .i64 x1.BaseTerm, .slice a2 x1.Log.length cap3, .int .i64 x1.Good]) ∧ F p0 = none ∧ SR F (.slice a10 xs9.length cap11) xs9 ∧ OW lo n H F (.slice a2 x1.Log.length cap3) x1.Log ∧ idOf (.slice a2 x1.Log.length cap3) ≠ some p0 ∧ f_impl_Wal_take_J0 x1 x21 x40 xs9 x81 = some res) ?_ ?_
      · with_reducible refine W.region ?_
        refine WL.move .nil rfl rfl rfl rfl ?_
        refine WL.bin .nil rfl rfl rfl rfl rfl rfl ?_
        refine WL.move .nil rfl rfl rfl rfl ?_
        refine WL.guardD rfl rfl rfl (fun hg472 => ?_) (fun hg472 => ?_)
        · replace hr := ite_pos hr hg472
          refine WL.skip .nil rfl rfl ?_
          refine WL.skip .nil rfl rfl ?_
          refine WL.skip .nil rfl rfl ?_
          refine WL.pick .nil rfl rfl rfl rfl rfl ?_
          refine WL.move .nil rfl rfl rfl rfl ?_
          refine WL.skip .nil rfl rfl ?_
          refine WL.skip .nil rfl rfl ?_
          refine WL.skip .nil rfl rfl ?_
          refine WL.pick .nil rfl rfl rfl rfl rfl ?_
          with_reducible refine WL.nil ?_
          with_reducible refine Ex.thn_norm ?_
          exact ⟨[(0, .pointer (some ⟨p0, 0, none⟩)), (1, .slice a10 xs9.length cap11), (5, .int .i64 x21.1), (6, .int .i64 x21.2), (7, .int .i64 x40.1), (8, .int .i64 x40.2), (42, .bool true)], (Fr.le_cons rfl (Fr.le_cons rfl (Fr.le_cons rfl (Fr.le_cons rfl (Fr.le_cons rfl (Fr.le_cons rfl (Fr.le_cons rfl Fr.le_nil))))))), true, F0, rfl, hS50, (hE0.up (by omega)), ho48, fo7, h12, h49, ap13, hr⟩
        · replace hr := ite_neg hr hg472
          refine WL.move .nil rfl rfl rfl rfl ?_
          obtain ⟨x473, hx473, hr⟩ := bnd_some hr
          have hb479 := fun b hb => (OW.id_lt (i := b) h49 hb).2
          refine GL.callP g.good .nil rfl rfl rfl rfl rfl rfl Try.func41 rfl rfl hS50.lo (f_impl_isTerm_k  g hS50 hx473) (fun v n474 H475 hn476 hk477 hp478 => ?_)
          obtain ⟨hS480, rfl⟩ := hp478
          have ho481 := (hk477 _ (by have := lt0; omega)).trans ho48
          have h482 := OW.keep (n' := n474) h49 (by omega) (fun i hi => hk477 i (OW.id_lt h49 hi).2)
          have hS483 : St lo n474 H475 F0 := ⟨by have := hS50.lo; omega, hS480.hb, hS480.fh⟩
          have hlon474 := hS483.lo
          refine WL.not .nil rfl rfl rfl rfl ?_
          refine WL.pick .nil rfl rfl rfl rfl rfl ?_
          refine WL.move .nil rfl rfl rfl rfl ?_
          refine WL.guard rfl rfl rfl (fun hg484 => ?_) (fun hg484 => ?_)
          · replace hr := iteB_pos hr hg484
            refine WL.skip .nil rfl rfl ?_
            refine WL.skip .nil rfl rfl ?_
            refine WL.skip .nil rfl rfl ?_
            refine WL.pick .nil rfl rfl rfl rfl rfl ?_
            with_reducible refine WL.nil ?_
            with_reducible refine Ex.thn_norm ?_
            exact ⟨[(0, .pointer (some ⟨p0, 0, none⟩)), (1, .slice a10 xs9.length cap11), (5, .int .i64 x21.1), (6, .int .i64 x21.2), (7, .int .i64 x40.1), (8, .int .i64 x40.2), (42, .bool true)], (Fr.le_cons rfl (Fr.le_cons rfl (Fr.le_cons rfl (Fr.le_cons rfl (Fr.le_cons rfl (Fr.le_cons rfl (Fr.le_cons rfl Fr.le_nil))))))), true, F0, rfl, hS483, (hE0.up (by omega)), ho481, fo7, h12, h482, ap13, hr⟩
          · replace hr := iteB_neg hr hg484
            refine WL.move .nil rfl rfl rfl rfl ?_
            obtain ⟨x485, hx485, hr⟩ := bnd_some hr
            have hb491 := fun b hb => (OW.id_lt (i := b) h482 hb).2
            refine GL.callP g.good .nil rfl rfl rfl rfl rfl rfl Try.func41 rfl rfl hS483.lo (f_impl_isTerm_k  g hS483 hx485) (fun v n486 H487 hn488 hk489 hp490 => ?_)
            obtain ⟨hS492, rfl⟩ := hp490
            have ho493 := (hk489 _ (by have := lt0; omega)).trans ho481
            have h494 := OW.keep (n' := n486) h482 (by omega) (fun i hi => hk489 i (OW.id_lt h482 hi).2)
            have hS495 : St lo n486 H487 F0 := ⟨by have := hS483.lo; omega, hS492.hb, hS492.fh⟩
            have hlon486 := hS495.lo
            refine WL.not .nil rfl rfl rfl rfl ?_
            refine WL.pick .nil rfl rfl rfl rfl rfl ?_
            with_reducible refine WL.nil ?_
            with_reducible refine Ex.thn_norm ?_
            exact ⟨[(0, .pointer (some ⟨p0, 0, none⟩)), (1, .slice a10 xs9.length cap11), (5, .int .i64 x21.1), (6, .int .i64 x21.2), (7, .int .i64 x40.1), (8, .int .i64 x40.2), (42, .bool (!x485))], (Fr.le_cons rfl (Fr.le_cons rfl (Fr.le_cons rfl (Fr.le_cons rfl (Fr.le_cons rfl (Fr.le_cons rfl (Fr.le_cons rfl Fr.le_nil))))))), (!x485), F0, rfl, hS495, (hE0.up (by omega)), ho493, fo7, h12, h494, ap13, hr⟩
      · intro _ n75 H76 hI
        obtain ⟨x81, F77, rfl, hS78, hE79, ho83, fo84, h80, h82, ap85, hr⟩ := hI
        have lt86 := hS78.lt ho83
        have hlen75 := hE79.le
        have hlon75 := hS78.lo
        unfold f_impl_Wal_take_J0 at hr
        refine W.cond rfl (fun hc88 => ?_) (fun hc88 => ?_)
        · replace hr := iteB_pos hr hc88
          with_reducible refine W.seq ?_
          with_reducible refine W.region ?_
          refine WL.assign .nil rfl rfl rfl rfl ?_
          with_reducible refine WL.nil ?_
          with_reducible refine Ex.thn_norm ?_
          with_reducible refine W.ret ?_
          with_reducible refine Ex.thn_ret ?_
          obtain rfl := Option.some.inj hr
          exact ⟨.inr rfl, _, (.cons (.tmp rfl) .nil), ⟨F77, a2, cap3, (hE79.up (by omega)), hS78, ho83, rfl, h82, ap85⟩⟩
        · replace hr := iteB_neg hr hc88
          with_reducible refine W.skip ?_
          with_reducible refine Ex.thn_norm ?_
          with_reducible refine W.seq ?_
          with_reducible refine W.region ?_
          refine WL.move .nil rfl rfl rfl rfl ?_
          refine WL.move .nil rfl rfl rfl rfl ?_
          obtain ⟨hc89, hr⟩ := chk_some hr
          refine WL.addI .nil rfl rfl rfl rfl rfl hc89.1 hc89.2 ?_
          refine WL.move .nil rfl rfl rfl rfl ?_
          obtain ⟨hc90, hr⟩ := chk_some hr
          refine WL.addI .nil rfl rfl rfl rfl rfl hc90.1 hc90.2 ?_
          obtain ⟨xs91, hxs91, hr⟩ := bnd_some hr
          refine GL.slice .nil rfl rfl rfl Try.underlying24 info5 rfl rfl h80 hS78.fh ⟨_, rfl⟩ rfl hxs91 (fun a92 cap93 hid94 h95 => ?_)
          refine WL.assign .nil rfl rfl rfl rfl ?_
          with_reducible refine WL.nil ?_
          with_reducible refine Ex.thn_norm ?_
          with_reducible refine W.seq ?_
          with_reducible refine W.seq ?_
          refine W.cut (fun fr n H => ∃ (x112 : Bool) (F : Heap), fr = [(0, .pointer (some ⟨p0, 0, none⟩)), (1, .slice a10 xs9.length cap11), (5, .int .i64 x21.1), (7, .int .i64 x40.1), (9, .slice a92 xs91.length cap93), (57, .bool x112)] ∧ St lo n H F ∧ Ext n0 F0 n F ∧ H p0 = some (.row ez0 [.int .i64 x1.Term, .int .i64 x1.Vote, .int .i64 x1.Base, .int .i64 x1.BaseTerm, .slice a2 x1.Log.length cap3, .int .i64 x1.Good]) ∧ F p0 = none ∧ SR F (.slice a10 xs9.length cap11) xs9 ∧ SR F (.slice a92 xs91.length cap93) xs91 ∧ OW lo n H F (.slice a2 x1.Log.length cap3) x1.Log ∧ idOf (.slice a2 x1.Log.length cap3) ≠ some p0 ∧ f_impl_Wal_take_J1 x1 xs9 x21 x40 xs91 x112 = some res) ?_ ?_
          · with_reducible refine W.region ?_
            refine WL.move .nil rfl rfl rfl rfl ?_
            obtain ⟨x463, hx463, hr⟩ := bnd_some hr
            refine GL.index .nil rfl rfl rfl Try.underlying24 info5 rfl rfl h80 hS78.fh rfl hx463 (fun b464 kp465 c466 ecs467 hrow468 hwin469 hR470 => ?_)
            have hcs : _ = ([u8 x463] : List Value) := hR470
            subst hcs
            refine WL.load1 .nil rfl rfl rfl Try.underlying5 rfl rfl hrow468 ((win_get0 hwin469 (show (0 : Nat) < 1 by decide)).trans rfl) ?_
            refine WL.bin .nil rfl rfl rfl rfl rfl rfl ?_
            refine WL.move .nil rfl rfl rfl rfl ?_
            refine WL.guardN rfl rfl rfl (fun hg471 => ?_) (fun hg471 => ?_)
            · replace hr := ite_neg hr hg471
              refine WL.move .nil rfl rfl rfl rfl ?_
              refine WL.len .nil rfl rfl rfl Try.underlying24 rfl ?_
              refine WL.bin .nil rfl rfl rfl rfl rfl rfl ?_
              refine WL.pick .nil rfl rfl rfl rfl rfl ?_
              with_reducible refine WL.nil ?_
              with_reducible refine Ex.thn_norm ?_
              exact ⟨[(0, .pointer (some ⟨p0, 0, none⟩)), (1, .slice a10 xs9.length cap11), (5, .int .i64 x21.1), (7, .int .i64 x40.1), (9, .slice a92 xs91.length cap93), (57, .bool (decide ((0 : Int) < (xs91.length : Int))))], (Fr.le_cons rfl (Fr.le_cons rfl (Fr.le_cons rfl (Fr.le_cons rfl (Fr.le_cons rfl (Fr.le_cons rfl Fr.le_nil)))))), (decide ((0 : Int) < (xs91.length : Int))), F77, rfl, hS78, hE79, ho83, fo84, h80, h95, h82, ap85, hr⟩
            · replace hr := ite_pos hr hg471
              refine WL.skip .nil rfl rfl ?_
              refine WL.skip .nil rfl rfl ?_
              refine WL.skip .nil rfl rfl ?_
              refine WL.pick .nil rfl rfl rfl rfl rfl ?_
              with_reducible refine WL.nil ?_
              with_reducible refine Ex.thn_norm ?_
              exact ⟨[(0, .pointer (some ⟨p0, 0, none⟩)), (1, .slice a10 xs9.length cap11), (5, .int .i64 x21.1), (7, .int .i64 x40.1), (9, .slice a92 xs91.length cap93), (57, .bool false)], (Fr.le_cons rfl (Fr.le_cons rfl (Fr.le_cons rfl (Fr.le_cons rfl (Fr.le_cons rfl (Fr.le_cons rfl Fr.le_nil)))))), false, F77, rfl, hS78, hE79, ho83, fo84, h80, h95, h82, ap85, hr⟩
          · intro _ n105 H106 hI
            obtain ⟨x112, F107, rfl, hS108, hE109, ho114, fo115, h110, h111, h113, ap116, hr⟩ := hI
            have lt117 := hS108.lt ho114
            have hlen105 := hE109.le
            have hlon105 := hS108.lo
            unfold f_impl_Wal_take_J1 at hr
            refine W.cond rfl (fun hc119 => ?_) (fun hc119 => ?_)
            · replace hr := iteB_pos hr hc119
              with_reducible refine W.seq ?_
              with_reducible refine W.region ?_
              refine WL.assign .nil rfl rfl rfl rfl ?_
              with_reducible refine WL.nil ?_
              with_reducible refine Ex.thn_norm ?_
              with_reducible refine W.ret ?_
              with_reducible refine Ex.thn_ret ?_
              obtain rfl := Option.some.inj hr
              exact ⟨.inr rfl, _, (.cons (.tmp rfl) .nil), ⟨F107, a2, cap3, (hE109.up (by omega)), hS108, ho114, rfl, h113, ap116⟩⟩
            · replace hr := iteB_neg hr hc119
              with_reducible refine W.skip ?_
              with_reducible refine Ex.thn_norm ?_
              with_reducible refine W.seq ?_
              with_reducible refine W.seq ?_
              with_reducible refine W.region ?_
              refine WL.move .nil rfl rfl rfl rfl ?_
              obtain ⟨x120, hx120, hr⟩ := bnd_some hr
              refine GL.index .nil rfl rfl rfl Try.underlying24 info5 rfl rfl h110 hS108.fh rfl hx120 (fun b121 kp122 c123 ecs124 hrow125 hwin126 hR127 => ?_)
              have hcs : _ = ([u8 x120] : List Value) := hR127
              subst hcs
              refine WL.load1 .nil rfl rfl rfl Try.underlying5 rfl rfl hrow125 ((win_get0 hwin126 (show (0 : Nat) < 1 by decide)).trans rfl) ?_
              with_reducible refine WL.nil ?_
              with_reducible refine Ex.thn_norm ?_
              with_reducible refine W.block ?_
              with_reducible refine W.seq ?_
              with_reducible refine W.region ?_
              refine WL.bin .nil rfl rfl rfl rfl rfl rfl ?_
              refine WL.assign .nil rfl rfl rfl rfl ?_
              with_reducible refine WL.nil ?_
              with_reducible refine Ex.thn_norm ?_
              refine W.condD rfl (fun hc128 => ?_) (fun hc128 => ?_)
              · replace hr := ite_pos hr hc128
                with_reducible refine W.seq ?_
                with_reducible refine W.seq ?_
                with_reducible refine W.region ?_
                refine WL.move .nil rfl rfl rfl rfl ?_
                refine WL.move .nil rfl rfl rfl rfl ?_
                refine WL.nilCheck .nil rfl rfl rfl rfl ?_
                refine WL.fieldAddr .nil rfl rfl rfl Try.underlying40 rfl info3 rfl rfl ?_
                refine WL.load1 .nil rfl rfl rfl Try.underlying3 rfl rfl ho114 rfl ?_
                refine WL.bin .nil rfl rfl rfl rfl rfl rfl ?_
                with_reducible refine WL.nil ?_
                with_reducible refine Ex.thn_norm ?_
                refine W.condD rfl (fun hc130 => ?_) (fun hc130 => ?_)
                · replace hr := ite_pos hr hc130
                  with_reducible refine W.seq ?_
                  with_reducible refine W.region ?_
                  refine WL.assign .nil rfl rfl rfl rfl ?_
                  with_reducible refine WL.nil ?_
                  with_reducible refine Ex.thn_norm ?_
                  with_reducible refine W.ret ?_
                  with_reducible refine Ex.thn_ret ?_
                  with_reducible refine Ex.blk_ret ?_
                  with_reducible refine Ex.thn_ret ?_
                  obtain rfl := Option.some.inj hr
                  exact ⟨.inr rfl, _, (.cons (.tmp rfl) .nil), ⟨F107, a2, cap3, (hE109.up (by omega)), hS108, ho114, rfl, h113, ap116⟩⟩
                · replace hr := ite_neg hr hc130
                  with_reducible refine W.skip ?_
                  with_reducible refine Ex.thn_norm ?_
                  with_reducible refine W.seq ?_
                  with_reducible refine W.region ?_
                  refine WL.move .nil rfl rfl rfl rfl ?_
                  refine WL.move .nil rfl rfl rfl rfl ?_
                  refine WL.move .nil rfl rfl rfl rfl ?_
                  refine WL.move .nil rfl rfl rfl rfl ?_
                  refine WL.nilCheck .nil rfl rfl rfl rfl ?_
                  refine WL.fieldAddr .nil rfl rfl rfl Try.underlying40 rfl info3 rfl rfl ?_
                  refine GL.store hS108 .nil (vc := [.int .i64 x21.1]) (c' := [.int .i64 x21.1, .int .i64 x1.Vote, .int .i64 x1.Base, .int .i64 x1.BaseTerm, .slice a2 x1.Log.length cap3, .int .i64 x1.Good]) rfl rfl rfl info3 rfl rfl rfl rfl ho114 fo115 (Nat.le_of_ble_eq_true rfl) lo8 (by repeat' (first | exact List.forall_mem_nil _ | refine List.forall_mem_cons.2 ⟨?_, ?_⟩ | rfl)) rfl (fun H131 hS132 ho133 hk134 => ?_)
                  have h135 := OW.keep h113 (Nat.le_refl _) (fun i hi => hk134 i (fun hj => ap116 (hj ▸ hi)))
                  refine WL.nilCheck .nil rfl rfl rfl rfl ?_
                  refine WL.fieldAddr .nil rfl rfl rfl Try.underlying40 rfl info3 rfl rfl ?_
                  refine GL.store hS132 .nil (vc := [.int .i64 x40.1]) (c' := [.int .i64 x21.1, .int .i64 x40.1, .int .i64 x1.Base, .int .i64 x1.BaseTerm, .slice a2 x1.Log.length cap3, .int .i64 x1.Good]) rfl rfl rfl info3 rfl rfl rfl rfl ho133 fo115 (Nat.le_of_ble_eq_true rfl) lo8 (by repeat' (first | exact List.forall_mem_nil _ | refine List.forall_mem_cons.2 ⟨?_, ?_⟩ | rfl)) rfl (fun H136 hS137 ho138 hk139 => ?_)
                  have h140 := OW.keep h135 (Nat.le_refl _) (fun i hi => hk139 i (fun hj => ap116 (hj ▸ hi)))
                  with_reducible refine WL.nil ?_
                  with_reducible refine Ex.thn_norm ?_
                  with_reducible refine W.seq ?_
                  with_reducible refine W.region ?_
                  refine WL.assign .nil rfl rfl rfl rfl ?_
                  with_reducible refine WL.nil ?_
                  with_reducible refine Ex.thn_norm ?_
                  with_reducible refine W.ret ?_
                  with_reducible refine Ex.blk_ret ?_
                  with_reducible refine Ex.thn_ret ?_
                  obtain rfl := Option.some.inj hr
                  exact ⟨.inr rfl, _, (.cons (.tmp rfl) .nil), ⟨F107, a2, cap3, (hE109.up (by omega)), hS137, ho138, rfl, h140, ap116⟩⟩
              · replace hr := ite_neg hr hc128
                with_reducible refine W.seq ?_
                with_reducible refine W.region ?_
                refine WL.bin .nil rfl rfl rfl rfl rfl rfl ?_
                refine WL.assign .nil rfl rfl rfl rfl ?_
                with_reducible refine WL.nil ?_
                with_reducible refine Ex.thn_norm ?_
                refine W.condD rfl (fun hc141 => ?_) (fun hc141 => ?_)
                · replace hr := ite_pos hr hc141
                  with_reducible refine W.seq ?_
                  with_reducible refine W.region ?_
                  refine WL.move .nil rfl rfl rfl rfl ?_
                  refine WL.move .nil rfl rfl rfl rfl ?_
                  refine WL.move .nil rfl rfl rfl rfl ?_
                  obtain ⟨x142, hx142, hr⟩ := bnd_some hr
                  have hb148 := fun b hb => (OW.id_lt (i := b) h113 hb).2
                  refine GL.callP g.good .nil rfl rfl rfl rfl rfl rfl Try.func68 rfl rfl hS108.lo (f_slices_Clone_byte_k  g hS108 (SR.src h111 hS108.fh) hx142) (fun v n143 H144 hn145 hk146 hp147 => ?_)
                  obtain ⟨a149, cap150, hS152, rfl, h151⟩ := hp147
                  have ho153 := (hk146 _ (by have := lt117; omega)).trans ho114
                  have h154 := OW.keep (n' := n143) h113 (by omega) (fun i hi => hk146 i (OW.id_lt h113 hi).2)
                  have hS155 : St lo n143 H144 F107 := ⟨by have := hS108.lo; omega, hS152.hb, hS152.fh⟩
                  have hlon143 := hS155.lo
                  have h156 := OW.lower (lo' := n0) h151 (by omega)
                  have ap158 : idOf (.slice a149 x142.length cap150) ≠ some p0 := fun hj => by have := (OW.id_lt h151 hj).1; have := lt117; omega
                  have ap159 : ∀ b, idOf (.slice a149 x142.length cap150) = some b → idOf (.slice a2 x1.Log.length cap3) ≠ some b := fun b hj hi => by have := (OW.id_lt h151 hj).1; have := hb148 b hi; omega
                  refine WL.buildL .nil (cells := [.int .i64 x21.1, .int .i64 x40.1, .slice a149 x142.length cap150]) rfl rfl rfl Try.underlying37 info37 rfl rfl rfl (by simp only [List.mapM_cons, List.mapM_nil, info3, info3, info24]; rfl) rfl (by first | rfl | ((conv => lhs; simp [splice, fillL, cells_int, cells_bool, cells_string, cells_str, cells_slice, cells_ptr, cells_map, cells_func, cells_nilFunc, cells_nilIface, cells_iface, cells_agg, cells_u8]) <;> rfl)) ?_
                  refine GL.alloc hS155 .nil (zc := [.int .i64 0, .int .i64 0, .slice none 0 0]) rfl rfl rfl info37 rfl rfl rfl (fun H160 hS161 ho162 hk163 => ?_)
                  have fo164 := hS155.fnone (Nat.le_refl _)
                  have ap166 : idOf (.slice a2 x1.Log.length cap3) ≠ some n143 := fun hj => by have := OW.id_lt h154 hj; omega
                  have ap167 : idOf (.slice a149 x142.length cap150) ≠ some n143 := fun hj => by have := OW.id_lt h156 hj; omega
                  have ho168 := (hk163 _ (by have := lt117; omega)).trans ho153
                  have h169 := OW.keep (n' := (n143 + 1)) h154 (by omega) (fun i hi => hk163 i (OW.id_lt h154 hi).2)
                  have h170 := OW.keep (n' := (n143 + 1)) h156 (by omega) (fun i hi => hk163 i (OW.id_lt h156 hi).2)
                  have hlon1431 := hS161.lo
                  have lt165 : n143 < (n143 + 1) := by omega
                  refine GL.store hS161 .nil (vc := [.int .i64 x21.1, .int .i64 x40.1, .slice a149 x142.length cap150]) (c' := [.int .i64 x21.1, .int .i64 x40.1, .slice a149 x142.length cap150]) rfl rfl rfl info37 rfl rfl rfl rfl ho162 fo164 (Nat.le_of_ble_eq_true rfl) (by omega) (by repeat' (first | exact List.forall_mem_nil _ | refine List.forall_mem_cons.2 ⟨?_, ?_⟩ | rfl)) rfl (fun H171 hS172 ho173 hk174 => ?_)
                  have ho175 := (hk174 _ (by omega)).trans ho168
                  have h176 := OW.keep h169 (Nat.le_refl _) (fun i hi => hk174 i (fun hj => ap166 (hj ▸ hi)))
                  have h177 := OW.keep h170 (Nat.le_refl _) (fun i hi => hk174 i (fun hj => ap167 (hj ▸ hi)))
                  with_reducible refine WL.nil ?_
                  with_reducible refine Ex.thn_norm ?_
                  with_reducible refine W.seq ?_
                  with_reducible refine W.seq ?_
                  refine W.cut (fun fr n H => ∃ (x224 : Bool) (F : Heap), fr = [(0, .pointer (some ⟨p0, 0, none⟩)), (7, .int .i64 x40.1), (10, .pointer (some ⟨n143, 0, none⟩)), (108, .bool x224)] ∧ St lo n H F ∧ Ext n0 F0 n F ∧ H n143 = some (.row 1 [.int .i64 x21.1, .int .i64 x40.1, .slice a149 x142.length cap150]) ∧ F n143 = none ∧ H p0 = some (.row ez0 [.int .i64 x1.Term, .int .i64 x1.Vote, .int .i64 x1.Base, .int .i64 x1.BaseTerm, .slice a2 x1.Log.length cap3, .int .i64 x1.Good]) ∧ F p0 = none ∧ OW n0 n H F (.slice a149 x142.length cap150) x142 ∧ OW lo n H F (.slice a2 x1.Log.length cap3) x1.Log ∧ idOf (.slice a149 x142.length cap150) ≠ some n143 ∧ idOf (.slice a149 x142.length cap150) ≠ some p0 ∧ idOf (.slice a2 x1.Log.length cap3) ≠ some n143 ∧ idOf (.slice a2 x1.Log.length cap3) ≠ some p0 ∧ (∀ b, idOf (.slice a2 x1.Log.length cap3) = some b → idOf (.slice a149 x142.length cap150) ≠ some b) ∧ f_impl_Wal_take_J2 x1 x40 x21 x142 x224 = some res) ?_ ?_
                  · refine W.regionD [0, 1, 2, 3, 4, 5, 6, 7, 8, 9, 10, 11, 12, 13, 14, 15, 16, 17, 18, 19, 20, 21, 22, 23, 24] [false, false, false, false, false, false, false, false, false, false, false, false, false, false, false, false, false, false, false, false, false, false, false, false, false] rfl rfl (by kernel_rfl) (by kernel_rfl) (by (conv => lhs; simp only [List.map_cons, List.map_nil, List.getD_cons_zero, List.getD_cons_succ]) <;> rfl) ?_
                    refine WL.loadN .r (l' := [.int .i64 x21.1, .int .i64 x40.1, .slice a149 x142.length cap150]) rfl rfl rfl Try.underlying37 rfl info37 rfl ho173 rfl rfl ?_
                    obtain ⟨F304, hS305, hle306, h307, hf308⟩ := OW.freeze h177 hS172
                    have fo309 := (hf308 _ ap158).trans fo115
                    have fo310 := (hf308 _ ap167).trans fo164
                    have h311 := OW.keepF h176 hle306 (fun i hi => (hf308 i (fun hj => ap159 i hj hi)).trans (OW.fnone h176 hi))
                    obtain ⟨x313, hx313, hr⟩ := bnd_some hr
                    have hb319 := fun b hb => (OW.id_lt (i := b) h176 hb).2
                    have hb320 := fun b hb => (OW.id_lt (i := b) h177 hb).2
                    refine GL.callP g.good .r rfl rfl rfl rfl rfl rfl Try.func42 rfl rfl (Nat.le_refl _) (f_impl_recOK_k  g hS305 h307 hx313) (fun v n314 H315 hn316 hk317 hp318 => ?_)
                    obtain ⟨hS321, rfl⟩ := hp318
                    have ho322 := (hk317 _ (by have := lt117; omega)).trans ho175
                    have ho323 := (hk317 _ (by have := lt165; omega)).trans ho173
                    have h324 := OW.keep (n' := n314) h176 (by omega) (fun i hi => hk317 i (OW.id_lt h176 hi).2)
                    have h325 := OW.keep (n' := n314) h177 (by omega) (fun i hi => hk317 i (OW.id_lt h177 hi).2)
                    have hS326 : St lo n314 H315 F107 := ⟨by have := hS172.lo; omega, hS321.hb, fun i o hi => (hk317 i (hS172.lt (hS172.fh i o hi))).trans (hS172.fh i o hi)⟩
                    have hlon314 := hS326.lo
                    refine WL.not .r rfl rfl rfl rfl ?_
                    refine WL.move .r rfl rfl rfl rfl ?_
                    refine WL.guard rfl rfl rfl (fun hg327 => ?_) (fun hg327 => ?_)
                    · replace hr := iteB_pos hr hg327
                      refine WL.skip .r rfl rfl ?_
                      refine WL.skip .r rfl rfl ?_
                      refine WL.skip .r rfl rfl ?_
                      refine WL.skip .r rfl rfl ?_
                      refine WL.skip .r rfl rfl ?_
                      refine WL.skip .r rfl rfl ?_
                      refine WL.skip .r rfl rfl ?_
                      refine WL.skip .r rfl rfl ?_
                      refine WL.skip .r rfl rfl ?_
                      refine WL.skip .r rfl rfl ?_
                      refine WL.skip .r rfl rfl ?_
                      refine WL.skip .r rfl rfl ?_
                      refine WL.skip .r rfl rfl ?_
                      refine WL.skip .r rfl rfl ?_
                      refine WL.skip .r rfl rfl ?_
                      refine WL.skip .r rfl rfl ?_
                      refine WL.skip .r rfl rfl ?_
                      refine WL.skip .r rfl rfl ?_
                      refine WL.skip .r rfl rfl ?_
                      refine WL.skip .r rfl rfl ?_
                      refine WL.pick .r rfl rfl rfl rfl rfl ?_
                      with_reducible refine WL.nil ?_
                      with_reducible refine Ex.thn_norm ?_
                      exact ⟨[(0, .pointer (some ⟨p0, 0, none⟩)), (7, .int .i64 x40.1), (10, .pointer (some ⟨n143, 0, none⟩)), (108, .bool true)], (Fr.le_cons rfl (Fr.le_cons rfl (Fr.le_cons rfl (Fr.le_cons rfl Fr.le_nil)))), true, F107, rfl, hS326, (hE109.up (by omega)), ho323, fo164, ho322, fo115, h325, h324, ap167, ap158, ap166, ap116, (fun b h1 h2 => ap159 b h2 h1), hr⟩
                    · replace hr := iteB_neg hr hg327
                      refine WL.move .r rfl rfl rfl rfl ?_
                      refine WL.move .r rfl rfl rfl rfl ?_
                      refine WL.nilCheck .r rfl rfl rfl rfl ?_
                      refine WL.fieldAddr .r rfl rfl rfl Try.underlying40 rfl info3 rfl rfl ?_
                      refine WL.load1 .r rfl rfl rfl Try.underlying3 rfl rfl ho322 rfl ?_
                      obtain ⟨hc328, hr⟩ := chk_some hr
                      refine WL.addI .r rfl rfl rfl rfl rfl hc328.1 hc328.2 ?_
                      refine WL.move .r rfl rfl rfl rfl ?_
                      refine WL.nilCheck .r rfl rfl rfl rfl ?_
                      refine WL.fieldAddr .r rfl rfl rfl Try.underlying40 rfl info3 rfl rfl ?_
                      refine WL.load1 .r rfl rfl rfl Try.underlying3 rfl rfl ho322 rfl ?_
                      refine WL.move .r rfl rfl rfl rfl ?_
                      refine WL.nilCheck .r rfl rfl rfl rfl ?_
                      refine WL.fieldAddr .r rfl rfl rfl Try.underlying40 rfl info30 rfl rfl ?_
                      refine WL.load1 .r rfl rfl rfl Try.underlying30 rfl rfl ho322 rfl ?_
                      refine WL.len .r rfl rfl rfl Try.underlying30 rfl ?_
                      obtain ⟨hc329, hr⟩ := chk_some hr
                      refine WL.addI .r rfl rfl rfl rfl rfl hc329.1 hc329.2 ?_
                      refine WL.min2 .r rfl rfl rfl rfl rfl ?_
                      obtain ⟨hc330, hr⟩ := chk_some hr
                      refine WL.addI .r rfl rfl rfl rfl rfl hc330.1 hc330.2 ?_
                      obtain ⟨x331, hx331, hr⟩ := bnd_some hr
                      have hb337 := fun b hb => (OW.id_lt (i := b) h324 hb).2
                      have hb338 := fun b hb => (OW.id_lt (i := b) h325 hb).2
                      refine GL.callP g.good .r rfl rfl rfl rfl rfl rfl Try.func31 rfl rfl (Nat.le_refl _) (f_impl_within_k  g hS326 hx331) (fun v n332 H333 hn334 hk335 hp336 => ?_)
                      obtain ⟨hS339, rfl⟩ := hp336
                      have ho340 := (hk335 _ (by have := lt117; omega)).trans ho322
                      have ho341 := (hk335 _ (by have := lt165; omega)).trans ho323
                      have h342 := OW.keep (n' := n332) h324 (by omega) (fun i hi => hk335 i (OW.id_lt h324 hi).2)
                      have h343 := OW.keep (n' := n332) h325 (by omega) (fun i hi => hk335 i (OW.id_lt h325 hi).2)
                      have hS344 : St lo n332 H333 F107 := ⟨by have := hS326.lo; omega, hS339.hb, hS339.fh⟩
                      have hlon332 := hS344.lo
                      refine WL.not .r rfl rfl rfl rfl ?_
                      refine WL.pick .r rfl rfl rfl rfl rfl ?_
                      with_reducible refine WL.nil ?_
                      with_reducible refine Ex.thn_norm ?_
                      exact ⟨[(0, .pointer (some ⟨p0, 0, none⟩)), (7, .int .i64 x40.1), (10, .pointer (some ⟨n143, 0, none⟩)), (108, .bool (!x331))], (Fr.le_cons rfl (Fr.le_cons rfl (Fr.le_cons rfl (Fr.le_cons rfl Fr.le_nil)))), (!x331), F107, rfl, hS344, (hE109.up (by omega)), ho341, fo164, ho340, fo115, h343, h342, ap167, ap158, ap166, ap116, (fun b h1 h2 => ap159 b h2 h1), hr⟩
                  · intro _ n219 H220 hI
                    obtain ⟨x224, F221, rfl, hS222, hE223, ho226, fo227, ho229, fo230, h225, h228, ap231, ap232, ap233, ap234, ap235, hr⟩ := hI
                    have lt236 := hS222.lt ho226
                    have lt237 := hS222.lt ho229
                    have hlen219 := hE223.le
                    have hlon219 := hS222.lo
                    unfold f_impl_Wal_take_J2 at hr
                    refine W.cond rfl (fun hc239 => ?_) (fun hc239 => ?_)
                    · replace hr := iteB_pos hr hc239
                      with_reducible refine W.seq ?_
                      with_reducible refine W.region ?_
                      refine WL.assign .nil rfl rfl rfl rfl ?_
                      with_reducible refine WL.nil ?_
                      with_reducible refine Ex.thn_norm ?_
                      with_reducible refine W.ret ?_
                      with_reducible refine Ex.thn_ret ?_
                      with_reducible refine Ex.blk_ret ?_
                      with_reducible refine Ex.thn_ret ?_
                      obtain rfl := Option.some.inj hr
                      exact ⟨.inr rfl, _, (.cons (.tmp rfl) .nil), ⟨F221, a2, cap3, (hE223.up (by omega)), hS222, ho229, rfl, h228, ap234⟩⟩
                    · replace hr := iteB_neg hr hc239
                      with_reducible refine W.skip ?_
                      with_reducible refine Ex.thn_norm ?_
                      with_reducible refine W.seq ?_
                      refine W.regionI (fun H => True) [0, 1, 2, 3, 4, 5, 6, 7, 8, 9, 10, 11, 12, 13, 14, 15, 16, 17, 18] [(false, true, false), (false, false, false), (false, false, false), (false, false, false), (false, false, false), (false, false, false), (false, false, false), (false, false, false), (false, false, false), (false, false, false), (false, false, false), (false, false, false), (false, false, false), (false, false, false), (false, false, false), (true, false, false), (false, false, false), (false, false, false), (true, false, true)] false rfl (by kernel_rfl) (by kernel_rfl) (by (conv => lhs; simp only [List.map_cons, List.map_nil, List.getD_cons_zero, List.getD_cons_succ]) <;> rfl) ?_
                      refine WLI.late (v := .pointer (some ⟨p0, 0, none⟩)) (fun h => by cases h) rfl rfl (fun H2 hI2 => .move (.inl rfl) rfl) ?_
                      refine WLI.op (fun h => by cases h) ?_
                      refine WL.move .r rfl rfl rfl rfl ?_
                      with_reducible refine WL.nil ⟨rfl, ?_⟩
                      refine WLI.op (fun h => by cases h) ?_
                      refine WL.nilCheck .r rfl rfl rfl rfl ?_
                      with_reducible refine WL.nil ⟨rfl, ?_⟩
                      refine WLI.op (fun h => by cases h) ?_
                      refine WL.fieldAddr .r rfl rfl rfl Try.underlying40 rfl info30 rfl rfl ?_
                      with_reducible refine WL.nil ⟨rfl, ?_⟩
                      refine WLI.op (fun h => by cases h) ?_
                      refine WL.load1 .r rfl rfl rfl Try.underlying30 rfl rfl ho229 rfl ?_
                      with_reducible refine WL.nil ⟨rfl, ?_⟩
                      refine WLI.op (fun h => by cases h) ?_
                      refine WL.move .r rfl rfl rfl rfl ?_
                      with_reducible refine WL.nil ⟨rfl, ?_⟩
                      refine WLI.op (fun h => by cases h) ?_
                      refine WL.move .r rfl rfl rfl rfl ?_
                      with_reducible refine WL.nil ⟨rfl, ?_⟩
                      refine WLI.op (fun h => by cases h) ?_
                      refine WL.nilCheck .r rfl rfl rfl rfl ?_
                      with_reducible refine WL.nil ⟨rfl, ?_⟩
                      refine WLI.op (fun h => by cases h) ?_
                      refine WL.fieldAddr .r rfl rfl rfl Try.underlying40 rfl info3 rfl rfl ?_
                      with_reducible refine WL.nil ⟨rfl, ?_⟩
                      refine WLI.op (fun h => by cases h) ?_
                      refine WL.load1 .r rfl rfl rfl Try.underlying3 rfl rfl ho229 rfl ?_
                      with_reducible refine WL.nil ⟨rfl, ?_⟩
                      refine WLI.op (fun h => by cases h) ?_
                      obtain ⟨hc241, hr⟩ := chk_some hr
                      refine WL.subI .r rfl rfl rfl rfl rfl hc241.1 hc241.2 ?_
                      with_reducible refine WL.nil ⟨rfl, ?_⟩
                      refine WLI.op (fun h => by cases h) ?_
                      obtain ⟨hc242, hr⟩ := chk_some hr
                      refine WL.subI .r rfl rfl rfl rfl rfl hc242.1 hc242.2 ?_
                      with_reducible refine WL.nil ⟨rfl, ?_⟩
                      refine WLI.op (fun h => by cases h) ?_
                      obtain ⟨xs243, hxs243, hr⟩ := bnd_some hr
                      refine GL.sliceO .r rfl rfl rfl Try.underlying30 info37 rfl rfl h228 rfl ⟨_, rfl⟩ hxs243 (fun a244 cap245 hid246 h247 => ?_)
                      have ap249 : idOf (.slice a244 xs243.length cap245) ≠ some n143 := fun hj => ap233 (hid246 _ hj)
                      have ap250 : idOf (.slice a244 xs243.length cap245) ≠ some p0 := fun hj => ap234 (hid246 _ hj)
                      have ap251 : ∀ b, idOf (.slice a244 xs243.length cap245) = some b → idOf (.slice a149 x142.length cap150) ≠ some b := fun b hj => ap235 b (hid246 _ hj)
                      with_reducible refine WL.nil ⟨rfl, ?_⟩
                      refine WLI.op (fun h => by cases h) ?_
                      refine WL.loadN .r (l' := [.int .i64 x21.1, .int .i64 x40.1, .slice a149 x142.length cap150]) rfl rfl rfl Try.underlying37 rfl info37 rfl ho226 rfl rfl ?_
                      with_reducible refine WL.nil ⟨rfl, ?_⟩
                      refine WLI.op (fun h => by cases h) ?_
                      obtain ⟨F252, hS253, hle254, h255, hf256⟩ := OW.freeze h225 hS222
                      have fo257 := (hf256 _ ap231).trans fo227
                      have fo258 := (hf256 _ ap232).trans fo230
                      have h259 := OW.keepF h228 hle254 (fun i hi => (hf256 i (fun hj => (fun b h1 h2 => ap235 b h2 h1) i hj hi)).trans (OW.fnone h228 hi))
                      have h260 := OW.keepF h247 hle254 (fun i hi => (hf256 i (fun hj => (fun b h1 h2 => ap251 b h2 h1) i hj hi)).trans (OW.fnone h247 hi))
                      have hE261 : Ext n0 F0 n219 F252 := ⟨Nat.le_trans hE223.le (by omega), hE223.sub.trans hle254, fun i hi => (hf256 i (fun hj => by have := OW.id_lt h225 hj; omega)).trans (hE223.eq i hi)⟩
                      have hb266 := fun b hb => (OW.id_lt (i := b) h259 hb).2
                      have hb267 := fun b hb => (OW.id_lt (i := b) h260 hb).2
                      refine GL.lit (cs := [.int .i64 x21.1, .int .i64 x40.1, .slice a149 x142.length cap150]) (xs := ([({ Term := x21.1, Index := x40.1, Data := x142 } : GRec)] : List GRec)) hS253 .r rfl rfl rfl Try.underlying30 info37 rfl rfl rfl (by decide) (by decide) rfl rfl rfl rfl rfl (RA.cons (cs := [.int .i64 x21.1, .int .i64 x40.1, .slice a149 x142.length cap150]) (a := (({ Term := x21.1, Index := x40.1, Data := x142 } : GRec) : GRec)) (GRec.toR (x := ({ Term := x21.1, Index := x40.1, Data := x142 } : GRec)) h255) RA.nil) rfl (fun H262 hS263 hO264 hk265 => ?_)
                      have ho268 := (hk265 _ (by have := lt236; omega)).trans ho226
                      have ho269 := (hk265 _ (by have := lt237; omega)).trans ho229
                      have h270 := OW.keep (n' := (n219 + 1)) h259 (by omega) (fun i hi => hk265 i (OW.id_lt h259 hi).2)
                      have h271 := OW.keep (n' := (n219 + 1)) h260 (by omega) (fun i hi => hk265 i (OW.id_lt h260 hi).2)
                      have h272 := OW.lower (lo' := n0) hO264 (by omega)
                      have hlon2191 := hS263.lo
                      have ap274 : idOf (.slice (some ⟨n219, 0, none⟩) ([({ Term := x21.1, Index := x40.1, Data := x142 } : GRec)] : List GRec).length 1) ≠ some n143 := fun hj => by have := (OW.id_lt hO264 hj).1; have := lt236; omega
                      have ap275 : idOf (.slice (some ⟨n219, 0, none⟩) ([({ Term := x21.1, Index := x40.1, Data := x142 } : GRec)] : List GRec).length 1) ≠ some p0 := fun hj => by have := (OW.id_lt hO264 hj).1; have := lt237; omega
                      have ap276 : ∀ b, idOf (.slice (some ⟨n219, 0, none⟩) ([({ Term := x21.1, Index := x40.1, Data := x142 } : GRec)] : List GRec).length 1) = some b → idOf (.slice a2 x1.Log.length cap3) ≠ some b := fun b hj hi => by have := (OW.id_lt hO264 hj).1; have := hb266 b hi; omega
                      have ap277 : ∀ b, idOf (.slice (some ⟨n219, 0, none⟩) ([({ Term := x21.1, Index := x40.1, Data := x142 } : GRec)] : List GRec).length 1) = some b → idOf (.slice a244 xs243.length cap245) ≠ some b := fun b hj hi => by have := (OW.id_lt hO264 hj).1; have := hb267 b hi; omega
                      with_reducible refine WL.nil ⟨rfl, ?_⟩
                      refine WLI.op (fun h => by cases h) ?_
                      obtain ⟨hc278, hr⟩ := chk_some hr
                      have hb288 := fun b hb => (OW.id_lt (i := b) h271 hb).2
                      have hb289 := fun b hb => (OW.id_lt (i := b) h272 hb).2
                      refine GL.append (α := GRec) hS263 .w rfl rfl rfl Try.underlying30 Try.underlying30 rfl info37 rfl rfl rfl (by decide) rfl rfl h271 (by omega) (by omega) (OW.src h272) hc278 (fun a279 cap280 n281 H282 hS283 hn284 hO285 hk286 hid287 => ?_)
                      have ho290 := (hk286 _ (by have := lt236; omega) ap249).trans ho268
                      have ho291 := (hk286 _ (by have := lt237; omega) ap250).trans ho269
                      have h292 := OW.keep h272 hn284 (fun i hi => hk286 i (OW.id_lt h272 hi).2 (fun hj => (fun b h1 h2 => ap277 b h2 h1) _ hj hi))
                      have ap294 : idOf (.slice a279 (xs243 ++ ([({ Term := x21.1, Index := x40.1, Data := x142 } : GRec)] : List GRec)).length cap280) ≠ some n143 := fun hj => (hid287 _ hj).elim (fun h => by have := lt236; omega) ap249
                      have ap295 : idOf (.slice a279 (xs243 ++ ([({ Term := x21.1, Index := x40.1, Data := x142 } : GRec)] : List GRec)).length cap280) ≠ some p0 := fun hj => (hid287 _ hj).elim (fun h => by have := lt237; omega) ap250
                      have ap296 : ∀ b, idOf (.slice a279 (xs243 ++ ([({ Term := x21.1, Index := x40.1, Data := x142 } : GRec)] : List GRec)).length cap280) = some b → idOf (.slice (some ⟨n219, 0, none⟩) ([({ Term := x21.1, Index := x40.1, Data := x142 } : GRec)] : List GRec).length 1) ≠ some b := fun b hj hi => (hid287 _ hj).elim (fun h => by have := hb289 b hi; omega) (fun h => (fun b h1 h2 => ap277 b h2 h1) _ h hi)
                      have hlon281 := hS283.lo
                      with_reducible refine WL.nil ⟨rfl, ?_⟩
                      refine WLI.op (fun h => by cases h) ?_
                      refine WL.nilCheck .r rfl rfl rfl rfl ?_
                      with_reducible refine WL.nil ⟨rfl, ?_⟩
                      refine WLI.op (fun h => by cases h) ?_
                      refine WL.fieldAddr .r rfl rfl rfl Try.underlying40 rfl info30 rfl rfl ?_
                      with_reducible refine WL.nil ⟨rfl, ?_⟩
                      refine WLI.op (fun _ => trivial) ?_
                      refine GL.store hS283 .w (vc := [.slice a279 (xs243 ++ ([({ Term := x21.1, Index := x40.1, Data := x142 } : GRec)] : List GRec)).length cap280]) (c' := [.int .i64 x1.Term, .int .i64 x1.Vote, .int .i64 x1.Base, .int .i64 x1.BaseTerm, .slice a279 (xs243 ++ ([({ Term := x21.1, Index := x40.1, Data := x142 } : GRec)] : List GRec)).length cap280, .int .i64 x1.Good]) rfl rfl rfl info30 rfl rfl rfl rfl ho291 fo258 (Nat.le_of_ble_eq_true rfl) lo8 (by repeat' (first | exact List.forall_mem_nil _ | refine List.forall_mem_cons.2 ⟨?_, ?_⟩ | rfl)) rfl (fun H297 hS298 ho299 hk300 => ?_)
                      have ho301 := (hk300 _ (by omega)).trans ho290
                      have h302 := OW.keep h292 (Nat.le_refl _) (fun i hi => hk300 i (fun hj => ap275 (hj ▸ hi)))
                      have h303 := OW.keep hO285 (Nat.le_refl _) (fun i hi => hk300 i (fun hj => ap295 (hj ▸ hi)))
                      with_reducible refine WL.nil ⟨rfl, ?_⟩
                      refine WLI.nil (fun h => by cases h) ?_
                      with_reducible refine Ex.thn_norm ?_
                      with_reducible refine W.seq ?_
                      with_reducible refine W.region ?_
                      refine WL.assign .nil rfl rfl rfl rfl ?_
                      with_reducible refine WL.nil ?_
                      with_reducible refine Ex.thn_norm ?_
                      with_reducible refine W.ret ?_
                      with_reducible refine Ex.blk_ret ?_
                      with_reducible refine Ex.thn_ret ?_
                      obtain rfl := Option.some.inj hr
                      exact ⟨.inr rfl, _, (.cons (.tmp rfl) .nil), ⟨F252, a279, cap280, (hE261.up (by omega)), hS298, ho299, rfl, h303, ap295⟩⟩
                · replace hr := ite_neg hr hc141
                  with_reducible refine W.seq ?_
                  with_reducible refine W.region ?_
                  refine WL.bin .nil rfl rfl rfl rfl rfl rfl ?_
                  refine WL.assign .nil rfl rfl rfl rfl ?_
                  with_reducible refine WL.nil ?_
                  with_reducible refine Ex.thn_norm ?_
                  refine W.condD rfl (fun hc345 => ?_) (fun hc345 => ?_)
                  · replace hr := ite_pos hr hc345
                    with_reducible refine W.seq ?_
                    with_reducible refine W.seq ?_
                    with_reducible refine W.region ?_
                    refine WL.move .nil rfl rfl rfl rfl ?_
                    refine WL.move .nil rfl rfl rfl rfl ?_
                    refine WL.nilCheck .nil rfl rfl rfl rfl ?_
                    refine WL.fieldAddr .nil rfl rfl rfl Try.underlying40 rfl info3 rfl rfl ?_
                    refine WL.load1 .nil rfl rfl rfl Try.underlying3 rfl rfl ho114 rfl ?_
                    refine WL.bin .nil rfl rfl rfl rfl rfl rfl ?_
                    with_reducible refine WL.nil ?_
                    with_reducible refine Ex.thn_norm ?_
                    refine W.condD rfl (fun hc347 => ?_) (fun hc347 => ?_)
                    · replace hr := ite_pos hr hc347
                      with_reducible refine W.seq ?_
                      with_reducible refine W.region ?_
                      refine WL.move .nil rfl rfl rfl rfl ?_
                      refine WL.move .nil rfl rfl rfl rfl ?_
                      refine WL.nilCheck .nil rfl rfl rfl rfl ?_
                      refine WL.fieldAddr .nil rfl rfl rfl Try.underlying40 rfl info3 rfl rfl ?_
                      refine WL.load1 .nil rfl rfl rfl Try.underlying3 rfl rfl ho114 rfl ?_
                      refine WL.bin .nil rfl rfl rfl rfl rfl rfl ?_
                      refine WL.assign .nil rfl rfl rfl rfl ?_
                      with_reducible refine WL.nil ?_
                      with_reducible refine Ex.thn_norm ?_
                      with_reducible refine W.ret ?_
                      with_reducible refine Ex.thn_ret ?_
                      with_reducible refine Ex.blk_ret ?_
                      with_reducible refine Ex.thn_ret ?_
                      obtain rfl := Option.some.inj hr
                      exact ⟨.inr rfl, _, (.cons (.tmp rfl) .nil), ⟨F107, a2, cap3, (hE109.up (by omega)), hS108, ho114, rfl, h113, ap116⟩⟩
                    · replace hr := ite_neg hr hc347
                      with_reducible refine W.skip ?_
                      with_reducible refine Ex.thn_norm ?_
                      with_reducible refine W.seq ?_
                      with_reducible refine W.region ?_
                      refine WL.move .nil rfl rfl rfl rfl ?_
                      refine WL.move .nil rfl rfl rfl rfl ?_
                      refine WL.nilCheck .nil rfl rfl rfl rfl ?_
                      refine WL.fieldAddr .nil rfl rfl rfl Try.underlying40 rfl info3 rfl rfl ?_
                      refine WL.load1 .nil rfl rfl rfl Try.underlying3 rfl rfl ho114 rfl ?_
                      obtain ⟨hc348, hr⟩ := chk_some hr
                      refine WL.subI .nil rfl rfl rfl rfl rfl hc348.1 hc348.2 ?_
                      refine WL.assign .nil rfl rfl rfl rfl ?_
                      with_reducible refine WL.nil ?_
                      with_reducible refine Ex.thn_norm ?_
                      with_reducible refine W.seq ?_
                      with_reducible refine W.seq ?_
                      refine W.cut (fun fr n H => ∃ (x380 : Bool) (F : Heap), fr = [(0, .pointer (some ⟨p0, 0, none⟩)), (5, .int .i64 x21.1), (7, .int .i64 x40.1), (11, .int .i64 (x21.1 - x1.Base)), (167, .bool x380)] ∧ St lo n H F ∧ Ext n0 F0 n F ∧ H p0 = some (.row ez0 [.int .i64 x1.Term, .int .i64 x1.Vote, .int .i64 x1.Base, .int .i64 x1.BaseTerm, .slice a2 x1.Log.length cap3, .int .i64 x1.Good]) ∧ F p0 = none ∧ OW lo n H F (.slice a2 x1.Log.length cap3) x1.Log ∧ idOf (.slice a2 x1.Log.length cap3) ≠ some p0 ∧ f_impl_Wal_take_J3 x1 x21 x40 x380 = some res) ?_ ?_
                      · with_reducible refine W.region ?_
                        refine WL.move .nil rfl rfl rfl rfl ?_
                        refine WL.move .nil rfl rfl rfl rfl ?_
                        refine WL.nilCheck .nil rfl rfl rfl rfl ?_
                        refine WL.fieldAddr .nil rfl rfl rfl Try.underlying40 rfl info30 rfl rfl ?_
                        refine WL.load1 .nil rfl rfl rfl Try.underlying30 rfl rfl ho114 rfl ?_
                        refine WL.len .nil rfl rfl rfl Try.underlying30 rfl ?_
                        obtain ⟨x437, hx437, hr⟩ := bnd_some hr
                        have hb443 := fun b hb => (OW.id_lt (i := b) h113 hb).2
                        refine GL.callP g.good .nil rfl rfl rfl rfl rfl rfl Try.func31 rfl rfl hS108.lo (f_impl_within_k  g hS108 hx437) (fun v n438 H439 hn440 hk441 hp442 => ?_)
                        obtain ⟨hS444, rfl⟩ := hp442
                        have ho445 := (hk441 _ (by have := lt117; omega)).trans ho114
                        have h446 := OW.keep (n' := n438) h113 (by omega) (fun i hi => hk441 i (OW.id_lt h113 hi).2)
                        have hS447 : St lo n438 H439 F107 := ⟨by have := hS108.lo; omega, hS444.hb, hS444.fh⟩
                        have hlon438 := hS447.lo
                        refine WL.not .nil rfl rfl rfl rfl ?_
                        refine WL.move .nil rfl rfl rfl rfl ?_
                        refine WL.guard rfl rfl rfl (fun hg448 => ?_) (fun hg448 => ?_)
                        · replace hr := iteB_pos hr hg448
                          refine WL.skip .nil rfl rfl ?_
                          refine WL.skip .nil rfl rfl ?_
                          refine WL.skip .nil rfl rfl ?_
                          refine WL.skip .nil rfl rfl ?_
                          refine WL.skip .nil rfl rfl ?_
                          refine WL.skip .nil rfl rfl ?_
                          refine WL.skip .nil rfl rfl ?_
                          refine WL.skip .nil rfl rfl ?_
                          refine WL.skip .nil rfl rfl ?_
                          refine WL.skip .nil rfl rfl ?_
                          refine WL.skip .nil rfl rfl ?_
                          refine WL.pick .nil rfl rfl rfl rfl rfl ?_
                          with_reducible refine WL.nil ?_
                          with_reducible refine Ex.thn_norm ?_
                          exact ⟨[(0, .pointer (some ⟨p0, 0, none⟩)), (5, .int .i64 x21.1), (7, .int .i64 x40.1), (11, .int .i64 (x21.1 - x1.Base)), (167, .bool true)], (Fr.le_cons rfl (Fr.le_cons rfl (Fr.le_cons rfl (Fr.le_cons rfl (Fr.le_cons rfl Fr.le_nil))))), true, F107, rfl, hS447, (hE109.up (by omega)), ho445, fo115, h446, ap116, hr⟩
                        · replace hr := iteB_neg hr hg448
                          refine WL.move .nil rfl rfl rfl rfl ?_
                          refine WL.nilCheck .nil rfl rfl rfl rfl ?_
                          refine WL.fieldAddr .nil rfl rfl rfl Try.underlying40 rfl info30 rfl rfl ?_
                          refine WL.load1 .nil rfl rfl rfl Try.underlying30 rfl rfl ho445 rfl ?_
                          refine WL.move .nil rfl rfl rfl rfl ?_
                          obtain ⟨hc449, hr⟩ := chk_some hr
                          refine WL.subI .nil rfl rfl rfl rfl rfl hc449.1 hc449.2 ?_
                          obtain ⟨x450, hx450, hr⟩ := bnd_some hr
                          refine GL.indexO .nil rfl rfl rfl Try.underlying30 info37 rfl rfl h446 rfl hx450 (fun b451 kp452 c453 ecs454 hid458 hrow455 hwin456 hR457 hup459 => ?_)
                          obtain ⟨a460, cap461, rfl, h462⟩ := GRec.ofR hR457
                          refine WL.fieldAddr .nil rfl rfl rfl Try.underlying37 rfl info3 rfl rfl ?_
                          refine WL.load1 .nil rfl rfl rfl Try.underlying3 rfl rfl hrow455 ((win_get0 hwin456 (show (0 : Nat) < 3 by decide)).trans rfl) ?_
                          refine WL.move .nil rfl rfl rfl rfl ?_
                          refine WL.bin .nil rfl rfl rfl rfl rfl rfl ?_
                          refine WL.pick .nil rfl rfl rfl rfl rfl ?_
                          with_reducible refine WL.nil ?_
                          with_reducible refine Ex.thn_norm ?_
                          exact ⟨[(0, .pointer (some ⟨p0, 0, none⟩)), (5, .int .i64 x21.1), (7, .int .i64 x40.1), (11, .int .i64 (x21.1 - x1.Base)), (167, .bool (!decide (x450.Term = x40.1)))], (Fr.le_cons rfl (Fr.le_cons rfl (Fr.le_cons rfl (Fr.le_cons rfl (Fr.le_cons rfl Fr.le_nil))))), (!decide (x450.Term = x40.1)), F107, rfl, hS447, (hE109.up (by omega)), ho445, fo115, h446, ap116, hr⟩
                      · intro _ n375 H376 hI
                        obtain ⟨x380, F377, rfl, hS378, hE379, ho382, fo383, h381, ap384, hr⟩ := hI
                        have lt385 := hS378.lt ho382
                        have hlen375 := hE379.le
                        have hlon375 := hS378.lo
                        unfold f_impl_Wal_take_J3 at hr
                        refine W.cond rfl (fun hc387 => ?_) (fun hc387 => ?_)
                        · replace hr := iteB_pos hr hc387
                          with_reducible refine W.seq ?_
                          with_reducible refine W.region ?_
                          refine WL.assign .nil rfl rfl rfl rfl ?_
                          with_reducible refine WL.nil ?_
                          with_reducible refine Ex.thn_norm ?_
                          with_reducible refine W.ret ?_
                          with_reducible refine Ex.thn_ret ?_
                          with_reducible refine Ex.blk_ret ?_
                          with_reducible refine Ex.thn_ret ?_
                          obtain rfl := Option.some.inj hr
                          exact ⟨.inr rfl, _, (.cons (.tmp rfl) .nil), ⟨F377, a2, cap3, (hE379.up (by omega)), hS378, ho382, rfl, h381, ap384⟩⟩
                        · replace hr := iteB_neg hr hc387
                          with_reducible refine W.skip ?_
                          with_reducible refine Ex.thn_norm ?_
                          with_reducible refine W.seq ?_
                          with_reducible refine W.region ?_
                          refine WL.move .nil rfl rfl rfl rfl ?_
                          refine WL.move .nil rfl rfl rfl rfl ?_
                          refine WL.move .nil rfl rfl rfl rfl ?_
                          refine WL.move .nil rfl rfl rfl rfl ?_
                          refine WL.move .nil rfl rfl rfl rfl ?_
                          refine WL.move .nil rfl rfl rfl rfl ?_
                          refine WL.nilCheck .nil rfl rfl rfl rfl ?_
                          refine WL.fieldAddr .nil rfl rfl rfl Try.underlying40 rfl info30 rfl rfl ?_
                          refine WL.load1 .nil rfl rfl rfl Try.underlying30 rfl rfl ho382 rfl ?_
                          refine WL.move .nil rfl rfl rfl rfl ?_
                          obtain ⟨xs388, hxs388, hr⟩ := bnd_some hr
                          refine GL.sliceO .nil rfl rfl rfl Try.underlying30 info37 rfl rfl h381 ⟨_, rfl⟩ rfl hxs388 (fun a389 cap390 hid391 h392 => ?_)
                          have ap394 : idOf (.slice a389 xs388.length cap390) ≠ some p0 := fun hj => ap384 (hid391 _ hj)
                          obtain ⟨x395, hx395, hr⟩ := bnd_some hr
                          have hb401 := fun b hb => (OW.id_lt (i := b) h381 hb).2
                          have hb402 := fun b hb => (OW.id_lt (i := b) h392 hb).2
                          refine GL.callP g.good .nil rfl rfl rfl rfl rfl rfl Try.func83 rfl rfl hS378.lo (f_slices_Clone_implRec_k  g hS378 (OW.src h392) hx395) (fun v n396 H397 hn398 hk399 hp400 => ?_)
                          obtain ⟨a403, cap404, hS406, rfl, h405⟩ := hp400
                          have ho407 := (hk399 _ (by have := lt385; omega)).trans ho382
                          have h408 := OW.keep (n' := n396) h381 (by omega) (fun i hi => hk399 i (OW.id_lt h381 hi).2)
                          have h409 := OW.keep (n' := n396) h392 (by omega) (fun i hi => hk399 i (OW.id_lt h392 hi).2)
                          have hS410 : St lo n396 H397 F377 := ⟨by have := hS378.lo; omega, hS406.hb, hS406.fh⟩
                          have hlon396 := hS410.lo
                          have h411 := OW.lower (lo' := n0) h405 (by omega)
                          have ap413 : idOf (.slice a403 x395.length cap404) ≠ some p0 := fun hj => by have := (OW.id_lt h405 hj).1; have := lt385; omega
                          have ap414 : ∀ b, idOf (.slice a403 x395.length cap404) = some b → idOf (.slice a2 x1.Log.length cap3) ≠ some b := fun b hj hi => by have := (OW.id_lt h405 hj).1; have := hb401 b hi; omega
                          have ap415 : ∀ b, idOf (.slice a403 x395.length cap404) = some b → idOf (.slice a389 xs388.length cap390) ≠ some b := fun b hj hi => by have := (OW.id_lt h405 hj).1; have := hb402 b hi; omega
                          refine WL.nilCheck .nil rfl rfl rfl rfl ?_
                          refine WL.fieldAddr .nil rfl rfl rfl Try.underlying40 rfl info3 rfl rfl ?_
                          refine GL.store hS410 .nil (vc := [.int .i64 x21.1]) (c' := [.int .i64 x1.Term, .int .i64 x1.Vote, .int .i64 x21.1, .int .i64 x1.BaseTerm, .slice a2 x1.Log.length cap3, .int .i64 x1.Good]) rfl rfl rfl info3 rfl rfl rfl rfl ho407 fo383 (Nat.le_of_ble_eq_true rfl) lo8 (by repeat' (first | exact List.forall_mem_nil _ | refine List.forall_mem_cons.2 ⟨?_, ?_⟩ | rfl)) rfl (fun H416 hS417 ho418 hk419 => ?_)
                          have h420 := OW.keep h408 (Nat.le_refl _) (fun i hi => hk419 i (fun hj => ap384 (hj ▸ hi)))
                          have h421 := OW.keep h409 (Nat.le_refl _) (fun i hi => hk419 i (fun hj => ap394 (hj ▸ hi)))
                          have h422 := OW.keep h411 (Nat.le_refl _) (fun i hi => hk419 i (fun hj => ap413 (hj ▸ hi)))
                          refine WL.nilCheck .nil rfl rfl rfl rfl ?_
                          refine WL.fieldAddr .nil rfl rfl rfl Try.underlying40 rfl info3 rfl rfl ?_
                          refine GL.store hS417 .nil (vc := [.int .i64 x40.1]) (c' := [.int .i64 x1.Term, .int .i64 x1.Vote, .int .i64 x21.1, .int .i64 x40.1, .slice a2 x1.Log.length cap3, .int .i64 x1.Good]) rfl rfl rfl info3 rfl rfl rfl rfl ho418 fo383 (Nat.le_of_ble_eq_true rfl) lo8 (by repeat' (first | exact List.forall_mem_nil _ | refine List.forall_mem_cons.2 ⟨?_, ?_⟩ | rfl)) rfl (fun H423 hS424 ho425 hk426 => ?_)
                          have h427 := OW.keep h420 (Nat.le_refl _) (fun i hi => hk426 i (fun hj => ap384 (hj ▸ hi)))
                          have h428 := OW.keep h421 (Nat.le_refl _) (fun i hi => hk426 i (fun hj => ap394 (hj ▸ hi)))
                          have h429 := OW.keep h422 (Nat.le_refl _) (fun i hi => hk426 i (fun hj => ap413 (hj ▸ hi)))
                          refine WL.nilCheck .nil rfl rfl rfl rfl ?_
                          refine WL.fieldAddr .nil rfl rfl rfl Try.underlying40 rfl info30 rfl rfl ?_
                          refine GL.store hS424 .nil (vc := [.slice a403 x395.length cap404]) (c' := [.int .i64 x1.Term, .int .i64 x1.Vote, .int .i64 x21.1, .int .i64 x40.1, .slice a403 x395.length cap404, .int .i64 x1.Good]) rfl rfl rfl info30 rfl rfl rfl rfl ho425 fo383 (Nat.le_of_ble_eq_true rfl) lo8 (by repeat' (first | exact List.forall_mem_nil _ | refine List.forall_mem_cons.2 ⟨?_, ?_⟩ | rfl)) rfl (fun H430 hS431 ho432 hk433 => ?_)
                          have h434 := OW.keep h427 (Nat.le_refl _) (fun i hi => hk433 i (fun hj => ap384 (hj ▸ hi)))
                          have h435 := OW.keep h428 (Nat.le_refl _) (fun i hi => hk433 i (fun hj => ap394 (hj ▸ hi)))
                          have h436 := OW.keep h429 (Nat.le_refl _) (fun i hi => hk433 i (fun hj => ap413 (hj ▸ hi)))
                          with_reducible refine WL.nil ?_
                          with_reducible refine Ex.thn_norm ?_
                          with_reducible refine W.seq ?_
                          with_reducible refine W.region ?_
                          refine WL.assign .nil rfl rfl rfl rfl ?_
                          with_reducible refine WL.nil ?_
                          with_reducible refine Ex.thn_norm ?_
                          with_reducible refine W.ret ?_
                          with_reducible refine Ex.blk_ret ?_
                          with_reducible refine Ex.thn_ret ?_
                          obtain rfl := Option.some.inj hr
                          exact ⟨.inr rfl, _, (.cons (.tmp rfl) .nil), ⟨F377, a403, cap404, (hE379.up (by omega)), hS431, ho432, rfl, (OW.lower h436 (by omega)), ap413⟩⟩
                  · replace hr := ite_neg hr hc345
                    with_reducible refine W.skip ?_
                    with_reducible refine Ex.blk_norm ?_
                    with_reducible refine Ex.thn_norm ?_
                    with_reducible refine W.seq ?_
                    with_reducible refine W.region ?_
                    refine WL.assign .nil rfl rfl rfl rfl ?_
                    with_reducible refine WL.nil ?_
                    with_reducible refine Ex.thn_norm ?_
                    with_reducible refine W.ret ?_
                    obtain rfl := Option.some.inj hr
                    exact ⟨.inr rfl, _, (.cons (.tmp rfl) .nil), ⟨F107, a2, cap3, (hE109.up (by omega)), hS108, ho114, rfl, h113, ap116⟩⟩
end Go.Proofs.YtbdebjoagckcpaaAb
