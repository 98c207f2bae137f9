import Derived.Test.YtmodhnkjimpkbaaPxRsD
import Derived.Test.YtmodhnkjimpkbaaAbInfoS
import Derived.KernelRfl
set_option linter.all false
set_option maxRecDepth 20000
namespace Go.Proofs.YtmodhnkjimpkbaaAb
open Go Go.Proofs
theorem f_laws_toByteS_k {Δ : Prims} (g : Env Try.prog Δ) {lo n0 : Nat} {H0 F0 : Heap} (hS : St lo n0 H0 F0) {a2 : Option Addr} {cap3 : Nat} {xs1 : (List UInt8)} (h4 : SR F0 (.slice a2 xs1.length cap3) xs1) {res : ((List UInt8))} (hr : f_laws_toByteS xs1 = some res) :
    C Try.prog Δ n0 6 [.slice a2 xs1.length cap3] n0 H0 (fun v n H => ∃ (ra1 : Option Addr) (rcap2 : Nat), St n0 n H F0 ∧ v = .slice ra1 res.length rcap2 ∧ OW n0 n H F0 (.slice ra1 res.length rcap2) res) := by
  refine C.body Try.func6 rfl rfl ?_
  unfold f_laws_toByteS at hr
  have hS0 : St n0 n0 H0 F0 := hS.low (Nat.le_refl _)
  have hE0 := Ext.refl n0 F0
  have hlo0 := hS0.lo
  with_reducible refine W.seq ?_
  with_reducible refine W.region ?_
  refine WL.assign .nil rfl rfl rfl rfl ?_
  with_reducible refine WL.nil ?_
  with_reducible refine Ex.thn_norm ?_
  with_reducible refine W.seq ?_
  with_reducible refine W.region ?_
  refine WL.move .nil rfl rfl rfl rfl ?_
  refine WL.len .nil rfl rfl rfl Try.underlying22 rfl ?_
  obtain ⟨hc5, hr⟩ := chk_some hr
  refine GL.make (α := UInt8) (u := (0 : UInt8)) hS0 .nil rfl rfl rfl Try.underlying22 info5 rfl rfl (by decide) rfl (by decide) rfl rfl rfl rfl hc5.1 hc5.2 (fun H6 hS7 hO8 hk9 => ?_)
  have h10 := OW.lower (lo' := n0) hO8 (by omega)
  have hlon01 := hS7.lo
  refine WL.assign .nil rfl rfl rfl rfl ?_
  with_reducible refine WL.nil ?_
  with_reducible refine Ex.thn_norm ?_
  with_reducible refine W.seq ?_
  with_reducible refine W.seq ?_
  with_reducible refine W.region ?_
  refine WL.assign .nil rfl rfl rfl rfl ?_
  with_reducible refine WL.nil ?_
  with_reducible refine Ex.thn_norm ?_
  with_reducible refine W.block ?_
  refine W.loopF (fun k0 fr n H => ∃ (xs137 : (List UInt8)) (x140 : Int) (F : Heap), fr = [(0, .slice a2 xs1.length cap3), (3, .slice (some ⟨n0, 0, none⟩) (List.replicate (xs1.length : Int).toNat ((0 : UInt8) : UInt8)).length ((xs1.length : Int).toNat)), (4, .int .i64 x140)] ∧ St n0 n H F ∧ Ext n0 F0 n F ∧ SR F (.slice a2 xs1.length cap3) xs1 ∧ OW n0 n H F (.slice (some ⟨n0, 0, none⟩) (List.replicate (xs1.length : Int).toNat ((0 : UInt8) : UInt8)).length ((xs1.length : Int).toNat)) xs137 ∧ (List.replicate (xs1.length : Int).toNat ((0 : UInt8) : UInt8)).length = xs137.length ∧ f_laws_toByteS_L0 xs1 k0 xs137 x140 = some res) BIG (fr0 := [(0, .slice a2 xs1.length cap3), (3, .slice (some ⟨n0, 0, none⟩) (List.replicate (xs1.length : Int).toNat ((0 : UInt8) : UInt8)).length ((xs1.length : Int).toNat)), (4, .int .i64 0)]) (Fr.le_cons rfl (Fr.le_cons rfl (Fr.le_cons rfl Fr.le_nil))) ?_ ?_ ?_
  · exact ⟨(List.replicate (xs1.length : Int).toNat ((0 : UInt8) : UInt8)), 0, F0, rfl, hS7, (hE0.up (by omega)), h4, h10, rfl, hr⟩
  · intro fr n H hI
    obtain ⟨xs137, x140, F133, hfr, hS134, hE135, h136, h138, hl139, hr⟩ := hI
    rw [f_laws_toByteS_L0] at hr
    cases hr
  · intro k0 _ n131 H132 hI
    obtain ⟨xs137, x140, F133, rfl, hS134, hE135, h136, h138, hl139, hr⟩ := hI
    have hlen131 := hE135.le
    have hlon131 := hS134.lo
    rw [f_laws_toByteS_L0] at hr
    with_reducible refine W.seq ?_
    with_reducible refine W.seq ?_
    with_reducible refine W.region ?_
    refine WL.move .nil rfl rfl rfl rfl ?_
    refine WL.move .nil rfl rfl rfl rfl ?_
    refine WL.len .nil rfl rfl rfl Try.underlying22 rfl ?_
    refine WL.bin .nil rfl rfl rfl rfl rfl rfl ?_
    with_reducible refine WL.nil ?_
    with_reducible refine Ex.thn_norm ?_
    refine W.condD rfl (fun hc142 => ?_) (fun hc142 => ?_)
    · replace hr := ite_pos hr hc142
      with_reducible refine W.skip ?_
      with_reducible refine Ex.thn_norm ?_
      with_reducible refine W.seq ?_
      with_reducible refine W.block ?_
      with_reducible refine W.region ?_
      refine WL.move .nil rfl rfl rfl rfl ?_
      refine WL.move .nil rfl rfl rfl rfl ?_
      refine WL.move .nil rfl rfl rfl rfl ?_
      refine WL.move .nil rfl rfl rfl rfl ?_
      obtain ⟨x167, hx167, hr⟩ := bnd_some hr
      refine GL.index .nil rfl rfl rfl Try.underlying22 info5 rfl rfl h136 hS134.fh rfl hx167 (fun b168 kp169 c170 ecs171 hrow172 hwin173 hR174 => ?_)
      have hcs : _ = ([u8 x167] : List Value) := hR174
      subst hcs
      refine WL.load1 .nil rfl rfl rfl Try.underlying5 rfl rfl hrow172 ((win_get0 hwin173 (show (0 : Nat) < 1 by decide)).trans rfl) ?_
      obtain ⟨x175, hx175, hr⟩ := bnd_some hr
      refine GL.indexO .nil rfl rfl rfl Try.underlying22 info5 rfl rfl h138 rfl hx175 (fun b176 kp177 c178 ecs179 hid183 hrow180 hwin181 hR182 hup184 => ?_)
      have hcs : _ = ([u8 x175] : List Value) := hR182
      subst hcs
      refine GL.store hS134 .nil (vc := [u8 x167]) rfl rfl rfl info5 rfl rfl rfl rfl hrow180 (OW.fnone h138 hid183) (by first | exact win_fit hwin181 (Nat.le_of_ble_eq_true rfl) rfl (Nat.le_of_ble_eq_true rfl) | exact win_fit2 hwin181 (Nat.le_of_ble_eq_true rfl) rfl (Nat.le_of_ble_eq_true rfl) | exact win_fit3 hwin181 (Nat.le_of_ble_eq_true rfl) rfl (Nat.le_of_ble_eq_true rfl)) (OW.id_lt h138 hid183).1 (by repeat' (first | exact List.forall_mem_nil _ | refine List.forall_mem_cons.2 ⟨?_, ?_⟩ | rfl)) rfl (fun H185 hS186 ho187 hk188 => ?_)
      have h189 := hup184 0 [u8 x167] (x167 : UInt8) H185 (Nat.le_of_ble_eq_true rfl) rfl ho187
      have hl190 : (List.replicate (xs1.length : Int).toNat ((0 : UInt8) : UInt8)).length = (setI xs137 x140 x167).length := hl139.trans (setI_length _ _ _).symm
      with_reducible refine WL.nil ?_
      with_reducible refine Ex.blk_norm ?_
      with_reducible refine Ex.thn_norm ?_
      with_reducible refine W.region ?_
      refine WL.move .nil rfl rfl rfl rfl ?_
      obtain ⟨hc191, hr⟩ := chk_some hr
      refine WL.addI .nil rfl rfl rfl rfl rfl hc191.1 hc191.2 ?_
      refine WL.assign .nil rfl rfl rfl rfl ?_
      with_reducible refine WL.nil ?_
      with_reducible refine Ex.thn_norm ?_
      exact ⟨[(0, .slice a2 xs1.length cap3), (3, .slice (some ⟨n0, 0, none⟩) (List.replicate (xs1.length : Int).toNat ((0 : UInt8) : UInt8)).length ((xs1.length : Int).toNat)), (4, .int .i64 (x140 + 1))], (Fr.le_cons rfl (Fr.le_cons rfl (Fr.le_cons rfl Fr.le_nil))), (setI xs137 x140 x167), (x140 + 1), F133, rfl, hS186, hE135, h136, h189, hl190, hr⟩
    · replace hr := ite_neg hr hc142
      with_reducible refine W.exit ?_
      with_reducible refine Ex.thn_ex ?_
      with_reducible refine Ex.thn_ex ?_
      with_reducible refine Ex.blk_here ?_
      with_reducible refine Ex.thn_norm ?_
      with_reducible refine W.seq ?_
      with_reducible refine W.region ?_
      refine WL.move .nil rfl rfl rfl rfl ?_
      refine WL.assign .nil rfl rfl rfl rfl ?_
      with_reducible refine WL.nil ?_
      with_reducible refine Ex.thn_norm ?_
      with_reducible refine W.ret ?_
      obtain rfl := Option.some.inj hr
      exact ⟨.inr rfl, _, (.cons (.tmp rfl) .nil), ⟨(some ⟨n0, 0, none⟩), (xs1.length : Int).toNat, (Ext.st hE135 hS134), (by rw [← hl139]; rfl), (OW.downFl hE135.sub (OW.head hl139 h138))⟩⟩
theorem f_spec_l01Get_k {Δ : Prims} (g : Env Try.prog Δ) {lo n0 : Nat} {H0 F0 : Heap} (hS : St lo n0 H0 F0) {a2 : Option Addr} {cap3 : Nat} {xs1 : (List UInt8)} {x5 : Int} (h4 : SR F0 (.slice a2 xs1.length cap3) xs1) {res : (Int × Int × Int)} (hr : f_spec_l01Get xs1 x5 = some res) :
    C Try.prog Δ n0 38 [.slice a2 xs1.length cap3, .int .i64 x5] n0 H0 (fun v n H => St n0 n H F0 ∧ v = .tuple #[.int .i64 res.1, .int .i64 res.2.1, .int .i64 res.2.2]) := by
  refine C.body Try.func38 rfl rfl ?_
  unfold f_spec_l01Get at hr
  have hS0 : St n0 n0 H0 F0 := hS.low (Nat.le_refl _)
  have hE0 := Ext.refl n0 F0
  have hlo0 := hS0.lo
  with_reducible refine W.seq ?_
  with_reducible refine W.region ?_
  refine WL.assign .nil rfl rfl rfl rfl ?_
  refine WL.assign .nil rfl rfl rfl rfl ?_
  refine WL.assign .nil rfl rfl rfl rfl ?_
  with_reducible refine WL.nil ?_
  with_reducible refine Ex.thn_norm ?_
  with_reducible refine W.seq ?_
  with_reducible refine W.region ?_
  refine WL.assign .nil rfl rfl rfl rfl ?_
  with_reducible refine WL.nil ?_
  with_reducible refine Ex.thn_norm ?_
  with_reducible refine W.seq ?_
  with_reducible refine W.region ?_
  refine WL.assign .nil rfl rfl rfl rfl ?_
  with_reducible refine WL.nil ?_
  with_reducible refine Ex.thn_norm ?_
  with_reducible refine W.seq ?_
  with_reducible refine W.seq ?_
  with_reducible refine W.region ?_
  refine WL.assign .nil rfl rfl rfl rfl ?_
  with_reducible refine WL.nil ?_
  with_reducible refine Ex.thn_norm ?_
  with_reducible refine W.block ?_
  refine W.loopF (fun k0 fr n H => ∃ (x221 : Int) (x222 : Int) (x223 : Int) (F : Heap), fr = [(0, .slice a2 xs1.length cap3), (1, .int .i64 x5), (7, .int .i64 x221), (8, .int .i64 x222), (9, .int .i64 x223)] ∧ St n0 n H F ∧ Ext n0 F0 n F ∧ SR F (.slice a2 xs1.length cap3) xs1 ∧ f_spec_l01Get_L0 x5 xs1 k0 x221 x222 x223 = some res) BIG (fr0 := [(0, .slice a2 xs1.length cap3), (1, .int .i64 x5), (7, .int .i64 0), (8, .int .i64 1), (9, .int .i64 0)]) (Fr.le_cons rfl (Fr.le_cons rfl (Fr.le_cons rfl (Fr.le_cons rfl (Fr.le_cons rfl Fr.le_nil))))) ?_ ?_ ?_
  · exact ⟨0, 1, 0, F0, rfl, hS0, hE0, h4, hr⟩
  · intro fr n H hI
    obtain ⟨x221, x222, x223, F217, hfr, hS218, hE219, h220, hr⟩ := hI
    rw [f_spec_l01Get_L0] at hr
    cases hr
  · intro k0 _ n215 H216 hI
    obtain ⟨x221, x222, x223, F217, rfl, hS218, hE219, h220, hr⟩ := hI
    have hlen215 := hE219.le
    have hlon215 := hS218.lo
    rw [f_spec_l01Get_L0] at hr
    with_reducible refine W.seq ?_
    with_reducible refine W.seq ?_
    with_reducible refine W.region ?_
    refine WL.move .nil rfl rfl rfl rfl ?_
    refine WL.bin .nil rfl rfl rfl rfl rfl rfl ?_
    with_reducible refine WL.nil ?_
    with_reducible refine Ex.thn_norm ?_
    refine W.condD rfl (fun hc225 => ?_) (fun hc225 => ?_)
    · replace hr := ite_pos hr hc225
      with_reducible refine W.skip ?_
      with_reducible refine Ex.thn_norm ?_
      with_reducible refine W.seq ?_
      refine W.cut (fun fr n H => ∃ (x275 : Int) (x276 : Int) (F : Heap), fr = [(0, .slice a2 xs1.length cap3), (1, .int .i64 x5), (7, .int .i64 x275), (8, .int .i64 x276), (9, .int .i64 x223)] ∧ St n0 n H F ∧ Ext n0 F0 n F ∧ SR F (.slice a2 xs1.length cap3) xs1 ∧ f_spec_l01Get_J1 x223 (f_spec_l01Get_L0 x5 xs1 k0) x275 x276 = some res) ?_ ?_
      · with_reducible refine W.block ?_
        with_reducible refine W.seq ?_
        with_reducible refine W.seq ?_
        with_reducible refine W.region ?_
        refine WL.move .nil rfl rfl rfl rfl ?_
        refine WL.move .nil rfl rfl rfl rfl ?_
        obtain ⟨hc278, hr⟩ := chk_some hr
        refine WL.addI .nil rfl rfl rfl rfl rfl hc278.1 hc278.2 ?_
        refine WL.move .nil rfl rfl rfl rfl ?_
        refine WL.len .nil rfl rfl rfl Try.underlying22 rfl ?_
        refine WL.bin .nil rfl rfl rfl rfl rfl rfl ?_
        with_reducible refine WL.nil ?_
        with_reducible refine Ex.thn_norm ?_
        refine W.condD rfl (fun hc280 => ?_) (fun hc280 => ?_)
        · replace hr := ite_pos hr hc280
          with_reducible refine W.seq ?_
          with_reducible refine W.region ?_
          refine WL.assign .nil rfl rfl rfl rfl ?_
          refine WL.assign .nil rfl rfl rfl rfl ?_
          refine WL.assign .nil rfl rfl rfl rfl ?_
          with_reducible refine WL.nil ?_
          with_reducible refine Ex.thn_norm ?_
          with_reducible refine W.ret ?_
          with_reducible refine Ex.thn_ret ?_
          with_reducible refine Ex.blk_ret ?_
          with_reducible refine Ex.thn_ret ?_
          with_reducible refine Ex.thn_ret ?_
          with_reducible refine Ex.blk_ret ?_
          with_reducible refine Ex.thn_ret ?_
          obtain rfl := Option.some.inj hr
          exact ⟨.inr rfl, _, (.cons (.tmp rfl) (.cons (.tmp rfl) (.cons (.tmp rfl) .nil))), ⟨(Ext.st hE219 hS218), rfl⟩⟩
        · replace hr := ite_neg hr hc280
          with_reducible refine W.skip ?_
          with_reducible refine Ex.thn_norm ?_
          with_reducible refine W.seq ?_
          with_reducible refine W.region ?_
          refine WL.move .nil rfl rfl rfl rfl ?_
          refine WL.move .nil rfl rfl rfl rfl ?_
          refine WL.move .nil rfl rfl rfl rfl ?_
          obtain ⟨hc281, hr⟩ := chk_some hr
          refine WL.addI .nil rfl rfl rfl rfl rfl hc281.1 hc281.2 ?_
          obtain ⟨x282, hx282, hr⟩ := bnd_some hr
          refine GL.index .nil rfl rfl rfl Try.underlying22 info5 rfl rfl h220 hS218.fh rfl hx282 (fun b283 kp284 c285 ecs286 hrow287 hwin288 hR289 => ?_)
          have hcs : _ = ([u8 x282] : List Value) := hR289
          subst hcs
          refine WL.load1 .nil rfl rfl rfl Try.underlying5 rfl rfl hrow287 ((win_get0 hwin288 (show (0 : Nat) < 1 by decide)).trans rfl) ?_
          refine WL.convN .nil rfl rfl rfl Try.underlying5 Try.underlying3 rfl topI64 (u8_bnd _).1 (u8_lt63 _) ?_
          refine WL.assign .nil rfl rfl rfl rfl ?_
          with_reducible refine WL.nil ?_
          with_reducible refine Ex.thn_norm ?_
          with_reducible refine W.seq ?_
          with_reducible refine W.region ?_
          refine WL.move .nil rfl rfl rfl rfl ?_
          refine WL.move .nil rfl rfl rfl rfl ?_
          obtain ⟨hc290, hr⟩ := chk_some hr
          refine WL.remI .nil rfl rfl rfl rfl rfl hc290.1 hc290.2 ?_
          refine WL.move .nil rfl rfl rfl rfl ?_
          obtain ⟨hc291, hr⟩ := chk_some hr
          refine WL.mulI .nil rfl rfl rfl rfl rfl hc291.1 hc291.2 ?_
          obtain ⟨hc292, hr⟩ := chk_some hr
          refine WL.addI .nil rfl rfl rfl rfl rfl hc292.1 hc292.2 ?_
          refine WL.assign .nil rfl rfl rfl rfl ?_
          with_reducible refine WL.nil ?_
          with_reducible refine Ex.thn_norm ?_
          with_reducible refine W.seq ?_
          with_reducible refine W.seq ?_
          with_reducible refine W.region ?_
          refine WL.move .nil rfl rfl rfl rfl ?_
          refine WL.bin .nil rfl rfl rfl rfl rfl rfl ?_
          with_reducible refine WL.nil ?_
          with_reducible refine Ex.thn_norm ?_
          refine W.condD rfl (fun hc306 => ?_) (fun hc306 => ?_)
          · replace hr := ite_pos hr hc306
            with_reducible refine W.seq ?_
            with_reducible refine W.seq ?_
            refine W.cut (fun fr n H => ∃ (x313 : Bool) (F : Heap), fr = [(1, .int .i64 x5), (7, .int .i64 (x221 + (((x282.toNat : Int) % 128) * x222))), (9, .int .i64 x223), (41, .bool x313)] ∧ St n0 n H F ∧ Ext n0 F0 n F ∧ f_spec_l01Get_J2 x5 x223 x221 x282 x222 x313 = some res) ?_ ?_
            · with_reducible refine W.region ?_
              refine WL.move .nil rfl rfl rfl rfl ?_
              refine WL.bin .nil rfl rfl rfl rfl rfl rfl ?_
              refine WL.move .nil rfl rfl rfl rfl ?_
              refine WL.guardD rfl rfl rfl (fun hg318 => ?_) (fun hg318 => ?_)
              · replace hr := ite_pos hr hg318
                refine WL.move .nil rfl rfl rfl rfl ?_
                refine WL.bin .nil rfl rfl rfl rfl rfl rfl ?_
                refine WL.pick .nil rfl rfl rfl rfl rfl ?_
                with_reducible refine WL.nil ?_
                with_reducible refine Ex.thn_norm ?_
                exact ⟨[(1, .int .i64 x5), (7, .int .i64 (x221 + (((x282.toNat : Int) % 128) * x222))), (9, .int .i64 x223), (41, .bool (decide ((x282.toNat : Int) = 0)))], (Fr.le_cons rfl (Fr.le_cons rfl (Fr.le_cons rfl (Fr.le_cons rfl Fr.le_nil)))), (decide ((x282.toNat : Int) = 0)), F217, rfl, hS218, hE219, hr⟩
              · replace hr := ite_neg hr hg318
                refine WL.skip .nil rfl rfl ?_
                refine WL.skip .nil rfl rfl ?_
                refine WL.pick .nil rfl rfl rfl rfl rfl ?_
                with_reducible refine WL.nil ?_
                with_reducible refine Ex.thn_norm ?_
                exact ⟨[(1, .int .i64 x5), (7, .int .i64 (x221 + (((x282.toNat : Int) % 128) * x222))), (9, .int .i64 x223), (41, .bool false)], (Fr.le_cons rfl (Fr.le_cons rfl (Fr.le_cons rfl (Fr.le_cons rfl Fr.le_nil)))), false, F217, rfl, hS218, hE219, hr⟩
            · intro _ n308 H309 hI
              obtain ⟨x313, F310, rfl, hS311, hE312, hr⟩ := hI
              have hlen308 := hE312.le
              have hlon308 := hS311.lo
              unfold f_spec_l01Get_J2 at hr
              refine W.cond rfl (fun hc315 => ?_) (fun hc315 => ?_)
              · replace hr := iteB_pos hr hc315
                with_reducible refine W.seq ?_
                with_reducible refine W.region ?_
                refine WL.assign .nil rfl rfl rfl rfl ?_
                refine WL.assign .nil rfl rfl rfl rfl ?_
                refine WL.assign .nil rfl rfl rfl rfl ?_
                with_reducible refine WL.nil ?_
                with_reducible refine Ex.thn_norm ?_
                with_reducible refine W.ret ?_
                with_reducible refine Ex.thn_ret ?_
                with_reducible refine Ex.thn_ret ?_
                with_reducible refine Ex.blk_ret ?_
                with_reducible refine Ex.thn_ret ?_
                with_reducible refine Ex.thn_ret ?_
                with_reducible refine Ex.blk_ret ?_
                with_reducible refine Ex.thn_ret ?_
                obtain rfl := Option.some.inj hr
                exact ⟨.inr rfl, _, (.cons (.tmp rfl) (.cons (.tmp rfl) (.cons (.tmp rfl) .nil))), ⟨(Ext.st hE312 hS311), rfl⟩⟩
              · replace hr := iteB_neg hr hc315
                with_reducible refine W.skip ?_
                with_reducible refine Ex.thn_norm ?_
                with_reducible refine W.seq ?_
                with_reducible refine W.region ?_
                refine WL.move .nil rfl rfl rfl rfl ?_
                refine WL.move .nil rfl rfl rfl rfl ?_
                refine WL.move .nil rfl rfl rfl rfl ?_
                obtain ⟨hc316, hr⟩ := chk_some hr
                refine WL.addI .nil rfl rfl rfl rfl rfl hc316.1 hc316.2 ?_
                obtain ⟨hc317, hr⟩ := chk_some hr
                refine WL.addI .nil rfl rfl rfl rfl rfl hc317.1 hc317.2 ?_
                refine WL.assign .nil rfl rfl rfl rfl ?_
                refine WL.assign .nil rfl rfl rfl rfl ?_
                refine WL.assign .nil rfl rfl rfl rfl ?_
                with_reducible refine WL.nil ?_
                with_reducible refine Ex.thn_norm ?_
                with_reducible refine W.ret ?_
                with_reducible refine Ex.thn_ret ?_
                with_reducible refine Ex.blk_ret ?_
                with_reducible refine Ex.thn_ret ?_
                with_reducible refine Ex.thn_ret ?_
                with_reducible refine Ex.blk_ret ?_
                with_reducible refine Ex.thn_ret ?_
                obtain rfl := Option.some.inj hr
                exact ⟨.inr rfl, _, (.cons (.tmp rfl) (.cons (.tmp rfl) (.cons (.tmp rfl) .nil))), ⟨(Ext.st hE312 hS311), rfl⟩⟩
          · replace hr := ite_neg hr hc306
            with_reducible refine W.skip ?_
            with_reducible refine Ex.thn_norm ?_
            with_reducible refine W.seq ?_
            with_reducible refine W.region ?_
            refine WL.move .nil rfl rfl rfl rfl ?_
            refine WL.bin .nil rfl rfl rfl rfl rfl rfl ?_
            with_reducible refine WL.nil ?_
            with_reducible refine Ex.thn_norm ?_
            refine W.condD rfl (fun hc319 => ?_) (fun hc319 => ?_)
            · replace hr := ite_pos hr hc319
              with_reducible refine W.region ?_
              refine WL.move .nil rfl rfl rfl rfl ?_
              obtain ⟨hc320, hr⟩ := chk_some hr
              refine WL.mulI .nil rfl rfl rfl rfl rfl hc320.1 hc320.2 ?_
              refine WL.assign .nil rfl rfl rfl rfl ?_
              with_reducible refine WL.nil ?_
              with_reducible refine Ex.blk_norm ?_
              with_reducible refine Ex.thn_norm ?_
              exact ⟨[(0, .slice a2 xs1.length cap3), (1, .int .i64 x5), (7, .int .i64 (x221 + (((x282.toNat : Int) % 128) * x222))), (8, .int .i64 (x222 * 128)), (9, .int .i64 x223)], (Fr.le_cons rfl (Fr.le_cons rfl (Fr.le_cons rfl (Fr.le_cons rfl (Fr.le_cons rfl Fr.le_nil))))), (x221 + (((x282.toNat : Int) % 128) * x222)), (x222 * 128), F217, rfl, hS218, hE219, h220, hr⟩
            · replace hr := ite_neg hr hc319
              with_reducible refine W.skip ?_
              with_reducible refine Ex.blk_norm ?_
              with_reducible refine Ex.thn_norm ?_
              exact ⟨[(0, .slice a2 xs1.length cap3), (1, .int .i64 x5), (7, .int .i64 (x221 + (((x282.toNat : Int) % 128) * x222))), (8, .int .i64 x222), (9, .int .i64 x223)], (Fr.le_cons rfl (Fr.le_cons rfl (Fr.le_cons rfl (Fr.le_cons rfl (Fr.le_cons rfl Fr.le_nil))))), (x221 + (((x282.toNat : Int) % 128) * x222)), x222, F217, rfl, hS218, hE219, h220, hr⟩
      · intro _ n269 H270 hI
        obtain ⟨x275, x276, F271, rfl, hS272, hE273, h274, hr⟩ := hI
        have hlen269 := hE273.le
        have hlon269 := hS272.lo
        unfold f_spec_l01Get_J1 at hr
        with_reducible refine W.region ?_
        refine WL.move .nil rfl rfl rfl rfl ?_
        obtain ⟨hc277, hr⟩ := chk_some hr
        refine WL.addI .nil rfl rfl rfl rfl rfl hc277.1 hc277.2 ?_
        refine WL.assign .nil rfl rfl rfl rfl ?_
        with_reducible refine WL.nil ?_
        with_reducible refine Ex.thn_norm ?_
        exact ⟨[(0, .slice a2 xs1.length cap3), (1, .int .i64 x5), (7, .int .i64 x275), (8, .int .i64 x276), (9, .int .i64 (x223 + 1))], (Fr.le_cons rfl (Fr.le_cons rfl (Fr.le_cons rfl (Fr.le_cons rfl (Fr.le_cons rfl Fr.le_nil))))), x275, x276, (x223 + 1), F271, rfl, hS272, hE273, h274, hr⟩
    · replace hr := ite_neg hr hc225
      with_reducible refine W.exit ?_
      with_reducible refine Ex.thn_ex ?_
      with_reducible refine Ex.thn_ex ?_
      with_reducible refine Ex.blk_here ?_
      with_reducible refine Ex.thn_norm ?_
      with_reducible refine W.seq ?_
      with_reducible refine W.region ?_
      refine WL.assign .nil rfl rfl rfl rfl ?_
      refine WL.assign .nil rfl rfl rfl rfl ?_
      refine WL.assign .nil rfl rfl rfl rfl ?_
      with_reducible refine WL.nil ?_
      with_reducible refine Ex.thn_norm ?_
      with_reducible refine W.ret ?_
      obtain rfl := Option.some.inj hr
      exact ⟨.inr rfl, _, (.cons (.tmp rfl) (.cons (.tmp rfl) (.cons (.tmp rfl) .nil))), ⟨(Ext.st hE219 hS218), rfl⟩⟩
theorem f_spec_l09Reader_number_k {Δ : Prims} (g : Env Try.prog Δ) {lo n0 : Nat} {H0 F0 : Heap} (hS : St lo n0 H0 F0) {p0 : Nat} {x1 : Gl09Reader} {ez0 : Nat} {a2 : Option Addr} {cap3 : Nat} (ho5 : H0 p0 = some (.row ez0 [.slice a2 x1.b.length cap3, .int .i64 x1.at_, .bool x1.bad])) (fo6 : F0 p0 = none) (lo7 : lo ≤ p0) (h4 : SR F0 (.slice a2 x1.b.length cap3) x1.b) {res : (Gl09Reader × Int)} (hr : f_spec_l09Reader_number x1 = some res) :
    C Try.prog Δ lo 18 [.pointer (some ⟨p0, 0, none⟩)] n0 H0 (fun v n H => ∃ (F : Heap) (ra1 : Option Addr) (rcap2 : Nat), Ext n0 F0 n F ∧ St lo n H F ∧ H p0 = some (.row ez0 [.slice ra1 res.1.b.length rcap2, .int .i64 res.1.at_, .bool res.1.bad]) ∧ v = .int .i64 res.2 ∧ SR F (.slice ra1 res.1.b.length rcap2) res.1.b) := by
  refine C.body Try.func18 rfl rfl ?_
  unfold f_spec_l09Reader_number at hr
  have hS0 : St lo n0 H0 F0 := hS
  have hE0 := Ext.refl n0 F0
  have hlo0 := hS0.lo
  have lt0 := hS0.lt ho5
  with_reducible refine W.seq ?_
  with_reducible refine W.region ?_
  refine WL.assign .nil rfl rfl rfl rfl ?_
  with_reducible refine WL.nil ?_
  with_reducible refine Ex.thn_norm ?_
  with_reducible refine W.seq ?_
  with_reducible refine W.seq ?_
  with_reducible refine W.region ?_
  refine WL.move .nil rfl rfl rfl rfl ?_
  refine WL.nilCheck .nil rfl rfl rfl rfl ?_
  refine WL.fieldAddr .nil rfl rfl rfl Try.underlying46 rfl info4 rfl rfl ?_
  refine WL.load1 .nil rfl rfl rfl Try.underlying4 rfl rfl ho5 rfl ?_
  with_reducible refine WL.nil ?_
  with_reducible refine Ex.thn_norm ?_
  refine W.cond rfl (fun hc9 => ?_) (fun hc9 => ?_)
  · replace hr := iteB_pos hr hc9
    with_reducible refine W.seq ?_
    with_reducible refine W.region ?_
    refine WL.assign .nil rfl rfl rfl rfl ?_
    with_reducible refine WL.nil ?_
    with_reducible refine Ex.thn_norm ?_
    with_reducible refine W.ret ?_
    with_reducible refine Ex.thn_ret ?_
    obtain rfl := Option.some.inj hr
    exact ⟨.inr rfl, _, (.cons (.tmp rfl) .nil), ⟨F0, a2, cap3, (hE0.up (by omega)), hS0, ho5, rfl, h4⟩⟩
  · replace hr := iteB_neg hr hc9
    with_reducible refine W.skip ?_
    with_reducible refine Ex.thn_norm ?_
    with_reducible refine W.seq ?_
    refine W.regionD [0, 1, 2, 3, 4, 5, 6, 7, 8, 9, 10, 11, 12, 13, 14, 15] [false, false, false, false, false, false, false, false, false, false, false, false, false, false, false, false] rfl rfl (by kernel_rfl) (by kernel_rfl) (by (conv => lhs; simp only [List.map_cons, List.map_nil, List.getD_cons_zero, List.getD_cons_succ]) <;> rfl) ?_
    refine WL.move .r rfl rfl rfl rfl ?_
    refine WL.nilCheck .r rfl rfl rfl rfl ?_
    refine WL.fieldAddr .r rfl rfl rfl Try.underlying46 rfl info22 rfl rfl ?_
    refine WL.load1 .r rfl rfl rfl Try.underlying22 rfl rfl ho5 rfl ?_
    refine WL.move .r rfl rfl rfl rfl ?_
    refine WL.nilCheck .r rfl rfl rfl rfl ?_
    refine WL.fieldAddr .r rfl rfl rfl Try.underlying46 rfl info3 rfl rfl ?_
    refine WL.load1 .r rfl rfl rfl Try.underlying3 rfl rfl ho5 rfl ?_
    obtain ⟨x10, hx10, hr⟩ := bnd_some hr
    refine GL.callP g.good .r rfl rfl rfl rfl rfl rfl Try.func38 rfl rfl (Nat.le_refl _) (f_spec_l01Get_k  g hS0 h4 hx10) (fun v n11 H12 hn13 hk14 hp15 => ?_)
    obtain ⟨hS16, rfl⟩ := hp15
    have ho17 := (hk14 _ (by have := lt0; omega)).trans ho5
    have hS18 : St lo n11 H12 F0 := ⟨by have := hS0.lo; omega, hS16.hb, hS16.fh⟩
    have hlon11 := hS18.lo
    refine WL.move .r rfl rfl rfl rfl ?_
    refine WL.extract .r rfl rfl rfl rfl rfl ?_
    refine WL.extract .r rfl rfl rfl rfl rfl ?_
    refine WL.extract .r rfl rfl rfl rfl rfl ?_
    refine WL.assign .r rfl rfl rfl rfl ?_
    refine WL.assign .r rfl rfl rfl rfl ?_
    refine WL.assign .r rfl rfl rfl rfl ?_
    with_reducible refine WL.nil ?_
    with_reducible refine Ex.thn_norm ?_
    with_reducible refine W.seq ?_
    with_reducible refine W.seq ?_
    with_reducible refine W.region ?_
    refine WL.move .nil rfl rfl rfl rfl ?_
    refine WL.bin .nil rfl rfl rfl rfl rfl rfl ?_
    with_reducible refine WL.nil ?_
    with_reducible refine Ex.thn_norm ?_
    refine W.condN rfl (fun hc24 => ?_) (fun hc24 => ?_)
    · replace hr := ite_neg hr hc24
      with_reducible refine W.seq ?_
      with_reducible refine W.region ?_
      refine WL.move .nil rfl rfl rfl rfl ?_
      refine WL.nilCheck .nil rfl rfl rfl rfl ?_
      refine WL.fieldAddr .nil rfl rfl rfl Try.underlying46 rfl info4 rfl rfl ?_
      refine GL.store hS18 .nil (vc := [.bool true]) (c' := [.slice a2 x1.b.length cap3, .int .i64 x1.at_, .bool true]) rfl rfl rfl info4 rfl rfl rfl rfl ho17 fo6 (Nat.le_of_ble_eq_true rfl) lo7 (by repeat' (first | exact List.forall_mem_nil _ | refine List.forall_mem_cons.2 ⟨?_, ?_⟩ | rfl)) rfl (fun H25 hS26 ho27 hk28 => ?_)
      with_reducible refine WL.nil ?_
      with_reducible refine Ex.thn_norm ?_
      with_reducible refine W.seq ?_
      with_reducible refine W.region ?_
      refine WL.assign .nil rfl rfl rfl rfl ?_
      with_reducible refine WL.nil ?_
      with_reducible refine Ex.thn_norm ?_
      with_reducible refine W.ret ?_
      with_reducible refine Ex.thn_ret ?_
      obtain rfl := Option.some.inj hr
      exact ⟨.inr rfl, _, (.cons (.tmp rfl) .nil), ⟨F0, a2, cap3, (hE0.up (by omega)), hS26, ho27, rfl, h4⟩⟩
    · replace hr := ite_pos hr hc24
      with_reducible refine W.skip ?_
      with_reducible refine Ex.thn_norm ?_
      with_reducible refine W.seq ?_
      with_reducible refine W.region ?_
      refine WL.move .nil rfl rfl rfl rfl ?_
      refine WL.move .nil rfl rfl rfl rfl ?_
      refine WL.nilCheck .nil rfl rfl rfl rfl ?_
      refine WL.fieldAddr .nil rfl rfl rfl Try.underlying46 rfl info3 rfl rfl ?_
      refine GL.store hS18 .nil (vc := [.int .i64 x10.2.1]) (c' := [.slice a2 x1.b.length cap3, .int .i64 x10.2.1, .bool x1.bad]) rfl rfl rfl info3 rfl rfl rfl rfl ho17 fo6 (Nat.le_of_ble_eq_true rfl) lo7 (by repeat' (first | exact List.forall_mem_nil _ | refine List.forall_mem_cons.2 ⟨?_, ?_⟩ | rfl)) rfl (fun H29 hS30 ho31 hk32 => ?_)
      with_reducible refine WL.nil ?_
      with_reducible refine Ex.thn_norm ?_
      with_reducible refine W.seq ?_
      with_reducible refine W.region ?_
      refine WL.move .nil rfl rfl rfl rfl ?_
      refine WL.assign .nil rfl rfl rfl rfl ?_
      with_reducible refine WL.nil ?_
      with_reducible refine Ex.thn_norm ?_
      with_reducible refine W.ret ?_
      obtain rfl := Option.some.inj hr
      exact ⟨.inr rfl, _, (.cons (.tmp rfl) .nil), ⟨F0, a2, cap3, (hE0.up (by omega)), hS30, ho31, rfl, h4⟩⟩
theorem f_spec_l09Reader_text_k {Δ : Prims} (g : Env Try.prog Δ) {lo n0 : Nat} {H0 F0 : Heap} (hS : St lo n0 H0 F0) {p0 : Nat} {x1 : Gl09Reader} {ez0 : Nat} {a2 : Option Addr} {cap3 : Nat} (ho5 : H0 p0 = some (.row ez0 [.slice a2 x1.b.length cap3, .int .i64 x1.at_, .bool x1.bad])) (fo6 : F0 p0 = none) (lo7 : lo ≤ p0) (h4 : SR F0 (.slice a2 x1.b.length cap3) x1.b) {res : (Gl09Reader × Str)} (hr : f_spec_l09Reader_text x1 = some res) :
    C Try.prog Δ lo 19 [.pointer (some ⟨p0, 0, none⟩)] n0 H0 (fun v n H => ∃ (F : Heap) (ra1 : Option Addr) (rcap2 : Nat), Ext n0 F0 n F ∧ St lo n H F ∧ H p0 = some (.row ez0 [.slice ra1 res.1.b.length rcap2, .int .i64 res.1.at_, .bool res.1.bad]) ∧ v = str res.2 ∧ SR F (.slice ra1 res.1.b.length rcap2) res.1.b) := by
  refine C.body Try.func19 rfl rfl ?_
  unfold f_spec_l09Reader_text at hr
  have hS0 : St lo n0 H0 F0 := hS
  have hE0 := Ext.refl n0 F0
  have hlo0 := hS0.lo
  have lt0 := hS0.lt ho5
  with_reducible refine W.seq ?_
  with_reducible refine W.region ?_
  refine WL.assign .nil rfl rfl rfl rfl ?_
  with_reducible refine WL.nil ?_
  with_reducible refine Ex.thn_norm ?_
  with_reducible refine W.seq ?_
  with_reducible refine W.region ?_
  refine WL.move .nil rfl rfl rfl rfl ?_
  obtain ⟨x8, hx8, hr⟩ := bnd_some hr
  refine GL.callIO g .nil (fun i => (F0 i).isSome = true ∨ i = p0) rfl rfl rfl rfl rfl rfl Try.func18 rfl rfl (Nat.le_refl _) hS0.lo (f_spec_l09Reader_number_k (x1 := ({ b := x1.b, at_ := x1.at_, bad := x1.bad } : Gl09Reader)) g (St.vis hS0 (fun i hi => .inl hi)) (vis_get ho5 (.inr (rfl))) fo6 lo7 h4 hx8) (fun v n9 H10 H11 hn12 hp13 hle14 hnew15 hk16 hd17 => ?_)
  obtain ⟨F22, a18, cap19, hX23, hS21, ho24, rfl, h20⟩ := hp13
  have hS25 : St lo n9 H10 _ := ⟨hS21.lo, fun i hi => (hnew15 i (by omega)).trans (hS21.hb i hi), hS21.fh.trans hle14⟩
  have fo26 := (hX23.eq _ (by have := lt0; omega)).trans fo6
  have hE27 := (hE0.up (n' := n0) (by omega)).trans hX23
  have ho28 := hle14 _ _ ho24
  have hlon9 := hS25.lo
  have lt29 := hS25.lt ho28
  refine WL.assign .nil rfl rfl rfl rfl ?_
  with_reducible refine WL.nil ?_
  with_reducible refine Ex.thn_norm ?_
  with_reducible refine W.seq ?_
  with_reducible refine W.seq ?_
  refine W.cut (fun fr n H => ∃ (x37 : Bool) (F : Heap), fr = [(0, .pointer (some ⟨p0, 0, none⟩)), (3, .int .i64 x8.2), (24, .bool x37)] ∧ St lo n H F ∧ Ext n0 F0 n F ∧ H p0 = some (.row ez0 [.slice a18 x8.1.b.length cap19, .int .i64 x8.1.at_, .bool x8.1.bad]) ∧ F p0 = none ∧ SR F (.slice a18 x8.1.b.length cap19) x8.1.b ∧ f_spec_l09Reader_text_J0 x8 x37 = some res) ?_ ?_
  · refine W.regionD [0, 1, 2, 3, 4, 5, 6, 7, 8, 9, 10, 11, 12, 13, 14, 15, 16, 17] [false, false, false, false, false, false, false, false, false, false, false, false, false, false, false, false, false, false] rfl rfl (by kernel_rfl) (by kernel_rfl) (by (conv => lhs; simp only [List.map_cons, List.map_nil, List.getD_cons_zero, List.getD_cons_succ]) <;> rfl) ?_
    refine WL.move .r rfl rfl rfl rfl ?_
    refine WL.nilCheck .r rfl rfl rfl rfl ?_
    refine WL.fieldAddr .r rfl rfl rfl Try.underlying46 rfl info4 rfl rfl ?_
    refine WL.load1 .r rfl rfl rfl Try.underlying4 rfl rfl ho28 rfl ?_
    refine WL.move .r rfl rfl rfl rfl ?_
    refine WL.guard rfl rfl rfl (fun hg63 => ?_) (fun hg63 => ?_)
    · replace hr := iteB_pos hr hg63
      refine WL.skip .r rfl rfl ?_
      refine WL.skip .r rfl rfl ?_
      refine WL.skip .r rfl rfl ?_
      refine WL.skip .r rfl rfl ?_
      refine WL.skip .r rfl rfl ?_
      refine WL.skip .r rfl rfl ?_
      refine WL.skip .r rfl rfl ?_
      refine WL.skip .r rfl rfl ?_
      refine WL.skip .r rfl rfl ?_
      refine WL.skip .r rfl rfl ?_
      refine WL.skip .r rfl rfl ?_
      refine WL.skip .r rfl rfl ?_
      refine WL.pick .r rfl rfl rfl rfl rfl ?_
      with_reducible refine WL.nil ?_
      with_reducible refine Ex.thn_norm ?_
      exact ⟨[(0, .pointer (some ⟨p0, 0, none⟩)), (3, .int .i64 x8.2), (24, .bool true)], (Fr.le_cons rfl (Fr.le_cons rfl (Fr.le_cons rfl Fr.le_nil))), true, F22, rfl, hS25, hE27, ho28, fo26, h20, hr⟩
    · replace hr := iteB_neg hr hg63
      refine WL.move .r rfl rfl rfl rfl ?_
      refine WL.move .r rfl rfl rfl rfl ?_
      refine WL.nilCheck .r rfl rfl rfl rfl ?_
      refine WL.fieldAddr .r rfl rfl rfl Try.underlying46 rfl info22 rfl rfl ?_
      refine WL.load1 .r rfl rfl rfl Try.underlying22 rfl rfl ho28 rfl ?_
      refine WL.len .r rfl rfl rfl Try.underlying22 rfl ?_
      refine WL.move .r rfl rfl rfl rfl ?_
      refine WL.nilCheck .r rfl rfl rfl rfl ?_
      refine WL.fieldAddr .r rfl rfl rfl Try.underlying46 rfl info3 rfl rfl ?_
      refine WL.load1 .r rfl rfl rfl Try.underlying3 rfl rfl ho28 rfl ?_
      obtain ⟨hc64, hr⟩ := chk_some hr
      refine WL.subI .r rfl rfl rfl rfl rfl hc64.1 hc64.2 ?_
      refine WL.bin .r rfl rfl rfl rfl rfl rfl ?_
      refine WL.pick .r rfl rfl rfl rfl rfl ?_
      with_reducible refine WL.nil ?_
      with_reducible refine Ex.thn_norm ?_
      exact ⟨[(0, .pointer (some ⟨p0, 0, none⟩)), (3, .int .i64 x8.2), (24, .bool (decide (((x8.1.b.length : Int) - x8.1.at_) < x8.2)))], (Fr.le_cons rfl (Fr.le_cons rfl (Fr.le_cons rfl Fr.le_nil))), (decide (((x8.1.b.length : Int) - x8.1.at_) < x8.2)), F22, rfl, hS25, hE27, ho28, fo26, h20, hr⟩
  · intro _ n32 H33 hI
    obtain ⟨x37, F34, rfl, hS35, hE36, ho39, fo40, h38, hr⟩ := hI
    have lt41 := hS35.lt ho39
    have hlen32 := hE36.le
    have hlon32 := hS35.lo
    unfold f_spec_l09Reader_text_J0 at hr
    refine W.cond rfl (fun hc47 => ?_) (fun hc47 => ?_)
    · replace hr := iteB_pos hr hc47
      with_reducible refine W.seq ?_
      with_reducible refine W.region ?_
      refine WL.move .nil rfl rfl rfl rfl ?_
      refine WL.nilCheck .nil rfl rfl rfl rfl ?_
      refine WL.fieldAddr .nil rfl rfl rfl Try.underlying46 rfl info4 rfl rfl ?_
      refine GL.store hS35 .nil (vc := [.bool true]) (c' := [.slice a18 x8.1.b.length cap19, .int .i64 x8.1.at_, .bool true]) rfl rfl rfl info4 rfl rfl rfl rfl ho39 fo40 (Nat.le_of_ble_eq_true rfl) lo7 (by repeat' (first | exact List.forall_mem_nil _ | refine List.forall_mem_cons.2 ⟨?_, ?_⟩ | rfl)) rfl (fun H48 hS49 ho50 hk51 => ?_)
      with_reducible refine WL.nil ?_
      with_reducible refine Ex.thn_norm ?_
      with_reducible refine W.seq ?_
      with_reducible refine W.region ?_
      refine WL.assign .nil rfl rfl rfl rfl ?_
      with_reducible refine WL.nil ?_
      with_reducible refine Ex.thn_norm ?_
      with_reducible refine W.ret ?_
      with_reducible refine Ex.thn_ret ?_
      obtain rfl := Option.some.inj hr
      exact ⟨.inr rfl, _, (.cons (.tmp rfl) .nil), ⟨F34, a18, cap19, (hE36.up (by omega)), hS49, ho50, rfl, h38⟩⟩
    · replace hr := iteB_neg hr hc47
      with_reducible refine W.skip ?_
      with_reducible refine Ex.thn_norm ?_
      with_reducible refine W.seq ?_
      refine W.regionD [0, 1, 2, 3, 4, 5, 6, 7, 8, 9, 10, 11, 12, 13, 14, 15, 16] [false, false, false, false, false, false, false, false, false, false, false, false, false, false, false, false, false] rfl rfl (by kernel_rfl) (by kernel_rfl) (by (conv => lhs; simp only [List.map_cons, List.map_nil, List.getD_cons_zero, List.getD_cons_succ]) <;> rfl) ?_
      refine WL.move .r rfl rfl rfl rfl ?_
      refine WL.nilCheck .r rfl rfl rfl rfl ?_
      refine WL.fieldAddr .r rfl rfl rfl Try.underlying46 rfl info22 rfl rfl ?_
      refine WL.load1 .r rfl rfl rfl Try.underlying22 rfl rfl ho39 rfl ?_
      refine WL.move .r rfl rfl rfl rfl ?_
      refine WL.nilCheck .r rfl rfl rfl rfl ?_
      refine WL.fieldAddr .r rfl rfl rfl Try.underlying46 rfl info3 rfl rfl ?_
      refine WL.load1 .r rfl rfl rfl Try.underlying3 rfl rfl ho39 rfl ?_
      refine WL.move .r rfl rfl rfl rfl ?_
      refine WL.nilCheck .r rfl rfl rfl rfl ?_
      refine WL.fieldAddr .r rfl rfl rfl Try.underlying46 rfl info3 rfl rfl ?_
      refine WL.load1 .r rfl rfl rfl Try.underlying3 rfl rfl ho39 rfl ?_
      refine WL.move .r rfl rfl rfl rfl ?_
      obtain ⟨hc52, hr⟩ := chk_some hr
      refine WL.addI .r rfl rfl rfl rfl rfl hc52.1 hc52.2 ?_
      obtain ⟨xs53, hxs53, hr⟩ := bnd_some hr
      refine GL.slice .r rfl rfl rfl Try.underlying22 info5 rfl rfl h38 hS35.fh ⟨_, rfl⟩ ⟨_, rfl⟩ hxs53 (fun a54 cap55 hid56 h57 => ?_)
      refine GL.toStr .r rfl rfl rfl Try.underlying22 Try.underlying9 Try.underlying5 rfl h57 hS35.fh ?_
      refine WL.assign .r rfl rfl rfl rfl ?_
      with_reducible refine WL.nil ?_
      with_reducible refine Ex.thn_norm ?_
      with_reducible refine W.seq ?_
      with_reducible refine W.region ?_
      refine WL.move .nil rfl rfl rfl rfl ?_
      refine WL.nilCheck .nil rfl rfl rfl rfl ?_
      refine WL.fieldAddr .nil rfl rfl rfl Try.underlying46 rfl info3 rfl rfl ?_
      refine WL.load1 .nil rfl rfl rfl Try.underlying3 rfl rfl ho39 rfl ?_
      refine WL.move .nil rfl rfl rfl rfl ?_
      obtain ⟨hc58, hr⟩ := chk_some hr
      refine WL.addI .nil rfl rfl rfl rfl rfl hc58.1 hc58.2 ?_
      refine WL.nilCheck .nil rfl rfl rfl rfl ?_
      refine WL.fieldAddr .nil rfl rfl rfl Try.underlying46 rfl info3 rfl rfl ?_
      refine GL.store hS35 .nil (vc := [.int .i64 (x8.1.at_ + x8.2)]) (c' := [.slice a18 x8.1.b.length cap19, .int .i64 (x8.1.at_ + x8.2), .bool x8.1.bad]) rfl rfl rfl info3 rfl rfl rfl rfl ho39 fo40 (Nat.le_of_ble_eq_true rfl) lo7 (by repeat' (first | exact List.forall_mem_nil _ | refine List.forall_mem_cons.2 ⟨?_, ?_⟩ | rfl)) rfl (fun H59 hS60 ho61 hk62 => ?_)
      with_reducible refine WL.nil ?_
      with_reducible refine Ex.thn_norm ?_
      with_reducible refine W.seq ?_
      with_reducible refine W.region ?_
      refine WL.move .nil rfl rfl rfl rfl ?_
      refine WL.assign .nil rfl rfl rfl rfl ?_
      with_reducible refine WL.nil ?_
      with_reducible refine Ex.thn_norm ?_
      with_reducible refine W.ret ?_
      obtain rfl := Option.some.inj hr
      exact ⟨.inr rfl, _, (.cons (.tmp rfl) .nil), ⟨F34, a18, cap19, (hE36.up (by omega)), hS60, ho61, rfl, h38⟩⟩
theorem f_spec_l00Letter_k {Δ : Prims} (g : Env Try.prog Δ) {lo n0 : Nat} {H0 F0 : Heap} (hS : St lo n0 H0 F0) {x1 : UInt8} {res : (Bool)} (hr : f_spec_l00Letter x1 = some res) :
    C Try.prog Δ n0 73 [u8 x1] n0 H0 (fun v n H => St n0 n H F0 ∧ v = .bool res) := by
  refine C.body Try.func73 rfl rfl ?_
  unfold f_spec_l00Letter at hr
  have hS0 : St n0 n0 H0 F0 := hS.low (Nat.le_refl _)
  have hE0 := Ext.refl n0 F0
  have hlo0 := hS0.lo
  with_reducible refine W.seq ?_
  with_reducible refine W.region ?_
  refine WL.assign .nil rfl rfl rfl rfl ?_
  with_reducible refine WL.nil ?_
  with_reducible refine Ex.thn_norm ?_
  with_reducible refine W.seq ?_
  with_reducible refine W.region ?_
  refine WL.move .nil rfl rfl rfl rfl ?_
  refine WL.bin .nil rfl rfl rfl rfl rfl rfl ?_
  refine WL.move .nil rfl rfl rfl rfl ?_
  refine WL.guardD rfl rfl rfl (fun hg2 => ?_) (fun hg2 => ?_)
  · replace hr := ite_pos hr hg2
    refine WL.move .nil rfl rfl rfl rfl ?_
    refine WL.bin .nil rfl rfl rfl rfl rfl rfl ?_
    refine WL.pick .nil rfl rfl rfl rfl rfl ?_
    refine WL.move .nil rfl rfl rfl rfl ?_
    refine WL.guardD rfl rfl rfl (fun hg3 => ?_) (fun hg3 => ?_)
    · replace hr := ite_pos hr hg3
      refine WL.skip .nil rfl rfl ?_
      refine WL.skip .nil rfl rfl ?_
      refine WL.skip .nil rfl rfl ?_
      refine WL.skip .nil rfl rfl ?_
      refine WL.skip .nil rfl rfl ?_
      refine WL.skip .nil rfl rfl ?_
      refine WL.pick .nil rfl rfl rfl rfl rfl ?_
      refine WL.move .nil rfl rfl rfl rfl ?_
      refine WL.skip .nil rfl rfl ?_
      refine WL.skip .nil rfl rfl ?_
      refine WL.pick .nil rfl rfl rfl rfl rfl ?_
      refine WL.assign .nil rfl rfl rfl rfl ?_
      with_reducible refine WL.nil ?_
      with_reducible refine Ex.thn_norm ?_
      with_reducible refine W.ret ?_
      obtain rfl := Option.some.inj hr
      exact ⟨.inr rfl, _, (.cons (.tmp rfl) .nil), ⟨(Ext.st hE0 hS0), rfl⟩⟩
    · replace hr := ite_neg hr hg3
      refine WL.move .nil rfl rfl rfl rfl ?_
      refine WL.bin .nil rfl rfl rfl rfl rfl rfl ?_
      refine WL.move .nil rfl rfl rfl rfl ?_
      refine WL.guardD rfl rfl rfl (fun hg4 => ?_) (fun hg4 => ?_)
      · replace hr := ite_pos hr hg4
        refine WL.move .nil rfl rfl rfl rfl ?_
        refine WL.bin .nil rfl rfl rfl rfl rfl rfl ?_
        refine WL.pick .nil rfl rfl rfl rfl rfl ?_
        refine WL.pick .nil rfl rfl rfl rfl rfl ?_
        refine WL.move .nil rfl rfl rfl rfl ?_
        refine WL.guardD rfl rfl rfl (fun hg5 => ?_) (fun hg5 => ?_)
        · replace hr := ite_pos hr hg5
          refine WL.skip .nil rfl rfl ?_
          refine WL.skip .nil rfl rfl ?_
          refine WL.pick .nil rfl rfl rfl rfl rfl ?_
          refine WL.assign .nil rfl rfl rfl rfl ?_
          with_reducible refine WL.nil ?_
          with_reducible refine Ex.thn_norm ?_
          with_reducible refine W.ret ?_
          obtain rfl := Option.some.inj hr
          exact ⟨.inr rfl, _, (.cons (.tmp rfl) .nil), ⟨(Ext.st hE0 hS0), rfl⟩⟩
        · replace hr := ite_neg hr hg5
          refine WL.move .nil rfl rfl rfl rfl ?_
          refine WL.bin .nil rfl rfl rfl rfl rfl rfl ?_
          refine WL.pick .nil rfl rfl rfl rfl rfl ?_
          refine WL.assign .nil rfl rfl rfl rfl ?_
          with_reducible refine WL.nil ?_
          with_reducible refine Ex.thn_norm ?_
          with_reducible refine W.ret ?_
          obtain rfl := Option.some.inj hr
          exact ⟨.inr rfl, _, (.cons (.tmp rfl) .nil), ⟨(Ext.st hE0 hS0), rfl⟩⟩
      · replace hr := ite_neg hr hg4
        refine WL.skip .nil rfl rfl ?_
        refine WL.skip .nil rfl rfl ?_
        refine WL.pick .nil rfl rfl rfl rfl rfl ?_
        refine WL.pick .nil rfl rfl rfl rfl rfl ?_
        refine WL.move .nil rfl rfl rfl rfl ?_
        refine WL.move .nil rfl rfl rfl rfl ?_
        refine WL.bin .nil rfl rfl rfl rfl rfl rfl ?_
        refine WL.pick .nil rfl rfl rfl rfl rfl ?_
        refine WL.assign .nil rfl rfl rfl rfl ?_
        with_reducible refine WL.nil ?_
        with_reducible refine Ex.thn_norm ?_
        with_reducible refine W.ret ?_
        obtain rfl := Option.some.inj hr
        exact ⟨.inr rfl, _, (.cons (.tmp rfl) .nil), ⟨(Ext.st hE0 hS0), rfl⟩⟩
  · replace hr := ite_neg hr hg2
    refine WL.skip .nil rfl rfl ?_
    refine WL.skip .nil rfl rfl ?_
    refine WL.pick .nil rfl rfl rfl rfl rfl ?_
    refine WL.move .nil rfl rfl rfl rfl ?_
    refine WL.move .nil rfl rfl rfl rfl ?_
    refine WL.bin .nil rfl rfl rfl rfl rfl rfl ?_
    refine WL.move .nil rfl rfl rfl rfl ?_
    refine WL.guardD rfl rfl rfl (fun hg6 => ?_) (fun hg6 => ?_)
    · replace hr := ite_pos hr hg6
      refine WL.move .nil rfl rfl rfl rfl ?_
      refine WL.bin .nil rfl rfl rfl rfl rfl rfl ?_
      refine WL.pick .nil rfl rfl rfl rfl rfl ?_
      refine WL.pick .nil rfl rfl rfl rfl rfl ?_
      refine WL.move .nil rfl rfl rfl rfl ?_
      refine WL.guardD rfl rfl rfl (fun hg7 => ?_) (fun hg7 => ?_)
      · replace hr := ite_pos hr hg7
        refine WL.skip .nil rfl rfl ?_
        refine WL.skip .nil rfl rfl ?_
        refine WL.pick .nil rfl rfl rfl rfl rfl ?_
        refine WL.assign .nil rfl rfl rfl rfl ?_
        with_reducible refine WL.nil ?_
        with_reducible refine Ex.thn_norm ?_
        with_reducible refine W.ret ?_
        obtain rfl := Option.some.inj hr
        exact ⟨.inr rfl, _, (.cons (.tmp rfl) .nil), ⟨(Ext.st hE0 hS0), rfl⟩⟩
      · replace hr := ite_neg hr hg7
        refine WL.move .nil rfl rfl rfl rfl ?_
        refine WL.bin .nil rfl rfl rfl rfl rfl rfl ?_
        refine WL.pick .nil rfl rfl rfl rfl rfl ?_
        refine WL.assign .nil rfl rfl rfl rfl ?_
        with_reducible refine WL.nil ?_
        with_reducible refine Ex.thn_norm ?_
        with_reducible refine W.ret ?_
        obtain rfl := Option.some.inj hr
        exact ⟨.inr rfl, _, (.cons (.tmp rfl) .nil), ⟨(Ext.st hE0 hS0), rfl⟩⟩
    · replace hr := ite_neg hr hg6
      refine WL.skip .nil rfl rfl ?_
      refine WL.skip .nil rfl rfl ?_
      refine WL.pick .nil rfl rfl rfl rfl rfl ?_
      refine WL.pick .nil rfl rfl rfl rfl rfl ?_
      refine WL.move .nil rfl rfl rfl rfl ?_
      refine WL.move .nil rfl rfl rfl rfl ?_
      refine WL.bin .nil rfl rfl rfl rfl rfl rfl ?_
      refine WL.pick .nil rfl rfl rfl rfl rfl ?_
      refine WL.assign .nil rfl rfl rfl rfl ?_
      with_reducible refine WL.nil ?_
      with_reducible refine Ex.thn_norm ?_
      with_reducible refine W.ret ?_
      obtain rfl := Option.some.inj hr
      exact ⟨.inr rfl, _, (.cons (.tmp rfl) .nil), ⟨(Ext.st hE0 hS0), rfl⟩⟩
theorem f_spec_l00Digit_k {Δ : Prims} (g : Env Try.prog Δ) {lo n0 : Nat} {H0 F0 : Heap} (hS : St lo n0 H0 F0) {x1 : UInt8} {res : (Bool)} (hr : f_spec_l00Digit x1 = some res) :
    C Try.prog Δ n0 74 [u8 x1] n0 H0 (fun v n H => St n0 n H F0 ∧ v = .bool res) := by
  refine C.body Try.func74 rfl rfl ?_
  unfold f_spec_l00Digit at hr
  have hS0 : St n0 n0 H0 F0 := hS.low (Nat.le_refl _)
  have hE0 := Ext.refl n0 F0
  have hlo0 := hS0.lo
  with_reducible refine W.seq ?_
  with_reducible refine W.region ?_
  refine WL.assign .nil rfl rfl rfl rfl ?_
  with_reducible refine WL.nil ?_
  with_reducible refine Ex.thn_norm ?_
  with_reducible refine W.seq ?_
  with_reducible refine W.region ?_
  refine WL.move .nil rfl rfl rfl rfl ?_
  refine WL.bin .nil rfl rfl rfl rfl rfl rfl ?_
  refine WL.move .nil rfl rfl rfl rfl ?_
  refine WL.guardD rfl rfl rfl (fun hg2 => ?_) (fun hg2 => ?_)
  · replace hr := ite_pos hr hg2
    refine WL.move .nil rfl rfl rfl rfl ?_
    refine WL.bin .nil rfl rfl rfl rfl rfl rfl ?_
    refine WL.pick .nil rfl rfl rfl rfl rfl ?_
    refine WL.assign .nil rfl rfl rfl rfl ?_
    with_reducible refine WL.nil ?_
    with_reducible refine Ex.thn_norm ?_
    with_reducible refine W.ret ?_
    obtain rfl := Option.some.inj hr
    exact ⟨.inr rfl, _, (.cons (.tmp rfl) .nil), ⟨(Ext.st hE0 hS0), rfl⟩⟩
  · replace hr := ite_neg hr hg2
    refine WL.skip .nil rfl rfl ?_
    refine WL.skip .nil rfl rfl ?_
    refine WL.pick .nil rfl rfl rfl rfl rfl ?_
    refine WL.assign .nil rfl rfl rfl rfl ?_
    with_reducible refine WL.nil ?_
    with_reducible refine Ex.thn_norm ?_
    with_reducible refine W.ret ?_
    obtain rfl := Option.some.inj hr
    exact ⟨.inr rfl, _, (.cons (.tmp rfl) .nil), ⟨(Ext.st hE0 hS0), rfl⟩⟩
theorem f_spec_l00Word_k {Δ : Prims} (g : Env Try.prog Δ) {lo n0 : Nat} {H0 F0 : Heap} (hS : St lo n0 H0 F0) {x1 : Str} {res : (Bool)} (hr : f_spec_l00Word x1 = some res) :
    C Try.prog Δ n0 61 [str x1] n0 H0 (fun v n H => St n0 n H F0 ∧ v = .bool res) := by
  refine C.body Try.func61 rfl rfl ?_
  unfold f_spec_l00Word at hr
  have hS0 : St n0 n0 H0 F0 := hS.low (Nat.le_refl _)
  have hE0 := Ext.refl n0 F0
  have hlo0 := hS0.lo
  with_reducible refine W.seq ?_
  with_reducible refine W.region ?_
  refine WL.assign .nil rfl rfl rfl rfl ?_
  with_reducible refine WL.nil ?_
  with_reducible refine Ex.thn_norm ?_
  with_reducible refine W.seq ?_
  with_reducible refine W.seq ?_
  refine W.cut (fun fr n H => ∃ (x18 : Bool) (F : Heap), fr = [(0, str x1), (17, .bool x18)] ∧ St n0 n H F ∧ Ext n0 F0 n F ∧ f_spec_l00Word_J0 x1 x18 = some res) ?_ ?_
  · with_reducible refine W.region ?_
    refine WL.move .nil rfl rfl rfl rfl ?_
    refine GL.lenStr .nil rfl rfl rfl Try.underlying9 rfl ?_
    refine WL.bin .nil rfl rfl rfl rfl rfl rfl ?_
    refine WL.move .nil rfl rfl rfl rfl ?_
    refine WL.guardD rfl rfl rfl (fun hg317 => ?_) (fun hg317 => ?_)
    · replace hr := ite_pos hr hg317
      refine WL.skip .nil rfl rfl ?_
      refine WL.skip .nil rfl rfl ?_
      refine WL.skip .nil rfl rfl ?_
      refine WL.pick .nil rfl rfl rfl rfl rfl ?_
      refine WL.move .nil rfl rfl rfl rfl ?_
      refine WL.skip .nil rfl rfl ?_
      refine WL.skip .nil rfl rfl ?_
      refine WL.skip .nil rfl rfl ?_
      refine WL.skip .nil rfl rfl ?_
      refine WL.pick .nil rfl rfl rfl rfl rfl ?_
      with_reducible refine WL.nil ?_
      with_reducible refine Ex.thn_norm ?_
      exact ⟨[(0, str x1), (17, .bool true)], (Fr.le_cons rfl (Fr.le_cons rfl Fr.le_nil)), true, F0, rfl, hS0, hE0, hr⟩
    · replace hr := ite_neg hr hg317
      refine WL.move .nil rfl rfl rfl rfl ?_
      refine GL.lenStr .nil rfl rfl rfl Try.underlying9 rfl ?_
      refine WL.bin .nil rfl rfl rfl rfl rfl rfl ?_
      refine WL.pick .nil rfl rfl rfl rfl rfl ?_
      refine WL.move .nil rfl rfl rfl rfl ?_
      refine WL.guardD rfl rfl rfl (fun hg318 => ?_) (fun hg318 => ?_)
      · replace hr := ite_pos hr hg318
        refine WL.skip .nil rfl rfl ?_
        refine WL.skip .nil rfl rfl ?_
        refine WL.skip .nil rfl rfl ?_
        refine WL.skip .nil rfl rfl ?_
        refine WL.pick .nil rfl rfl rfl rfl rfl ?_
        with_reducible refine WL.nil ?_
        with_reducible refine Ex.thn_norm ?_
        exact ⟨[(0, str x1), (17, .bool true)], (Fr.le_cons rfl (Fr.le_cons rfl Fr.le_nil)), true, F0, rfl, hS0, hE0, hr⟩
      · replace hr := ite_neg hr hg318
        refine WL.move .nil rfl rfl rfl rfl ?_
        obtain ⟨x319, hx319, hr⟩ := bnd_some hr
        refine GL.strIdx .nil rfl rfl rfl Try.underlying9 rfl rfl hx319 ?_
        obtain ⟨x320, hx320, hr⟩ := bnd_some hr
        refine GL.callP g.good .nil rfl rfl rfl rfl rfl rfl Try.func73 rfl rfl hS0.lo (f_spec_l00Letter_k  g hS0 hx320) (fun v n321 H322 hn323 hk324 hp325 => ?_)
        obtain ⟨hS326, rfl⟩ := hp325
        have hS327 : St n0 n321 H322 F0 := ⟨by have := hS0.lo; omega, hS326.hb, hS326.fh⟩
        have hlon321 := hS327.lo
        refine WL.not .nil rfl rfl rfl rfl ?_
        refine WL.pick .nil rfl rfl rfl rfl rfl ?_
        with_reducible refine WL.nil ?_
        with_reducible refine Ex.thn_norm ?_
        exact ⟨[(0, str x1), (17, .bool (!x320))], (Fr.le_cons rfl (Fr.le_cons rfl Fr.le_nil)), (!x320), F0, rfl, hS327, (hE0.up (by omega)), hr⟩
  · intro _ n13 H14 hI
    obtain ⟨x18, F15, rfl, hS16, hE17, hr⟩ := hI
    have hlen13 := hE17.le
    have hlon13 := hS16.lo
    unfold f_spec_l00Word_J0 at hr
    refine W.cond rfl (fun hc20 => ?_) (fun hc20 => ?_)
    · replace hr := iteB_pos hr hc20
      with_reducible refine W.seq ?_
      with_reducible refine W.region ?_
      refine WL.assign .nil rfl rfl rfl rfl ?_
      with_reducible refine WL.nil ?_
      with_reducible refine Ex.thn_norm ?_
      with_reducible refine W.ret ?_
      with_reducible refine Ex.thn_ret ?_
      obtain rfl := Option.some.inj hr
      exact ⟨.inr rfl, _, (.cons (.tmp rfl) .nil), ⟨(Ext.st hE17 hS16), rfl⟩⟩
    · replace hr := iteB_neg hr hc20
      with_reducible refine W.skip ?_
      with_reducible refine Ex.thn_norm ?_
      with_reducible refine W.seq ?_
      with_reducible refine W.seq ?_
      with_reducible refine W.region ?_
      refine WL.assign .nil rfl rfl rfl rfl ?_
      with_reducible refine WL.nil ?_
      with_reducible refine Ex.thn_norm ?_
      with_reducible refine W.block ?_
      refine W.loopF (fun k1 fr n H => ∃ (x223 : Int) (F : Heap), fr = [(0, str x1), (3, .int .i64 x223)] ∧ St n0 n H F ∧ Ext n0 F0 n F ∧ f_spec_l00Word_L1 x1 k1 x223 = some res) BIG (fr0 := [(0, str x1), (3, .int .i64 1)]) (Fr.le_cons rfl (Fr.le_cons rfl Fr.le_nil)) ?_ ?_ ?_
      · exact ⟨1, F15, rfl, hS16, hE17, hr⟩
      · intro fr n H hI
        obtain ⟨x223, F220, hfr, hS221, hE222, hr⟩ := hI
        rw [f_spec_l00Word_L1] at hr
        cases hr
      · intro k1 _ n218 H219 hI
        obtain ⟨x223, F220, rfl, hS221, hE222, hr⟩ := hI
        have hlen218 := hE222.le
        have hlon218 := hS221.lo
        rw [f_spec_l00Word_L1] at hr
        with_reducible refine W.seq ?_
        with_reducible refine W.seq ?_
        with_reducible refine W.region ?_
        refine WL.move .nil rfl rfl rfl rfl ?_
        refine WL.move .nil rfl rfl rfl rfl ?_
        refine GL.lenStr .nil rfl rfl rfl Try.underlying9 rfl ?_
        refine WL.bin .nil rfl rfl rfl rfl rfl rfl ?_
        with_reducible refine WL.nil ?_
        with_reducible refine Ex.thn_norm ?_
        refine W.condD rfl (fun hc225 => ?_) (fun hc225 => ?_)
        · replace hr := ite_pos hr hc225
          with_reducible refine W.skip ?_
          with_reducible refine Ex.thn_norm ?_
          with_reducible refine W.seq ?_
          with_reducible refine W.block ?_
          with_reducible refine W.seq ?_
          refine W.cut (fun fr n H => ∃ (x295 : Bool) (F : Heap), fr = [(0, str x1), (3, .int .i64 x223), (35, .bool x295)] ∧ St n0 n H F ∧ Ext n0 F0 n F ∧ f_spec_l00Word_J2 x223 (f_spec_l00Word_L1 x1 k1) x295 = some res) ?_ ?_
          · with_reducible refine W.region ?_
            refine WL.move .nil rfl rfl rfl rfl ?_
            refine WL.move .nil rfl rfl rfl rfl ?_
            obtain ⟨x298, hx298, hr⟩ := bnd_some hr
            refine GL.strIdx .nil rfl rfl rfl Try.underlying9 rfl rfl hx298 ?_
            obtain ⟨x299, hx299, hr⟩ := bnd_some hr
            refine GL.callP g.good .nil rfl rfl rfl rfl rfl rfl Try.func73 rfl rfl hS221.lo (f_spec_l00Letter_k  g hS221 hx299) (fun v n300 H301 hn302 hk303 hp304 => ?_)
            obtain ⟨hS305, rfl⟩ := hp304
            have hS306 : St n0 n300 H301 F220 := ⟨by have := hS221.lo; omega, hS305.hb, hS305.fh⟩
            have hlon300 := hS306.lo
            refine WL.not .nil rfl rfl rfl rfl ?_
            refine WL.move .nil rfl rfl rfl rfl ?_
            refine WL.guard rfl rfl rfl (fun hg307 => ?_) (fun hg307 => ?_)
            · replace hr := iteB_pos hr hg307
              refine WL.move .nil rfl rfl rfl rfl ?_
              refine WL.move .nil rfl rfl rfl rfl ?_
              obtain ⟨x308, hx308, hr⟩ := bnd_some hr
              refine GL.strIdx .nil rfl rfl rfl Try.underlying9 rfl rfl hx308 ?_
              obtain ⟨x309, hx309, hr⟩ := bnd_some hr
              refine GL.callP g.good .nil rfl rfl rfl rfl rfl rfl Try.func74 rfl rfl hS306.lo (f_spec_l00Digit_k  g hS306 hx309) (fun v n310 H311 hn312 hk313 hp314 => ?_)
              obtain ⟨hS315, rfl⟩ := hp314
              have hS316 : St n0 n310 H311 F220 := ⟨by have := hS306.lo; omega, hS315.hb, hS315.fh⟩
              have hlon310 := hS316.lo
              refine WL.not .nil rfl rfl rfl rfl ?_
              refine WL.pick .nil rfl rfl rfl rfl rfl ?_
              with_reducible refine WL.nil ?_
              with_reducible refine Ex.thn_norm ?_
              exact ⟨[(0, str x1), (3, .int .i64 x223), (35, .bool (!x309))], (Fr.le_cons rfl (Fr.le_cons rfl (Fr.le_cons rfl Fr.le_nil))), (!x309), F220, rfl, hS316, (hE222.up (by omega)), hr⟩
            · replace hr := iteB_neg hr hg307
              refine WL.skip .nil rfl rfl ?_
              refine WL.skip .nil rfl rfl ?_
              refine WL.skip .nil rfl rfl ?_
              refine WL.skip .nil rfl rfl ?_
              refine WL.skip .nil rfl rfl ?_
              refine WL.pick .nil rfl rfl rfl rfl rfl ?_
              with_reducible refine WL.nil ?_
              with_reducible refine Ex.thn_norm ?_
              exact ⟨[(0, str x1), (3, .int .i64 x223), (35, .bool false)], (Fr.le_cons rfl (Fr.le_cons rfl (Fr.le_cons rfl Fr.le_nil))), false, F220, rfl, hS306, (hE222.up (by omega)), hr⟩
          · intro _ n290 H291 hI
            obtain ⟨x295, F292, rfl, hS293, hE294, hr⟩ := hI
            have hlen290 := hE294.le
            have hlon290 := hS293.lo
            unfold f_spec_l00Word_J2 at hr
            refine W.cond rfl (fun hc296 => ?_) (fun hc296 => ?_)
            · replace hr := iteB_pos hr hc296
              with_reducible refine W.seq ?_
              with_reducible refine W.region ?_
              refine WL.assign .nil rfl rfl rfl rfl ?_
              with_reducible refine WL.nil ?_
              with_reducible refine Ex.thn_norm ?_
              with_reducible refine W.ret ?_
              with_reducible refine Ex.blk_ret ?_
              with_reducible refine Ex.thn_ret ?_
              with_reducible refine Ex.thn_ret ?_
              with_reducible refine Ex.blk_ret ?_
              with_reducible refine Ex.thn_ret ?_
              obtain rfl := Option.some.inj hr
              exact ⟨.inr rfl, _, (.cons (.tmp rfl) .nil), ⟨(Ext.st hE294 hS293), rfl⟩⟩
            · replace hr := iteB_neg hr hc296
              with_reducible refine W.skip ?_
              with_reducible refine Ex.blk_norm ?_
              with_reducible refine Ex.thn_norm ?_
              with_reducible refine W.region ?_
              refine WL.move .nil rfl rfl rfl rfl ?_
              obtain ⟨hc297, hr⟩ := chk_some hr
              refine WL.addI .nil rfl rfl rfl rfl rfl hc297.1 hc297.2 ?_
              refine WL.assign .nil rfl rfl rfl rfl ?_
              with_reducible refine WL.nil ?_
              with_reducible refine Ex.thn_norm ?_
              exact ⟨[(0, str x1), (3, .int .i64 (x223 + 1))], (Fr.le_cons rfl (Fr.le_cons rfl Fr.le_nil)), (x223 + 1), F292, rfl, hS293, hE294, hr⟩
        · replace hr := ite_neg hr hc225
          with_reducible refine W.exit ?_
          with_reducible refine Ex.thn_ex ?_
          with_reducible refine Ex.thn_ex ?_
          with_reducible refine Ex.blk_here ?_
          with_reducible refine Ex.thn_norm ?_
          with_reducible refine W.seq ?_
          with_reducible refine W.region ?_
          refine WL.assign .nil rfl rfl rfl rfl ?_
          with_reducible refine WL.nil ?_
          with_reducible refine Ex.thn_norm ?_
          with_reducible refine W.ret ?_
          obtain rfl := Option.some.inj hr
          exact ⟨.inr rfl, _, (.cons (.tmp rfl) .nil), ⟨(Ext.st hE222 hS221), rfl⟩⟩
theorem f_spec_NameOK_k {Δ : Prims} (g : Env Try.prog Δ) {lo n0 : Nat} {H0 F0 : Heap} (hS : St lo n0 H0 F0) {x1 : Str} {res : (Bool)} (hr : f_spec_NameOK x1 = some res) :
    C Try.prog Δ n0 39 [str x1] n0 H0 (fun v n H => St n0 n H F0 ∧ v = .bool res) := by
  refine C.body Try.func39 rfl rfl ?_
  unfold f_spec_NameOK at hr
  have hS0 : St n0 n0 H0 F0 := hS.low (Nat.le_refl _)
  have hE0 := Ext.refl n0 F0
  have hlo0 := hS0.lo
  with_reducible refine W.seq ?_
  with_reducible refine W.region ?_
  refine WL.assign .nil rfl rfl rfl rfl ?_
  with_reducible refine WL.nil ?_
  with_reducible refine Ex.thn_norm ?_
  with_reducible refine W.seq ?_
  with_reducible refine W.region ?_
  refine WL.move .nil rfl rfl rfl rfl ?_
  obtain ⟨x2, hx2, hr⟩ := bnd_some hr
  refine GL.callP g.good .nil rfl rfl rfl rfl rfl rfl Try.func61 rfl rfl hS0.lo (f_spec_l00Word_k  g hS0 hx2) (fun v n3 H4 hn5 hk6 hp7 => ?_)
  obtain ⟨hS8, rfl⟩ := hp7
  have hS9 : St n0 n3 H4 F0 := ⟨by have := hS0.lo; omega, hS8.hb, hS8.fh⟩
  have hlon3 := hS9.lo
  refine WL.assign .nil rfl rfl rfl rfl ?_
  with_reducible refine WL.nil ?_
  with_reducible refine Ex.thn_norm ?_
  with_reducible refine W.ret ?_
  obtain rfl := Option.some.inj hr
  exact ⟨.inr rfl, _, (.cons (.tmp rfl) .nil), ⟨(Ext.st hE0 hS9), rfl⟩⟩
theorem f_spec_l09File_k {Δ : Prims} (g : Env Try.prog Δ) {lo n0 : Nat} {H0 F0 : Heap} (hS : St lo n0 H0 F0) {a2 : Option Addr} {cap3 : Nat} {xs1 : (List GFile)} {x5 : Str} (h4 : SR F0 (.slice a2 xs1.length cap3) xs1) {res : (Int)} (hr : f_spec_l09File xs1 x5 = some res) :
    C Try.prog Δ n0 40 [.slice a2 xs1.length cap3, str x5] n0 H0 (fun v n H => St n0 n H F0 ∧ v = .int .i64 res) := by
  refine C.body Try.func40 rfl rfl ?_
  unfold f_spec_l09File at hr
  have hS0 : St n0 n0 H0 F0 := hS.low (Nat.le_refl _)
  have hE0 := Ext.refl n0 F0
  have hlo0 := hS0.lo
  with_reducible refine W.seq ?_
  with_reducible refine W.region ?_
  refine WL.assign .nil rfl rfl rfl rfl ?_
  with_reducible refine WL.nil ?_
  with_reducible refine Ex.thn_norm ?_
  with_reducible refine W.seq ?_
  with_reducible refine W.seq ?_
  with_reducible refine W.region ?_
  refine WL.assign .nil rfl rfl rfl rfl ?_
  with_reducible refine WL.nil ?_
  with_reducible refine Ex.thn_norm ?_
  with_reducible refine W.block ?_
  refine W.loopF (fun k0 fr n H => ∃ (x67 : Int) (F : Heap), fr = [(0, .slice a2 xs1.length cap3), (1, str x5), (5, .int .i64 x67)] ∧ St n0 n H F ∧ Ext n0 F0 n F ∧ SR F (.slice a2 xs1.length cap3) xs1 ∧ f_spec_l09File_L0 xs1 x5 k0 x67 = some res) BIG (fr0 := [(0, .slice a2 xs1.length cap3), (1, str x5), (5, .int .i64 0)]) (Fr.le_cons rfl (Fr.le_cons rfl (Fr.le_cons rfl Fr.le_nil))) ?_ ?_ ?_
  · exact ⟨0, F0, rfl, hS0, hE0, h4, hr⟩
  · intro fr n H hI
    obtain ⟨x67, F63, hfr, hS64, hE65, h66, hr⟩ := hI
    rw [f_spec_l09File_L0] at hr
    cases hr
  · intro k0 _ n61 H62 hI
    obtain ⟨x67, F63, rfl, hS64, hE65, h66, hr⟩ := hI
    have hlen61 := hE65.le
    have hlon61 := hS64.lo
    rw [f_spec_l09File_L0] at hr
    with_reducible refine W.seq ?_
    with_reducible refine W.seq ?_
    with_reducible refine W.region ?_
    refine WL.move .nil rfl rfl rfl rfl ?_
    refine WL.move .nil rfl rfl rfl rfl ?_
    refine WL.len .nil rfl rfl rfl Try.underlying23 rfl ?_
    refine WL.bin .nil rfl rfl rfl rfl rfl rfl ?_
    with_reducible refine WL.nil ?_
    with_reducible refine Ex.thn_norm ?_
    refine W.condD rfl (fun hc69 => ?_) (fun hc69 => ?_)
    · replace hr := ite_pos hr hc69
      with_reducible refine W.skip ?_
      with_reducible refine Ex.thn_norm ?_
      with_reducible refine W.seq ?_
      with_reducible refine W.block ?_
      with_reducible refine W.seq ?_
      with_reducible refine W.region ?_
      refine WL.move .nil rfl rfl rfl rfl ?_
      refine WL.move .nil rfl rfl rfl rfl ?_
      obtain ⟨x79, hx79, hr⟩ := bnd_some hr
      refine GL.index .nil rfl rfl rfl Try.underlying23 info50 rfl rfl h66 hS64.fh rfl hx79 (fun b80 kp81 c82 ecs83 hrow84 hwin85 hR86 => ?_)
      obtain ⟨rfl⟩ := GFile.ofR hR86
      refine WL.fieldAddr .nil rfl rfl rfl Try.underlying50 rfl info9 rfl rfl ?_
      refine WL.load1 .nil rfl rfl rfl Try.underlying9 rfl rfl hrow84 ((win_get0 hwin85 (show (0 : Nat) < 3 by decide)).trans rfl) ?_
      refine WL.move .nil rfl rfl rfl rfl ?_
      refine GL.strCmp .nil rfl rfl rfl rfl rfl (by decide) rfl ?_
      with_reducible refine WL.nil ?_
      with_reducible refine Ex.thn_norm ?_
      refine W.condD (p := lst x79.Name = lst x5) rfl (fun hc87 => ?_) (fun hc87 => ?_)
      · replace hr := ite_pos hr hc87
        with_reducible refine W.seq ?_
        with_reducible refine W.region ?_
        refine WL.move .nil rfl rfl rfl rfl ?_
        refine WL.assign .nil rfl rfl rfl rfl ?_
        with_reducible refine WL.nil ?_
        with_reducible refine Ex.thn_norm ?_
        with_reducible refine W.ret ?_
        with_reducible refine Ex.blk_ret ?_
        with_reducible refine Ex.thn_ret ?_
        with_reducible refine Ex.thn_ret ?_
        with_reducible refine Ex.blk_ret ?_
        with_reducible refine Ex.thn_ret ?_
        obtain rfl := Option.some.inj hr
        exact ⟨.inr rfl, _, (.cons (.tmp rfl) .nil), ⟨(Ext.st hE65 hS64), rfl⟩⟩
      · replace hr := ite_neg hr hc87
        with_reducible refine W.skip ?_
        with_reducible refine Ex.blk_norm ?_
        with_reducible refine Ex.thn_norm ?_
        with_reducible refine W.region ?_
        refine WL.move .nil rfl rfl rfl rfl ?_
        obtain ⟨hc88, hr⟩ := chk_some hr
        refine WL.addI .nil rfl rfl rfl rfl rfl hc88.1 hc88.2 ?_
        refine WL.assign .nil rfl rfl rfl rfl ?_
        with_reducible refine WL.nil ?_
        with_reducible refine Ex.thn_norm ?_
        exact ⟨[(0, .slice a2 xs1.length cap3), (1, str x5), (5, .int .i64 (x67 + 1))], (Fr.le_cons rfl (Fr.le_cons rfl (Fr.le_cons rfl Fr.le_nil))), (x67 + 1), F63, rfl, hS64, hE65, h66, hr⟩
    · replace hr := ite_neg hr hc69
      with_reducible refine W.exit ?_
      with_reducible refine Ex.thn_ex ?_
      with_reducible refine Ex.thn_ex ?_
      with_reducible refine Ex.blk_here ?_
      with_reducible refine Ex.thn_norm ?_
      with_reducible refine W.seq ?_
      with_reducible refine W.region ?_
      refine WL.assign .nil rfl rfl rfl rfl ?_
      with_reducible refine WL.nil ?_
      with_reducible refine Ex.thn_norm ?_
      with_reducible refine W.ret ?_
      obtain rfl := Option.some.inj hr
      exact ⟨.inr rfl, _, (.cons (.tmp rfl) .nil), ⟨(Ext.st hE65 hS64), rfl⟩⟩
theorem f_spec_l02In_k {Δ : Prims} (g : Env Try.prog Δ) {lo n0 : Nat} {H0 F0 : Heap} (hS : St lo n0 H0 F0) {x1 : Int} {x2 : Int} {x3 : Int} {res : (Bool)} (hr : f_spec_l02In x1 x2 x3 = some res) :
    C Try.prog Δ n0 41 [.int .i64 x1, .int .i64 x2, .int .i64 x3] n0 H0 (fun v n H => St n0 n H F0 ∧ v = .bool res) := by
  refine C.body Try.func41 rfl rfl ?_
  unfold f_spec_l02In at hr
  have hS0 : St n0 n0 H0 F0 := hS.low (Nat.le_refl _)
  have hE0 := Ext.refl n0 F0
  have hlo0 := hS0.lo
  with_reducible refine W.seq ?_
  with_reducible refine W.region ?_
  refine WL.assign .nil rfl rfl rfl rfl ?_
  with_reducible refine WL.nil ?_
  with_reducible refine Ex.thn_norm ?_
  with_reducible refine W.seq ?_
  with_reducible refine W.region ?_
  refine WL.move .nil rfl rfl rfl rfl ?_
  refine WL.move .nil rfl rfl rfl rfl ?_
  refine WL.bin .nil rfl rfl rfl rfl rfl rfl ?_
  refine WL.move .nil rfl rfl rfl rfl ?_
  refine WL.guardD rfl rfl rfl (fun hg4 => ?_) (fun hg4 => ?_)
  · replace hr := ite_pos hr hg4
    refine WL.move .nil rfl rfl rfl rfl ?_
    refine WL.move .nil rfl rfl rfl rfl ?_
    refine WL.bin .nil rfl rfl rfl rfl rfl rfl ?_
    refine WL.pick .nil rfl rfl rfl rfl rfl ?_
    refine WL.assign .nil rfl rfl rfl rfl ?_
    with_reducible refine WL.nil ?_
    with_reducible refine Ex.thn_norm ?_
    with_reducible refine W.ret ?_
    obtain rfl := Option.some.inj hr
    exact ⟨.inr rfl, _, (.cons (.tmp rfl) .nil), ⟨(Ext.st hE0 hS0), rfl⟩⟩
  · replace hr := ite_neg hr hg4
    refine WL.skip .nil rfl rfl ?_
    refine WL.skip .nil rfl rfl ?_
    refine WL.skip .nil rfl rfl ?_
    refine WL.pick .nil rfl rfl rfl rfl rfl ?_
    refine WL.assign .nil rfl rfl rfl rfl ?_
    with_reducible refine WL.nil ?_
    with_reducible refine Ex.thn_norm ?_
    with_reducible refine W.ret ?_
    obtain rfl := Option.some.inj hr
    exact ⟨.inr rfl, _, (.cons (.tmp rfl) .nil), ⟨(Ext.st hE0 hS0), rfl⟩⟩
theorem f_spec_l09Session_k {Δ : Prims} (g : Env Try.prog Δ) {lo n0 : Nat} {H0 F0 : Heap} (hS : St lo n0 H0 F0) {a2 : Option Addr} {cap3 : Nat} {xs1 : (List GSession)} {x5 : Int} (h4 : SR F0 (.slice a2 xs1.length cap3) xs1) {res : (Int)} (hr : f_spec_l09Session xs1 x5 = some res) :
    C Try.prog Δ n0 42 [.slice a2 xs1.length cap3, .int .i64 x5] n0 H0 (fun v n H => St n0 n H F0 ∧ v = .int .i64 res) := by
  refine C.body Try.func42 rfl rfl ?_
  unfold f_spec_l09Session at hr
  have hS0 : St n0 n0 H0 F0 := hS.low (Nat.le_refl _)
  have hE0 := Ext.refl n0 F0
  have hlo0 := hS0.lo
  with_reducible refine W.seq ?_
  with_reducible refine W.region ?_
  refine WL.assign .nil rfl rfl rfl rfl ?_
  with_reducible refine WL.nil ?_
  with_reducible refine Ex.thn_norm ?_
  with_reducible refine W.seq ?_
  with_reducible refine W.seq ?_
  with_reducible refine W.region ?_
  refine WL.assign .nil rfl rfl rfl rfl ?_
  with_reducible refine WL.nil ?_
  with_reducible refine Ex.thn_norm ?_
  with_reducible refine W.block ?_
  refine W.loopF (fun k0 fr n H => ∃ (x67 : Int) (F : Heap), fr = [(0, .slice a2 xs1.length cap3), (1, .int .i64 x5), (5, .int .i64 x67)] ∧ St n0 n H F ∧ Ext n0 F0 n F ∧ SR F (.slice a2 xs1.length cap3) xs1 ∧ f_spec_l09Session_L0 xs1 x5 k0 x67 = some res) BIG (fr0 := [(0, .slice a2 xs1.length cap3), (1, .int .i64 x5), (5, .int .i64 0)]) (Fr.le_cons rfl (Fr.le_cons rfl (Fr.le_cons rfl Fr.le_nil))) ?_ ?_ ?_
  · exact ⟨0, F0, rfl, hS0, hE0, h4, hr⟩
  · intro fr n H hI
    obtain ⟨x67, F63, hfr, hS64, hE65, h66, hr⟩ := hI
    rw [f_spec_l09Session_L0] at hr
    cases hr
  · intro k0 _ n61 H62 hI
    obtain ⟨x67, F63, rfl, hS64, hE65, h66, hr⟩ := hI
    have hlen61 := hE65.le
    have hlon61 := hS64.lo
    rw [f_spec_l09Session_L0] at hr
    with_reducible refine W.seq ?_
    with_reducible refine W.seq ?_
    with_reducible refine W.region ?_
    refine WL.move .nil rfl rfl rfl rfl ?_
    refine WL.move .nil rfl rfl rfl rfl ?_
    refine WL.len .nil rfl rfl rfl Try.underlying24 rfl ?_
    refine WL.bin .nil rfl rfl rfl rfl rfl rfl ?_
    with_reducible refine WL.nil ?_
    with_reducible refine Ex.thn_norm ?_
    refine W.condD rfl (fun hc69 => ?_) (fun hc69 => ?_)
    · replace hr := ite_pos hr hc69
      with_reducible refine W.skip ?_
      with_reducible refine Ex.thn_norm ?_
      with_reducible refine W.seq ?_
      with_reducible refine W.block ?_
      with_reducible refine W.seq ?_
      with_reducible refine W.region ?_
      refine WL.move .nil rfl rfl rfl rfl ?_
      refine WL.move .nil rfl rfl rfl rfl ?_
      obtain ⟨x79, hx79, hr⟩ := bnd_some hr
      refine GL.index .nil rfl rfl rfl Try.underlying24 info54 rfl rfl h66 hS64.fh rfl hx79 (fun b80 kp81 c82 ecs83 hrow84 hwin85 hR86 => ?_)
      obtain ⟨rfl⟩ := GSession.ofR hR86
      refine WL.fieldAddr .nil rfl rfl rfl Try.underlying54 rfl info3 rfl rfl ?_
      refine WL.load1 .nil rfl rfl rfl Try.underlying3 rfl rfl hrow84 ((win_get0 hwin85 (show (0 : Nat) < 5 by decide)).trans rfl) ?_
      refine WL.move .nil rfl rfl rfl rfl ?_
      refine WL.bin .nil rfl rfl rfl rfl rfl rfl ?_
      with_reducible refine WL.nil ?_
      with_reducible refine Ex.thn_norm ?_
      refine W.condD rfl (fun hc87 => ?_) (fun hc87 => ?_)
      · replace hr := ite_pos hr hc87
        with_reducible refine W.seq ?_
        with_reducible refine W.region ?_
        refine WL.move .nil rfl rfl rfl rfl ?_
        refine WL.assign .nil rfl rfl rfl rfl ?_
        with_reducible refine WL.nil ?_
        with_reducible refine Ex.thn_norm ?_
        with_reducible refine W.ret ?_
        with_reducible refine Ex.blk_ret ?_
        with_reducible refine Ex.thn_ret ?_
        with_reducible refine Ex.thn_ret ?_
        with_reducible refine Ex.blk_ret ?_
        with_reducible refine Ex.thn_ret ?_
        obtain rfl := Option.some.inj hr
        exact ⟨.inr rfl, _, (.cons (.tmp rfl) .nil), ⟨(Ext.st hE65 hS64), rfl⟩⟩
      · replace hr := ite_neg hr hc87
        with_reducible refine W.skip ?_
        with_reducible refine Ex.blk_norm ?_
        with_reducible refine Ex.thn_norm ?_
        with_reducible refine W.region ?_
        refine WL.move .nil rfl rfl rfl rfl ?_
        obtain ⟨hc88, hr⟩ := chk_some hr
        refine WL.addI .nil rfl rfl rfl rfl rfl hc88.1 hc88.2 ?_
        refine WL.assign .nil rfl rfl rfl rfl ?_
        with_reducible refine WL.nil ?_
        with_reducible refine Ex.thn_norm ?_
        exact ⟨[(0, .slice a2 xs1.length cap3), (1, .int .i64 x5), (5, .int .i64 (x67 + 1))], (Fr.le_cons rfl (Fr.le_cons rfl (Fr.le_cons rfl Fr.le_nil))), (x67 + 1), F63, rfl, hS64, hE65, h66, hr⟩
    · replace hr := ite_neg hr hc69
      with_reducible refine W.exit ?_
      with_reducible refine Ex.thn_ex ?_
      with_reducible refine Ex.thn_ex ?_
      with_reducible refine Ex.blk_here ?_
      with_reducible refine Ex.thn_norm ?_
      with_reducible refine W.seq ?_
      with_reducible refine W.region ?_
      refine WL.assign .nil rfl rfl rfl rfl ?_
      with_reducible refine WL.nil ?_
      with_reducible refine Ex.thn_norm ?_
      with_reducible refine W.ret ?_
      obtain rfl := Option.some.inj hr
      exact ⟨.inr rfl, _, (.cons (.tmp rfl) .nil), ⟨(Ext.st hE65 hS64), rfl⟩⟩
theorem f_spec_l09Sha_k {Δ : Prims} (g : Env Try.prog Δ) {lo n0 : Nat} {H0 F0 : Heap} (hS : St lo n0 H0 F0) {x1 : Str} {res : (Bool)} (hr : f_spec_l09Sha x1 = some res) :
    C Try.prog Δ n0 62 [str x1] n0 H0 (fun v n H => St n0 n H F0 ∧ v = .bool res) := by
  refine C.body Try.func62 rfl rfl ?_
  unfold f_spec_l09Sha at hr
  have hS0 : St n0 n0 H0 F0 := hS.low (Nat.le_refl _)
  have hE0 := Ext.refl n0 F0
  have hlo0 := hS0.lo
  with_reducible refine W.seq ?_
  with_reducible refine W.region ?_
  refine WL.assign .nil rfl rfl rfl rfl ?_
  with_reducible refine WL.nil ?_
  with_reducible refine Ex.thn_norm ?_
  with_reducible refine W.seq ?_
  with_reducible refine W.seq ?_
  with_reducible refine W.region ?_
  refine WL.assign .nil rfl rfl rfl rfl ?_
  with_reducible refine WL.nil ?_
  with_reducible refine Ex.thn_norm ?_
  with_reducible refine W.block ?_
  refine W.loopF (fun k0 fr n H => ∃ (x380 : Int) (F : Heap), fr = [(0, str x1), (3, .int .i64 x380)] ∧ St n0 n H F ∧ Ext n0 F0 n F ∧ f_spec_l09Sha_L0 x1 k0 x380 = some res) BIG (fr0 := [(0, str x1), (3, .int .i64 0)]) (Fr.le_cons rfl (Fr.le_cons rfl Fr.le_nil)) ?_ ?_ ?_
  · exact ⟨0, F0, rfl, hS0, hE0, hr⟩
  · intro fr n H hI
    obtain ⟨x380, F377, hfr, hS378, hE379, hr⟩ := hI
    rw [f_spec_l09Sha_L0] at hr
    cases hr
  · intro k0 _ n375 H376 hI
    obtain ⟨x380, F377, rfl, hS378, hE379, hr⟩ := hI
    have hlen375 := hE379.le
    have hlon375 := hS378.lo
    rw [f_spec_l09Sha_L0] at hr
    with_reducible refine W.seq ?_
    with_reducible refine W.seq ?_
    with_reducible refine W.region ?_
    refine WL.move .nil rfl rfl rfl rfl ?_
    refine WL.move .nil rfl rfl rfl rfl ?_
    refine GL.lenStr .nil rfl rfl rfl Try.underlying9 rfl ?_
    refine WL.bin .nil rfl rfl rfl rfl rfl rfl ?_
    with_reducible refine WL.nil ?_
    with_reducible refine Ex.thn_norm ?_
    refine W.condD rfl (fun hc382 => ?_) (fun hc382 => ?_)
    · replace hr := ite_pos hr hc382
      with_reducible refine W.skip ?_
      with_reducible refine Ex.thn_norm ?_
      with_reducible refine W.seq ?_
      with_reducible refine W.block ?_
      with_reducible refine W.seq ?_
      refine W.cut (fun fr n H => ∃ (x434 : Bool) (F : Heap), fr = [(0, str x1), (3, .int .i64 x380), (26, .bool x434)] ∧ St n0 n H F ∧ Ext n0 F0 n F ∧ f_spec_l09Sha_J1 x380 (f_spec_l09Sha_L0 x1 k0) x434 = some res) ?_ ?_
      · with_reducible refine W.region ?_
        refine WL.move .nil rfl rfl rfl rfl ?_
        refine WL.move .nil rfl rfl rfl rfl ?_
        obtain ⟨x437, hx437, hr⟩ := bnd_some hr
        refine GL.strIdx .nil rfl rfl rfl Try.underlying9 rfl rfl hx437 ?_
        obtain ⟨x438, hx438, hr⟩ := bnd_some hr
        refine GL.callP g.good .nil rfl rfl rfl rfl rfl rfl Try.func74 rfl rfl hS378.lo (f_spec_l00Digit_k  g hS378 hx438) (fun v n439 H440 hn441 hk442 hp443 => ?_)
        obtain ⟨hS444, rfl⟩ := hp443
        have hS445 : St n0 n439 H440 F377 := ⟨by have := hS378.lo; omega, hS444.hb, hS444.fh⟩
        have hlon439 := hS445.lo
        refine WL.not .nil rfl rfl rfl rfl ?_
        refine WL.move .nil rfl rfl rfl rfl ?_
        refine WL.guard rfl rfl rfl (fun hg446 => ?_) (fun hg446 => ?_)
        · replace hr := iteB_pos hr hg446
          refine WL.move .nil rfl rfl rfl rfl ?_
          refine WL.move .nil rfl rfl rfl rfl ?_
          obtain ⟨x447, hx447, hr⟩ := bnd_some hr
          refine GL.strIdx .nil rfl rfl rfl Try.underlying9 rfl rfl hx447 ?_
          refine WL.bin .nil rfl rfl rfl rfl rfl rfl ?_
          refine WL.move .nil rfl rfl rfl rfl ?_
          refine WL.guardD rfl rfl rfl (fun hg448 => ?_) (fun hg448 => ?_)
          · replace hr := ite_pos hr hg448
            refine WL.skip .nil rfl rfl ?_
            refine WL.skip .nil rfl rfl ?_
            refine WL.skip .nil rfl rfl ?_
            refine WL.skip .nil rfl rfl ?_
            refine WL.pick .nil rfl rfl rfl rfl rfl ?_
            refine WL.pick .nil rfl rfl rfl rfl rfl ?_
            with_reducible refine WL.nil ?_
            with_reducible refine Ex.thn_norm ?_
            exact ⟨[(0, str x1), (3, .int .i64 x380), (26, .bool true)], (Fr.le_cons rfl (Fr.le_cons rfl (Fr.le_cons rfl Fr.le_nil))), true, F377, rfl, hS445, (hE379.up (by omega)), hr⟩
          · replace hr := ite_neg hr hg448
            refine WL.move .nil rfl rfl rfl rfl ?_
            refine WL.move .nil rfl rfl rfl rfl ?_
            obtain ⟨x449, hx449, hr⟩ := bnd_some hr
            refine GL.strIdx .nil rfl rfl rfl Try.underlying9 rfl rfl hx449 ?_
            refine WL.bin .nil rfl rfl rfl rfl rfl rfl ?_
            refine WL.pick .nil rfl rfl rfl rfl rfl ?_
            refine WL.pick .nil rfl rfl rfl rfl rfl ?_
            with_reducible refine WL.nil ?_
            with_reducible refine Ex.thn_norm ?_
            exact ⟨[(0, str x1), (3, .int .i64 x380), (26, .bool (decide ((102 : Int) < (x449.toNat : Int))))], (Fr.le_cons rfl (Fr.le_cons rfl (Fr.le_cons rfl Fr.le_nil))), (decide ((102 : Int) < (x449.toNat : Int))), F377, rfl, hS445, (hE379.up (by omega)), hr⟩
        · replace hr := iteB_neg hr hg446
          refine WL.skip .nil rfl rfl ?_
          refine WL.skip .nil rfl rfl ?_
          refine WL.skip .nil rfl rfl ?_
          refine WL.skip .nil rfl rfl ?_
          refine WL.skip .nil rfl rfl ?_
          refine WL.skip .nil rfl rfl ?_
          refine WL.skip .nil rfl rfl ?_
          refine WL.skip .nil rfl rfl ?_
          refine WL.skip .nil rfl rfl ?_
          refine WL.skip .nil rfl rfl ?_
          refine WL.pick .nil rfl rfl rfl rfl rfl ?_
          with_reducible refine WL.nil ?_
          with_reducible refine Ex.thn_norm ?_
          exact ⟨[(0, str x1), (3, .int .i64 x380), (26, .bool false)], (Fr.le_cons rfl (Fr.le_cons rfl (Fr.le_cons rfl Fr.le_nil))), false, F377, rfl, hS445, (hE379.up (by omega)), hr⟩
      · intro _ n429 H430 hI
        obtain ⟨x434, F431, rfl, hS432, hE433, hr⟩ := hI
        have hlen429 := hE433.le
        have hlon429 := hS432.lo
        unfold f_spec_l09Sha_J1 at hr
        refine W.cond rfl (fun hc435 => ?_) (fun hc435 => ?_)
        · replace hr := iteB_pos hr hc435
          with_reducible refine W.seq ?_
          with_reducible refine W.region ?_
          refine WL.assign .nil rfl rfl rfl rfl ?_
          with_reducible refine WL.nil ?_
          with_reducible refine Ex.thn_norm ?_
          with_reducible refine W.ret ?_
          with_reducible refine Ex.blk_ret ?_
          with_reducible refine Ex.thn_ret ?_
          with_reducible refine Ex.thn_ret ?_
          with_reducible refine Ex.blk_ret ?_
          with_reducible refine Ex.thn_ret ?_
          obtain rfl := Option.some.inj hr
          exact ⟨.inr rfl, _, (.cons (.tmp rfl) .nil), ⟨(Ext.st hE433 hS432), rfl⟩⟩
        · replace hr := iteB_neg hr hc435
          with_reducible refine W.skip ?_
          with_reducible refine Ex.blk_norm ?_
          with_reducible refine Ex.thn_norm ?_
          with_reducible refine W.region ?_
          refine WL.move .nil rfl rfl rfl rfl ?_
          obtain ⟨hc436, hr⟩ := chk_some hr
          refine WL.addI .nil rfl rfl rfl rfl rfl hc436.1 hc436.2 ?_
          refine WL.assign .nil rfl rfl rfl rfl ?_
          with_reducible refine WL.nil ?_
          with_reducible refine Ex.thn_norm ?_
          exact ⟨[(0, str x1), (3, .int .i64 (x380 + 1))], (Fr.le_cons rfl (Fr.le_cons rfl Fr.le_nil)), (x380 + 1), F431, rfl, hS432, hE433, hr⟩
    · replace hr := ite_neg hr hc382
      with_reducible refine W.exit ?_
      with_reducible refine Ex.thn_ex ?_
      with_reducible refine Ex.thn_ex ?_
      with_reducible refine Ex.blk_here ?_
      with_reducible refine Ex.thn_norm ?_
      with_reducible refine W.seq ?_
      with_reducible refine W.region ?_
      refine WL.move .nil rfl rfl rfl rfl ?_
      refine GL.lenStr .nil rfl rfl rfl Try.underlying9 rfl ?_
      refine WL.bin .nil rfl rfl rfl rfl rfl rfl ?_
      refine WL.move .nil rfl rfl rfl rfl ?_
      refine WL.guardD rfl rfl rfl (fun hg450 => ?_) (fun hg450 => ?_)
      · replace hr := ite_pos hr hg450
        refine WL.skip .nil rfl rfl ?_
        refine WL.skip .nil rfl rfl ?_
        refine WL.skip .nil rfl rfl ?_
        refine WL.pick .nil rfl rfl rfl rfl rfl ?_
        refine WL.assign .nil rfl rfl rfl rfl ?_
        with_reducible refine WL.nil ?_
        with_reducible refine Ex.thn_norm ?_
        with_reducible refine W.ret ?_
        obtain rfl := Option.some.inj hr
        exact ⟨.inr rfl, _, (.cons (.tmp rfl) .nil), ⟨(Ext.st hE379 hS378), rfl⟩⟩
      · replace hr := ite_neg hr hg450
        refine WL.move .nil rfl rfl rfl rfl ?_
        refine GL.lenStr .nil rfl rfl rfl Try.underlying9 rfl ?_
        refine WL.bin .nil rfl rfl rfl rfl rfl rfl ?_
        refine WL.pick .nil rfl rfl rfl rfl rfl ?_
        refine WL.assign .nil rfl rfl rfl rfl ?_
        with_reducible refine WL.nil ?_
        with_reducible refine Ex.thn_norm ?_
        with_reducible refine W.ret ?_
        obtain rfl := Option.some.inj hr
        exact ⟨.inr rfl, _, (.cons (.tmp rfl) .nil), ⟨(Ext.st hE379 hS378), rfl⟩⟩
theorem f_spec_l09Reply_k {Δ : Prims} (g : Env Try.prog Δ) {lo n0 : Nat} {H0 F0 : Heap} (hS : St lo n0 H0 F0) {x1 : GReply} {res : (Bool)} (hr : f_spec_l09Reply x1 = some res) :
    C Try.prog Δ n0 43 [.agg [.int .i64 x1.Code, .int .i64 x1.Version, str x1.Sha].toArray] n0 H0 (fun v n H => St n0 n H F0 ∧ v = .bool res) := by
  refine C.body Try.func43 rfl rfl ?_
  unfold f_spec_l09Reply at hr
  have hS0 : St n0 n0 H0 F0 := hS.low (Nat.le_refl _)
  have hE0 := Ext.refl n0 F0
  have hlo0 := hS0.lo
  with_reducible refine W.seq ?_
  with_reducible refine W.region ?_
  refine GL.box hS0 .nil (vc := [.int .i64 x1.Code, .int .i64 x1.Version, str x1.Sha]) rfl rfl rfl rfl rfl (by repeat' (first | exact List.forall_mem_nil _ | refine List.forall_mem_cons.2 ⟨?_, ?_⟩ | rfl)) (fun H2 hS3 ho4 hk5 => ?_)
  have fo6 := hS0.fnone (Nat.le_refl _)
  have hlon01 := hS3.lo
  have lt7 : n0 < (n0 + 1) := by omega
  refine WL.assign .nil rfl rfl rfl rfl ?_
  with_reducible refine WL.nil ?_
  with_reducible refine Ex.thn_norm ?_
  with_reducible refine W.seq ?_
  with_reducible refine W.region ?_
  refine WL.fieldAddr .nil rfl rfl rfl Try.underlying52 rfl info3 rfl rfl ?_
  refine WL.load1 .nil rfl rfl rfl Try.underlying3 rfl rfl ho4 rfl ?_
  obtain ⟨x8, hx8, hr⟩ := bnd_some hr
  refine GL.callP g.good .nil rfl rfl rfl rfl rfl rfl Try.func41 rfl rfl hS3.lo (f_spec_l02In_k  g hS3 hx8) (fun v n9 H10 hn11 hk12 hp13 => ?_)
  obtain ⟨hS14, rfl⟩ := hp13
  have ho15 := (hk12 _ (by have := lt7; omega)).trans ho4
  have hS16 : St n0 n9 H10 F0 := ⟨by have := hS3.lo; omega, hS14.hb, hS14.fh⟩
  have hlon9 := hS16.lo
  refine WL.move .nil rfl rfl rfl rfl ?_
  refine WL.guard rfl rfl rfl (fun hg17 => ?_) (fun hg17 => ?_)
  · replace hr := iteB_pos hr hg17
    refine WL.fieldAddr .nil rfl rfl rfl Try.underlying52 rfl info3 rfl rfl ?_
    refine WL.load1 .nil rfl rfl rfl Try.underlying3 rfl rfl ho15 rfl ?_
    obtain ⟨x18, hx18, hr⟩ := bnd_some hr
    refine GL.callP g.good .nil rfl rfl rfl rfl rfl rfl Try.func41 rfl rfl hS16.lo (f_spec_l02In_k  g hS16 hx18) (fun v n19 H20 hn21 hk22 hp23 => ?_)
    obtain ⟨hS24, rfl⟩ := hp23
    have ho25 := (hk22 _ (by have := lt7; omega)).trans ho15
    have hS26 : St n0 n19 H20 F0 := ⟨by have := hS16.lo; omega, hS24.hb, hS24.fh⟩
    have hlon19 := hS26.lo
    refine WL.pick .nil rfl rfl rfl rfl rfl ?_
    refine WL.move .nil rfl rfl rfl rfl ?_
    refine WL.guard rfl rfl rfl (fun hg27 => ?_) (fun hg27 => ?_)
    · replace hr := iteB_pos hr hg27
      refine WL.fieldAddr .nil rfl rfl rfl Try.underlying52 rfl info9 rfl rfl ?_
      refine WL.load1 .nil rfl rfl rfl Try.underlying9 rfl rfl ho25 rfl ?_
      obtain ⟨x28, hx28, hr⟩ := bnd_some hr
      refine GL.callP g.good .nil rfl rfl rfl rfl rfl rfl Try.func62 rfl rfl hS26.lo (f_spec_l09Sha_k  g hS26 hx28) (fun v n29 H30 hn31 hk32 hp33 => ?_)
      obtain ⟨hS34, rfl⟩ := hp33
      have ho35 := (hk32 _ (by have := lt7; omega)).trans ho25
      have hS36 : St n0 n29 H30 F0 := ⟨by have := hS26.lo; omega, hS34.hb, hS34.fh⟩
      have hlon29 := hS36.lo
      refine WL.pick .nil rfl rfl rfl rfl rfl ?_
      refine WL.move .nil rfl rfl rfl rfl ?_
      refine WL.guard rfl rfl rfl (fun hg37 => ?_) (fun hg37 => ?_)
      · replace hr := iteB_pos hr hg37
        refine WL.fieldAddr .nil rfl rfl rfl Try.underlying52 rfl info3 rfl rfl ?_
        refine WL.load1 .nil rfl rfl rfl Try.underlying3 rfl rfl ho35 rfl ?_
        refine WL.bin .nil rfl rfl rfl rfl rfl rfl ?_
        refine WL.fieldAddr .nil rfl rfl rfl Try.underlying52 rfl info9 rfl rfl ?_
        refine WL.load1 .nil rfl rfl rfl Try.underlying9 rfl rfl ho35 rfl ?_
        refine GL.strCmp .nil rfl rfl rfl rfl rfl (by decide) rfl ?_
        refine WL.eqBool .nil rfl rfl rfl (by decide) Try.underlying4 rfl rfl ?_
        refine WL.pick .nil rfl rfl rfl rfl rfl ?_
        refine WL.move .nil rfl rfl rfl rfl ?_
        refine WL.guard rfl rfl rfl (fun hg38 => ?_) (fun hg38 => ?_)
        · replace hr := iteB_pos hr hg38
          refine WL.fieldAddr .nil rfl rfl rfl Try.underlying52 rfl info3 rfl rfl ?_
          refine WL.load1 .nil rfl rfl rfl Try.underlying3 rfl rfl ho35 rfl ?_
          refine WL.bin .nil rfl rfl rfl rfl rfl rfl ?_
          refine WL.fieldAddr .nil rfl rfl rfl Try.underlying52 rfl info3 rfl rfl ?_
          refine WL.load1 .nil rfl rfl rfl Try.underlying3 rfl rfl ho35 rfl ?_
          refine WL.bin .nil rfl rfl rfl rfl rfl rfl ?_
          refine WL.eqBool .nil rfl rfl rfl (by decide) Try.underlying4 rfl rfl ?_
          refine WL.pick .nil rfl rfl rfl rfl rfl ?_
          refine WL.assign .nil rfl rfl rfl rfl ?_
          with_reducible refine WL.nil ?_
          with_reducible refine Ex.thn_norm ?_
          with_reducible refine W.ret ?_
          obtain rfl := Option.some.inj hr
          exact ⟨.inr rfl, _, (.cons (.tmp rfl) .nil), ⟨(Ext.st hE0 hS36), rfl⟩⟩
        · replace hr := iteB_neg hr hg38
          refine WL.skip .nil rfl rfl ?_
          refine WL.skip .nil rfl rfl ?_
          refine WL.skip .nil rfl rfl ?_
          refine WL.skip .nil rfl rfl ?_
          refine WL.skip .nil rfl rfl ?_
          refine WL.skip .nil rfl rfl ?_
          refine WL.skip .nil rfl rfl ?_
          refine WL.pick .nil rfl rfl rfl rfl rfl ?_
          refine WL.assign .nil rfl rfl rfl rfl ?_
          with_reducible refine WL.nil ?_
          with_reducible refine Ex.thn_norm ?_
          with_reducible refine W.ret ?_
          obtain rfl := Option.some.inj hr
          exact ⟨.inr rfl, _, (.cons (.tmp rfl) .nil), ⟨(Ext.st hE0 hS36), rfl⟩⟩
      · replace hr := iteB_neg hr hg37
        refine WL.skip .nil rfl rfl ?_
        refine WL.skip .nil rfl rfl ?_
        refine WL.skip .nil rfl rfl ?_
        refine WL.skip .nil rfl rfl ?_
        refine WL.skip .nil rfl rfl ?_
        refine WL.skip .nil rfl rfl ?_
        refine WL.skip .nil rfl rfl ?_
        refine WL.pick .nil rfl rfl rfl rfl rfl ?_
        refine WL.move .nil rfl rfl rfl rfl ?_
        refine WL.skip .nil rfl rfl ?_
        refine WL.skip .nil rfl rfl ?_
        refine WL.skip .nil rfl rfl ?_
        refine WL.skip .nil rfl rfl ?_
        refine WL.skip .nil rfl rfl ?_
        refine WL.skip .nil rfl rfl ?_
        refine WL.skip .nil rfl rfl ?_
        refine WL.pick .nil rfl rfl rfl rfl rfl ?_
        refine WL.assign .nil rfl rfl rfl rfl ?_
        with_reducible refine WL.nil ?_
        with_reducible refine Ex.thn_norm ?_
        with_reducible refine W.ret ?_
        obtain rfl := Option.some.inj hr
        exact ⟨.inr rfl, _, (.cons (.tmp rfl) .nil), ⟨(Ext.st hE0 hS36), rfl⟩⟩
    · replace hr := iteB_neg hr hg27
      refine WL.skip .nil rfl rfl ?_
      refine WL.skip .nil rfl rfl ?_
      refine WL.skip .nil rfl rfl ?_
      refine WL.pick .nil rfl rfl rfl rfl rfl ?_
      refine WL.move .nil rfl rfl rfl rfl ?_
      refine WL.skip .nil rfl rfl ?_
      refine WL.skip .nil rfl rfl ?_
      refine WL.skip .nil rfl rfl ?_
      refine WL.skip .nil rfl rfl ?_
      refine WL.skip .nil rfl rfl ?_
      refine WL.skip .nil rfl rfl ?_
      refine WL.skip .nil rfl rfl ?_
      refine WL.pick .nil rfl rfl rfl rfl rfl ?_
      refine WL.move .nil rfl rfl rfl rfl ?_
      refine WL.skip .nil rfl rfl ?_
      refine WL.skip .nil rfl rfl ?_
      refine WL.skip .nil rfl rfl ?_
      refine WL.skip .nil rfl rfl ?_
      refine WL.skip .nil rfl rfl ?_
      refine WL.skip .nil rfl rfl ?_
      refine WL.skip .nil rfl rfl ?_
      refine WL.pick .nil rfl rfl rfl rfl rfl ?_
      refine WL.assign .nil rfl rfl rfl rfl ?_
      with_reducible refine WL.nil ?_
      with_reducible refine Ex.thn_norm ?_
      with_reducible refine W.ret ?_
      obtain rfl := Option.some.inj hr
      exact ⟨.inr rfl, _, (.cons (.tmp rfl) .nil), ⟨(Ext.st hE0 hS26), rfl⟩⟩
  · replace hr := iteB_neg hr hg17
    refine WL.skip .nil rfl rfl ?_
    refine WL.skip .nil rfl rfl ?_
    refine WL.skip .nil rfl rfl ?_
    refine WL.pick .nil rfl rfl rfl rfl rfl ?_
    refine WL.move .nil rfl rfl rfl rfl ?_
    refine WL.skip .nil rfl rfl ?_
    refine WL.skip .nil rfl rfl ?_
    refine WL.skip .nil rfl rfl ?_
    refine WL.pick .nil rfl rfl rfl rfl rfl ?_
    refine WL.move .nil rfl rfl rfl rfl ?_
    refine WL.skip .nil rfl rfl ?_
    refine WL.skip .nil rfl rfl ?_
    refine WL.skip .nil rfl rfl ?_
    refine WL.skip .nil rfl rfl ?_
    refine WL.skip .nil rfl rfl ?_
    refine WL.skip .nil rfl rfl ?_
    refine WL.skip .nil rfl rfl ?_
    refine WL.pick .nil rfl rfl rfl rfl rfl ?_
    refine WL.move .nil rfl rfl rfl rfl ?_
    refine WL.skip .nil rfl rfl ?_
    refine WL.skip .nil rfl rfl ?_
    refine WL.skip .nil rfl rfl ?_
    refine WL.skip .nil rfl rfl ?_
    refine WL.skip .nil rfl rfl ?_
    refine WL.skip .nil rfl rfl ?_
    refine WL.skip .nil rfl rfl ?_
    refine WL.pick .nil rfl rfl rfl rfl rfl ?_
    refine WL.assign .nil rfl rfl rfl rfl ?_
    with_reducible refine WL.nil ?_
    with_reducible refine Ex.thn_norm ?_
    with_reducible refine W.ret ?_
    obtain rfl := Option.some.inj hr
    exact ⟨.inr rfl, _, (.cons (.tmp rfl) .nil), ⟨(Ext.st hE0 hS16), rfl⟩⟩
theorem f_spec_StateOK_k {Δ : Prims} (g : Env Try.prog Δ) {lo n0 : Nat} {H0 F0 : Heap} (hS : St lo n0 H0 F0) {x1 : GState} {a2 : Option Addr} {cap3 : Nat} {a5 : Option Addr} {cap6 : Nat} (h4 : SR F0 (.slice a2 x1.Files.length cap3) x1.Files) (h7 : SR F0 (.slice a5 x1.Sessions.length cap6) x1.Sessions) {res : (Bool)} (hr : f_spec_StateOK x1 = some res) :
    C Try.prog Δ n0 20 [.agg [.slice a2 x1.Files.length cap3, .slice a5 x1.Sessions.length cap6].toArray] n0 H0 (fun v n H => St n0 n H F0 ∧ v = .bool res) := by
  refine C.body Try.func20 rfl rfl ?_
  unfold f_spec_StateOK at hr
  have hS0 : St n0 n0 H0 F0 := hS.low (Nat.le_refl _)
  have hE0 := Ext.refl n0 F0
  have hlo0 := hS0.lo
  with_reducible refine W.seq ?_
  with_reducible refine W.region ?_
  refine GL.box hS0 .nil (vc := [.slice a2 x1.Files.length cap3, .slice a5 x1.Sessions.length cap6]) rfl rfl rfl rfl rfl (by repeat' (first | exact List.forall_mem_nil _ | refine List.forall_mem_cons.2 ⟨?_, ?_⟩ | rfl)) (fun H8 hS9 ho10 hk11 => ?_)
  have fo12 := hS0.fnone (Nat.le_refl _)
  have hlon01 := hS9.lo
  have lt13 : n0 < (n0 + 1) := by omega
  refine WL.assign .nil rfl rfl rfl rfl ?_
  with_reducible refine WL.nil ?_
  with_reducible refine Ex.thn_norm ?_
  with_reducible refine W.seq ?_
  with_reducible refine W.seq ?_
  refine W.cut (fun fr n H => ∃ (x20 : Bool) (F : Heap), fr = [(1, .pointer (some ⟨n0, 0, none⟩)), (16, .bool x20)] ∧ St n0 n H F ∧ Ext n0 F0 n F ∧ H n0 = some (.row 1 [.slice a2 x1.Files.length cap3, .slice a5 x1.Sessions.length cap6]) ∧ F n0 = none ∧ SR F (.slice a2 x1.Files.length cap3) x1.Files ∧ SR F (.slice a5 x1.Sessions.length cap6) x1.Sessions ∧ f_spec_StateOK_J0 x1 x20 = some res) ?_ ?_
  · with_reducible refine W.region ?_
    refine WL.fieldAddr .nil rfl rfl rfl Try.underlying26 rfl info23 rfl rfl ?_
    refine WL.load1 .nil rfl rfl rfl Try.underlying23 rfl rfl ho10 rfl ?_
    refine WL.len .nil rfl rfl rfl Try.underlying23 rfl ?_
    refine WL.bin .nil rfl rfl rfl rfl rfl rfl ?_
    refine WL.move .nil rfl rfl rfl rfl ?_
    refine WL.guardD rfl rfl rfl (fun hg2215 => ?_) (fun hg2215 => ?_)
    · replace hr := ite_pos hr hg2215
      refine WL.skip .nil rfl rfl ?_
      refine WL.skip .nil rfl rfl ?_
      refine WL.skip .nil rfl rfl ?_
      refine WL.skip .nil rfl rfl ?_
      refine WL.pick .nil rfl rfl rfl rfl rfl ?_
      with_reducible refine WL.nil ?_
      with_reducible refine Ex.thn_norm ?_
      exact ⟨[(1, .pointer (some ⟨n0, 0, none⟩)), (16, .bool true)], (Fr.le_cons rfl (Fr.le_cons rfl Fr.le_nil)), true, F0, rfl, hS9, (hE0.up (by omega)), ho10, fo12, h4, h7, hr⟩
    · replace hr := ite_neg hr hg2215
      refine WL.fieldAddr .nil rfl rfl rfl Try.underlying26 rfl info24 rfl rfl ?_
      refine WL.load1 .nil rfl rfl rfl Try.underlying24 rfl rfl ho10 rfl ?_
      refine WL.len .nil rfl rfl rfl Try.underlying24 rfl ?_
      refine WL.bin .nil rfl rfl rfl rfl rfl rfl ?_
      refine WL.pick .nil rfl rfl rfl rfl rfl ?_
      with_reducible refine WL.nil ?_
      with_reducible refine Ex.thn_norm ?_
      exact ⟨[(1, .pointer (some ⟨n0, 0, none⟩)), (16, .bool (decide ((200 : Int) < (x1.Sessions.length : Int))))], (Fr.le_cons rfl (Fr.le_cons rfl Fr.le_nil)), (decide ((200 : Int) < (x1.Sessions.length : Int))), F0, rfl, hS9, (hE0.up (by omega)), ho10, fo12, h4, h7, hr⟩
  · intro _ n15 H16 hI
    obtain ⟨x20, F17, rfl, hS18, hE19, ho23, fo24, h21, h22, hr⟩ := hI
    have lt25 := hS18.lt ho23
    have hlen15 := hE19.le
    have hlon15 := hS18.lo
    unfold f_spec_StateOK_J0 at hr
    refine W.cond rfl (fun hc27 => ?_) (fun hc27 => ?_)
    · replace hr := iteB_pos hr hc27
      with_reducible refine W.seq ?_
      with_reducible refine W.region ?_
      refine WL.assign .nil rfl rfl rfl rfl ?_
      with_reducible refine WL.nil ?_
      with_reducible refine Ex.thn_norm ?_
      with_reducible refine W.ret ?_
      with_reducible refine Ex.thn_ret ?_
      obtain rfl := Option.some.inj hr
      exact ⟨.inr rfl, _, (.cons (.tmp rfl) .nil), ⟨(Ext.st hE19 hS18), rfl⟩⟩
    · replace hr := iteB_neg hr hc27
      with_reducible refine W.skip ?_
      with_reducible refine Ex.thn_norm ?_
      with_reducible refine W.seq ?_
      with_reducible refine W.seq ?_
      with_reducible refine W.region ?_
      refine WL.assign .nil rfl rfl rfl rfl ?_
      with_reducible refine WL.nil ?_
      with_reducible refine Ex.thn_norm ?_
      with_reducible refine W.block ?_
      refine W.loopF (fun k1 fr n H => ∃ (x1181 : Int) (F : Heap), fr = [(1, .pointer (some ⟨n0, 0, none⟩)), (3, .int .i64 x1181)] ∧ St n0 n H F ∧ Ext n0 F0 n F ∧ H n0 = some (.row 1 [.slice a2 x1.Files.length cap3, .slice a5 x1.Sessions.length cap6]) ∧ F n0 = none ∧ SR F (.slice a2 x1.Files.length cap3) x1.Files ∧ SR F (.slice a5 x1.Sessions.length cap6) x1.Sessions ∧ f_spec_StateOK_L1 x1 k1 x1181 = some res) BIG (fr0 := [(1, .pointer (some ⟨n0, 0, none⟩)), (3, .int .i64 0)]) (Fr.le_cons rfl (Fr.le_cons rfl Fr.le_nil)) ?_ ?_ ?_
      · exact ⟨0, F17, rfl, hS18, hE19, ho23, fo24, h21, h22, hr⟩
      · intro fr n H hI
        obtain ⟨x1181, F1178, hfr, hS1179, hE1180, ho1184, fo1185, h1182, h1183, hr⟩ := hI
        rw [f_spec_StateOK_L1] at hr
        cases hr
      · intro k1 _ n1176 H1177 hI
        obtain ⟨x1181, F1178, rfl, hS1179, hE1180, ho1184, fo1185, h1182, h1183, hr⟩ := hI
        have lt1186 := hS1179.lt ho1184
        have hlen1176 := hE1180.le
        have hlon1176 := hS1179.lo
        rw [f_spec_StateOK_L1] at hr
        with_reducible refine W.seq ?_
        with_reducible refine W.seq ?_
        with_reducible refine W.region ?_
        refine WL.move .nil rfl rfl rfl rfl ?_
        refine WL.fieldAddr .nil rfl rfl rfl Try.underlying26 rfl info23 rfl rfl ?_
        refine WL.load1 .nil rfl rfl rfl Try.underlying23 rfl rfl ho1184 rfl ?_
        refine WL.len .nil rfl rfl rfl Try.underlying23 rfl ?_
        refine WL.bin .nil rfl rfl rfl rfl rfl rfl ?_
        with_reducible refine WL.nil ?_
        with_reducible refine Ex.thn_norm ?_
        refine W.condD rfl (fun hc1188 => ?_) (fun hc1188 => ?_)
        · replace hr := ite_pos hr hc1188
          with_reducible refine W.skip ?_
          with_reducible refine Ex.thn_norm ?_
          with_reducible refine W.seq ?_
          with_reducible refine W.block ?_
          with_reducible refine W.seq ?_
          with_reducible refine W.region ?_
          refine WL.fieldAddr .nil rfl rfl rfl Try.underlying26 rfl info23 rfl rfl ?_
          refine WL.load1 .nil rfl rfl rfl Try.underlying23 rfl rfl ho1184 rfl ?_
          refine WL.move .nil rfl rfl rfl rfl ?_
          obtain ⟨x1297, hx1297, hr⟩ := bnd_some hr
          refine GL.index .nil rfl rfl rfl Try.underlying23 info50 rfl rfl h1182 hS1179.fh rfl hx1297 (fun b1298 kp1299 c1300 ecs1301 hrow1302 hwin1303 hR1304 => ?_)
          obtain ⟨rfl⟩ := GFile.ofR hR1304
          refine WL.loadN .nil (l' := [str x1297.Name, .int .i64 x1297.Version, str x1297.Text]) rfl rfl rfl Try.underlying50 rfl info50 rfl hrow1302 hwin1303 rfl ?_
          refine GL.alloc hS1179 .nil (zc := [str ([] : List UInt8), .int .i64 0, str ([] : List UInt8)]) rfl rfl rfl info50 rfl rfl rfl (fun H1305 hS1306 ho1307 hk1308 => ?_)
          have fo1309 := hS1179.fnone (Nat.le_refl _)
          have ho1311 := (hk1308 _ (by have := lt1186; omega)).trans ho1184
          have hlon11761 := hS1306.lo
          have lt1310 : n1176 < (n1176 + 1) := by omega
          refine GL.store hS1306 .nil (vc := [str x1297.Name, .int .i64 x1297.Version, str x1297.Text]) (c' := [str x1297.Name, .int .i64 x1297.Version, str x1297.Text]) rfl rfl rfl info50 rfl rfl rfl rfl ho1307 fo1309 (Nat.le_of_ble_eq_true rfl) (by omega) (by repeat' (first | exact List.forall_mem_nil _ | refine List.forall_mem_cons.2 ⟨?_, ?_⟩ | rfl)) rfl (fun H1312 hS1313 ho1314 hk1315 => ?_)
          have ho1316 := (hk1315 _ (by omega)).trans ho1311
          with_reducible refine WL.nil ?_
          with_reducible refine Ex.thn_norm ?_
          with_reducible refine W.seq ?_
          refine W.cut (fun fr n H => ∃ (x1360 : Bool) (F : Heap), fr = [(1, .pointer (some ⟨n0, 0, none⟩)), (3, .int .i64 x1181), (54, .bool x1360)] ∧ St n0 n H F ∧ Ext n0 F0 n F ∧ H n0 = some (.row 1 [.slice a2 x1.Files.length cap3, .slice a5 x1.Sessions.length cap6]) ∧ F n0 = none ∧ SR F (.slice a2 x1.Files.length cap3) x1.Files ∧ SR F (.slice a5 x1.Sessions.length cap6) x1.Sessions ∧ f_spec_StateOK_J2 x1181 (f_spec_StateOK_L1 x1 k1) x1360 = some res) ?_ ?_
          · refine W.regionD [0, 1, 2, 3, 4, 5, 6, 7, 8, 9, 10, 11, 12, 13, 14, 15, 16, 17, 18, 19, 20, 21, 22, 23, 24, 25] [false, false, false, false, false, false, false, false, false, false, false, false, false, false, false, false, false, false, false, false, false, false, false, false, false, false] rfl rfl (by kernel_rfl) (by kernel_rfl) (by (conv => lhs; simp only [List.map_cons, List.map_nil, List.getD_cons_zero, List.getD_cons_succ]) <;> rfl) ?_
            refine WL.fieldAddr .r rfl rfl rfl Try.underlying50 rfl info9 rfl rfl ?_
            refine WL.load1 .r rfl rfl rfl Try.underlying9 rfl rfl ho1314 rfl ?_
            obtain ⟨x1368, hx1368, hr⟩ := bnd_some hr
            refine GL.callP g.good .r rfl rfl rfl rfl rfl rfl Try.func39 rfl rfl (Nat.le_refl _) (f_spec_NameOK_k  g hS1313 hx1368) (fun v n1369 H1370 hn1371 hk1372 hp1373 => ?_)
            obtain ⟨hS1374, rfl⟩ := hp1373
            have ho1375 := (hk1372 _ (by have := lt1186; omega)).trans ho1316
            have ho1376 := (hk1372 _ (by have := lt1310; omega)).trans ho1314
            have hS1377 : St n0 n1369 H1370 F1178 := ⟨by have := hS1313.lo; omega, hS1374.hb, hS1374.fh⟩
            have hlon1369 := hS1377.lo
            refine WL.not .r rfl rfl rfl rfl ?_
            refine WL.move .r rfl rfl rfl rfl ?_
            refine WL.guard rfl rfl rfl (fun hg1378 => ?_) (fun hg1378 => ?_)
            · replace hr := iteB_pos hr hg1378
              refine WL.skip .r rfl rfl ?_
              refine WL.skip .r rfl rfl ?_
              refine WL.skip .r rfl rfl ?_
              refine WL.skip .r rfl rfl ?_
              refine WL.skip .r rfl rfl ?_
              refine WL.skip .r rfl rfl ?_
              refine WL.skip .r rfl rfl ?_
              refine WL.skip .r rfl rfl ?_
              refine WL.pick .r rfl rfl rfl rfl rfl ?_
              refine WL.move .r rfl rfl rfl rfl ?_
              refine WL.skip .r rfl rfl ?_
              refine WL.skip .r rfl rfl ?_
              refine WL.skip .r rfl rfl ?_
              refine WL.skip .r rfl rfl ?_
              refine WL.pick .r rfl rfl rfl rfl rfl ?_
              refine WL.move .r rfl rfl rfl rfl ?_
              refine WL.skip .r rfl rfl ?_
              refine WL.skip .r rfl rfl ?_
              refine WL.skip .r rfl rfl ?_
              refine WL.skip .r rfl rfl ?_
              refine WL.pick .r rfl rfl rfl rfl rfl ?_
              with_reducible refine WL.nil ?_
              with_reducible refine Ex.thn_norm ?_
              exact ⟨[(1, .pointer (some ⟨n0, 0, none⟩)), (3, .int .i64 x1181), (54, .bool true)], (Fr.le_cons rfl (Fr.le_cons rfl (Fr.le_cons rfl Fr.le_nil))), true, F1178, rfl, hS1377, (hE1180.up (by omega)), ho1375, fo1185, h1182, h1183, hr⟩
            · replace hr := iteB_neg hr hg1378
              refine WL.fieldAddr .r rfl rfl rfl Try.underlying26 rfl info23 rfl rfl ?_
              refine WL.load1 .r rfl rfl rfl Try.underlying23 rfl rfl ho1375 rfl ?_
              refine WL.move .r rfl rfl rfl rfl ?_
              obtain ⟨xs1379, hxs1379, hr⟩ := bnd_some hr
              refine GL.slice .r rfl rfl rfl Try.underlying23 info50 rfl rfl h1182 hS1377.fh rfl ⟨_, rfl⟩ hxs1379 (fun a1380 cap1381 hid1382 h1383 => ?_)
              refine WL.fieldAddr .r rfl rfl rfl Try.underlying50 rfl info9 rfl rfl ?_
              refine WL.load1 .r rfl rfl rfl Try.underlying9 rfl rfl ho1376 rfl ?_
              obtain ⟨x1384, hx1384, hr⟩ := bnd_some hr
              refine GL.callP g.good .r rfl rfl rfl rfl rfl rfl Try.func40 rfl rfl (Nat.le_refl _) (f_spec_l09File_k  g hS1377 h1383 hx1384) (fun v n1385 H1386 hn1387 hk1388 hp1389 => ?_)
              obtain ⟨hS1390, rfl⟩ := hp1389
              have ho1391 := (hk1388 _ (by have := lt1186; omega)).trans ho1375
              have ho1392 := (hk1388 _ (by have := lt1310; omega)).trans ho1376
              have hS1393 : St n0 n1385 H1386 F1178 := ⟨by have := hS1377.lo; omega, hS1390.hb, hS1390.fh⟩
              have hlon1385 := hS1393.lo
              refine WL.bin .r rfl rfl rfl rfl rfl rfl ?_
              refine WL.pick .r rfl rfl rfl rfl rfl ?_
              refine WL.move .r rfl rfl rfl rfl ?_
              refine WL.guardD rfl rfl rfl (fun hg1394 => ?_) (fun hg1394 => ?_)
              · replace hr := ite_pos hr hg1394
                refine WL.skip .r rfl rfl ?_
                refine WL.skip .r rfl rfl ?_
                refine WL.skip .r rfl rfl ?_
                refine WL.skip .r rfl rfl ?_
                refine WL.pick .r rfl rfl rfl rfl rfl ?_
                refine WL.move .r rfl rfl rfl rfl ?_
                refine WL.skip .r rfl rfl ?_
                refine WL.skip .r rfl rfl ?_
                refine WL.skip .r rfl rfl ?_
                refine WL.skip .r rfl rfl ?_
                refine WL.pick .r rfl rfl rfl rfl rfl ?_
                with_reducible refine WL.nil ?_
                with_reducible refine Ex.thn_norm ?_
                exact ⟨[(1, .pointer (some ⟨n0, 0, none⟩)), (3, .int .i64 x1181), (54, .bool true)], (Fr.le_cons rfl (Fr.le_cons rfl (Fr.le_cons rfl Fr.le_nil))), true, F1178, rfl, hS1393, (hE1180.up (by omega)), ho1391, fo1185, h1182, h1183, hr⟩
              · replace hr := ite_neg hr hg1394
                refine WL.fieldAddr .r rfl rfl rfl Try.underlying50 rfl info3 rfl rfl ?_
                refine WL.load1 .r rfl rfl rfl Try.underlying3 rfl rfl ho1392 rfl ?_
                obtain ⟨x1395, hx1395, hr⟩ := bnd_some hr
                refine GL.callP g.good .r rfl rfl rfl rfl rfl rfl Try.func41 rfl rfl (Nat.le_refl _) (f_spec_l02In_k  g hS1393 hx1395) (fun v n1396 H1397 hn1398 hk1399 hp1400 => ?_)
                obtain ⟨hS1401, rfl⟩ := hp1400
                have ho1402 := (hk1399 _ (by have := lt1186; omega)).trans ho1391
                have ho1403 := (hk1399 _ (by have := lt1310; omega)).trans ho1392
                have hS1404 : St n0 n1396 H1397 F1178 := ⟨by have := hS1393.lo; omega, hS1401.hb, hS1401.fh⟩
                have hlon1396 := hS1404.lo
                refine WL.not .r rfl rfl rfl rfl ?_
                refine WL.pick .r rfl rfl rfl rfl rfl ?_
                refine WL.move .r rfl rfl rfl rfl ?_
                refine WL.guard rfl rfl rfl (fun hg1405 => ?_) (fun hg1405 => ?_)
                · replace hr := iteB_pos hr hg1405
                  refine WL.skip .r rfl rfl ?_
                  refine WL.skip .r rfl rfl ?_
                  refine WL.skip .r rfl rfl ?_
                  refine WL.skip .r rfl rfl ?_
                  refine WL.pick .r rfl rfl rfl rfl rfl ?_
                  with_reducible refine WL.nil ?_
                  with_reducible refine Ex.thn_norm ?_
                  exact ⟨[(1, .pointer (some ⟨n0, 0, none⟩)), (3, .int .i64 x1181), (54, .bool true)], (Fr.le_cons rfl (Fr.le_cons rfl (Fr.le_cons rfl Fr.le_nil))), true, F1178, rfl, hS1404, (hE1180.up (by omega)), ho1402, fo1185, h1182, h1183, hr⟩
                · replace hr := iteB_neg hr hg1405
                  refine WL.fieldAddr .r rfl rfl rfl Try.underlying50 rfl info9 rfl rfl ?_
                  refine WL.load1 .r rfl rfl rfl Try.underlying9 rfl rfl ho1403 rfl ?_
                  refine GL.lenStr .r rfl rfl rfl Try.underlying9 rfl ?_
                  refine WL.bin .r rfl rfl rfl rfl rfl rfl ?_
                  refine WL.pick .r rfl rfl rfl rfl rfl ?_
                  with_reducible refine WL.nil ?_
                  with_reducible refine Ex.thn_norm ?_
                  exact ⟨[(1, .pointer (some ⟨n0, 0, none⟩)), (3, .int .i64 x1181), (54, .bool (decide ((8000 : Int) < (x1297.Text.length : Int))))], (Fr.le_cons rfl (Fr.le_cons rfl (Fr.le_cons rfl Fr.le_nil))), (decide ((8000 : Int) < (x1297.Text.length : Int))), F1178, rfl, hS1404, (hE1180.up (by omega)), ho1402, fo1185, h1182, h1183, hr⟩
          · intro _ n1355 H1356 hI
            obtain ⟨x1360, F1357, rfl, hS1358, hE1359, ho1363, fo1364, h1361, h1362, hr⟩ := hI
            have lt1365 := hS1358.lt ho1363
            have hlen1355 := hE1359.le
            have hlon1355 := hS1358.lo
            unfold f_spec_StateOK_J2 at hr
            refine W.cond rfl (fun hc1366 => ?_) (fun hc1366 => ?_)
            · replace hr := iteB_pos hr hc1366
              with_reducible refine W.seq ?_
              with_reducible refine W.region ?_
              refine WL.assign .nil rfl rfl rfl rfl ?_
              with_reducible refine WL.nil ?_
              with_reducible refine Ex.thn_norm ?_
              with_reducible refine W.ret ?_
              with_reducible refine Ex.blk_ret ?_
              with_reducible refine Ex.thn_ret ?_
              with_reducible refine Ex.thn_ret ?_
              with_reducible refine Ex.blk_ret ?_
              with_reducible refine Ex.thn_ret ?_
              obtain rfl := Option.some.inj hr
              exact ⟨.inr rfl, _, (.cons (.tmp rfl) .nil), ⟨(Ext.st hE1359 hS1358), rfl⟩⟩
            · replace hr := iteB_neg hr hc1366
              with_reducible refine W.skip ?_
              with_reducible refine Ex.blk_norm ?_
              with_reducible refine Ex.thn_norm ?_
              with_reducible refine W.region ?_
              refine WL.move .nil rfl rfl rfl rfl ?_
              obtain ⟨hc1367, hr⟩ := chk_some hr
              refine WL.addI .nil rfl rfl rfl rfl rfl hc1367.1 hc1367.2 ?_
              refine WL.assign .nil rfl rfl rfl rfl ?_
              with_reducible refine WL.nil ?_
              with_reducible refine Ex.thn_norm ?_
              exact ⟨[(1, .pointer (some ⟨n0, 0, none⟩)), (3, .int .i64 (x1181 + 1))], (Fr.le_cons rfl (Fr.le_cons rfl Fr.le_nil)), (x1181 + 1), F1357, rfl, hS1358, hE1359, ho1363, fo1364, h1361, h1362, hr⟩
        · replace hr := ite_neg hr hc1188
          with_reducible refine W.exit ?_
          with_reducible refine Ex.thn_ex ?_
          with_reducible refine Ex.thn_ex ?_
          with_reducible refine Ex.blk_here ?_
          with_reducible refine Ex.thn_norm ?_
          with_reducible refine W.seq ?_
          with_reducible refine W.seq ?_
          with_reducible refine W.region ?_
          refine WL.assign .nil rfl rfl rfl rfl ?_
          with_reducible refine WL.nil ?_
          with_reducible refine Ex.thn_norm ?_
          with_reducible refine W.block ?_
          refine W.loopF (fun k3 fr n H => ∃ (x1950 : Int) (F : Heap), fr = [(1, .pointer (some ⟨n0, 0, none⟩)), (5, .int .i64 x1950)] ∧ St n0 n H F ∧ Ext n0 F0 n F ∧ H n0 = some (.row 1 [.slice a2 x1.Files.length cap3, .slice a5 x1.Sessions.length cap6]) ∧ F n0 = none ∧ SR F (.slice a2 x1.Files.length cap3) x1.Files ∧ SR F (.slice a5 x1.Sessions.length cap6) x1.Sessions ∧ f_spec_StateOK_L3 x1 k3 x1950 = some res) BIG (fr0 := [(1, .pointer (some ⟨n0, 0, none⟩)), (5, .int .i64 0)]) (Fr.le_cons rfl (Fr.le_cons rfl Fr.le_nil)) ?_ ?_ ?_
          · exact ⟨0, F1178, rfl, hS1179, hE1180, ho1184, fo1185, h1182, h1183, hr⟩
          · intro fr n H hI
            obtain ⟨x1950, F1947, hfr, hS1948, hE1949, ho1953, fo1954, h1951, h1952, hr⟩ := hI
            rw [f_spec_StateOK_L3] at hr
            cases hr
          · intro k3 _ n1945 H1946 hI
            obtain ⟨x1950, F1947, rfl, hS1948, hE1949, ho1953, fo1954, h1951, h1952, hr⟩ := hI
            have lt1955 := hS1948.lt ho1953
            have hlen1945 := hE1949.le
            have hlon1945 := hS1948.lo
            rw [f_spec_StateOK_L3] at hr
            with_reducible refine W.seq ?_
            with_reducible refine W.seq ?_
            with_reducible refine W.region ?_
            refine WL.move .nil rfl rfl rfl rfl ?_
            refine WL.fieldAddr .nil rfl rfl rfl Try.underlying26 rfl info24 rfl rfl ?_
            refine WL.load1 .nil rfl rfl rfl Try.underlying24 rfl rfl ho1953 rfl ?_
            refine WL.len .nil rfl rfl rfl Try.underlying24 rfl ?_
            refine WL.bin .nil rfl rfl rfl rfl rfl rfl ?_
            with_reducible refine WL.nil ?_
            with_reducible refine Ex.thn_norm ?_
            refine W.condD rfl (fun hc1957 => ?_) (fun hc1957 => ?_)
            · replace hr := ite_pos hr hc1957
              with_reducible refine W.skip ?_
              with_reducible refine Ex.thn_norm ?_
              with_reducible refine W.seq ?_
              with_reducible refine W.block ?_
              with_reducible refine W.seq ?_
              with_reducible refine W.region ?_
              refine WL.fieldAddr .nil rfl rfl rfl Try.underlying26 rfl info24 rfl rfl ?_
              refine WL.load1 .nil rfl rfl rfl Try.underlying24 rfl rfl ho1953 rfl ?_
              refine WL.move .nil rfl rfl rfl rfl ?_
              obtain ⟨x2086, hx2086, hr⟩ := bnd_some hr
              refine GL.index .nil rfl rfl rfl Try.underlying24 info54 rfl rfl h1952 hS1948.fh rfl hx2086 (fun b2087 kp2088 c2089 ecs2090 hrow2091 hwin2092 hR2093 => ?_)
              obtain ⟨rfl⟩ := GSession.ofR hR2093
              refine WL.loadN .nil (l' := [.int .i64 x2086.Client, .int .i64 x2086.Seq, .int .i64 x2086.Reply.Code, .int .i64 x2086.Reply.Version, str x2086.Reply.Sha]) rfl rfl rfl Try.underlying54 rfl info54 rfl hrow2091 hwin2092 rfl ?_
              refine GL.alloc hS1948 .nil (zc := [.int .i64 0, .int .i64 0, .int .i64 0, .int .i64 0, str ([] : List UInt8)]) rfl rfl rfl info54 rfl rfl rfl (fun H2094 hS2095 ho2096 hk2097 => ?_)
              have fo2098 := hS1948.fnone (Nat.le_refl _)
              have ho2100 := (hk2097 _ (by have := lt1955; omega)).trans ho1953
              have hlon19451 := hS2095.lo
              have lt2099 : n1945 < (n1945 + 1) := by omega
              refine GL.store hS2095 .nil (vc := [.int .i64 x2086.Client, .int .i64 x2086.Seq, .int .i64 x2086.Reply.Code, .int .i64 x2086.Reply.Version, str x2086.Reply.Sha]) (c' := [.int .i64 x2086.Client, .int .i64 x2086.Seq, .int .i64 x2086.Reply.Code, .int .i64 x2086.Reply.Version, str x2086.Reply.Sha]) rfl rfl rfl info54 rfl rfl rfl rfl ho2096 fo2098 (Nat.le_of_ble_eq_true rfl) (by omega) (by repeat' (first | exact List.forall_mem_nil _ | refine List.forall_mem_cons.2 ⟨?_, ?_⟩ | rfl)) rfl (fun H2101 hS2102 ho2103 hk2104 => ?_)
              have ho2105 := (hk2104 _ (by omega)).trans ho2100
              with_reducible refine WL.nil ?_
              with_reducible refine Ex.thn_norm ?_
              with_reducible refine W.seq ?_
              refine W.cut (fun fr n H => ∃ (x2159 : Bool) (F : Heap), fr = [(1, .pointer (some ⟨n0, 0, none⟩)), (5, .int .i64 x1950), (92, .bool x2159)] ∧ St n0 n H F ∧ Ext n0 F0 n F ∧ H n0 = some (.row 1 [.slice a2 x1.Files.length cap3, .slice a5 x1.Sessions.length cap6]) ∧ F n0 = none ∧ SR F (.slice a2 x1.Files.length cap3) x1.Files ∧ SR F (.slice a5 x1.Sessions.length cap6) x1.Sessions ∧ f_spec_StateOK_J4 x1950 (f_spec_StateOK_L3 x1 k3) x2159 = some res) ?_ ?_
              · refine W.regionD [0, 1, 2, 3, 4, 5, 6, 7, 8, 9, 10, 11, 12, 13, 14, 15, 16, 17, 18, 19, 20, 21, 22, 23, 24, 25] [false, false, false, false, false, false, false, false, false, false, false, false, false, false, false, false, false, false, false, false, false, false, false, false, false, false] rfl rfl (by kernel_rfl) (by kernel_rfl) (by (conv => lhs; simp only [List.map_cons, List.map_nil, List.getD_cons_zero, List.getD_cons_succ]) <;> rfl) ?_
                refine WL.fieldAddr .r rfl rfl rfl Try.underlying54 rfl info3 rfl rfl ?_
                refine WL.load1 .r rfl rfl rfl Try.underlying3 rfl rfl ho2103 rfl ?_
                obtain ⟨x2167, hx2167, hr⟩ := bnd_some hr
                refine GL.callP g.good .r rfl rfl rfl rfl rfl rfl Try.func41 rfl rfl (Nat.le_refl _) (f_spec_l02In_k  g hS2102 hx2167) (fun v n2168 H2169 hn2170 hk2171 hp2172 => ?_)
                obtain ⟨hS2173, rfl⟩ := hp2172
                have ho2174 := (hk2171 _ (by have := lt1955; omega)).trans ho2105
                have ho2175 := (hk2171 _ (by have := lt2099; omega)).trans ho2103
                have hS2176 : St n0 n2168 H2169 F1947 := ⟨by have := hS2102.lo; omega, hS2173.hb, hS2173.fh⟩
                have hlon2168 := hS2176.lo
                refine WL.not .r rfl rfl rfl rfl ?_
                refine WL.move .r rfl rfl rfl rfl ?_
                refine WL.guard rfl rfl rfl (fun hg2177 => ?_) (fun hg2177 => ?_)
                · replace hr := iteB_pos hr hg2177
                  refine WL.skip .r rfl rfl ?_
                  refine WL.skip .r rfl rfl ?_
                  refine WL.skip .r rfl rfl ?_
                  refine WL.skip .r rfl rfl ?_
                  refine WL.pick .r rfl rfl rfl rfl rfl ?_
                  refine WL.move .r rfl rfl rfl rfl ?_
                  refine WL.skip .r rfl rfl ?_
                  refine WL.skip .r rfl rfl ?_
                  refine WL.skip .r rfl rfl ?_
                  refine WL.skip .r rfl rfl ?_
                  refine WL.skip .r rfl rfl ?_
                  refine WL.skip .r rfl rfl ?_
                  refine WL.skip .r rfl rfl ?_
                  refine WL.skip .r rfl rfl ?_
                  refine WL.pick .r rfl rfl rfl rfl rfl ?_
                  refine WL.move .r rfl rfl rfl rfl ?_
                  refine WL.skip .r rfl rfl ?_
                  refine WL.skip .r rfl rfl ?_
                  refine WL.skip .r rfl rfl ?_
                  refine WL.skip .r rfl rfl ?_
                  refine WL.pick .r rfl rfl rfl rfl rfl ?_
                  with_reducible refine WL.nil ?_
                  with_reducible refine Ex.thn_norm ?_
                  exact ⟨[(1, .pointer (some ⟨n0, 0, none⟩)), (5, .int .i64 x1950), (92, .bool true)], (Fr.le_cons rfl (Fr.le_cons rfl (Fr.le_cons rfl Fr.le_nil))), true, F1947, rfl, hS2176, (hE1949.up (by omega)), ho2174, fo1954, h1951, h1952, hr⟩
                · replace hr := iteB_neg hr hg2177
                  refine WL.fieldAddr .r rfl rfl rfl Try.underlying54 rfl info3 rfl rfl ?_
                  refine WL.load1 .r rfl rfl rfl Try.underlying3 rfl rfl ho2175 rfl ?_
                  obtain ⟨x2178, hx2178, hr⟩ := bnd_some hr
                  refine GL.callP g.good .r rfl rfl rfl rfl rfl rfl Try.func41 rfl rfl (Nat.le_refl _) (f_spec_l02In_k  g hS2176 hx2178) (fun v n2179 H2180 hn2181 hk2182 hp2183 => ?_)
                  obtain ⟨hS2184, rfl⟩ := hp2183
                  have ho2185 := (hk2182 _ (by have := lt1955; omega)).trans ho2174
                  have ho2186 := (hk2182 _ (by have := lt2099; omega)).trans ho2175
                  have hS2187 : St n0 n2179 H2180 F1947 := ⟨by have := hS2176.lo; omega, hS2184.hb, hS2184.fh⟩
                  have hlon2179 := hS2187.lo
                  refine WL.not .r rfl rfl rfl rfl ?_
                  refine WL.pick .r rfl rfl rfl rfl rfl ?_
                  refine WL.move .r rfl rfl rfl rfl ?_
                  refine WL.guard rfl rfl rfl (fun hg2188 => ?_) (fun hg2188 => ?_)
                  · replace hr := iteB_pos hr hg2188
                    refine WL.skip .r rfl rfl ?_
                    refine WL.skip .r rfl rfl ?_
                    refine WL.skip .r rfl rfl ?_
                    refine WL.skip .r rfl rfl ?_
                    refine WL.skip .r rfl rfl ?_
                    refine WL.skip .r rfl rfl ?_
                    refine WL.skip .r rfl rfl ?_
                    refine WL.skip .r rfl rfl ?_
                    refine WL.pick .r rfl rfl rfl rfl rfl ?_
                    refine WL.move .r rfl rfl rfl rfl ?_
                    refine WL.skip .r rfl rfl ?_
                    refine WL.skip .r rfl rfl ?_
                    refine WL.skip .r rfl rfl ?_
                    refine WL.skip .r rfl rfl ?_
                    refine WL.pick .r rfl rfl rfl rfl rfl ?_
                    with_reducible refine WL.nil ?_
                    with_reducible refine Ex.thn_norm ?_
                    exact ⟨[(1, .pointer (some ⟨n0, 0, none⟩)), (5, .int .i64 x1950), (92, .bool true)], (Fr.le_cons rfl (Fr.le_cons rfl (Fr.le_cons rfl Fr.le_nil))), true, F1947, rfl, hS2187, (hE1949.up (by omega)), ho2185, fo1954, h1951, h1952, hr⟩
                  · replace hr := iteB_neg hr hg2188
                    refine WL.fieldAddr .r rfl rfl rfl Try.underlying26 rfl info24 rfl rfl ?_
                    refine WL.load1 .r rfl rfl rfl Try.underlying24 rfl rfl ho2185 rfl ?_
                    refine WL.move .r rfl rfl rfl rfl ?_
                    obtain ⟨xs2189, hxs2189, hr⟩ := bnd_some hr
                    refine GL.slice .r rfl rfl rfl Try.underlying24 info54 rfl rfl h1952 hS2187.fh rfl ⟨_, rfl⟩ hxs2189 (fun a2190 cap2191 hid2192 h2193 => ?_)
                    refine WL.fieldAddr .r rfl rfl rfl Try.underlying54 rfl info3 rfl rfl ?_
                    refine WL.load1 .r rfl rfl rfl Try.underlying3 rfl rfl ho2186 rfl ?_
                    obtain ⟨x2194, hx2194, hr⟩ := bnd_some hr
                    refine GL.callP g.good .r rfl rfl rfl rfl rfl rfl Try.func42 rfl rfl (Nat.le_refl _) (f_spec_l09Session_k  g hS2187 h2193 hx2194) (fun v n2195 H2196 hn2197 hk2198 hp2199 => ?_)
                    obtain ⟨hS2200, rfl⟩ := hp2199
                    have ho2201 := (hk2198 _ (by have := lt1955; omega)).trans ho2185
                    have ho2202 := (hk2198 _ (by have := lt2099; omega)).trans ho2186
                    have hS2203 : St n0 n2195 H2196 F1947 := ⟨by have := hS2187.lo; omega, hS2200.hb, hS2200.fh⟩
                    have hlon2195 := hS2203.lo
                    refine WL.bin .r rfl rfl rfl rfl rfl rfl ?_
                    refine WL.pick .r rfl rfl rfl rfl rfl ?_
                    refine WL.move .r rfl rfl rfl rfl ?_
                    refine WL.guardD rfl rfl rfl (fun hg2204 => ?_) (fun hg2204 => ?_)
                    · replace hr := ite_pos hr hg2204
                      refine WL.skip .r rfl rfl ?_
                      refine WL.skip .r rfl rfl ?_
                      refine WL.skip .r rfl rfl ?_
                      refine WL.skip .r rfl rfl ?_
                      refine WL.pick .r rfl rfl rfl rfl rfl ?_
                      with_reducible refine WL.nil ?_
                      with_reducible refine Ex.thn_norm ?_
                      exact ⟨[(1, .pointer (some ⟨n0, 0, none⟩)), (5, .int .i64 x1950), (92, .bool true)], (Fr.le_cons rfl (Fr.le_cons rfl (Fr.le_cons rfl Fr.le_nil))), true, F1947, rfl, hS2203, (hE1949.up (by omega)), ho2201, fo1954, h1951, h1952, hr⟩
                    · replace hr := ite_neg hr hg2204
                      refine WL.fieldAddr .r rfl rfl rfl Try.underlying54 rfl info52 rfl rfl ?_
                      refine WL.loadN .r (l' := [.int .i64 x2086.Reply.Code, .int .i64 x2086.Reply.Version, str x2086.Reply.Sha]) rfl rfl rfl Try.underlying52 rfl info52 rfl ho2202 rfl rfl ?_
                      obtain ⟨x2205, hx2205, hr⟩ := bnd_some hr
                      refine GL.callP g.good .r rfl rfl rfl rfl rfl rfl Try.func43 rfl rfl (Nat.le_refl _) (f_spec_l09Reply_k  g hS2203 hx2205) (fun v n2206 H2207 hn2208 hk2209 hp2210 => ?_)
                      obtain ⟨hS2211, rfl⟩ := hp2210
                      have ho2212 := (hk2209 _ (by have := lt1955; omega)).trans ho2201
                      have ho2213 := (hk2209 _ (by have := lt2099; omega)).trans ho2202
                      have hS2214 : St n0 n2206 H2207 F1947 := ⟨by have := hS2203.lo; omega, hS2211.hb, hS2211.fh⟩
                      have hlon2206 := hS2214.lo
                      refine WL.not .r rfl rfl rfl rfl ?_
                      refine WL.pick .r rfl rfl rfl rfl rfl ?_
                      with_reducible refine WL.nil ?_
                      with_reducible refine Ex.thn_norm ?_
                      exact ⟨[(1, .pointer (some ⟨n0, 0, none⟩)), (5, .int .i64 x1950), (92, .bool (!x2205))], (Fr.le_cons rfl (Fr.le_cons rfl (Fr.le_cons rfl Fr.le_nil))), (!x2205), F1947, rfl, hS2214, (hE1949.up (by omega)), ho2212, fo1954, h1951, h1952, hr⟩
              · intro _ n2154 H2155 hI
                obtain ⟨x2159, F2156, rfl, hS2157, hE2158, ho2162, fo2163, h2160, h2161, hr⟩ := hI
                have lt2164 := hS2157.lt ho2162
                have hlen2154 := hE2158.le
                have hlon2154 := hS2157.lo
                unfold f_spec_StateOK_J4 at hr
                refine W.cond rfl (fun hc2165 => ?_) (fun hc2165 => ?_)
                · replace hr := iteB_pos hr hc2165
                  with_reducible refine W.seq ?_
                  with_reducible refine W.region ?_
                  refine WL.assign .nil rfl rfl rfl rfl ?_
                  with_reducible refine WL.nil ?_
                  with_reducible refine Ex.thn_norm ?_
                  with_reducible refine W.ret ?_
                  with_reducible refine Ex.blk_ret ?_
                  with_reducible refine Ex.thn_ret ?_
                  with_reducible refine Ex.thn_ret ?_
                  with_reducible refine Ex.blk_ret ?_
                  with_reducible refine Ex.thn_ret ?_
                  obtain rfl := Option.some.inj hr
                  exact ⟨.inr rfl, _, (.cons (.tmp rfl) .nil), ⟨(Ext.st hE2158 hS2157), rfl⟩⟩
                · replace hr := iteB_neg hr hc2165
                  with_reducible refine W.skip ?_
                  with_reducible refine Ex.blk_norm ?_
                  with_reducible refine Ex.thn_norm ?_
                  with_reducible refine W.region ?_
                  refine WL.move .nil rfl rfl rfl rfl ?_
                  obtain ⟨hc2166, hr⟩ := chk_some hr
                  refine WL.addI .nil rfl rfl rfl rfl rfl hc2166.1 hc2166.2 ?_
                  refine WL.assign .nil rfl rfl rfl rfl ?_
                  with_reducible refine WL.nil ?_
                  with_reducible refine Ex.thn_norm ?_
                  exact ⟨[(1, .pointer (some ⟨n0, 0, none⟩)), (5, .int .i64 (x1950 + 1))], (Fr.le_cons rfl (Fr.le_cons rfl Fr.le_nil)), (x1950 + 1), F2156, rfl, hS2157, hE2158, ho2162, fo2163, h2160, h2161, hr⟩
            · replace hr := ite_neg hr hc1957
              with_reducible refine W.exit ?_
              with_reducible refine Ex.thn_ex ?_
              with_reducible refine Ex.thn_ex ?_
              with_reducible refine Ex.blk_here ?_
              with_reducible refine Ex.thn_norm ?_
              with_reducible refine W.seq ?_
              with_reducible refine W.region ?_
              refine WL.assign .nil rfl rfl rfl rfl ?_
              with_reducible refine WL.nil ?_
              with_reducible refine Ex.thn_norm ?_
              with_reducible refine W.ret ?_
              obtain rfl := Option.some.inj hr
              exact ⟨.inr rfl, _, (.cons (.tmp rfl) .nil), ⟨(Ext.st hE1949 hS1948), rfl⟩⟩
theorem f_spec_ReadState_k {Δ : Prims} (g : Env Try.prog Δ) {lo n0 : Nat} {H0 F0 : Heap} (hS : St lo n0 H0 F0) {a2 : Option Addr} {cap3 : Nat} {xs1 : (List UInt8)} (h4 : SR F0 (.slice a2 xs1.length cap3) xs1) {res : (GState × Int)} (hr : f_spec_ReadState xs1 = some res) :
    C Try.prog Δ n0 5 [.slice a2 xs1.length cap3] n0 H0 (fun v n H => ∃ (ra1 : Option Addr) (rcap2 : Nat) (ra4 : Option Addr) (rcap5 : Nat), St n0 n H F0 ∧ v = .tuple #[.agg [.slice ra1 res.1.Files.length rcap2, .slice ra4 res.1.Sessions.length rcap5].toArray, .int .i64 res.2] ∧ OW n0 n H F0 (.slice ra1 res.1.Files.length rcap2) res.1.Files ∧ OW n0 n H F0 (.slice ra4 res.1.Sessions.length rcap5) res.1.Sessions ∧ (∀ b, idOf (.slice ra4 res.1.Sessions.length rcap5) = some b → idOf (.slice ra1 res.1.Files.length rcap2) ≠ some b)) := by
  refine C.body Try.func5 rfl rfl ?_
  unfold f_spec_ReadState at hr
  have hS0 : St n0 n0 H0 F0 := hS.low (Nat.le_refl _)
  have hE0 := Ext.refl n0 F0
  have hlo0 := hS0.lo
  with_reducible refine W.seq ?_
  with_reducible refine W.region ?_
  refine GL.alloc hS0 .nil (zc := [.slice none 0 0, .slice none 0 0]) rfl rfl rfl info26 rfl rfl rfl (fun H5 hS6 ho7 hk8 => ?_)
  have fo9 := hS0.fnone (Nat.le_refl _)
  have hlon01 := hS6.lo
  have lt10 : n0 < (n0 + 1) := by omega
  refine WL.assign .nil rfl rfl rfl rfl ?_
  with_reducible refine WL.nil ?_
  with_reducible refine Ex.thn_norm ?_
  with_reducible refine W.seq ?_
  with_reducible refine W.seq ?_
  with_reducible refine W.region ?_
  refine WL.move .nil rfl rfl rfl rfl ?_
  refine WL.len .nil rfl rfl rfl Try.underlying22 rfl ?_
  refine WL.bin .nil rfl rfl rfl rfl rfl rfl ?_
  with_reducible refine WL.nil ?_
  with_reducible refine Ex.thn_norm ?_
  refine W.condD rfl (fun hc16 => ?_) (fun hc16 => ?_)
  · replace hr := ite_pos hr hc16
    with_reducible refine W.seq ?_
    with_reducible refine W.region ?_
    refine WL.buildL .nil (cells := [.slice none 0 0, .slice none 0 0]) rfl rfl rfl Try.underlying26 info26 rfl rfl rfl (by simp only [List.mapM_cons, List.mapM_nil, info23, info24]; rfl) rfl (by first | rfl | ((conv => lhs; simp [splice, fillL, cells_int, cells_bool, cells_string, cells_str, cells_slice, cells_ptr, cells_map, cells_func, cells_nilFunc, cells_nilIface, cells_iface, cells_agg, cells_u8]) <;> rfl)) ?_
    refine GL.store hS6 .nil (vc := [.slice none 0 0, .slice none 0 0]) (c' := [.slice none 0 0, .slice none 0 0]) rfl rfl rfl info26 rfl rfl rfl rfl ho7 fo9 (Nat.le_of_ble_eq_true rfl) (by omega) (by repeat' (first | exact List.forall_mem_nil _ | refine List.forall_mem_cons.2 ⟨?_, ?_⟩ | rfl)) rfl (fun H17 hS18 ho19 hk20 => ?_)
    refine WL.assign .nil rfl rfl rfl rfl ?_
    with_reducible refine WL.nil ?_
    with_reducible refine Ex.thn_norm ?_
    with_reducible refine W.ret ?_
    with_reducible refine Ex.thn_ret ?_
    obtain rfl := Option.some.inj hr
    exact ⟨.inr rfl, _, (.cons (.cellN (l := [.slice none 0 0, .slice none 0 0]) rfl Try.underlying26 rfl info26 ho19 rfl rfl) (.cons (.tmp rfl) .nil)), ⟨none, 0, none, 0, (Ext.st hE0 hS18), rfl, OW.nil, OW.nil, (fun b h => by cases h)⟩⟩
  · replace hr := ite_neg hr hc16
    with_reducible refine W.skip ?_
    with_reducible refine Ex.thn_norm ?_
    with_reducible refine W.seq ?_
    with_reducible refine W.region ?_
    refine WL.move .nil rfl rfl rfl rfl ?_
    refine WL.buildL .nil (cells := [.slice a2 xs1.length cap3, .int .i64 0, .bool false]) rfl rfl rfl Try.underlying46 info46 rfl rfl rfl (by simp only [List.mapM_cons, List.mapM_nil, info22, info3, info4]; rfl) rfl (by first | rfl | ((conv => lhs; simp [splice, fillL, cells_int, cells_bool, cells_string, cells_str, cells_slice, cells_ptr, cells_map, cells_func, cells_nilFunc, cells_nilIface, cells_iface, cells_agg, cells_u8]) <;> rfl)) ?_
    refine GL.box hS6 .nil (vc := [.slice a2 xs1.length cap3, .int .i64 0, .bool false]) rfl rfl rfl rfl rfl (by repeat' (first | exact List.forall_mem_nil _ | refine List.forall_mem_cons.2 ⟨?_, ?_⟩ | rfl)) (fun H21 hS22 ho23 hk24 => ?_)
    have fo25 := hS6.fnone (Nat.le_refl _)
    have ho27 := (hk24 _ (by have := lt10; omega)).trans ho7
    have hlon011 := hS22.lo
    have lt26 : (n0 + 1) < ((n0 + 1) + 1) := by omega
    refine WL.assign .nil rfl rfl rfl rfl ?_
    with_reducible refine WL.nil ?_
    with_reducible refine Ex.thn_norm ?_
    with_reducible refine W.seq ?_
    with_reducible refine W.region ?_
    refine WL.buildL .nil (cells := [.slice none 0 0, .slice none 0 0]) rfl rfl rfl Try.underlying26 info26 rfl rfl rfl (by simp only [List.mapM_cons, List.mapM_nil, info23, info24]; rfl) rfl (by first | rfl | ((conv => lhs; simp [splice, fillL, cells_int, cells_bool, cells_string, cells_str, cells_slice, cells_ptr, cells_map, cells_func, cells_nilFunc, cells_nilIface, cells_iface, cells_agg, cells_u8]) <;> rfl)) ?_
    refine GL.alloc hS22 .nil (zc := [.slice none 0 0, .slice none 0 0]) rfl rfl rfl info26 rfl rfl rfl (fun H28 hS29 ho30 hk31 => ?_)
    have fo32 := hS22.fnone (Nat.le_refl _)
    have ho34 := (hk31 _ (by have := lt10; omega)).trans ho27
    have ho35 := (hk31 _ (by have := lt26; omega)).trans ho23
    have hlon0111 := hS29.lo
    have lt33 : ((n0 + 1) + 1) < (((n0 + 1) + 1) + 1) := by omega
    refine GL.store hS29 .nil (vc := [.slice none 0 0, .slice none 0 0]) (c' := [.slice none 0 0, .slice none 0 0]) rfl rfl rfl info26 rfl rfl rfl rfl ho30 fo32 (Nat.le_of_ble_eq_true rfl) (by omega) (by repeat' (first | exact List.forall_mem_nil _ | refine List.forall_mem_cons.2 ⟨?_, ?_⟩ | rfl)) rfl (fun H36 hS37 ho38 hk39 => ?_)
    have ho40 := (hk39 _ (by omega)).trans ho34
    have ho41 := (hk39 _ (by omega)).trans ho35
    with_reducible refine WL.nil ?_
    with_reducible refine Ex.thn_norm ?_
    with_reducible refine W.seq ?_
    with_reducible refine W.seq ?_
    with_reducible refine W.region ?_
    refine WL.move .nil rfl rfl rfl rfl ?_
    obtain ⟨x42, hx42, hr⟩ := bnd_some hr
    refine GL.callIO g .nil (fun i => (F0 i).isSome = true ∨ i = (n0 + 1)) rfl rfl rfl rfl rfl rfl Try.func18 rfl rfl (Nat.le_refl _) hS37.lo (f_spec_l09Reader_number_k (x1 := ({ b := xs1, at_ := 0, bad := false } : Gl09Reader)) g (St.vis hS37 (fun i hi => .inl hi)) (vis_get ho41 (.inr (rfl))) fo25 (by omega) h4 hx42) (fun v n43 H44 H45 hn46 hp47 hle48 hnew49 hk50 hd51 => ?_)
    obtain ⟨F56, a52, cap53, hX57, hS55, ho58, rfl, h54⟩ := hp47
    have hS59 : St n0 n43 H44 _ := ⟨hS55.lo, fun i hi => (hnew49 i (by omega)).trans (hS55.hb i hi), hS55.fh.trans hle48⟩
    have ho60 := (hk50 _ (by have := lt10; omega) (fun hs => by
      rcases hs with h | h
      · rw [fo9] at h; cases h
      · omega)).trans ho40
    have ho61 := (hk50 _ (by have := lt33; omega) (fun hs => by
      rcases hs with h | h
      · rw [fo32] at h; cases h
      · omega)).trans ho38
    have fo62 := (hX57.eq _ (by have := lt10; omega)).trans fo9
    have fo63 := (hX57.eq _ (by have := lt26; omega)).trans fo25
    have fo64 := (hX57.eq _ (by have := lt33; omega)).trans fo32
    have hE65 := (hE0.up (n' := (((n0 + 1) + 1) + 1)) (by omega)).trans hX57
    have ho66 := hle48 _ _ ho58
    have hlon43 := hS59.lo
    have lt67 := hS59.lt ho60
    have lt68 := hS59.lt ho66
    have lt69 := hS59.lt ho61
    refine WL.assign .nil rfl rfl rfl rfl ?_
    with_reducible refine WL.nil ?_
    with_reducible refine Ex.thn_norm ?_
    with_reducible refine W.block ?_
    refine W.loopF (fun k0 fr n H => ∃ (x1648 : Int) (a1649 : Option Addr) (cap1650 : Nat) (xs1651 : (List GFile)) (a1656 : Option Addr) (cap1657 : Nat) (xs1658 : (List UInt8)) (x1660 : Int) (x1661 : Bool) (F : Heap), fr = [(0, .slice a2 xs1.length cap3), (2, .pointer (some ⟨n0, 0, none⟩)), (4, .pointer (some ⟨(n0 + 1), 0, none⟩)), (5, .pointer (some ⟨((n0 + 1) + 1), 0, none⟩)), (6, .int .i64 x1648)] ∧ St n0 n H F ∧ Ext n0 F0 n F ∧ H ((n0 + 1) + 1) = some (.row 1 [.slice a1649 xs1651.length cap1650, .slice none 0 0]) ∧ F ((n0 + 1) + 1) = none ∧ H (n0 + 1) = some (.row 1 [.slice a1656 xs1658.length cap1657, .int .i64 x1660, .bool x1661]) ∧ F (n0 + 1) = none ∧ H n0 = some (.row 1 [.slice none 0 0, .slice none 0 0]) ∧ F n0 = none ∧ SR F (.slice a2 xs1.length cap3) xs1 ∧ OW n0 n H F (.slice a1649 xs1651.length cap1650) xs1651 ∧ SR F (.slice a1656 xs1658.length cap1657) xs1658 ∧ idOf (.slice a1649 xs1651.length cap1650) ≠ some ((n0 + 1) + 1) ∧ idOf (.slice a1649 xs1651.length cap1650) ≠ some (n0 + 1) ∧ idOf (.slice a1649 xs1651.length cap1650) ≠ some n0 ∧ f_spec_ReadState_L0 xs1 k0 x1648 xs1651 xs1658 x1660 x1661 = some res) BIG (fr0 := [(0, .slice a2 xs1.length cap3), (2, .pointer (some ⟨n0, 0, none⟩)), (4, .pointer (some ⟨(n0 + 1), 0, none⟩)), (5, .pointer (some ⟨((n0 + 1) + 1), 0, none⟩)), (6, .int .i64 x42.2)]) (Fr.le_cons rfl (Fr.le_cons rfl (Fr.le_cons rfl (Fr.le_cons rfl (Fr.le_cons rfl Fr.le_nil))))) ?_ ?_ ?_
    · exact ⟨x42.2, none, 0, [], a52, cap53, x42.1.b, x42.1.at_, x42.1.bad, F56, rfl, hS59, hE65, ho61, fo64, ho66, fo63, ho60, fo62, (h4.mono hX57.sub), OW.nil, h54, (fun h => by cases h), (fun h => by cases h), (fun h => by cases h), hr⟩
    · intro fr n H hI
      obtain ⟨x1648, a1649, cap1650, xs1651, a1656, cap1657, xs1658, x1660, x1661, F1644, hfr, hS1645, hE1646, ho1654, fo1655, ho1662, fo1663, ho1664, fo1665, h1647, h1652, h1659, ap1666, ap1667, ap1668, hr⟩ := hI
      rw [f_spec_ReadState_L0] at hr
      cases hr
    · intro k0 _ n1642 H1643 hI
      obtain ⟨x1648, a1649, cap1650, xs1651, a1656, cap1657, xs1658, x1660, x1661, F1644, rfl, hS1645, hE1646, ho1654, fo1655, ho1662, fo1663, ho1664, fo1665, h1647, h1652, h1659, ap1666, ap1667, ap1668, hr⟩ := hI
      have lt1669 := hS1645.lt ho1654
      have lt1670 := hS1645.lt ho1662
      have lt1671 := hS1645.lt ho1664
      have hlen1642 := hE1646.le
      have hlon1642 := hS1645.lo
      rw [f_spec_ReadState_L0] at hr
      with_reducible refine W.seq ?_
      with_reducible refine W.seq ?_
      refine W.cut (fun fr n H => ∃ (x1679 : Bool) (F : Heap), fr = [(0, .slice a2 xs1.length cap3), (2, .pointer (some ⟨n0, 0, none⟩)), (4, .pointer (some ⟨(n0 + 1), 0, none⟩)), (5, .pointer (some ⟨((n0 + 1) + 1), 0, none⟩)), (6, .int .i64 x1648), (27, .bool x1679)] ∧ St n0 n H F ∧ Ext n0 F0 n F ∧ H ((n0 + 1) + 1) = some (.row 1 [.slice a1649 xs1651.length cap1650, .slice none 0 0]) ∧ F ((n0 + 1) + 1) = none ∧ H (n0 + 1) = some (.row 1 [.slice a1656 xs1658.length cap1657, .int .i64 x1660, .bool x1661]) ∧ F (n0 + 1) = none ∧ H n0 = some (.row 1 [.slice none 0 0, .slice none 0 0]) ∧ F n0 = none ∧ SR F (.slice a2 xs1.length cap3) xs1 ∧ OW n0 n H F (.slice a1649 xs1651.length cap1650) xs1651 ∧ SR F (.slice a1656 xs1658.length cap1657) xs1658 ∧ idOf (.slice a1649 xs1651.length cap1650) ≠ some ((n0 + 1) + 1) ∧ idOf (.slice a1649 xs1651.length cap1650) ≠ some (n0 + 1) ∧ idOf (.slice a1649 xs1651.length cap1650) ≠ some n0 ∧ f_spec_ReadState_J1 xs1658 x1660 x1661 xs1651 x1648 (f_spec_ReadState_L0 xs1 k0) xs1 x1679 = some res) ?_ ?_
      · with_reducible refine W.region ?_
        refine WL.move .nil rfl rfl rfl rfl ?_
        refine WL.bin .nil rfl rfl rfl rfl rfl rfl ?_
        refine WL.move .nil rfl rfl rfl rfl ?_
        refine WL.guardD rfl rfl rfl (fun hg5551 => ?_) (fun hg5551 => ?_)
        · replace hr := ite_pos hr hg5551
          refine WL.move .nil rfl rfl rfl rfl ?_
          refine WL.nilCheck .nil rfl rfl rfl rfl ?_
          refine WL.fieldAddr .nil rfl rfl rfl Try.underlying46 rfl info4 rfl rfl ?_
          refine WL.load1 .nil rfl rfl rfl Try.underlying4 rfl rfl ho1662 rfl ?_
          refine WL.not .nil rfl rfl rfl rfl ?_
          refine WL.pick .nil rfl rfl rfl rfl rfl ?_
          with_reducible refine WL.nil ?_
          with_reducible refine Ex.thn_norm ?_
          exact ⟨[(0, .slice a2 xs1.length cap3), (2, .pointer (some ⟨n0, 0, none⟩)), (4, .pointer (some ⟨(n0 + 1), 0, none⟩)), (5, .pointer (some ⟨((n0 + 1) + 1), 0, none⟩)), (6, .int .i64 x1648), (27, .bool (!x1661))], (Fr.le_cons rfl (Fr.le_cons rfl (Fr.le_cons rfl (Fr.le_cons rfl (Fr.le_cons rfl (Fr.le_cons rfl Fr.le_nil)))))), (!x1661), F1644, rfl, hS1645, hE1646, ho1654, fo1655, ho1662, fo1663, ho1664, fo1665, h1647, h1652, h1659, ap1666, ap1667, ap1668, hr⟩
        · replace hr := ite_neg hr hg5551
          refine WL.skip .nil rfl rfl ?_
          refine WL.skip .nil rfl rfl ?_
          refine WL.skip .nil rfl rfl ?_
          refine WL.skip .nil rfl rfl ?_
          refine WL.skip .nil rfl rfl ?_
          refine WL.pick .nil rfl rfl rfl rfl rfl ?_
          with_reducible refine WL.nil ?_
          with_reducible refine Ex.thn_norm ?_
          exact ⟨[(0, .slice a2 xs1.length cap3), (2, .pointer (some ⟨n0, 0, none⟩)), (4, .pointer (some ⟨(n0 + 1), 0, none⟩)), (5, .pointer (some ⟨((n0 + 1) + 1), 0, none⟩)), (6, .int .i64 x1648), (27, .bool false)], (Fr.le_cons rfl (Fr.le_cons rfl (Fr.le_cons rfl (Fr.le_cons rfl (Fr.le_cons rfl (Fr.le_cons rfl Fr.le_nil)))))), false, F1644, rfl, hS1645, hE1646, ho1654, fo1655, ho1662, fo1663, ho1664, fo1665, h1647, h1652, h1659, ap1666, ap1667, ap1668, hr⟩
      · intro _ n1673 H1674 hI
        obtain ⟨x1679, F1675, rfl, hS1676, hE1677, ho1681, fo1682, ho1684, fo1685, ho1686, fo1687, h1678, h1680, h1683, ap1688, ap1689, ap1690, hr⟩ := hI
        have lt1691 := hS1676.lt ho1681
        have lt1692 := hS1676.lt ho1684
        have lt1693 := hS1676.lt ho1686
        have hlen1673 := hE1677.le
        have hlon1673 := hS1676.lo
        unfold f_spec_ReadState_J1 at hr
        refine W.cond rfl (fun hc1695 => ?_) (fun hc1695 => ?_)
        · replace hr := iteB_pos hr hc1695
          with_reducible refine W.skip ?_
          with_reducible refine Ex.thn_norm ?_
          with_reducible refine W.seq ?_
          with_reducible refine W.block ?_
          refine W.regionI (fun H => H ((n0 + 1) + 1) = some (.row 1 [.slice a1649 xs1651.length cap1650, .slice none 0 0])) [0, 1, 2, 4, 6, 3, 5, 7, 8, 9, 10, 11, 12] [(false, true, false), (false, true, false), (false, false, false), (false, true, false), (false, true, false), (true, false, false), (true, false, true), (true, false, true), (false, false, false), (false, false, false), (true, false, true), (false, false, false), (true, false, false)] false rfl (by kernel_rfl) (by kernel_rfl) (by (conv => lhs; simp only [List.map_cons, List.map_nil, List.getD_cons_zero, List.getD_cons_succ]) <;> rfl) ?_
          refine WLI.late (v := .pointer (some ⟨((n0 + 1) + 1), 0, none⟩)) (fun h => by cases h) rfl rfl (fun H2 hI2 => Step.fieldAddr' rfl Try.underlying26 rfl info23 rfl rfl rfl) ?_
          refine WLI.late (v := .slice a1649 xs1651.length cap1650) (fun h => by cases h) rfl rfl (fun H2 hI2 => Step.load1' rfl Try.underlying23 rfl rfl (hI2.elim (fun e => by rw [e]; exact ho1681) (fun h => h)) rfl) ?_
          refine WLI.op (fun h => by cases h) ?_
          refine WL.move .r rfl rfl rfl rfl ?_
          with_reducible refine WL.nil ⟨rfl, ?_⟩
          refine WLI.late (v := .pointer (some ⟨(n0 + 1), 0, none⟩)) (fun h => by cases h) rfl rfl (fun H2 hI2 => .move (.inl rfl) rfl) ?_
          refine WLI.late (v := .pointer (some ⟨(n0 + 1), 0, none⟩)) (fun h => by cases h) rfl rfl (fun H2 hI2 => .move (.inl rfl) rfl) ?_
          refine WLI.op (fun h => by cases h) ?_
          obtain ⟨x1835, hx1835, hr⟩ := bnd_some hr
          have hb1845 := fun b hb => (OW.id_lt (i := b) h1680 hb).2
          refine GL.callIO g .w (fun i => (F1675 i).isSome = true ∨ i = (n0 + 1)) rfl rfl rfl rfl rfl rfl Try.func19 rfl rfl (Nat.le_refl _) hS1676.lo (f_spec_l09Reader_text_k (x1 := ({ b := xs1658, at_ := x1660, bad := x1661 } : Gl09Reader)) g (St.vis hS1676 (fun i hi => .inl hi)) (vis_get ho1684 (.inr (rfl))) fo1685 (by omega) h1683 hx1835) (fun v n1836 H1837 H1838 hn1839 hp1840 hle1841 hnew1842 hk1843 hd1844 => ?_)
          obtain ⟨F1850, a1846, cap1847, hX1851, hS1849, ho1852, rfl, h1848⟩ := hp1840
          have hS1853 : St n0 n1836 H1837 _ := ⟨hS1849.lo, fun i hi => (hnew1842 i (by omega)).trans (hS1849.hb i hi), hS1849.fh.trans hle1841⟩
          have ho1854 := (hk1843 _ (by have := lt1691; omega) (fun hs => by
      rcases hs with h | h
      · rw [fo1682] at h; cases h
      · omega)).trans ho1681
          have ho1855 := (hk1843 _ (by have := lt1693; omega) (fun hs => by
      rcases hs with h | h
      · rw [fo1687] at h; cases h
      · omega)).trans ho1686
          have h1856 := OW.keep (n' := n1836) h1680 (by omega) (fun i hi => hk1843 i (OW.id_lt h1680 hi).2 (fun hs => by
      rcases hs with h | h
      · rw [(OW.fnone h1680 hi)] at h; cases h
      · exact ap1689 (h ▸ hi)))
          have fo1857 := (hX1851.eq _ (by have := lt1691; omega)).trans fo1682
          have fo1858 := (hX1851.eq _ (by have := lt1692; omega)).trans fo1685
          have fo1859 := (hX1851.eq _ (by have := lt1693; omega)).trans fo1687
          have h1860 := OW.keepF h1856 hX1851.sub (fun i hi => (hX1851.eq i (by have := hb1845 i hi; omega)).trans (OW.fnone h1856 hi))
          have hE1861 := (hE1677.up (n' := n1673) (by omega)).trans hX1851
          have ho1862 := hle1841 _ _ ho1852
          have hlon1836 := hS1853.lo
          have lt1863 := hS1853.lt ho1854
          have lt1864 := hS1853.lt ho1862
          have lt1865 := hS1853.lt ho1855
          with_reducible refine WL.nil ⟨rfl, ?_⟩
          refine WLI.op (fun _ => ho1854) ?_
          obtain ⟨x1866, hx1866, hr⟩ := bnd_some hr
          have hb1876 := fun b hb => (OW.id_lt (i := b) h1860 hb).2
          refine GL.callIO g .w (fun i => (F1850 i).isSome = true ∨ i = (n0 + 1)) rfl rfl rfl rfl rfl rfl Try.func18 rfl rfl (Nat.le_refl _) hS1853.lo (f_spec_l09Reader_number_k (x1 := ({ b := x1835.1.b, at_ := x1835.1.at_, bad := x1835.1.bad } : Gl09Reader)) g (St.vis hS1853 (fun i hi => .inl hi)) (vis_get ho1862 (.inr (rfl))) fo1858 (by omega) h1848 hx1866) (fun v n1867 H1868 H1869 hn1870 hp1871 hle1872 hnew1873 hk1874 hd1875 => ?_)
          obtain ⟨F1881, a1877, cap1878, hX1882, hS1880, ho1883, rfl, h1879⟩ := hp1871
          have hS1884 : St n0 n1867 H1868 _ := ⟨hS1880.lo, fun i hi => (hnew1873 i (by omega)).trans (hS1880.hb i hi), hS1880.fh.trans hle1872⟩
          have ho1885 := (hk1874 _ (by have := lt1863; omega) (fun hs => by
      rcases hs with h | h
      · rw [fo1857] at h; cases h
      · omega)).trans ho1854
          have ho1886 := (hk1874 _ (by have := lt1865; omega) (fun hs => by
      rcases hs with h | h
      · rw [fo1859] at h; cases h
      · omega)).trans ho1855
          have h1887 := OW.keep (n' := n1867) h1860 (by omega) (fun i hi => hk1874 i (OW.id_lt h1860 hi).2 (fun hs => by
      rcases hs with h | h
      · rw [(OW.fnone h1860 hi)] at h; cases h
      · exact ap1689 (h ▸ hi)))
          have fo1888 := (hX1882.eq _ (by have := lt1863; omega)).trans fo1857
          have fo1889 := (hX1882.eq _ (by have := lt1864; omega)).trans fo1858
          have fo1890 := (hX1882.eq _ (by have := lt1865; omega)).trans fo1859
          have h1891 := OW.keepF h1887 hX1882.sub (fun i hi => (hX1882.eq i (by have := hb1876 i hi; omega)).trans (OW.fnone h1887 hi))
          have hE1892 := (hE1861.up (n' := n1836) (by omega)).trans hX1882
          have ho1893 := hle1872 _ _ ho1883
          have hlon1867 := hS1884.lo
          have lt1894 := hS1884.lt ho1885
          have lt1895 := hS1884.lt ho1893
          have lt1896 := hS1884.lt ho1886
          with_reducible refine WL.nil ⟨rfl, ?_⟩
          refine WLI.op (fun _ => ho1885) ?_
          obtain ⟨x1897, hx1897, hr⟩ := bnd_some hr
          have hb1907 := fun b hb => (OW.id_lt (i := b) h1891 hb).2
          refine GL.callIO g .w (fun i => (F1881 i).isSome = true ∨ i = (n0 + 1)) rfl rfl rfl rfl rfl rfl Try.func19 rfl rfl (Nat.le_refl _) hS1884.lo (f_spec_l09Reader_text_k (x1 := ({ b := x1866.1.b, at_ := x1866.1.at_, bad := x1866.1.bad } : Gl09Reader)) g (St.vis hS1884 (fun i hi => .inl hi)) (vis_get ho1893 (.inr (rfl))) fo1889 (by omega) h1879 hx1897) (fun v n1898 H1899 H1900 hn1901 hp1902 hle1903 hnew1904 hk1905 hd1906 => ?_)
          obtain ⟨F1912, a1908, cap1909, hX1913, hS1911, ho1914, rfl, h1910⟩ := hp1902
          have hS1915 : St n0 n1898 H1899 _ := ⟨hS1911.lo, fun i hi => (hnew1904 i (by omega)).trans (hS1911.hb i hi), hS1911.fh.trans hle1903⟩
          have ho1916 := (hk1905 _ (by have := lt1894; omega) (fun hs => by
      rcases hs with h | h
      · rw [fo1888] at h; cases h
      · omega)).trans ho1885
          have ho1917 := (hk1905 _ (by have := lt1896; omega) (fun hs => by
      rcases hs with h | h
      · rw [fo1890] at h; cases h
      · omega)).trans ho1886
          have h1918 := OW.keep (n' := n1898) h1891 (by omega) (fun i hi => hk1905 i (OW.id_lt h1891 hi).2 (fun hs => by
      rcases hs with h | h
      · rw [(OW.fnone h1891 hi)] at h; cases h
      · exact ap1689 (h ▸ hi)))
          have fo1919 := (hX1913.eq _ (by have := lt1894; omega)).trans fo1888
          have fo1920 := (hX1913.eq _ (by have := lt1895; omega)).trans fo1889
          have fo1921 := (hX1913.eq _ (by have := lt1896; omega)).trans fo1890
          have h1922 := OW.keepF h1918 hX1913.sub (fun i hi => (hX1913.eq i (by have := hb1907 i hi; omega)).trans (OW.fnone h1918 hi))
          have hE1923 := (hE1892.up (n' := n1867) (by omega)).trans hX1913
          have ho1924 := hle1903 _ _ ho1914
          have hlon1898 := hS1915.lo
          have lt1925 := hS1915.lt ho1916
          have lt1926 := hS1915.lt ho1924
          have lt1927 := hS1915.lt ho1917
          with_reducible refine WL.nil ⟨rfl, ?_⟩
          refine WLI.op (fun h => by cases h) ?_
          refine WL.buildL .r (cells := [str x1835.2, .int .i64 x1866.2, str x1897.2]) rfl rfl rfl Try.underlying50 info50 rfl rfl rfl (by simp only [List.mapM_cons, List.mapM_nil, info9, info3, info9]; rfl) rfl (by first | rfl | ((conv => lhs; simp [splice, fillL, cells_int, cells_bool, cells_string, cells_str, cells_slice, cells_ptr, cells_map, cells_func, cells_nilFunc, cells_nilIface, cells_iface, cells_agg, cells_u8]) <;> rfl)) ?_
          with_reducible refine WL.nil ⟨rfl, ?_⟩
          refine WLI.op (fun h => by cases h) ?_
          have hb1932 := fun b hb => (OW.id_lt (i := b) h1922 hb).2
          refine GL.lit (cs := [str x1835.2, .int .i64 x1866.2, str x1897.2]) (xs := ([({ Name := x1835.2, Version := x1866.2, Text := x1897.2 } : GFile)] : List GFile)) hS1915 .r rfl rfl rfl Try.underlying23 info50 rfl rfl rfl (by decide) (by decide) rfl rfl rfl rfl rfl (RA.cons (cs := [str x1835.2, .int .i64 x1866.2, str x1897.2]) (a := (({ Name := x1835.2, Version := x1866.2, Text := x1897.2 } : GFile) : GFile)) (GFile.toR (x := ({ Name := x1835.2, Version := x1866.2, Text := x1897.2 } : GFile))) RA.nil) rfl (fun H1928 hS1929 hO1930 hk1931 => ?_)
          have ho1933 := (hk1931 _ (by have := lt1925; omega)).trans ho1916
          have ho1934 := (hk1931 _ (by have := lt1926; omega)).trans ho1924
          have ho1935 := (hk1931 _ (by have := lt1927; omega)).trans ho1917
          have h1936 := OW.keep (n' := (n1898 + 1)) h1922 (by omega) (fun i hi => hk1931 i (OW.id_lt h1922 hi).2)
          have h1937 := OW.lower (lo' := n0) hO1930 (by omega)
          have hlon18981 := hS1929.lo
          have ap1939 : idOf (.slice (some ⟨n1898, 0, none⟩) ([({ Name := x1835.2, Version := x1866.2, Text := x1897.2 } : GFile)] : List GFile).length 1) ≠ some ((n0 + 1) + 1) := fun hj => by have := (OW.id_lt hO1930 hj).1; have := lt1925; omega
          have ap1940 : idOf (.slice (some ⟨n1898, 0, none⟩) ([({ Name := x1835.2, Version := x1866.2, Text := x1897.2 } : GFile)] : List GFile).length 1) ≠ some (n0 + 1) := fun hj => by have := (OW.id_lt hO1930 hj).1; have := lt1926; omega
          have ap1941 : idOf (.slice (some ⟨n1898, 0, none⟩) ([({ Name := x1835.2, Version := x1866.2, Text := x1897.2 } : GFile)] : List GFile).length 1) ≠ some n0 := fun hj => by have := (OW.id_lt hO1930 hj).1; have := lt1927; omega
          have ap1942 : ∀ b, idOf (.slice (some ⟨n1898, 0, none⟩) ([({ Name := x1835.2, Version := x1866.2, Text := x1897.2 } : GFile)] : List GFile).length 1) = some b → idOf (.slice a1649 xs1651.length cap1650) ≠ some b := fun b hj hi => by have := (OW.id_lt hO1930 hj).1; have := hb1932 b hi; omega
          with_reducible refine WL.nil ⟨rfl, ?_⟩
          refine WLI.op (fun _ => ho1933) ?_
          obtain ⟨hc1943, hr⟩ := chk_some hr
          have hb1953 := fun b hb => (OW.id_lt (i := b) h1936 hb).2
          have hb1954 := fun b hb => (OW.id_lt (i := b) h1937 hb).2
          refine GL.append (α := GFile) hS1929 .w rfl rfl rfl Try.underlying23 Try.underlying23 rfl info50 rfl rfl rfl (by decide) rfl rfl h1936 (by omega) (by omega) (OW.src h1937) hc1943 (fun a1944 cap1945 n1946 H1947 hS1948 hn1949 hO1950 hk1951 hid1952 => ?_)
          have ho1955 := (hk1951 _ (by have := lt1925; omega) ap1688).trans ho1933
          have ho1956 := (hk1951 _ (by have := lt1926; omega) ap1689).trans ho1934
          have ho1957 := (hk1951 _ (by have := lt1927; omega) ap1690).trans ho1935
          have h1958 := OW.keep h1937 hn1949 (fun i hi => hk1951 i (OW.id_lt h1937 hi).2 (fun hj => (fun b h1 h2 => ap1942 b h2 h1) _ hj hi))
          have ap1960 : idOf (.slice a1944 (xs1651 ++ ([({ Name := x1835.2, Version := x1866.2, Text := x1897.2 } : GFile)] : List GFile)).length cap1945) ≠ some ((n0 + 1) + 1) := fun hj => (hid1952 _ hj).elim (fun h => by have := lt1925; omega) ap1688
          have ap1961 : idOf (.slice a1944 (xs1651 ++ ([({ Name := x1835.2, Version := x1866.2, Text := x1897.2 } : GFile)] : List GFile)).length cap1945) ≠ some (n0 + 1) := fun hj => (hid1952 _ hj).elim (fun h => by have := lt1926; omega) ap1689
          have ap1962 : idOf (.slice a1944 (xs1651 ++ ([({ Name := x1835.2, Version := x1866.2, Text := x1897.2 } : GFile)] : List GFile)).length cap1945) ≠ some n0 := fun hj => (hid1952 _ hj).elim (fun h => by have := lt1927; omega) ap1690
          have ap1963 : ∀ b, idOf (.slice a1944 (xs1651 ++ ([({ Name := x1835.2, Version := x1866.2, Text := x1897.2 } : GFile)] : List GFile)).length cap1945) = some b → idOf (.slice (some ⟨n1898, 0, none⟩) ([({ Name := x1835.2, Version := x1866.2, Text := x1897.2 } : GFile)] : List GFile).length 1) ≠ some b := fun b hj hi => (hid1952 _ hj).elim (fun h => by have := hb1954 b hi; omega) (fun h => (fun b h1 h2 => ap1942 b h2 h1) _ h hi)
          have hlon1946 := hS1948.lo
          with_reducible refine WL.nil ⟨rfl, ?_⟩
          refine WLI.op (fun h => by cases h) ?_
          refine WL.fieldAddr .r rfl rfl rfl Try.underlying26 rfl info23 rfl rfl ?_
          with_reducible refine WL.nil ⟨rfl, ?_⟩
          refine WLI.op (fun h => by cases h) ?_
          refine GL.store hS1948 .w (vc := [.slice a1944 (xs1651 ++ ([({ Name := x1835.2, Version := x1866.2, Text := x1897.2 } : GFile)] : List GFile)).length cap1945]) (c' := [.slice a1944 (xs1651 ++ ([({ Name := x1835.2, Version := x1866.2, Text := x1897.2 } : GFile)] : List GFile)).length cap1945, .slice none 0 0]) rfl rfl rfl info23 rfl rfl rfl rfl ho1955 fo1919 (Nat.le_of_ble_eq_true rfl) (by omega) (by repeat' (first | exact List.forall_mem_nil _ | refine List.forall_mem_cons.2 ⟨?_, ?_⟩ | rfl)) rfl (fun H1964 hS1965 ho1966 hk1967 => ?_)
          have ho1968 := (hk1967 _ (by omega)).trans ho1956
          have ho1969 := (hk1967 _ (by omega)).trans ho1957
          have h1970 := OW.keep h1958 (Nat.le_refl _) (fun i hi => hk1967 i (fun hj => ap1939 (hj ▸ hi)))
          have h1971 := OW.keep hO1950 (Nat.le_refl _) (fun i hi => hk1967 i (fun hj => ap1960 (hj ▸ hi)))
          with_reducible refine WL.nil ⟨rfl, ?_⟩
          refine WLI.nil (fun h => by cases h) ?_
          with_reducible refine Ex.blk_norm ?_
          with_reducible refine Ex.thn_norm ?_
          with_reducible refine W.region ?_
          refine WL.move .nil rfl rfl rfl rfl ?_
          obtain ⟨hc1972, hr⟩ := chk_some hr
          refine WL.subI .nil rfl rfl rfl rfl rfl hc1972.1 hc1972.2 ?_
          refine WL.assign .nil rfl rfl rfl rfl ?_
          with_reducible refine WL.nil ?_
          with_reducible refine Ex.thn_norm ?_
          exact ⟨[(0, .slice a2 xs1.length cap3), (2, .pointer (some ⟨n0, 0, none⟩)), (4, .pointer (some ⟨(n0 + 1), 0, none⟩)), (5, .pointer (some ⟨((n0 + 1) + 1), 0, none⟩)), (6, .int .i64 (x1648 - 1))], (Fr.le_cons rfl (Fr.le_cons rfl (Fr.le_cons rfl (Fr.le_cons rfl (Fr.le_cons rfl Fr.le_nil))))), (x1648 - 1), a1944, cap1945, (xs1651 ++ ([({ Name := x1835.2, Version := x1866.2, Text := x1897.2 } : GFile)] : List GFile)), a1908, cap1909, x1897.1.b, x1897.1.at_, x1897.1.bad, F1912, rfl, hS1965, (hE1923.up (by omega)), ho1966, fo1919, ho1968, fo1920, ho1969, fo1921, (((h1678.mono hX1851.sub).mono hX1882.sub).mono hX1913.sub), h1971, h1910, ap1960, ap1961, ap1962, hr⟩
        · replace hr := iteB_neg hr hc1695
          with_reducible refine W.exit ?_
          with_reducible refine Ex.thn_ex ?_
          with_reducible refine Ex.thn_ex ?_
          with_reducible refine Ex.blk_here ?_
          with_reducible refine Ex.thn_norm ?_
          with_reducible refine W.seq ?_
          with_reducible refine W.seq ?_
          with_reducible refine W.region ?_
          refine WL.move .nil rfl rfl rfl rfl ?_
          obtain ⟨x1973, hx1973, hr⟩ := bnd_some hr
          have hb1983 := fun b hb => (OW.id_lt (i := b) h1680 hb).2
          refine GL.callIO g .nil (fun i => (F1675 i).isSome = true ∨ i = (n0 + 1)) rfl rfl rfl rfl rfl rfl Try.func18 rfl rfl (Nat.le_refl _) hS1676.lo (f_spec_l09Reader_number_k (x1 := ({ b := xs1658, at_ := x1660, bad := x1661 } : Gl09Reader)) g (St.vis hS1676 (fun i hi => .inl hi)) (vis_get ho1684 (.inr (rfl))) fo1685 (by omega) h1683 hx1973) (fun v n1974 H1975 H1976 hn1977 hp1978 hle1979 hnew1980 hk1981 hd1982 => ?_)
          obtain ⟨F1988, a1984, cap1985, hX1989, hS1987, ho1990, rfl, h1986⟩ := hp1978
          have hS1991 : St n0 n1974 H1975 _ := ⟨hS1987.lo, fun i hi => (hnew1980 i (by omega)).trans (hS1987.hb i hi), hS1987.fh.trans hle1979⟩
          have ho1992 := (hk1981 _ (by have := lt1691; omega) (fun hs => by
      rcases hs with h | h
      · rw [fo1682] at h; cases h
      · omega)).trans ho1681
          have ho1993 := (hk1981 _ (by have := lt1693; omega) (fun hs => by
      rcases hs with h | h
      · rw [fo1687] at h; cases h
      · omega)).trans ho1686
          have h1994 := OW.keep (n' := n1974) h1680 (by omega) (fun i hi => hk1981 i (OW.id_lt h1680 hi).2 (fun hs => by
      rcases hs with h | h
      · rw [(OW.fnone h1680 hi)] at h; cases h
      · exact ap1689 (h ▸ hi)))
          have fo1995 := (hX1989.eq _ (by have := lt1691; omega)).trans fo1682
          have fo1996 := (hX1989.eq _ (by have := lt1692; omega)).trans fo1685
          have fo1997 := (hX1989.eq _ (by have := lt1693; omega)).trans fo1687
          have h1998 := OW.keepF h1994 hX1989.sub (fun i hi => (hX1989.eq i (by have := hb1983 i hi; omega)).trans (OW.fnone h1994 hi))
          have hE1999 := (hE1677.up (n' := n1673) (by omega)).trans hX1989
          have ho2000 := hle1979 _ _ ho1990
          have hlon1974 := hS1991.lo
          have lt2001 := hS1991.lt ho1992
          have lt2002 := hS1991.lt ho2000
          have lt2003 := hS1991.lt ho1993
          refine WL.assign .nil rfl rfl rfl rfl ?_
          with_reducible refine WL.nil ?_
          with_reducible refine Ex.thn_norm ?_
          with_reducible refine W.block ?_
          refine W.loopF (fun k2 fr n H => ∃ (x4868 : Int) (a4870 : Option Addr) (cap4871 : Nat) (xs4872 : (List GSession)) (a4877 : Option Addr) (cap4878 : Nat) (xs4879 : (List UInt8)) (x4881 : Int) (x4882 : Bool) (F : Heap), fr = [(0, .slice a2 xs1.length cap3), (2, .pointer (some ⟨n0, 0, none⟩)), (4, .pointer (some ⟨(n0 + 1), 0, none⟩)), (5, .pointer (some ⟨((n0 + 1) + 1), 0, none⟩)), (7, .int .i64 x4868)] ∧ St n0 n H F ∧ Ext n0 F0 n F ∧ H ((n0 + 1) + 1) = some (.row 1 [.slice a1649 xs1651.length cap1650, .slice a4870 xs4872.length cap4871]) ∧ F ((n0 + 1) + 1) = none ∧ H (n0 + 1) = some (.row 1 [.slice a4877 xs4879.length cap4878, .int .i64 x4881, .bool x4882]) ∧ F (n0 + 1) = none ∧ H n0 = some (.row 1 [.slice none 0 0, .slice none 0 0]) ∧ F n0 = none ∧ SR F (.slice a2 xs1.length cap3) xs1 ∧ OW n0 n H F (.slice a1649 xs1651.length cap1650) xs1651 ∧ OW n0 n H F (.slice a4870 xs4872.length cap4871) xs4872 ∧ SR F (.slice a4877 xs4879.length cap4878) xs4879 ∧ idOf (.slice a1649 xs1651.length cap1650) ≠ some ((n0 + 1) + 1) ∧ idOf (.slice a1649 xs1651.length cap1650) ≠ some (n0 + 1) ∧ idOf (.slice a1649 xs1651.length cap1650) ≠ some n0 ∧ idOf (.slice a4870 xs4872.length cap4871) ≠ some ((n0 + 1) + 1) ∧ idOf (.slice a4870 xs4872.length cap4871) ≠ some (n0 + 1) ∧ idOf (.slice a4870 xs4872.length cap4871) ≠ some n0 ∧ (∀ b, idOf (.slice a4870 xs4872.length cap4871) = some b → idOf (.slice a1649 xs1651.length cap1650) ≠ some b) ∧ f_spec_ReadState_L2 xs1651 xs1 k2 x4868 xs4872 xs4879 x4881 x4882 = some res) BIG (fr0 := [(0, .slice a2 xs1.length cap3), (2, .pointer (some ⟨n0, 0, none⟩)), (4, .pointer (some ⟨(n0 + 1), 0, none⟩)), (5, .pointer (some ⟨((n0 + 1) + 1), 0, none⟩)), (7, .int .i64 x1973.2)]) (Fr.le_cons rfl (Fr.le_cons rfl (Fr.le_cons rfl (Fr.le_cons rfl (Fr.le_cons rfl Fr.le_nil))))) ?_ ?_ ?_
          · exact ⟨x1973.2, none, 0, [], a1984, cap1985, x1973.1.b, x1973.1.at_, x1973.1.bad, F1988, rfl, hS1991, hE1999, ho1992, fo1995, ho2000, fo1996, ho1993, fo1997, (h1678.mono hX1989.sub), h1998, OW.nil, h1986, ap1688, ap1689, ap1690, (fun h => by cases h), (fun h => by cases h), (fun h => by cases h), (fun b h => by cases h), hr⟩
          · intro fr n H hI
            obtain ⟨x4868, a4870, cap4871, xs4872, a4877, cap4878, xs4879, x4881, x4882, F4864, hfr, hS4865, hE4866, ho4875, fo4876, ho4883, fo4884, ho4885, fo4886, h4867, h4869, h4873, h4880, ap4887, ap4888, ap4889, ap4890, ap4891, ap4892, ap4893, hr⟩ := hI
            rw [f_spec_ReadState_L2] at hr
            cases hr
          · intro k2 _ n4862 H4863 hI
            obtain ⟨x4868, a4870, cap4871, xs4872, a4877, cap4878, xs4879, x4881, x4882, F4864, rfl, hS4865, hE4866, ho4875, fo4876, ho4883, fo4884, ho4885, fo4886, h4867, h4869, h4873, h4880, ap4887, ap4888, ap4889, ap4890, ap4891, ap4892, ap4893, hr⟩ := hI
            have lt4894 := hS4865.lt ho4875
            have lt4895 := hS4865.lt ho4883
            have lt4896 := hS4865.lt ho4885
            have hlen4862 := hE4866.le
            have hlon4862 := hS4865.lo
            rw [f_spec_ReadState_L2] at hr
            with_reducible refine W.seq ?_
            with_reducible refine W.seq ?_
            refine W.cut (fun fr n H => ∃ (x4904 : Bool) (F : Heap), fr = [(0, .slice a2 xs1.length cap3), (2, .pointer (some ⟨n0, 0, none⟩)), (4, .pointer (some ⟨(n0 + 1), 0, none⟩)), (5, .pointer (some ⟨((n0 + 1) + 1), 0, none⟩)), (7, .int .i64 x4868), (52, .bool x4904)] ∧ St n0 n H F ∧ Ext n0 F0 n F ∧ H ((n0 + 1) + 1) = some (.row 1 [.slice a1649 xs1651.length cap1650, .slice a4870 xs4872.length cap4871]) ∧ F ((n0 + 1) + 1) = none ∧ H (n0 + 1) = some (.row 1 [.slice a4877 xs4879.length cap4878, .int .i64 x4881, .bool x4882]) ∧ F (n0 + 1) = none ∧ H n0 = some (.row 1 [.slice none 0 0, .slice none 0 0]) ∧ F n0 = none ∧ SR F (.slice a2 xs1.length cap3) xs1 ∧ OW n0 n H F (.slice a1649 xs1651.length cap1650) xs1651 ∧ OW n0 n H F (.slice a4870 xs4872.length cap4871) xs4872 ∧ SR F (.slice a4877 xs4879.length cap4878) xs4879 ∧ idOf (.slice a1649 xs1651.length cap1650) ≠ some ((n0 + 1) + 1) ∧ idOf (.slice a1649 xs1651.length cap1650) ≠ some (n0 + 1) ∧ idOf (.slice a1649 xs1651.length cap1650) ≠ some n0 ∧ idOf (.slice a4870 xs4872.length cap4871) ≠ some ((n0 + 1) + 1) ∧ idOf (.slice a4870 xs4872.length cap4871) ≠ some (n0 + 1) ∧ idOf (.slice a4870 xs4872.length cap4871) ≠ some n0 ∧ (∀ b, idOf (.slice a4870 xs4872.length cap4871) = some b → idOf (.slice a1649 xs1651.length cap1650) ≠ some b) ∧ f_spec_ReadState_J3 xs4879 x4881 x4882 xs4872 x4868 (f_spec_ReadState_L2 xs1651 xs1 k2) xs1651 xs1 x4904 = some res) ?_ ?_
            · with_reducible refine W.region ?_
              refine WL.move .nil rfl rfl rfl rfl ?_
              refine WL.bin .nil rfl rfl rfl rfl rfl rfl ?_
              refine WL.move .nil rfl rfl rfl rfl ?_
              refine WL.guardD rfl rfl rfl (fun hg5550 => ?_) (fun hg5550 => ?_)
              · replace hr := ite_pos hr hg5550
                refine WL.move .nil rfl rfl rfl rfl ?_
                refine WL.nilCheck .nil rfl rfl rfl rfl ?_
                refine WL.fieldAddr .nil rfl rfl rfl Try.underlying46 rfl info4 rfl rfl ?_
                refine WL.load1 .nil rfl rfl rfl Try.underlying4 rfl rfl ho4883 rfl ?_
                refine WL.not .nil rfl rfl rfl rfl ?_
                refine WL.pick .nil rfl rfl rfl rfl rfl ?_
                with_reducible refine WL.nil ?_
                with_reducible refine Ex.thn_norm ?_
                exact ⟨[(0, .slice a2 xs1.length cap3), (2, .pointer (some ⟨n0, 0, none⟩)), (4, .pointer (some ⟨(n0 + 1), 0, none⟩)), (5, .pointer (some ⟨((n0 + 1) + 1), 0, none⟩)), (7, .int .i64 x4868), (52, .bool (!x4882))], (Fr.le_cons rfl (Fr.le_cons rfl (Fr.le_cons rfl (Fr.le_cons rfl (Fr.le_cons rfl (Fr.le_cons rfl Fr.le_nil)))))), (!x4882), F4864, rfl, hS4865, hE4866, ho4875, fo4876, ho4883, fo4884, ho4885, fo4886, h4867, h4869, h4873, h4880, ap4887, ap4888, ap4889, ap4890, ap4891, ap4892, ap4893, hr⟩
              · replace hr := ite_neg hr hg5550
                refine WL.skip .nil rfl rfl ?_
                refine WL.skip .nil rfl rfl ?_
                refine WL.skip .nil rfl rfl ?_
                refine WL.skip .nil rfl rfl ?_
                refine WL.skip .nil rfl rfl ?_
                refine WL.pick .nil rfl rfl rfl rfl rfl ?_
                with_reducible refine WL.nil ?_
                with_reducible refine Ex.thn_norm ?_
                exact ⟨[(0, .slice a2 xs1.length cap3), (2, .pointer (some ⟨n0, 0, none⟩)), (4, .pointer (some ⟨(n0 + 1), 0, none⟩)), (5, .pointer (some ⟨((n0 + 1) + 1), 0, none⟩)), (7, .int .i64 x4868), (52, .bool false)], (Fr.le_cons rfl (Fr.le_cons rfl (Fr.le_cons rfl (Fr.le_cons rfl (Fr.le_cons rfl (Fr.le_cons rfl Fr.le_nil)))))), false, F4864, rfl, hS4865, hE4866, ho4875, fo4876, ho4883, fo4884, ho4885, fo4886, h4867, h4869, h4873, h4880, ap4887, ap4888, ap4889, ap4890, ap4891, ap4892, ap4893, hr⟩
            · intro _ n4898 H4899 hI
              obtain ⟨x4904, F4900, rfl, hS4901, hE4902, ho4907, fo4908, ho4910, fo4911, ho4912, fo4913, h4903, h4905, h4906, h4909, ap4914, ap4915, ap4916, ap4917, ap4918, ap4919, ap4920, hr⟩ := hI
              have lt4921 := hS4901.lt ho4907
              have lt4922 := hS4901.lt ho4910
              have lt4923 := hS4901.lt ho4912
              have hlen4898 := hE4902.le
              have hlon4898 := hS4901.lo
              unfold f_spec_ReadState_J3 at hr
              refine W.cond rfl (fun hc4925 => ?_) (fun hc4925 => ?_)
              · replace hr := iteB_pos hr hc4925
                with_reducible refine W.skip ?_
                with_reducible refine Ex.thn_norm ?_
                with_reducible refine W.seq ?_
                with_reducible refine W.block ?_
                with_reducible refine W.seq ?_
                with_reducible refine W.region ?_
                refine WL.move .nil rfl rfl rfl rfl ?_
                obtain ⟨x5192, hx5192, hr⟩ := bnd_some hr
                have hb5202 := fun b hb => (OW.id_lt (i := b) h4905 hb).2
                have hb5203 := fun b hb => (OW.id_lt (i := b) h4906 hb).2
                refine GL.callIO g .nil (fun i => (F4900 i).isSome = true ∨ i = (n0 + 1)) rfl rfl rfl rfl rfl rfl Try.func18 rfl rfl (Nat.le_refl _) hS4901.lo (f_spec_l09Reader_number_k (x1 := ({ b := xs4879, at_ := x4881, bad := x4882 } : Gl09Reader)) g (St.vis hS4901 (fun i hi => .inl hi)) (vis_get ho4910 (.inr (rfl))) fo4911 (by omega) h4909 hx5192) (fun v n5193 H5194 H5195 hn5196 hp5197 hle5198 hnew5199 hk5200 hd5201 => ?_)
                obtain ⟨F5208, a5204, cap5205, hX5209, hS5207, ho5210, rfl, h5206⟩ := hp5197
                have hS5211 : St n0 n5193 H5194 _ := ⟨hS5207.lo, fun i hi => (hnew5199 i (by omega)).trans (hS5207.hb i hi), hS5207.fh.trans hle5198⟩
                have ho5212 := (hk5200 _ (by have := lt4921; omega) (fun hs => by
      rcases hs with h | h
      · rw [fo4908] at h; cases h
      · omega)).trans ho4907
                have ho5213 := (hk5200 _ (by have := lt4923; omega) (fun hs => by
      rcases hs with h | h
      · rw [fo4913] at h; cases h
      · omega)).trans ho4912
                have h5214 := OW.keep (n' := n5193) h4905 (by omega) (fun i hi => hk5200 i (OW.id_lt h4905 hi).2 (fun hs => by
      rcases hs with h | h
      · rw [(OW.fnone h4905 hi)] at h; cases h
      · exact ap4915 (h ▸ hi)))
                have h5215 := OW.keep (n' := n5193) h4906 (by omega) (fun i hi => hk5200 i (OW.id_lt h4906 hi).2 (fun hs => by
      rcases hs with h | h
      · rw [(OW.fnone h4906 hi)] at h; cases h
      · exact ap4918 (h ▸ hi)))
                have fo5216 := (hX5209.eq _ (by have := lt4921; omega)).trans fo4908
                have fo5217 := (hX5209.eq _ (by have := lt4922; omega)).trans fo4911
                have fo5218 := (hX5209.eq _ (by have := lt4923; omega)).trans fo4913
                have h5219 := OW.keepF h5214 hX5209.sub (fun i hi => (hX5209.eq i (by have := hb5202 i hi; omega)).trans (OW.fnone h5214 hi))
                have h5220 := OW.keepF h5215 hX5209.sub (fun i hi => (hX5209.eq i (by have := hb5203 i hi; omega)).trans (OW.fnone h5215 hi))
                have hE5221 := (hE4902.up (n' := n4898) (by omega)).trans hX5209
                have ho5222 := hle5198 _ _ ho5210
                have hlon5193 := hS5211.lo
                have lt5223 := hS5211.lt ho5212
                have lt5224 := hS5211.lt ho5222
                have lt5225 := hS5211.lt ho5213
                refine WL.move .nil rfl rfl rfl rfl ?_
                obtain ⟨x5226, hx5226, hr⟩ := bnd_some hr
                have hb5236 := fun b hb => (OW.id_lt (i := b) h5219 hb).2
                have hb5237 := fun b hb => (OW.id_lt (i := b) h5220 hb).2
                refine GL.callIO g .nil (fun i => (F5208 i).isSome = true ∨ i = (n0 + 1)) rfl rfl rfl rfl rfl rfl Try.func18 rfl rfl (Nat.le_refl _) hS5211.lo (f_spec_l09Reader_number_k (x1 := ({ b := x5192.1.b, at_ := x5192.1.at_, bad := x5192.1.bad } : Gl09Reader)) g (St.vis hS5211 (fun i hi => .inl hi)) (vis_get ho5222 (.inr (rfl))) fo5217 (by omega) h5206 hx5226) (fun v n5227 H5228 H5229 hn5230 hp5231 hle5232 hnew5233 hk5234 hd5235 => ?_)
                obtain ⟨F5242, a5238, cap5239, hX5243, hS5241, ho5244, rfl, h5240⟩ := hp5231
                have hS5245 : St n0 n5227 H5228 _ := ⟨hS5241.lo, fun i hi => (hnew5233 i (by omega)).trans (hS5241.hb i hi), hS5241.fh.trans hle5232⟩
                have ho5246 := (hk5234 _ (by have := lt5223; omega) (fun hs => by
      rcases hs with h | h
      · rw [fo5216] at h; cases h
      · omega)).trans ho5212
                have ho5247 := (hk5234 _ (by have := lt5225; omega) (fun hs => by
      rcases hs with h | h
      · rw [fo5218] at h; cases h
      · omega)).trans ho5213
                have h5248 := OW.keep (n' := n5227) h5219 (by omega) (fun i hi => hk5234 i (OW.id_lt h5219 hi).2 (fun hs => by
      rcases hs with h | h
      · rw [(OW.fnone h5219 hi)] at h; cases h
      · exact ap4915 (h ▸ hi)))
                have h5249 := OW.keep (n' := n5227) h5220 (by omega) (fun i hi => hk5234 i (OW.id_lt h5220 hi).2 (fun hs => by
      rcases hs with h | h
      · rw [(OW.fnone h5220 hi)] at h; cases h
      · exact ap4918 (h ▸ hi)))
                have fo5250 := (hX5243.eq _ (by have := lt5223; omega)).trans fo5216
                have fo5251 := (hX5243.eq _ (by have := lt5224; omega)).trans fo5217
                have fo5252 := (hX5243.eq _ (by have := lt5225; omega)).trans fo5218
                have h5253 := OW.keepF h5248 hX5243.sub (fun i hi => (hX5243.eq i (by have := hb5236 i hi; omega)).trans (OW.fnone h5248 hi))
                have h5254 := OW.keepF h5249 hX5243.sub (fun i hi => (hX5243.eq i (by have := hb5237 i hi; omega)).trans (OW.fnone h5249 hi))
                have hE5255 := (hE5221.up (n' := n5193) (by omega)).trans hX5243
                have ho5256 := hle5232 _ _ ho5244
                have hlon5227 := hS5245.lo
                have lt5257 := hS5245.lt ho5246
                have lt5258 := hS5245.lt ho5256
                have lt5259 := hS5245.lt ho5247
                refine WL.buildL .nil (cells := [.int .i64 x5192.2, .int .i64 x5226.2, .int .i64 0, .int .i64 0, str ([] : List UInt8)]) rfl rfl rfl Try.underlying54 info54 rfl rfl rfl (by simp only [List.mapM_cons, List.mapM_nil, info3, info3, info52]; rfl) rfl (by first | rfl | ((conv => lhs; simp [splice, fillL, cells_int, cells_bool, cells_string, cells_str, cells_slice, cells_ptr, cells_map, cells_func, cells_nilFunc, cells_nilIface, cells_iface, cells_agg, cells_u8]) <;> rfl)) ?_
                refine GL.alloc hS5245 .nil (zc := [.int .i64 0, .int .i64 0, .int .i64 0, .int .i64 0, str ([] : List UInt8)]) rfl rfl rfl info54 rfl rfl rfl (fun H5260 hS5261 ho5262 hk5263 => ?_)
                have fo5264 := hS5245.fnone (Nat.le_refl _)
                have ap5266 : idOf (.slice a1649 xs1651.length cap1650) ≠ some n5227 := fun hj => by have := OW.id_lt h5253 hj; omega
                have ap5267 : idOf (.slice a4870 xs4872.length cap4871) ≠ some n5227 := fun hj => by have := OW.id_lt h5254 hj; omega
                have ho5268 := (hk5263 _ (by have := lt5257; omega)).trans ho5246
                have ho5269 := (hk5263 _ (by have := lt5258; omega)).trans ho5256
                have ho5270 := (hk5263 _ (by have := lt5259; omega)).trans ho5247
                have h5271 := OW.keep (n' := (n5227 + 1)) h5253 (by omega) (fun i hi => hk5263 i (OW.id_lt h5253 hi).2)
                have h5272 := OW.keep (n' := (n5227 + 1)) h5254 (by omega) (fun i hi => hk5263 i (OW.id_lt h5254 hi).2)
                have hlon52271 := hS5261.lo
                have lt5265 : n5227 < (n5227 + 1) := by omega
                refine GL.store hS5261 .nil (vc := [.int .i64 x5192.2, .int .i64 x5226.2, .int .i64 0, .int .i64 0, str ([] : List UInt8)]) (c' := [.int .i64 x5192.2, .int .i64 x5226.2, .int .i64 0, .int .i64 0, str ([] : List UInt8)]) rfl rfl rfl info54 rfl rfl rfl rfl ho5262 fo5264 (Nat.le_of_ble_eq_true rfl) (by omega) (by repeat' (first | exact List.forall_mem_nil _ | refine List.forall_mem_cons.2 ⟨?_, ?_⟩ | rfl)) rfl (fun H5273 hS5274 ho5275 hk5276 => ?_)
                have ho5277 := (hk5276 _ (by omega)).trans ho5268
                have ho5278 := (hk5276 _ (by omega)).trans ho5269
                have ho5279 := (hk5276 _ (by omega)).trans ho5270
                have h5280 := OW.keep h5271 (Nat.le_refl _) (fun i hi => hk5276 i (fun hj => ap5266 (hj ▸ hi)))
                have h5281 := OW.keep h5272 (Nat.le_refl _) (fun i hi => hk5276 i (fun hj => ap5267 (hj ▸ hi)))
                with_reducible refine WL.nil ?_
                with_reducible refine Ex.thn_norm ?_
                with_reducible refine W.seq ?_
                with_reducible refine W.region ?_
                refine WL.move .nil rfl rfl rfl rfl ?_
                obtain ⟨x5282, hx5282, hr⟩ := bnd_some hr
                have hb5292 := fun b hb => (OW.id_lt (i := b) h5280 hb).2
                have hb5293 := fun b hb => (OW.id_lt (i := b) h5281 hb).2
                refine GL.callIO g .nil (fun i => (F5242 i).isSome = true ∨ i = (n0 + 1)) rfl rfl rfl rfl rfl rfl Try.func18 rfl rfl (Nat.le_refl _) hS5274.lo (f_spec_l09Reader_number_k (x1 := ({ b := x5226.1.b, at_ := x5226.1.at_, bad := x5226.1.bad } : Gl09Reader)) g (St.vis hS5274 (fun i hi => .inl hi)) (vis_get ho5278 (.inr (rfl))) fo5251 (by omega) h5240 hx5282) (fun v n5283 H5284 H5285 hn5286 hp5287 hle5288 hnew5289 hk5290 hd5291 => ?_)
                obtain ⟨F5298, a5294, cap5295, hX5299, hS5297, ho5300, rfl, h5296⟩ := hp5287
                have hS5301 : St n0 n5283 H5284 _ := ⟨hS5297.lo, fun i hi => (hnew5289 i (by omega)).trans (hS5297.hb i hi), hS5297.fh.trans hle5288⟩
                have ho5302 := (hk5290 _ (by have := lt5257; omega) (fun hs => by
      rcases hs with h | h
      · rw [fo5250] at h; cases h
      · omega)).trans ho5277
                have ho5303 := (hk5290 _ (by have := lt5259; omega) (fun hs => by
      rcases hs with h | h
      · rw [fo5252] at h; cases h
      · omega)).trans ho5279
                have ho5304 := (hk5290 _ (by have := lt5265; omega) (fun hs => by
      rcases hs with h | h
      · rw [fo5264] at h; cases h
      · omega)).trans ho5275
                have h5305 := OW.keep (n' := n5283) h5280 (by omega) (fun i hi => hk5290 i (OW.id_lt h5280 hi).2 (fun hs => by
      rcases hs with h | h
      · rw [(OW.fnone h5280 hi)] at h; cases h
      · exact ap4915 (h ▸ hi)))
                have h5306 := OW.keep (n' := n5283) h5281 (by omega) (fun i hi => hk5290 i (OW.id_lt h5281 hi).2 (fun hs => by
      rcases hs with h | h
      · rw [(OW.fnone h5281 hi)] at h; cases h
      · exact ap4918 (h ▸ hi)))
                have fo5307 := (hX5299.eq _ (by have := lt5257; omega)).trans fo5250
                have fo5308 := (hX5299.eq _ (by have := lt5258; omega)).trans fo5251
                have fo5309 := (hX5299.eq _ (by have := lt5259; omega)).trans fo5252
                have fo5310 := (hX5299.eq _ (by have := lt5265; omega)).trans fo5264
                have h5311 := OW.keepF h5305 hX5299.sub (fun i hi => (hX5299.eq i (by have := hb5292 i hi; omega)).trans (OW.fnone h5305 hi))
                have h5312 := OW.keepF h5306 hX5299.sub (fun i hi => (hX5299.eq i (by have := hb5293 i hi; omega)).trans (OW.fnone h5306 hi))
                have hE5313 := (hE5255.up (n' := (n5227 + 1)) (by omega)).trans hX5299
                have ho5314 := hle5288 _ _ ho5300
                have hlon5283 := hS5301.lo
                have lt5315 := hS5301.lt ho5302
                have lt5316 := hS5301.lt ho5314
                have lt5317 := hS5301.lt ho5303
                have lt5318 := hS5301.lt ho5304
                refine WL.move .nil rfl rfl rfl rfl ?_
                obtain ⟨x5319, hx5319, hr⟩ := bnd_some hr
                have hb5329 := fun b hb => (OW.id_lt (i := b) h5311 hb).2
                have hb5330 := fun b hb => (OW.id_lt (i := b) h5312 hb).2
                refine GL.callIO g .nil (fun i => (F5298 i).isSome = true ∨ i = (n0 + 1)) rfl rfl rfl rfl rfl rfl Try.func18 rfl rfl (Nat.le_refl _) hS5301.lo (f_spec_l09Reader_number_k (x1 := ({ b := x5282.1.b, at_ := x5282.1.at_, bad := x5282.1.bad } : Gl09Reader)) g (St.vis hS5301 (fun i hi => .inl hi)) (vis_get ho5314 (.inr (rfl))) fo5308 (by omega) h5296 hx5319) (fun v n5320 H5321 H5322 hn5323 hp5324 hle5325 hnew5326 hk5327 hd5328 => ?_)
                obtain ⟨F5335, a5331, cap5332, hX5336, hS5334, ho5337, rfl, h5333⟩ := hp5324
                have hS5338 : St n0 n5320 H5321 _ := ⟨hS5334.lo, fun i hi => (hnew5326 i (by omega)).trans (hS5334.hb i hi), hS5334.fh.trans hle5325⟩
                have ho5339 := (hk5327 _ (by have := lt5315; omega) (fun hs => by
      rcases hs with h | h
      · rw [fo5307] at h; cases h
      · omega)).trans ho5302
                have ho5340 := (hk5327 _ (by have := lt5317; omega) (fun hs => by
      rcases hs with h | h
      · rw [fo5309] at h; cases h
      · omega)).trans ho5303
                have ho5341 := (hk5327 _ (by have := lt5318; omega) (fun hs => by
      rcases hs with h | h
      · rw [fo5310] at h; cases h
      · omega)).trans ho5304
                have h5342 := OW.keep (n' := n5320) h5311 (by omega) (fun i hi => hk5327 i (OW.id_lt h5311 hi).2 (fun hs => by
      rcases hs with h | h
      · rw [(OW.fnone h5311 hi)] at h; cases h
      · exact ap4915 (h ▸ hi)))
                have h5343 := OW.keep (n' := n5320) h5312 (by omega) (fun i hi => hk5327 i (OW.id_lt h5312 hi).2 (fun hs => by
      rcases hs with h | h
      · rw [(OW.fnone h5312 hi)] at h; cases h
      · exact ap4918 (h ▸ hi)))
                have fo5344 := (hX5336.eq _ (by have := lt5315; omega)).trans fo5307
                have fo5345 := (hX5336.eq _ (by have := lt5316; omega)).trans fo5308
                have fo5346 := (hX5336.eq _ (by have := lt5317; omega)).trans fo5309
                have fo5347 := (hX5336.eq _ (by have := lt5318; omega)).trans fo5310
                have h5348 := OW.keepF h5342 hX5336.sub (fun i hi => (hX5336.eq i (by have := hb5329 i hi; omega)).trans (OW.fnone h5342 hi))
                have h5349 := OW.keepF h5343 hX5336.sub (fun i hi => (hX5336.eq i (by have := hb5330 i hi; omega)).trans (OW.fnone h5343 hi))
                have hE5350 := (hE5313.up (n' := n5283) (by omega)).trans hX5336
                have ho5351 := hle5325 _ _ ho5337
                have hlon5320 := hS5338.lo
                have lt5352 := hS5338.lt ho5339
                have lt5353 := hS5338.lt ho5351
                have lt5354 := hS5338.lt ho5340
                have lt5355 := hS5338.lt ho5341
                refine WL.move .nil rfl rfl rfl rfl ?_
                obtain ⟨x5356, hx5356, hr⟩ := bnd_some hr
                have hb5366 := fun b hb => (OW.id_lt (i := b) h5348 hb).2
                have hb5367 := fun b hb => (OW.id_lt (i := b) h5349 hb).2
                refine GL.callIO g .nil (fun i => (F5335 i).isSome = true ∨ i = (n0 + 1)) rfl rfl rfl rfl rfl rfl Try.func19 rfl rfl (Nat.le_refl _) hS5338.lo (f_spec_l09Reader_text_k (x1 := ({ b := x5319.1.b, at_ := x5319.1.at_, bad := x5319.1.bad } : Gl09Reader)) g (St.vis hS5338 (fun i hi => .inl hi)) (vis_get ho5351 (.inr (rfl))) fo5345 (by omega) h5333 hx5356) (fun v n5357 H5358 H5359 hn5360 hp5361 hle5362 hnew5363 hk5364 hd5365 => ?_)
                obtain ⟨F5372, a5368, cap5369, hX5373, hS5371, ho5374, rfl, h5370⟩ := hp5361
                have hS5375 : St n0 n5357 H5358 _ := ⟨hS5371.lo, fun i hi => (hnew5363 i (by omega)).trans (hS5371.hb i hi), hS5371.fh.trans hle5362⟩
                have ho5376 := (hk5364 _ (by have := lt5352; omega) (fun hs => by
      rcases hs with h | h
      · rw [fo5344] at h; cases h
      · omega)).trans ho5339
                have ho5377 := (hk5364 _ (by have := lt5354; omega) (fun hs => by
      rcases hs with h | h
      · rw [fo5346] at h; cases h
      · omega)).trans ho5340
                have ho5378 := (hk5364 _ (by have := lt5355; omega) (fun hs => by
      rcases hs with h | h
      · rw [fo5347] at h; cases h
      · omega)).trans ho5341
                have h5379 := OW.keep (n' := n5357) h5348 (by omega) (fun i hi => hk5364 i (OW.id_lt h5348 hi).2 (fun hs => by
      rcases hs with h | h
      · rw [(OW.fnone h5348 hi)] at h; cases h
      · exact ap4915 (h ▸ hi)))
                have h5380 := OW.keep (n' := n5357) h5349 (by omega) (fun i hi => hk5364 i (OW.id_lt h5349 hi).2 (fun hs => by
      rcases hs with h | h
      · rw [(OW.fnone h5349 hi)] at h; cases h
      · exact ap4918 (h ▸ hi)))
                have fo5381 := (hX5373.eq _ (by have := lt5352; omega)).trans fo5344
                have fo5382 := (hX5373.eq _ (by have := lt5353; omega)).trans fo5345
                have fo5383 := (hX5373.eq _ (by have := lt5354; omega)).trans fo5346
                have fo5384 := (hX5373.eq _ (by have := lt5355; omega)).trans fo5347
                have h5385 := OW.keepF h5379 hX5373.sub (fun i hi => (hX5373.eq i (by have := hb5366 i hi; omega)).trans (OW.fnone h5379 hi))
                have h5386 := OW.keepF h5380 hX5373.sub (fun i hi => (hX5373.eq i (by have := hb5367 i hi; omega)).trans (OW.fnone h5380 hi))
                have hE5387 := (hE5350.up (n' := n5320) (by omega)).trans hX5373
                have ho5388 := hle5362 _ _ ho5374
                have hlon5357 := hS5375.lo
                have lt5389 := hS5375.lt ho5376
                have lt5390 := hS5375.lt ho5388
                have lt5391 := hS5375.lt ho5377
                have lt5392 := hS5375.lt ho5378
                refine WL.buildL .nil (cells := [.int .i64 x5282.2, .int .i64 x5319.2, str x5356.2]) rfl rfl rfl Try.underlying52 info52 rfl rfl rfl (by simp only [List.mapM_cons, List.mapM_nil, info3, info3, info9]; rfl) rfl (by first | rfl | ((conv => lhs; simp [splice, fillL, cells_int, cells_bool, cells_string, cells_str, cells_slice, cells_ptr, cells_map, cells_func, cells_nilFunc, cells_nilIface, cells_iface, cells_agg, cells_u8]) <;> rfl)) ?_
                refine WL.fieldAddr .nil rfl rfl rfl Try.underlying54 rfl info52 rfl rfl ?_
                refine GL.store hS5375 .nil (vc := [.int .i64 x5282.2, .int .i64 x5319.2, str x5356.2]) (c' := [.int .i64 x5192.2, .int .i64 x5226.2, .int .i64 x5282.2, .int .i64 x5319.2, str x5356.2]) rfl rfl rfl info52 rfl rfl rfl rfl ho5378 fo5384 (Nat.le_of_ble_eq_true rfl) (by omega) (by repeat' (first | exact List.forall_mem_nil _ | refine List.forall_mem_cons.2 ⟨?_, ?_⟩ | rfl)) rfl (fun H5393 hS5394 ho5395 hk5396 => ?_)
                have ho5397 := (hk5396 _ (by omega)).trans ho5376
                have ho5398 := (hk5396 _ (by omega)).trans ho5388
                have ho5399 := (hk5396 _ (by omega)).trans ho5377
                have h5400 := OW.keep h5385 (Nat.le_refl _) (fun i hi => hk5396 i (fun hj => ap5266 (hj ▸ hi)))
                have h5401 := OW.keep h5386 (Nat.le_refl _) (fun i hi => hk5396 i (fun hj => ap5267 (hj ▸ hi)))
                with_reducible refine WL.nil ?_
                with_reducible refine Ex.thn_norm ?_
                with_reducible refine W.region ?_
                refine WL.fieldAddr .nil rfl rfl rfl Try.underlying26 rfl info24 rfl rfl ?_
                refine WL.load1 .nil rfl rfl rfl Try.underlying24 rfl rfl ho5397 rfl ?_
                refine WL.loadN .nil (l' := [.int .i64 x5192.2, .int .i64 x5226.2, .int .i64 x5282.2, .int .i64 x5319.2, str x5356.2]) rfl rfl rfl Try.underlying54 rfl info54 rfl ho5395 rfl rfl ?_
                have hb5406 := fun b hb => (OW.id_lt (i := b) h5400 hb).2
                have hb5407 := fun b hb => (OW.id_lt (i := b) h5401 hb).2
                refine GL.lit (cs := [.int .i64 x5192.2, .int .i64 x5226.2, .int .i64 x5282.2, .int .i64 x5319.2, str x5356.2]) (xs := ([({ Client := x5192.2, Seq := x5226.2, Reply := ({ Code := x5282.2, Version := x5319.2, Sha := x5356.2 } : GReply) } : GSession)] : List GSession)) hS5394 .nil rfl rfl rfl Try.underlying24 info54 rfl rfl rfl (by decide) (by decide) rfl rfl rfl rfl rfl (RA.cons (cs := [.int .i64 x5192.2, .int .i64 x5226.2, .int .i64 x5282.2, .int .i64 x5319.2, str x5356.2]) (a := (({ Client := x5192.2, Seq := x5226.2, Reply := ({ Code := x5282.2, Version := x5319.2, Sha := x5356.2 } : GReply) } : GSession) : GSession)) (GSession.toR (x := ({ Client := x5192.2, Seq := x5226.2, Reply := ({ Code := x5282.2, Version := x5319.2, Sha := x5356.2 } : GReply) } : GSession))) RA.nil) rfl (fun H5402 hS5403 hO5404 hk5405 => ?_)
                have ho5408 := (hk5405 _ (by have := lt5389; omega)).trans ho5397
                have ho5409 := (hk5405 _ (by have := lt5390; omega)).trans ho5398
                have ho5410 := (hk5405 _ (by have := lt5391; omega)).trans ho5399
                have ho5411 := (hk5405 _ (by have := lt5392; omega)).trans ho5395
                have h5412 := OW.keep (n' := (n5357 + 1)) h5400 (by omega) (fun i hi => hk5405 i (OW.id_lt h5400 hi).2)
                have h5413 := OW.keep (n' := (n5357 + 1)) h5401 (by omega) (fun i hi => hk5405 i (OW.id_lt h5401 hi).2)
                have h5414 := OW.lower (lo' := n0) hO5404 (by omega)
                have hlon53571 := hS5403.lo
                have ap5416 : idOf (.slice (some ⟨n5357, 0, none⟩) ([({ Client := x5192.2, Seq := x5226.2, Reply := ({ Code := x5282.2, Version := x5319.2, Sha := x5356.2 } : GReply) } : GSession)] : List GSession).length 1) ≠ some ((n0 + 1) + 1) := fun hj => by have := (OW.id_lt hO5404 hj).1; have := lt5389; omega
                have ap5417 : idOf (.slice (some ⟨n5357, 0, none⟩) ([({ Client := x5192.2, Seq := x5226.2, Reply := ({ Code := x5282.2, Version := x5319.2, Sha := x5356.2 } : GReply) } : GSession)] : List GSession).length 1) ≠ some (n0 + 1) := fun hj => by have := (OW.id_lt hO5404 hj).1; have := lt5390; omega
                have ap5418 : idOf (.slice (some ⟨n5357, 0, none⟩) ([({ Client := x5192.2, Seq := x5226.2, Reply := ({ Code := x5282.2, Version := x5319.2, Sha := x5356.2 } : GReply) } : GSession)] : List GSession).length 1) ≠ some n0 := fun hj => by have := (OW.id_lt hO5404 hj).1; have := lt5391; omega
                have ap5419 : idOf (.slice (some ⟨n5357, 0, none⟩) ([({ Client := x5192.2, Seq := x5226.2, Reply := ({ Code := x5282.2, Version := x5319.2, Sha := x5356.2 } : GReply) } : GSession)] : List GSession).length 1) ≠ some n5227 := fun hj => by have := (OW.id_lt hO5404 hj).1; have := lt5392; omega
                have ap5420 : ∀ b, idOf (.slice (some ⟨n5357, 0, none⟩) ([({ Client := x5192.2, Seq := x5226.2, Reply := ({ Code := x5282.2, Version := x5319.2, Sha := x5356.2 } : GReply) } : GSession)] : List GSession).length 1) = some b → idOf (.slice a1649 xs1651.length cap1650) ≠ some b := fun b hj hi => by have := (OW.id_lt hO5404 hj).1; have := hb5406 b hi; omega
                have ap5421 : ∀ b, idOf (.slice (some ⟨n5357, 0, none⟩) ([({ Client := x5192.2, Seq := x5226.2, Reply := ({ Code := x5282.2, Version := x5319.2, Sha := x5356.2 } : GReply) } : GSession)] : List GSession).length 1) = some b → idOf (.slice a4870 xs4872.length cap4871) ≠ some b := fun b hj hi => by have := (OW.id_lt hO5404 hj).1; have := hb5407 b hi; omega
                obtain ⟨hc5422, hr⟩ := chk_some hr
                have hb5432 := fun b hb => (OW.id_lt (i := b) h5412 hb).2
                have hb5433 := fun b hb => (OW.id_lt (i := b) h5413 hb).2
                have hb5434 := fun b hb => (OW.id_lt (i := b) h5414 hb).2
                refine GL.append (α := GSession) hS5403 .nil rfl rfl rfl Try.underlying24 Try.underlying24 rfl info54 rfl rfl rfl (by decide) rfl rfl h5413 (by omega) (by omega) (OW.src h5414) hc5422 (fun a5423 cap5424 n5425 H5426 hS5427 hn5428 hO5429 hk5430 hid5431 => ?_)
                have ho5435 := (hk5430 _ (by have := lt5389; omega) ap4917).trans ho5408
                have ho5436 := (hk5430 _ (by have := lt5390; omega) ap4918).trans ho5409
                have ho5437 := (hk5430 _ (by have := lt5391; omega) ap4919).trans ho5410
                have ho5438 := (hk5430 _ (by have := lt5392; omega) ap5267).trans ho5411
                have h5439 := OW.keep h5412 hn5428 (fun i hi => hk5430 i (OW.id_lt h5412 hi).2 (fun hj => ap4920 _ hj hi))
                have h5440 := OW.keep h5414 hn5428 (fun i hi => hk5430 i (OW.id_lt h5414 hi).2 (fun hj => (fun b h1 h2 => ap5421 b h2 h1) _ hj hi))
                have ap5442 : idOf (.slice a5423 (xs4872 ++ ([({ Client := x5192.2, Seq := x5226.2, Reply := ({ Code := x5282.2, Version := x5319.2, Sha := x5356.2 } : GReply) } : GSession)] : List GSession)).length cap5424) ≠ some ((n0 + 1) + 1) := fun hj => (hid5431 _ hj).elim (fun h => by have := lt5389; omega) ap4917
                have ap5443 : idOf (.slice a5423 (xs4872 ++ ([({ Client := x5192.2, Seq := x5226.2, Reply := ({ Code := x5282.2, Version := x5319.2, Sha := x5356.2 } : GReply) } : GSession)] : List GSession)).length cap5424) ≠ some (n0 + 1) := fun hj => (hid5431 _ hj).elim (fun h => by have := lt5390; omega) ap4918
                have ap5444 : idOf (.slice a5423 (xs4872 ++ ([({ Client := x5192.2, Seq := x5226.2, Reply := ({ Code := x5282.2, Version := x5319.2, Sha := x5356.2 } : GReply) } : GSession)] : List GSession)).length cap5424) ≠ some n0 := fun hj => (hid5431 _ hj).elim (fun h => by have := lt5391; omega) ap4919
                have ap5445 : idOf (.slice a5423 (xs4872 ++ ([({ Client := x5192.2, Seq := x5226.2, Reply := ({ Code := x5282.2, Version := x5319.2, Sha := x5356.2 } : GReply) } : GSession)] : List GSession)).length cap5424) ≠ some n5227 := fun hj => (hid5431 _ hj).elim (fun h => by have := lt5392; omega) ap5267
                have ap5446 : ∀ b, idOf (.slice a5423 (xs4872 ++ ([({ Client := x5192.2, Seq := x5226.2, Reply := ({ Code := x5282.2, Version := x5319.2, Sha := x5356.2 } : GReply) } : GSession)] : List GSession)).length cap5424) = some b → idOf (.slice a1649 xs1651.length cap1650) ≠ some b := fun b hj hi => (hid5431 _ hj).elim (fun h => by have := hb5432 b hi; omega) (fun h => ap4920 _ h hi)
                have ap5447 : ∀ b, idOf (.slice a5423 (xs4872 ++ ([({ Client := x5192.2, Seq := x5226.2, Reply := ({ Code := x5282.2, Version := x5319.2, Sha := x5356.2 } : GReply) } : GSession)] : List GSession)).length cap5424) = some b → idOf (.slice (some ⟨n5357, 0, none⟩) ([({ Client := x5192.2, Seq := x5226.2, Reply := ({ Code := x5282.2, Version := x5319.2, Sha := x5356.2 } : GReply) } : GSession)] : List GSession).length 1) ≠ some b := fun b hj hi => (hid5431 _ hj).elim (fun h => by have := hb5434 b hi; omega) (fun h => (fun b h1 h2 => ap5421 b h2 h1) _ h hi)
                have hlon5425 := hS5427.lo
                refine WL.fieldAddr .nil rfl rfl rfl Try.underlying26 rfl info24 rfl rfl ?_
                refine GL.store hS5427 .nil (vc := [.slice a5423 (xs4872 ++ ([({ Client := x5192.2, Seq := x5226.2, Reply := ({ Code := x5282.2, Version := x5319.2, Sha := x5356.2 } : GReply) } : GSession)] : List GSession)).length cap5424]) (c' := [.slice a1649 xs1651.length cap1650, .slice a5423 (xs4872 ++ ([({ Client := x5192.2, Seq := x5226.2, Reply := ({ Code := x5282.2, Version := x5319.2, Sha := x5356.2 } : GReply) } : GSession)] : List GSession)).length cap5424]) rfl rfl rfl info24 rfl rfl rfl rfl ho5435 fo5381 (Nat.le_of_ble_eq_true rfl) (by omega) (by repeat' (first | exact List.forall_mem_nil _ | refine List.forall_mem_cons.2 ⟨?_, ?_⟩ | rfl)) rfl (fun H5448 hS5449 ho5450 hk5451 => ?_)
                have ho5452 := (hk5451 _ (by omega)).trans ho5436
                have ho5453 := (hk5451 _ (by omega)).trans ho5437
                have ho5454 := (hk5451 _ (by omega)).trans ho5438
                have h5455 := OW.keep h5439 (Nat.le_refl _) (fun i hi => hk5451 i (fun hj => ap4914 (hj ▸ hi)))
                have h5456 := OW.keep h5440 (Nat.le_refl _) (fun i hi => hk5451 i (fun hj => ap5416 (hj ▸ hi)))
                have h5457 := OW.keep hO5429 (Nat.le_refl _) (fun i hi => hk5451 i (fun hj => ap5442 (hj ▸ hi)))
                with_reducible refine WL.nil ?_
                with_reducible refine Ex.blk_norm ?_
                with_reducible refine Ex.thn_norm ?_
                with_reducible refine W.region ?_
                refine WL.move .nil rfl rfl rfl rfl ?_
                obtain ⟨hc5458, hr⟩ := chk_some hr
                refine WL.subI .nil rfl rfl rfl rfl rfl hc5458.1 hc5458.2 ?_
                refine WL.assign .nil rfl rfl rfl rfl ?_
                with_reducible refine WL.nil ?_
                with_reducible refine Ex.thn_norm ?_
                exact ⟨[(0, .slice a2 xs1.length cap3), (2, .pointer (some ⟨n0, 0, none⟩)), (4, .pointer (some ⟨(n0 + 1), 0, none⟩)), (5, .pointer (some ⟨((n0 + 1) + 1), 0, none⟩)), (7, .int .i64 (x4868 - 1))], (Fr.le_cons rfl (Fr.le_cons rfl (Fr.le_cons rfl (Fr.le_cons rfl (Fr.le_cons rfl Fr.le_nil))))), (x4868 - 1), a5423, cap5424, (xs4872 ++ ([({ Client := x5192.2, Seq := x5226.2, Reply := ({ Code := x5282.2, Version := x5319.2, Sha := x5356.2 } : GReply) } : GSession)] : List GSession)), a5368, cap5369, x5356.1.b, x5356.1.at_, x5356.1.bad, F5372, rfl, hS5449, (hE5387.up (by omega)), ho5450, fo5381, ho5452, fo5382, ho5453, fo5383, (((((h4903.mono hX5209.sub).mono hX5243.sub).mono hX5299.sub).mono hX5336.sub).mono hX5373.sub), h5455, h5457, h5370, ap4914, ap4915, ap4916, ap5442, ap5443, ap5444, ap5446, hr⟩
              · replace hr := iteB_neg hr hc4925
                with_reducible refine W.exit ?_
                with_reducible refine Ex.thn_ex ?_
                with_reducible refine Ex.thn_ex ?_
                with_reducible refine Ex.blk_here ?_
                with_reducible refine Ex.thn_norm ?_
                with_reducible refine W.seq ?_
                with_reducible refine W.seq ?_
                refine W.cut (fun fr n H => ∃ (x5465 : Bool) (F : Heap), fr = [(2, .pointer (some ⟨n0, 0, none⟩)), (5, .pointer (some ⟨((n0 + 1) + 1), 0, none⟩)), (86, .bool x5465)] ∧ St n0 n H F ∧ Ext n0 F0 n F ∧ H ((n0 + 1) + 1) = some (.row 1 [.slice a1649 xs1651.length cap1650, .slice a4870 xs4872.length cap4871]) ∧ F ((n0 + 1) + 1) = none ∧ H n0 = some (.row 1 [.slice none 0 0, .slice none 0 0]) ∧ F n0 = none ∧ OW n0 n H F (.slice a1649 xs1651.length cap1650) xs1651 ∧ OW n0 n H F (.slice a4870 xs4872.length cap4871) xs4872 ∧ idOf (.slice a1649 xs1651.length cap1650) ≠ some ((n0 + 1) + 1) ∧ idOf (.slice a1649 xs1651.length cap1650) ≠ some n0 ∧ idOf (.slice a4870 xs4872.length cap4871) ≠ some ((n0 + 1) + 1) ∧ idOf (.slice a4870 xs4872.length cap4871) ≠ some n0 ∧ (∀ b, idOf (.slice a4870 xs4872.length cap4871) = some b → idOf (.slice a1649 xs1651.length cap1650) ≠ some b) ∧ f_spec_ReadState_J4 xs1651 xs4872 x5465 = some res) ?_ ?_
                · with_reducible refine W.region ?_
                  refine WL.move .nil rfl rfl rfl rfl ?_
                  refine WL.nilCheck .nil rfl rfl rfl rfl ?_
                  refine WL.fieldAddr .nil rfl rfl rfl Try.underlying46 rfl info4 rfl rfl ?_
                  refine WL.load1 .nil rfl rfl rfl Try.underlying4 rfl rfl ho4910 rfl ?_
                  refine WL.move .nil rfl rfl rfl rfl ?_
                  refine WL.guard rfl rfl rfl (fun hg5549 => ?_) (fun hg5549 => ?_)
                  · replace hr := iteB_pos hr hg5549
                    refine WL.skip .nil rfl rfl ?_
                    refine WL.skip .nil rfl rfl ?_
                    refine WL.skip .nil rfl rfl ?_
                    refine WL.skip .nil rfl rfl ?_
                    refine WL.skip .nil rfl rfl ?_
                    refine WL.skip .nil rfl rfl ?_
                    refine WL.skip .nil rfl rfl ?_
                    refine WL.pick .nil rfl rfl rfl rfl rfl ?_
                    with_reducible refine WL.nil ?_
                    with_reducible refine Ex.thn_norm ?_
                    exact ⟨[(2, .pointer (some ⟨n0, 0, none⟩)), (5, .pointer (some ⟨((n0 + 1) + 1), 0, none⟩)), (86, .bool true)], (Fr.le_cons rfl (Fr.le_cons rfl (Fr.le_cons rfl Fr.le_nil))), true, F4900, rfl, hS4901, hE4902, ho4907, fo4908, ho4912, fo4913, h4905, h4906, ap4914, ap4916, ap4917, ap4919, ap4920, hr⟩
                  · replace hr := iteB_neg hr hg5549
                    refine WL.move .nil rfl rfl rfl rfl ?_
                    refine WL.nilCheck .nil rfl rfl rfl rfl ?_
                    refine WL.fieldAddr .nil rfl rfl rfl Try.underlying46 rfl info3 rfl rfl ?_
                    refine WL.load1 .nil rfl rfl rfl Try.underlying3 rfl rfl ho4910 rfl ?_
                    refine WL.move .nil rfl rfl rfl rfl ?_
                    refine WL.len .nil rfl rfl rfl Try.underlying22 rfl ?_
                    refine WL.bin .nil rfl rfl rfl rfl rfl rfl ?_
                    refine WL.pick .nil rfl rfl rfl rfl rfl ?_
                    with_reducible refine WL.nil ?_
                    with_reducible refine Ex.thn_norm ?_
                    exact ⟨[(2, .pointer (some ⟨n0, 0, none⟩)), (5, .pointer (some ⟨((n0 + 1) + 1), 0, none⟩)), (86, .bool (!decide (x4881 = (xs1.length : Int))))], (Fr.le_cons rfl (Fr.le_cons rfl (Fr.le_cons rfl Fr.le_nil))), (!decide (x4881 = (xs1.length : Int))), F4900, rfl, hS4901, hE4902, ho4907, fo4908, ho4912, fo4913, h4905, h4906, ap4914, ap4916, ap4917, ap4919, ap4920, hr⟩
                · intro _ n5460 H5461 hI
                  obtain ⟨x5465, F5462, rfl, hS5463, hE5464, ho5468, fo5469, ho5470, fo5471, h5466, h5467, ap5472, ap5473, ap5474, ap5475, ap5476, hr⟩ := hI
                  have lt5477 := hS5463.lt ho5468
                  have lt5478 := hS5463.lt ho5470
                  have hlen5460 := hE5464.le
                  have hlon5460 := hS5463.lo
                  unfold f_spec_ReadState_J4 at hr
                  refine W.cond rfl (fun hc5487 => ?_) (fun hc5487 => ?_)
                  · replace hr := iteB_pos hr hc5487
                    with_reducible refine W.seq ?_
                    with_reducible refine W.region ?_
                    refine WL.buildL .nil (cells := [.slice none 0 0, .slice none 0 0]) rfl rfl rfl Try.underlying26 info26 rfl rfl rfl (by simp only [List.mapM_cons, List.mapM_nil, info23, info24]; rfl) rfl (by first | rfl | ((conv => lhs; simp [splice, fillL, cells_int, cells_bool, cells_string, cells_str, cells_slice, cells_ptr, cells_map, cells_func, cells_nilFunc, cells_nilIface, cells_iface, cells_agg, cells_u8]) <;> rfl)) ?_
                    refine GL.store hS5463 .nil (vc := [.slice none 0 0, .slice none 0 0]) (c' := [.slice none 0 0, .slice none 0 0]) rfl rfl rfl info26 rfl rfl rfl rfl ho5470 fo5471 (Nat.le_of_ble_eq_true rfl) (by omega) (by repeat' (first | exact List.forall_mem_nil _ | refine List.forall_mem_cons.2 ⟨?_, ?_⟩ | rfl)) rfl (fun H5488 hS5489 ho5490 hk5491 => ?_)
                    have ho5492 := (hk5491 _ (by omega)).trans ho5468
                    have h5493 := OW.keep h5466 (Nat.le_refl _) (fun i hi => hk5491 i (fun hj => ap5473 (hj ▸ hi)))
                    have h5494 := OW.keep h5467 (Nat.le_refl _) (fun i hi => hk5491 i (fun hj => ap5475 (hj ▸ hi)))
                    refine WL.assign .nil rfl rfl rfl rfl ?_
                    with_reducible refine WL.nil ?_
                    with_reducible refine Ex.thn_norm ?_
                    with_reducible refine W.ret ?_
                    with_reducible refine Ex.thn_ret ?_
                    obtain rfl := Option.some.inj hr
                    exact ⟨.inr rfl, _, (.cons (.cellN (l := [.slice none 0 0, .slice none 0 0]) rfl Try.underlying26 rfl info26 ho5490 rfl rfl) (.cons (.tmp rfl) .nil)), ⟨none, 0, none, 0, (Ext.st hE5464 hS5489), rfl, OW.nil, OW.nil, (fun b h => by cases h)⟩⟩
                  · replace hr := iteB_neg hr hc5487
                    with_reducible refine W.skip ?_
                    with_reducible refine Ex.thn_norm ?_
                    with_reducible refine W.seq ?_
                    with_reducible refine W.seq ?_
                    with_reducible refine W.region ?_
                    refine WL.loadN .nil (l' := [.slice a1649 xs1651.length cap1650, .slice a4870 xs4872.length cap4871]) rfl rfl rfl Try.underlying26 rfl info26 rfl ho5468 rfl rfl ?_
                    obtain ⟨F5495, hS5496, hle5497, h5498, hf5499⟩ := OW.freeze h5466 hS5463
                    have fo5500 := (hf5499 _ ap5472).trans fo5469
                    have fo5501 := (hf5499 _ ap5473).trans fo5471
                    have h5502 := OW.keepF h5467 hle5497 (fun i hi => (hf5499 i (fun hj => (fun b h1 h2 => ap5476 b h2 h1) i hj hi)).trans (OW.fnone h5467 hi))
                    obtain ⟨F5504, hS5505, hle5506, h5507, hf5508⟩ := OW.freeze h5502 hS5496
                    have fo5509 := (hf5508 _ ap5474).trans fo5500
                    have fo5510 := (hf5508 _ ap5475).trans fo5501
                    obtain ⟨x5512, hx5512, hr⟩ := bnd_some hr
                    have hb5518 := fun b hb => (OW.id_lt (i := b) h5466 hb).2
                    have hb5519 := fun b hb => (OW.id_lt (i := b) h5467 hb).2
                    refine GL.callP g.good .nil rfl rfl rfl rfl rfl rfl Try.func20 rfl rfl hS5463.lo (f_spec_StateOK_k  g hS5505 (h5498.mono hle5506) h5507 hx5512) (fun v n5513 H5514 hn5515 hk5516 hp5517 => ?_)
                    obtain ⟨hS5520, rfl⟩ := hp5517
                    have ho5521 := (hk5516 _ (by have := lt5477; omega)).trans ho5468
                    have ho5522 := (hk5516 _ (by have := lt5478; omega)).trans ho5470
                    have h5523 := OW.keep (n' := n5513) h5466 (by omega) (fun i hi => hk5516 i (OW.id_lt h5466 hi).2)
                    have h5524 := OW.keep (n' := n5513) h5467 (by omega) (fun i hi => hk5516 i (OW.id_lt h5467 hi).2)
                    have hS5525 : St n0 n5513 H5514 F5462 := ⟨by have := hS5463.lo; omega, hS5520.hb, fun i o hi => (hk5516 i (hS5463.lt (hS5463.fh i o hi))).trans (hS5463.fh i o hi)⟩
                    have hlon5513 := hS5525.lo
                    refine WL.not .nil rfl rfl rfl rfl ?_
                    with_reducible refine WL.nil ?_
                    with_reducible refine Ex.thn_norm ?_
                    refine W.cond rfl (fun hc5534 => ?_) (fun hc5534 => ?_)
                    · replace hr := iteB_pos hr hc5534
                      with_reducible refine W.seq ?_
                      with_reducible refine W.region ?_
                      refine WL.buildL .nil (cells := [.slice none 0 0, .slice none 0 0]) rfl rfl rfl Try.underlying26 info26 rfl rfl rfl (by simp only [List.mapM_cons, List.mapM_nil, info23, info24]; rfl) rfl (by first | rfl | ((conv => lhs; simp [splice, fillL, cells_int, cells_bool, cells_string, cells_str, cells_slice, cells_ptr, cells_map, cells_func, cells_nilFunc, cells_nilIface, cells_iface, cells_agg, cells_u8]) <;> rfl)) ?_
                      refine GL.store hS5525 .nil (vc := [.slice none 0 0, .slice none 0 0]) (c' := [.slice none 0 0, .slice none 0 0]) rfl rfl rfl info26 rfl rfl rfl rfl ho5522 fo5471 (Nat.le_of_ble_eq_true rfl) (by omega) (by repeat' (first | exact List.forall_mem_nil _ | refine List.forall_mem_cons.2 ⟨?_, ?_⟩ | rfl)) rfl (fun H5535 hS5536 ho5537 hk5538 => ?_)
                      have ho5539 := (hk5538 _ (by omega)).trans ho5521
                      have h5540 := OW.keep h5523 (Nat.le_refl _) (fun i hi => hk5538 i (fun hj => ap5473 (hj ▸ hi)))
                      have h5541 := OW.keep h5524 (Nat.le_refl _) (fun i hi => hk5538 i (fun hj => ap5475 (hj ▸ hi)))
                      refine WL.assign .nil rfl rfl rfl rfl ?_
                      with_reducible refine WL.nil ?_
                      with_reducible refine Ex.thn_norm ?_
                      with_reducible refine W.ret ?_
                      with_reducible refine Ex.thn_ret ?_
                      obtain rfl := Option.some.inj hr
                      exact ⟨.inr rfl, _, (.cons (.cellN (l := [.slice none 0 0, .slice none 0 0]) rfl Try.underlying26 rfl info26 ho5537 rfl rfl) (.cons (.tmp rfl) .nil)), ⟨none, 0, none, 0, (Ext.st hE5464 hS5536), rfl, OW.nil, OW.nil, (fun b h => by cases h)⟩⟩
                    · replace hr := iteB_neg hr hc5534
                      with_reducible refine W.skip ?_
                      with_reducible refine Ex.thn_norm ?_
                      with_reducible refine W.seq ?_
                      with_reducible refine W.region ?_
                      refine WL.loadN .nil (l' := [.slice a1649 xs1651.length cap1650, .slice a4870 xs4872.length cap4871]) rfl rfl rfl Try.underlying26 rfl info26 rfl ho5521 rfl rfl ?_
                      refine GL.store hS5525 .nil (vc := [.slice a1649 xs1651.length cap1650, .slice a4870 xs4872.length cap4871]) (c' := [.slice a1649 xs1651.length cap1650, .slice a4870 xs4872.length cap4871]) rfl rfl rfl info26 rfl rfl rfl rfl ho5522 fo5471 (Nat.le_of_ble_eq_true rfl) (by omega) (by repeat' (first | exact List.forall_mem_nil _ | refine List.forall_mem_cons.2 ⟨?_, ?_⟩ | rfl)) rfl (fun H5542 hS5543 ho5544 hk5545 => ?_)
                      have ho5546 := (hk5545 _ (by omega)).trans ho5521
                      have h5547 := OW.keep h5523 (Nat.le_refl _) (fun i hi => hk5545 i (fun hj => ap5473 (hj ▸ hi)))
                      have h5548 := OW.keep h5524 (Nat.le_refl _) (fun i hi => hk5545 i (fun hj => ap5475 (hj ▸ hi)))
                      refine WL.assign .nil rfl rfl rfl rfl ?_
                      with_reducible refine WL.nil ?_
                      with_reducible refine Ex.thn_norm ?_
                      with_reducible refine W.ret ?_
                      obtain rfl := Option.some.inj hr
                      exact ⟨.inr rfl, _, (.cons (.cellN (l := [.slice a1649 xs1651.length cap1650, .slice a4870 xs4872.length cap4871]) rfl Try.underlying26 rfl info26 ho5544 rfl rfl) (.cons (.tmp rfl) .nil)), ⟨a1649, cap1650, a4870, cap4871, (Ext.st hE5464 hS5543), rfl, (OW.downFl hE5464.sub h5547), (OW.downFl hE5464.sub h5548), ap5476⟩⟩
theorem f_impl_unless_k {Δ : Prims} (g : Env Try.prog Δ) {lo n0 : Nat} {H0 F0 : Heap} (hS : St lo n0 H0 F0) {x1 : Bool} {x2 : Int} {res : (Int)} (hr : f_impl_unless x1 x2 = some res) :
    C Try.prog Δ n0 44 [.bool x1, .int .i64 x2] n0 H0 (fun v n H => St n0 n H F0 ∧ v = .int .i64 res) := by
  refine C.body Try.func44 rfl rfl ?_
  unfold f_impl_unless at hr
  have hS0 : St n0 n0 H0 F0 := hS.low (Nat.le_refl _)
  have hE0 := Ext.refl n0 F0
  have hlo0 := hS0.lo
  with_reducible refine W.seq ?_
  with_reducible refine W.region ?_
  refine WL.assign .nil rfl rfl rfl rfl ?_
  with_reducible refine WL.nil ?_
  with_reducible refine Ex.thn_norm ?_
  with_reducible refine W.seq ?_
  with_reducible refine W.seq ?_
  with_reducible refine W.region ?_
  refine WL.move .nil rfl rfl rfl rfl ?_
  with_reducible refine WL.nil ?_
  with_reducible refine Ex.thn_norm ?_
  refine W.cond rfl (fun hc3 => ?_) (fun hc3 => ?_)
  · replace hr := iteB_pos hr hc3
    with_reducible refine W.seq ?_
    with_reducible refine W.region ?_
    refine WL.assign .nil rfl rfl rfl rfl ?_
    with_reducible refine WL.nil ?_
    with_reducible refine Ex.thn_norm ?_
    with_reducible refine W.ret ?_
    with_reducible refine Ex.thn_ret ?_
    obtain rfl := Option.some.inj hr
    exact ⟨.inr rfl, _, (.cons (.tmp rfl) .nil), ⟨(Ext.st hE0 hS0), rfl⟩⟩
  · replace hr := iteB_neg hr hc3
    with_reducible refine W.skip ?_
    with_reducible refine Ex.thn_norm ?_
    with_reducible refine W.seq ?_
    with_reducible refine W.region ?_
    refine WL.move .nil rfl rfl rfl rfl ?_
    refine WL.assign .nil rfl rfl rfl rfl ?_
    with_reducible refine WL.nil ?_
    with_reducible refine Ex.thn_norm ?_
    with_reducible refine W.ret ?_
    obtain rfl := Option.some.inj hr
    exact ⟨.inr rfl, _, (.cons (.tmp rfl) .nil), ⟨(Ext.st hE0 hS0), rfl⟩⟩
theorem f_impl_longBytes_k {Δ : Prims} (g : Env Try.prog Δ) {lo n0 : Nat} {H0 F0 : Heap} (hS : St lo n0 H0 F0) {a2 : Option Addr} {cap3 : Nat} {xs1 : (List UInt8)} (h4 : SR F0 (.slice a2 xs1.length cap3) xs1) {res : (Int)} (hr : f_impl_longBytes xs1 = some res) :
    C Try.prog Δ n0 21 [.slice a2 xs1.length cap3] n0 H0 (fun v n H => St n0 n H F0 ∧ v = .int .i64 res) := by
  refine C.body Try.func21 rfl rfl ?_
  unfold f_impl_longBytes at hr
  have hS0 : St n0 n0 H0 F0 := hS.low (Nat.le_refl _)
  have hE0 := Ext.refl n0 F0
  have hlo0 := hS0.lo
  with_reducible refine W.seq ?_
  with_reducible refine W.region ?_
  refine WL.assign .nil rfl rfl rfl rfl ?_
  with_reducible refine WL.nil ?_
  with_reducible refine Ex.thn_norm ?_
  with_reducible refine W.seq ?_
  with_reducible refine W.region ?_
  refine WL.move .nil rfl rfl rfl rfl ?_
  refine WL.len .nil rfl rfl rfl Try.underlying22 rfl ?_
  refine WL.bin .nil rfl rfl rfl rfl rfl rfl ?_
  obtain ⟨x5, hx5, hr⟩ := bnd_some hr
  refine GL.callP g.good .nil rfl rfl rfl rfl rfl rfl Try.func44 rfl rfl hS0.lo (f_impl_unless_k  g hS0 hx5) (fun v n6 H7 hn8 hk9 hp10 => ?_)
  obtain ⟨hS11, rfl⟩ := hp10
  have hS12 : St n0 n6 H7 F0 := ⟨by have := hS0.lo; omega, hS11.hb, hS11.fh⟩
  have hlon6 := hS12.lo
  refine WL.assign .nil rfl rfl rfl rfl ?_
  with_reducible refine WL.nil ?_
  with_reducible refine Ex.thn_norm ?_
  with_reducible refine W.ret ?_
  obtain rfl := Option.some.inj hr
  exact ⟨.inr rfl, _, (.cons (.tmp rfl) .nil), ⟨(Ext.st hE0 hS12), rfl⟩⟩
theorem f_impl_readNumber_k {Δ : Prims} (g : Env Try.prog Δ) {lo n0 : Nat} {H0 F0 : Heap} (hS : St lo n0 H0 F0) {a2 : Option Addr} {cap3 : Nat} {xs1 : (List UInt8)} (h4 : SR F0 (.slice a2 xs1.length cap3) xs1) {res : (Int × Int)} (hr : f_impl_readNumber xs1 = some res) :
    C Try.prog Δ n0 45 [.slice a2 xs1.length cap3] n0 H0 (fun v n H => St n0 n H F0 ∧ v = .tuple #[.int .i64 res.1, .int .i64 res.2]) := by
  refine C.body Try.func45 rfl rfl ?_
  unfold f_impl_readNumber at hr
  have hS0 : St n0 n0 H0 F0 := hS.low (Nat.le_refl _)
  have hE0 := Ext.refl n0 F0
  have hlo0 := hS0.lo
  with_reducible refine W.seq ?_
  with_reducible refine W.region ?_
  refine WL.assign .nil rfl rfl rfl rfl ?_
  refine WL.assign .nil rfl rfl rfl rfl ?_
  with_reducible refine WL.nil ?_
  with_reducible refine Ex.thn_norm ?_
  with_reducible refine W.seq ?_
  with_reducible refine W.region ?_
  refine WL.assign .nil rfl rfl rfl rfl ?_
  with_reducible refine WL.nil ?_
  with_reducible refine Ex.thn_norm ?_
  with_reducible refine W.seq ?_
  with_reducible refine W.seq ?_
  with_reducible refine W.region ?_
  refine WL.assign .nil rfl rfl rfl rfl ?_
  with_reducible refine WL.nil ?_
  with_reducible refine Ex.thn_norm ?_
  with_reducible refine W.block ?_
  refine W.loopF (fun k0 fr n H => ∃ (x227 : Int) (x228 : Int) (F : Heap), fr = [(0, .slice a2 xs1.length cap3), (4, .int .i64 x227), (5, .int .i64 x228)] ∧ St n0 n H F ∧ Ext n0 F0 n F ∧ SR F (.slice a2 xs1.length cap3) xs1 ∧ f_impl_readNumber_L0 xs1 k0 x227 x228 = some res) BIG (fr0 := [(0, .slice a2 xs1.length cap3), (4, .int .i64 0), (5, .int .i64 0)]) (Fr.le_cons rfl (Fr.le_cons rfl (Fr.le_cons rfl Fr.le_nil))) ?_ ?_ ?_
  · exact ⟨0, 0, F0, rfl, hS0, hE0, h4, hr⟩
  · intro fr n H hI
    obtain ⟨x227, x228, F223, hfr, hS224, hE225, h226, hr⟩ := hI
    rw [f_impl_readNumber_L0] at hr
    cases hr
  · intro k0 _ n221 H222 hI
    obtain ⟨x227, x228, F223, rfl, hS224, hE225, h226, hr⟩ := hI
    have hlen221 := hE225.le
    have hlon221 := hS224.lo
    rw [f_impl_readNumber_L0] at hr
    with_reducible refine W.seq ?_
    with_reducible refine W.seq ?_
    with_reducible refine W.region ?_
    refine WL.move .nil rfl rfl rfl rfl ?_
    refine WL.bin .nil rfl rfl rfl rfl rfl rfl ?_
    with_reducible refine WL.nil ?_
    with_reducible refine Ex.thn_norm ?_
    refine W.condD rfl (fun hc230 => ?_) (fun hc230 => ?_)
    · replace hr := ite_pos hr hc230
      with_reducible refine W.skip ?_
      with_reducible refine Ex.thn_norm ?_
      with_reducible refine W.seq ?_
      with_reducible refine W.block ?_
      with_reducible refine W.seq ?_
      with_reducible refine W.seq ?_
      with_reducible refine W.region ?_
      refine WL.move .nil rfl rfl rfl rfl ?_
      refine WL.move .nil rfl rfl rfl rfl ?_
      refine WL.len .nil rfl rfl rfl Try.underlying22 rfl ?_
      refine WL.bin .nil rfl rfl rfl rfl rfl rfl ?_
      with_reducible refine WL.nil ?_
      with_reducible refine Ex.thn_norm ?_
      refine W.condD rfl (fun hc281 => ?_) (fun hc281 => ?_)
      · replace hr := ite_pos hr hc281
        with_reducible refine W.seq ?_
        with_reducible refine W.region ?_
        refine WL.assign .nil rfl rfl rfl rfl ?_
        refine WL.assign .nil rfl rfl rfl rfl ?_
        with_reducible refine WL.nil ?_
        with_reducible refine Ex.thn_norm ?_
        with_reducible refine W.ret ?_
        with_reducible refine Ex.thn_ret ?_
        with_reducible refine Ex.blk_ret ?_
        with_reducible refine Ex.thn_ret ?_
        with_reducible refine Ex.thn_ret ?_
        with_reducible refine Ex.blk_ret ?_
        with_reducible refine Ex.thn_ret ?_
        obtain rfl := Option.some.inj hr
        exact ⟨.inr rfl, _, (.cons (.tmp rfl) (.cons (.tmp rfl) .nil)), ⟨(Ext.st hE225 hS224), rfl⟩⟩
      · replace hr := ite_neg hr hc281
        with_reducible refine W.skip ?_
        with_reducible refine Ex.thn_norm ?_
        with_reducible refine W.seq ?_
        with_reducible refine W.region ?_
        refine WL.move .nil rfl rfl rfl rfl ?_
        refine WL.move .nil rfl rfl rfl rfl ?_
        refine WL.move .nil rfl rfl rfl rfl ?_
        obtain ⟨x282, hx282, hr⟩ := bnd_some hr
        refine GL.index .nil rfl rfl rfl Try.underlying22 info5 rfl rfl h226 hS224.fh rfl hx282 (fun b283 kp284 c285 ecs286 hrow287 hwin288 hR289 => ?_)
        have hcs : _ = ([u8 x282] : List Value) := hR289
        subst hcs
        refine WL.load1 .nil rfl rfl rfl Try.underlying5 rfl rfl hrow287 ((win_get0 hwin288 (show (0 : Nat) < 1 by decide)).trans rfl) ?_
        refine GL.u8and .nil x282 (127 : UInt8) rfl rfl rfl rfl rfl ?_
        refine WL.convN .nil rfl rfl rfl Try.underlying5 Try.underlying3 rfl topI64 (u8_bnd _).1 (u8_lt63 _) ?_
        refine WL.move .nil rfl rfl rfl rfl ?_
        obtain ⟨hc290, hr⟩ := chk_some hr
        refine WL.mulI .nil rfl rfl rfl rfl rfl hc290.1 hc290.2 ?_
        obtain ⟨hc291, hr⟩ := chk_some hr
        refine GL.shlI .nil rfl rfl rfl rfl rfl hc291 ?_
        obtain ⟨hc292, hr⟩ := chk_some hr
        refine WL.orN .nil rfl rfl rfl rfl rfl topI64 rfl rfl hc292.1 hc292.2.1 hc292.2.2.1 hc292.2.2.2 (fun _ => ?_)
        refine WL.assign .nil rfl rfl rfl rfl ?_
        with_reducible refine WL.nil ?_
        with_reducible refine Ex.thn_norm ?_
        with_reducible refine W.seq ?_
        with_reducible refine W.region ?_
        refine WL.move .nil rfl rfl rfl rfl ?_
        refine WL.move .nil rfl rfl rfl rfl ?_
        obtain ⟨x293, hx293, hr⟩ := bnd_some hr
        refine GL.index .nil rfl rfl rfl Try.underlying22 info5 rfl rfl h226 hS224.fh rfl hx293 (fun b294 kp295 c296 ecs297 hrow298 hwin299 hR300 => ?_)
        have hcs : _ = ([u8 x293] : List Value) := hR300
        subst hcs
        refine WL.load1 .nil rfl rfl rfl Try.underlying5 rfl rfl hrow298 ((win_get0 hwin299 (show (0 : Nat) < 1 by decide)).trans rfl) ?_
        refine WL.bin .nil rfl rfl rfl rfl rfl rfl ?_
        with_reducible refine WL.nil ?_
        with_reducible refine Ex.thn_norm ?_
        refine W.condD rfl (fun hc301 => ?_) (fun hc301 => ?_)
        · replace hr := ite_pos hr hc301
          with_reducible refine W.seq ?_
          with_reducible refine W.seq ?_
          refine W.cut (fun fr n H => ∃ (x316 : Bool) (F : Heap), fr = [(4, .int .i64 ((x227.toNat ||| (shl64 ((x282 &&& (127 : UInt8)).toNat : Int) ((7 : Int) * x228)).toNat : Nat) : Int)), (5, .int .i64 x228), (38, .bool x316)] ∧ St n0 n H F ∧ Ext n0 F0 n F ∧ f_impl_readNumber_J1 x228 x227 x282 x316 = some res) ?_ ?_
          · with_reducible refine W.region ?_
            refine WL.move .nil rfl rfl rfl rfl ?_
            refine WL.bin .nil rfl rfl rfl rfl rfl rfl ?_
            refine WL.move .nil rfl rfl rfl rfl ?_
            refine WL.guardD rfl rfl rfl (fun hg320 => ?_) (fun hg320 => ?_)
            · replace hr := ite_pos hr hg320
              refine WL.move .nil rfl rfl rfl rfl ?_
              refine WL.move .nil rfl rfl rfl rfl ?_
              obtain ⟨x321, hx321, hr⟩ := bnd_some hr
              refine GL.index .nil rfl rfl rfl Try.underlying22 info5 rfl rfl h226 hS224.fh rfl hx321 (fun b322 kp323 c324 ecs325 hrow326 hwin327 hR328 => ?_)
              have hcs : _ = ([u8 x321] : List Value) := hR328
              subst hcs
              refine WL.load1 .nil rfl rfl rfl Try.underlying5 rfl rfl hrow326 ((win_get0 hwin327 (show (0 : Nat) < 1 by decide)).trans rfl) ?_
              refine WL.bin .nil rfl rfl rfl rfl rfl rfl ?_
              refine WL.pick .nil rfl rfl rfl rfl rfl ?_
              with_reducible refine WL.nil ?_
              with_reducible refine Ex.thn_norm ?_
              exact ⟨[(4, .int .i64 ((x227.toNat ||| (shl64 ((x282 &&& (127 : UInt8)).toNat : Int) ((7 : Int) * x228)).toNat : Nat) : Int)), (5, .int .i64 x228), (38, .bool (decide ((x321.toNat : Int) = (0 : Int))))], (Fr.le_cons rfl (Fr.le_cons rfl (Fr.le_cons rfl Fr.le_nil))), (decide ((x321.toNat : Int) = (0 : Int))), F223, rfl, hS224, hE225, hr⟩
            · replace hr := ite_neg hr hg320
              refine WL.skip .nil rfl rfl ?_
              refine WL.skip .nil rfl rfl ?_
              refine WL.skip .nil rfl rfl ?_
              refine WL.skip .nil rfl rfl ?_
              refine WL.skip .nil rfl rfl ?_
              refine WL.pick .nil rfl rfl rfl rfl rfl ?_
              with_reducible refine WL.nil ?_
              with_reducible refine Ex.thn_norm ?_
              exact ⟨[(4, .int .i64 ((x227.toNat ||| (shl64 ((x282 &&& (127 : UInt8)).toNat : Int) ((7 : Int) * x228)).toNat : Nat) : Int)), (5, .int .i64 x228), (38, .bool false)], (Fr.le_cons rfl (Fr.le_cons rfl (Fr.le_cons rfl Fr.le_nil))), false, F223, rfl, hS224, hE225, hr⟩
          · intro _ n311 H312 hI
            obtain ⟨x316, F313, rfl, hS314, hE315, hr⟩ := hI
            have hlen311 := hE315.le
            have hlon311 := hS314.lo
            unfold f_impl_readNumber_J1 at hr
            refine W.cond rfl (fun hc318 => ?_) (fun hc318 => ?_)
            · replace hr := iteB_pos hr hc318
              with_reducible refine W.seq ?_
              with_reducible refine W.region ?_
              refine WL.assign .nil rfl rfl rfl rfl ?_
              refine WL.assign .nil rfl rfl rfl rfl ?_
              with_reducible refine WL.nil ?_
              with_reducible refine Ex.thn_norm ?_
              with_reducible refine W.ret ?_
              with_reducible refine Ex.thn_ret ?_
              with_reducible refine Ex.blk_ret ?_
              with_reducible refine Ex.thn_ret ?_
              with_reducible refine Ex.thn_ret ?_
              with_reducible refine Ex.blk_ret ?_
              with_reducible refine Ex.thn_ret ?_
              obtain rfl := Option.some.inj hr
              exact ⟨.inr rfl, _, (.cons (.tmp rfl) (.cons (.tmp rfl) .nil)), ⟨(Ext.st hE315 hS314), rfl⟩⟩
            · replace hr := iteB_neg hr hc318
              with_reducible refine W.skip ?_
              with_reducible refine Ex.thn_norm ?_
              with_reducible refine W.seq ?_
              with_reducible refine W.region ?_
              refine WL.move .nil rfl rfl rfl rfl ?_
              refine WL.move .nil rfl rfl rfl rfl ?_
              obtain ⟨hc319, hr⟩ := chk_some hr
              refine WL.addI .nil rfl rfl rfl rfl rfl hc319.1 hc319.2 ?_
              refine WL.assign .nil rfl rfl rfl rfl ?_
              refine WL.assign .nil rfl rfl rfl rfl ?_
              with_reducible refine WL.nil ?_
              with_reducible refine Ex.thn_norm ?_
              with_reducible refine W.ret ?_
              with_reducible refine Ex.blk_ret ?_
              with_reducible refine Ex.thn_ret ?_
              with_reducible refine Ex.thn_ret ?_
              with_reducible refine Ex.blk_ret ?_
              with_reducible refine Ex.thn_ret ?_
              obtain rfl := Option.some.inj hr
              exact ⟨.inr rfl, _, (.cons (.tmp rfl) (.cons (.tmp rfl) .nil)), ⟨(Ext.st hE315 hS314), rfl⟩⟩
        · replace hr := ite_neg hr hc301
          with_reducible refine W.skip ?_
          with_reducible refine Ex.blk_norm ?_
          with_reducible refine Ex.thn_norm ?_
          with_reducible refine W.region ?_
          refine WL.move .nil rfl rfl rfl rfl ?_
          obtain ⟨hc329, hr⟩ := chk_some hr
          refine WL.addI .nil rfl rfl rfl rfl rfl hc329.1 hc329.2 ?_
          refine WL.assign .nil rfl rfl rfl rfl ?_
          with_reducible refine WL.nil ?_
          with_reducible refine Ex.thn_norm ?_
          exact ⟨[(0, .slice a2 xs1.length cap3), (4, .int .i64 ((x227.toNat ||| (shl64 ((x282 &&& (127 : UInt8)).toNat : Int) ((7 : Int) * x228)).toNat : Nat) : Int)), (5, .int .i64 (x228 + 1))], (Fr.le_cons rfl (Fr.le_cons rfl (Fr.le_cons rfl Fr.le_nil))), ((x227.toNat ||| (shl64 ((x282 &&& (127 : UInt8)).toNat : Int) ((7 : Int) * x228)).toNat : Nat) : Int), (x228 + 1), F223, rfl, hS224, hE225, h226, hr⟩
    · replace hr := ite_neg hr hc230
      with_reducible refine W.exit ?_
      with_reducible refine Ex.thn_ex ?_
      with_reducible refine Ex.thn_ex ?_
      with_reducible refine Ex.blk_here ?_
      with_reducible refine Ex.thn_norm ?_
      with_reducible refine W.seq ?_
      with_reducible refine W.region ?_
      refine WL.assign .nil rfl rfl rfl rfl ?_
      refine WL.assign .nil rfl rfl rfl rfl ?_
      with_reducible refine WL.nil ?_
      with_reducible refine Ex.thn_norm ?_
      with_reducible refine W.ret ?_
      obtain rfl := Option.some.inj hr
      exact ⟨.inr rfl, _, (.cons (.tmp rfl) (.cons (.tmp rfl) .nil)), ⟨(Ext.st hE225 hS224), rfl⟩⟩
theorem f_impl_byteReader_number_k {Δ : Prims} (g : Env Try.prog Δ) {lo n0 : Nat} {H0 F0 : Heap} (hS : St lo n0 H0 F0) {p0 : Nat} {x1 : GbyteReader} {ez0 : Nat} {a2 : Option Addr} {cap3 : Nat} (ho5 : H0 p0 = some (.row ez0 [.slice a2 x1.b.length cap3, .bool x1.bad])) (fo6 : F0 p0 = none) (lo7 : lo ≤ p0) (h4 : SR F0 (.slice a2 x1.b.length cap3) x1.b) {res : (GbyteReader × Int)} (hr : f_impl_byteReader_number x1 = some res) :
    C Try.prog Δ lo 22 [.pointer (some ⟨p0, 0, none⟩)] n0 H0 (fun v n H => ∃ (F : Heap) (ra1 : Option Addr) (rcap2 : Nat), Ext n0 F0 n F ∧ St lo n H F ∧ H p0 = some (.row ez0 [.slice ra1 res.1.b.length rcap2, .bool res.1.bad]) ∧ v = .int .i64 res.2 ∧ SR F (.slice ra1 res.1.b.length rcap2) res.1.b) := by
  refine C.body Try.func22 rfl rfl ?_
  unfold f_impl_byteReader_number at hr
  have hS0 : St lo n0 H0 F0 := hS
  have hE0 := Ext.refl n0 F0
  have hlo0 := hS0.lo
  have lt0 := hS0.lt ho5
  with_reducible refine W.seq ?_
  with_reducible refine W.region ?_
  refine WL.assign .nil rfl rfl rfl rfl ?_
  with_reducible refine WL.nil ?_
  with_reducible refine Ex.thn_norm ?_
  with_reducible refine W.seq ?_
  with_reducible refine W.region ?_
  refine WL.move .nil rfl rfl rfl rfl ?_
  refine WL.nilCheck .nil rfl rfl rfl rfl ?_
  refine WL.fieldAddr .nil rfl rfl rfl Try.underlying59 rfl info22 rfl rfl ?_
  refine WL.load1 .nil rfl rfl rfl Try.underlying22 rfl rfl ho5 rfl ?_
  obtain ⟨x8, hx8, hr⟩ := bnd_some hr
  refine GL.callP g.good .nil rfl rfl rfl rfl rfl rfl Try.func45 rfl rfl hS0.lo (f_impl_readNumber_k  g hS0 h4 hx8) (fun v n9 H10 hn11 hk12 hp13 => ?_)
  obtain ⟨hS14, rfl⟩ := hp13
  have ho15 := (hk12 _ (by have := lt0; omega)).trans ho5
  have hS16 : St lo n9 H10 F0 := ⟨by have := hS0.lo; omega, hS14.hb, hS14.fh⟩
  have hlon9 := hS16.lo
  refine WL.move .nil rfl rfl rfl rfl ?_
  refine WL.extract .nil rfl rfl rfl rfl rfl ?_
  refine WL.extract .nil rfl rfl rfl rfl rfl ?_
  refine WL.assign .nil rfl rfl rfl rfl ?_
  refine WL.assign .nil rfl rfl rfl rfl ?_
  with_reducible refine WL.nil ?_
  with_reducible refine Ex.thn_norm ?_
  with_reducible refine W.seq ?_
  with_reducible refine W.seq ?_
  refine W.cut (fun fr n H => ∃ (x32 : Bool) (F : Heap), fr = [(0, .pointer (some ⟨p0, 0, none⟩)), (3, .int .i64 x8.1), (4, .int .i64 x8.2)] ∧ St lo n H F ∧ Ext n0 F0 n F ∧ H p0 = some (.row ez0 [.slice a2 x1.b.length cap3, .bool x32]) ∧ F p0 = none ∧ SR F (.slice a2 x1.b.length cap3) x1.b ∧ f_impl_byteReader_number_J0 x1 x8 x32 = some res) ?_ ?_
  · with_reducible refine W.region ?_
    refine WL.move .nil rfl rfl rfl rfl ?_
    refine WL.move .nil rfl rfl rfl rfl ?_
    refine WL.nilCheck .nil rfl rfl rfl rfl ?_
    refine WL.fieldAddr .nil rfl rfl rfl Try.underlying59 rfl info4 rfl rfl ?_
    refine WL.load1 .nil rfl rfl rfl Try.underlying4 rfl rfl ho15 rfl ?_
    refine WL.move .nil rfl rfl rfl rfl ?_
    refine WL.guard rfl rfl rfl (fun hg47 => ?_) (fun hg47 => ?_)
    · replace hr := iteB_pos hr hg47
      refine WL.skip .nil rfl rfl ?_
      refine WL.skip .nil rfl rfl ?_
      refine WL.pick .nil rfl rfl rfl rfl rfl ?_
      refine WL.nilCheck .nil rfl rfl rfl rfl ?_
      refine WL.fieldAddr .nil rfl rfl rfl Try.underlying59 rfl info4 rfl rfl ?_
      refine GL.store hS16 .nil (vc := [.bool true]) (c' := [.slice a2 x1.b.length cap3, .bool true]) rfl rfl rfl info4 rfl rfl rfl rfl ho15 fo6 (Nat.le_of_ble_eq_true rfl) lo7 (by repeat' (first | exact List.forall_mem_nil _ | refine List.forall_mem_cons.2 ⟨?_, ?_⟩ | rfl)) rfl (fun H48 hS49 ho50 hk51 => ?_)
      with_reducible refine WL.nil ?_
      with_reducible refine Ex.thn_norm ?_
      exact ⟨[(0, .pointer (some ⟨p0, 0, none⟩)), (3, .int .i64 x8.1), (4, .int .i64 x8.2)], (Fr.le_cons rfl (Fr.le_cons rfl (Fr.le_cons rfl Fr.le_nil))), true, F0, rfl, hS49, (hE0.up (by omega)), ho50, fo6, h4, hr⟩
    · replace hr := iteB_neg hr hg47
      refine WL.move .nil rfl rfl rfl rfl ?_
      refine WL.bin .nil rfl rfl rfl rfl rfl rfl ?_
      refine WL.pick .nil rfl rfl rfl rfl rfl ?_
      refine WL.nilCheck .nil rfl rfl rfl rfl ?_
      refine WL.fieldAddr .nil rfl rfl rfl Try.underlying59 rfl info4 rfl rfl ?_
      refine GL.store hS16 .nil (vc := [.bool (decide (x8.2 ≤ 0))]) (c' := [.slice a2 x1.b.length cap3, .bool (decide (x8.2 ≤ 0))]) rfl rfl rfl info4 rfl rfl rfl rfl ho15 fo6 (Nat.le_of_ble_eq_true rfl) lo7 (by repeat' (first | exact List.forall_mem_nil _ | refine List.forall_mem_cons.2 ⟨?_, ?_⟩ | rfl)) rfl (fun H52 hS53 ho54 hk55 => ?_)
      with_reducible refine WL.nil ?_
      with_reducible refine Ex.thn_norm ?_
      exact ⟨[(0, .pointer (some ⟨p0, 0, none⟩)), (3, .int .i64 x8.1), (4, .int .i64 x8.2)], (Fr.le_cons rfl (Fr.le_cons rfl (Fr.le_cons rfl Fr.le_nil))), (decide (x8.2 ≤ 0)), F0, rfl, hS53, (hE0.up (by omega)), ho54, fo6, h4, hr⟩
  · intro _ n26 H27 hI
    obtain ⟨x32, F28, rfl, hS29, hE30, ho33, fo34, h31, hr⟩ := hI
    have lt35 := hS29.lt ho33
    have hlen26 := hE30.le
    have hlon26 := hS29.lo
    unfold f_impl_byteReader_number_J0 at hr
    with_reducible refine W.seq ?_
    with_reducible refine W.region ?_
    refine WL.move .nil rfl rfl rfl rfl ?_
    refine WL.nilCheck .nil rfl rfl rfl rfl ?_
    refine WL.fieldAddr .nil rfl rfl rfl Try.underlying59 rfl info4 rfl rfl ?_
    refine WL.load1 .nil rfl rfl rfl Try.underlying4 rfl rfl ho33 rfl ?_
    with_reducible refine WL.nil ?_
    with_reducible refine Ex.thn_norm ?_
    refine W.cond rfl (fun hc37 => ?_) (fun hc37 => ?_)
    · replace hr := iteB_pos hr hc37
      with_reducible refine W.seq ?_
      with_reducible refine W.region ?_
      refine WL.assign .nil rfl rfl rfl rfl ?_
      with_reducible refine WL.nil ?_
      with_reducible refine Ex.thn_norm ?_
      with_reducible refine W.ret ?_
      with_reducible refine Ex.thn_ret ?_
      obtain rfl := Option.some.inj hr
      exact ⟨.inr rfl, _, (.cons (.tmp rfl) .nil), ⟨F28, a2, cap3, (hE30.up (by omega)), hS29, ho33, rfl, h31⟩⟩
    · replace hr := iteB_neg hr hc37
      with_reducible refine W.skip ?_
      with_reducible refine Ex.thn_norm ?_
      with_reducible refine W.seq ?_
      with_reducible refine W.region ?_
      refine WL.move .nil rfl rfl rfl rfl ?_
      refine WL.move .nil rfl rfl rfl rfl ?_
      refine WL.nilCheck .nil rfl rfl rfl rfl ?_
      refine WL.fieldAddr .nil rfl rfl rfl Try.underlying59 rfl info22 rfl rfl ?_
      refine WL.load1 .nil rfl rfl rfl Try.underlying22 rfl rfl ho33 rfl ?_
      refine WL.move .nil rfl rfl rfl rfl ?_
      obtain ⟨xs38, hxs38, hr⟩ := bnd_some hr
      refine GL.slice .nil rfl rfl rfl Try.underlying22 info5 rfl rfl h31 hS29.fh ⟨_, rfl⟩ rfl hxs38 (fun a39 cap40 hid41 h42 => ?_)
      refine WL.nilCheck .nil rfl rfl rfl rfl ?_
      refine WL.fieldAddr .nil rfl rfl rfl Try.underlying59 rfl info22 rfl rfl ?_
      refine GL.store hS29 .nil (vc := [.slice a39 xs38.length cap40]) (c' := [.slice a39 xs38.length cap40, .bool x32]) rfl rfl rfl info22 rfl rfl rfl rfl ho33 fo34 (Nat.le_of_ble_eq_true rfl) lo7 (by repeat' (first | exact List.forall_mem_nil _ | refine List.forall_mem_cons.2 ⟨?_, ?_⟩ | rfl)) rfl (fun H43 hS44 ho45 hk46 => ?_)
      with_reducible refine WL.nil ?_
      with_reducible refine Ex.thn_norm ?_
      with_reducible refine W.seq ?_
      with_reducible refine W.region ?_
      refine WL.move .nil rfl rfl rfl rfl ?_
      refine WL.assign .nil rfl rfl rfl rfl ?_
      with_reducible refine WL.nil ?_
      with_reducible refine Ex.thn_norm ?_
      with_reducible refine W.ret ?_
      obtain rfl := Option.some.inj hr
      exact ⟨.inr rfl, _, (.cons (.tmp rfl) .nil), ⟨F28, a39, cap40, (hE30.up (by omega)), hS44, ho45, rfl, h42⟩⟩
theorem f_impl_byteReader_text_k {Δ : Prims} (g : Env Try.prog Δ) {lo n0 : Nat} {H0 F0 : Heap} (hS : St lo n0 H0 F0) {p0 : Nat} {x1 : GbyteReader} {ez0 : Nat} {a2 : Option Addr} {cap3 : Nat} (ho5 : H0 p0 = some (.row ez0 [.slice a2 x1.b.length cap3, .bool x1.bad])) (fo6 : F0 p0 = none) (lo7 : lo ≤ p0) (h4 : SR F0 (.slice a2 x1.b.length cap3) x1.b) {res : (GbyteReader × Str)} (hr : f_impl_byteReader_text x1 = some res) :
    C Try.prog Δ lo 23 [.pointer (some ⟨p0, 0, none⟩)] n0 H0 (fun v n H => ∃ (F : Heap) (ra1 : Option Addr) (rcap2 : Nat), Ext n0 F0 n F ∧ St lo n H F ∧ H p0 = some (.row ez0 [.slice ra1 res.1.b.length rcap2, .bool res.1.bad]) ∧ v = str res.2 ∧ SR F (.slice ra1 res.1.b.length rcap2) res.1.b) := by
  refine C.body Try.func23 rfl rfl ?_
  unfold f_impl_byteReader_text at hr
  have hS0 : St lo n0 H0 F0 := hS
  have hE0 := Ext.refl n0 F0
  have hlo0 := hS0.lo
  have lt0 := hS0.lt ho5
  with_reducible refine W.seq ?_
  with_reducible refine W.region ?_
  refine WL.assign .nil rfl rfl rfl rfl ?_
  with_reducible refine WL.nil ?_
  with_reducible refine Ex.thn_norm ?_
  with_reducible refine W.seq ?_
  with_reducible refine W.region ?_
  refine WL.move .nil rfl rfl rfl rfl ?_
  obtain ⟨x8, hx8, hr⟩ := bnd_some hr
  refine GL.callIO g .nil (fun i => (F0 i).isSome = true ∨ i = p0) rfl rfl rfl rfl rfl rfl Try.func22 rfl rfl (Nat.le_refl _) hS0.lo (f_impl_byteReader_number_k (x1 := ({ b := x1.b, bad := x1.bad } : GbyteReader)) g (St.vis hS0 (fun i hi => .inl hi)) (vis_get ho5 (.inr (rfl))) fo6 lo7 h4 hx8) (fun v n9 H10 H11 hn12 hp13 hle14 hnew15 hk16 hd17 => ?_)
  obtain ⟨F22, a18, cap19, hX23, hS21, ho24, rfl, h20⟩ := hp13
  have hS25 : St lo n9 H10 _ := ⟨hS21.lo, fun i hi => (hnew15 i (by omega)).trans (hS21.hb i hi), hS21.fh.trans hle14⟩
  have fo26 := (hX23.eq _ (by have := lt0; omega)).trans fo6
  have hE27 := (hE0.up (n' := n0) (by omega)).trans hX23
  have ho28 := hle14 _ _ ho24
  have hlon9 := hS25.lo
  have lt29 := hS25.lt ho28
  refine WL.assign .nil rfl rfl rfl rfl ?_
  with_reducible refine WL.nil ?_
  with_reducible refine Ex.thn_norm ?_
  with_reducible refine W.seq ?_
  with_reducible refine W.seq ?_
  refine W.cut (fun fr n H => ∃ (x45 : Bool) (F : Heap), fr = [(0, .pointer (some ⟨p0, 0, none⟩)), (3, .int .i64 x8.2)] ∧ St lo n H F ∧ Ext n0 F0 n F ∧ H p0 = some (.row ez0 [.slice a18 x8.1.b.length cap19, .bool x45]) ∧ F p0 = none ∧ SR F (.slice a18 x8.1.b.length cap19) x8.1.b ∧ f_impl_byteReader_text_J0 x8 x45 = some res) ?_ ?_
  · with_reducible refine W.region ?_
    refine WL.move .nil rfl rfl rfl rfl ?_
    refine WL.move .nil rfl rfl rfl rfl ?_
    refine WL.nilCheck .nil rfl rfl rfl rfl ?_
    refine WL.fieldAddr .nil rfl rfl rfl Try.underlying59 rfl info4 rfl rfl ?_
    refine WL.load1 .nil rfl rfl rfl Try.underlying4 rfl rfl ho28 rfl ?_
    refine WL.move .nil rfl rfl rfl rfl ?_
    refine WL.guard rfl rfl rfl (fun hg65 => ?_) (fun hg65 => ?_)
    · replace hr := iteB_pos hr hg65
      refine WL.skip .nil rfl rfl ?_
      refine WL.skip .nil rfl rfl ?_
      refine WL.skip .nil rfl rfl ?_
      refine WL.skip .nil rfl rfl ?_
      refine WL.skip .nil rfl rfl ?_
      refine WL.skip .nil rfl rfl ?_
      refine WL.skip .nil rfl rfl ?_
      refine WL.pick .nil rfl rfl rfl rfl rfl ?_
      refine WL.nilCheck .nil rfl rfl rfl rfl ?_
      refine WL.fieldAddr .nil rfl rfl rfl Try.underlying59 rfl info4 rfl rfl ?_
      refine GL.store hS25 .nil (vc := [.bool true]) (c' := [.slice a18 x8.1.b.length cap19, .bool true]) rfl rfl rfl info4 rfl rfl rfl rfl ho28 fo26 (Nat.le_of_ble_eq_true rfl) lo7 (by repeat' (first | exact List.forall_mem_nil _ | refine List.forall_mem_cons.2 ⟨?_, ?_⟩ | rfl)) rfl (fun H66 hS67 ho68 hk69 => ?_)
      with_reducible refine WL.nil ?_
      with_reducible refine Ex.thn_norm ?_
      exact ⟨[(0, .pointer (some ⟨p0, 0, none⟩)), (3, .int .i64 x8.2)], (Fr.le_cons rfl (Fr.le_cons rfl Fr.le_nil)), true, F22, rfl, hS67, hE27, ho68, fo26, h20, hr⟩
    · replace hr := iteB_neg hr hg65
      refine WL.move .nil rfl rfl rfl rfl ?_
      refine WL.move .nil rfl rfl rfl rfl ?_
      refine WL.nilCheck .nil rfl rfl rfl rfl ?_
      refine WL.fieldAddr .nil rfl rfl rfl Try.underlying59 rfl info22 rfl rfl ?_
      refine WL.load1 .nil rfl rfl rfl Try.underlying22 rfl rfl ho28 rfl ?_
      refine WL.len .nil rfl rfl rfl Try.underlying22 rfl ?_
      refine WL.bin .nil rfl rfl rfl rfl rfl rfl ?_
      refine WL.pick .nil rfl rfl rfl rfl rfl ?_
      refine WL.nilCheck .nil rfl rfl rfl rfl ?_
      refine WL.fieldAddr .nil rfl rfl rfl Try.underlying59 rfl info4 rfl rfl ?_
      refine GL.store hS25 .nil (vc := [.bool (decide ((x8.1.b.length : Int) < x8.2))]) (c' := [.slice a18 x8.1.b.length cap19, .bool (decide ((x8.1.b.length : Int) < x8.2))]) rfl rfl rfl info4 rfl rfl rfl rfl ho28 fo26 (Nat.le_of_ble_eq_true rfl) lo7 (by repeat' (first | exact List.forall_mem_nil _ | refine List.forall_mem_cons.2 ⟨?_, ?_⟩ | rfl)) rfl (fun H70 hS71 ho72 hk73 => ?_)
      with_reducible refine WL.nil ?_
      with_reducible refine Ex.thn_norm ?_
      exact ⟨[(0, .pointer (some ⟨p0, 0, none⟩)), (3, .int .i64 x8.2)], (Fr.le_cons rfl (Fr.le_cons rfl Fr.le_nil)), (decide ((x8.1.b.length : Int) < x8.2)), F22, rfl, hS71, hE27, ho72, fo26, h20, hr⟩
  · intro _ n39 H40 hI
    obtain ⟨x45, F41, rfl, hS42, hE43, ho46, fo47, h44, hr⟩ := hI
    have lt48 := hS42.lt ho46
    have hlen39 := hE43.le
    have hlon39 := hS42.lo
    unfold f_impl_byteReader_text_J0 at hr
    with_reducible refine W.seq ?_
    with_reducible refine W.region ?_
    refine WL.move .nil rfl rfl rfl rfl ?_
    refine WL.nilCheck .nil rfl rfl rfl rfl ?_
    refine WL.fieldAddr .nil rfl rfl rfl Try.underlying59 rfl info4 rfl rfl ?_
    refine WL.load1 .nil rfl rfl rfl Try.underlying4 rfl rfl ho46 rfl ?_
    with_reducible refine WL.nil ?_
    with_reducible refine Ex.thn_norm ?_
    refine W.cond rfl (fun hc50 => ?_) (fun hc50 => ?_)
    · replace hr := iteB_pos hr hc50
      with_reducible refine W.seq ?_
      with_reducible refine W.region ?_
      refine WL.assign .nil rfl rfl rfl rfl ?_
      with_reducible refine WL.nil ?_
      with_reducible refine Ex.thn_norm ?_
      with_reducible refine W.ret ?_
      with_reducible refine Ex.thn_ret ?_
      obtain rfl := Option.some.inj hr
      exact ⟨.inr rfl, _, (.cons (.tmp rfl) .nil), ⟨F41, a18, cap19, (hE43.up (by omega)), hS42, ho46, rfl, h44⟩⟩
    · replace hr := iteB_neg hr hc50
      with_reducible refine W.skip ?_
      with_reducible refine Ex.thn_norm ?_
      with_reducible refine W.seq ?_
      with_reducible refine W.region ?_
      refine WL.move .nil rfl rfl rfl rfl ?_
      refine WL.nilCheck .nil rfl rfl rfl rfl ?_
      refine WL.fieldAddr .nil rfl rfl rfl Try.underlying59 rfl info22 rfl rfl ?_
      refine WL.load1 .nil rfl rfl rfl Try.underlying22 rfl rfl ho46 rfl ?_
      refine WL.move .nil rfl rfl rfl rfl ?_
      obtain ⟨xs51, hxs51, hr⟩ := bnd_some hr
      refine GL.slice .nil rfl rfl rfl Try.underlying22 info5 rfl rfl h44 hS42.fh rfl ⟨_, rfl⟩ hxs51 (fun a52 cap53 hid54 h55 => ?_)
      refine GL.toStr .nil rfl rfl rfl Try.underlying22 Try.underlying9 Try.underlying5 rfl h55 hS42.fh ?_
      refine WL.assign .nil rfl rfl rfl rfl ?_
      with_reducible refine WL.nil ?_
      with_reducible refine Ex.thn_norm ?_
      with_reducible refine W.seq ?_
      with_reducible refine W.region ?_
      refine WL.move .nil rfl rfl rfl rfl ?_
      refine WL.move .nil rfl rfl rfl rfl ?_
      refine WL.nilCheck .nil rfl rfl rfl rfl ?_
      refine WL.fieldAddr .nil rfl rfl rfl Try.underlying59 rfl info22 rfl rfl ?_
      refine WL.load1 .nil rfl rfl rfl Try.underlying22 rfl rfl ho46 rfl ?_
      refine WL.move .nil rfl rfl rfl rfl ?_
      obtain ⟨xs56, hxs56, hr⟩ := bnd_some hr
      refine GL.slice .nil rfl rfl rfl Try.underlying22 info5 rfl rfl h44 hS42.fh ⟨_, rfl⟩ rfl hxs56 (fun a57 cap58 hid59 h60 => ?_)
      refine WL.nilCheck .nil rfl rfl rfl rfl ?_
      refine WL.fieldAddr .nil rfl rfl rfl Try.underlying59 rfl info22 rfl rfl ?_
      refine GL.store hS42 .nil (vc := [.slice a57 xs56.length cap58]) (c' := [.slice a57 xs56.length cap58, .bool x45]) rfl rfl rfl info22 rfl rfl rfl rfl ho46 fo47 (Nat.le_of_ble_eq_true rfl) lo7 (by repeat' (first | exact List.forall_mem_nil _ | refine List.forall_mem_cons.2 ⟨?_, ?_⟩ | rfl)) rfl (fun H61 hS62 ho63 hk64 => ?_)
      with_reducible refine WL.nil ?_
      with_reducible refine Ex.thn_norm ?_
      with_reducible refine W.seq ?_
      with_reducible refine W.region ?_
      refine WL.move .nil rfl rfl rfl rfl ?_
      refine WL.assign .nil rfl rfl rfl rfl ?_
      with_reducible refine WL.nil ?_
      with_reducible refine Ex.thn_norm ?_
      with_reducible refine W.ret ?_
      obtain rfl := Option.some.inj hr
      exact ⟨.inr rfl, _, (.cons (.tmp rfl) .nil), ⟨F41, a57, cap58, (hE43.up (by omega)), hS62, ho63, rfl, h60⟩⟩
theorem f_impl_within_k {Δ : Prims} (g : Env Try.prog Δ) {lo n0 : Nat} {H0 F0 : Heap} (hS : St lo n0 H0 F0) {x1 : Int} {x2 : Int} {x3 : Int} {res : (Bool)} (hr : f_impl_within x1 x2 x3 = some res) :
    C Try.prog Δ n0 63 [.int .i64 x1, .int .i64 x2, .int .i64 x3] n0 H0 (fun v n H => St n0 n H F0 ∧ v = .bool res) := by
  refine C.body Try.func63 rfl rfl ?_
  unfold f_impl_within at hr
  have hS0 : St n0 n0 H0 F0 := hS.low (Nat.le_refl _)
  have hE0 := Ext.refl n0 F0
  have hlo0 := hS0.lo
  with_reducible refine W.seq ?_
  with_reducible refine W.region ?_
  refine WL.assign .nil rfl rfl rfl rfl ?_
  with_reducible refine WL.nil ?_
  with_reducible refine Ex.thn_norm ?_
  with_reducible refine W.seq ?_
  with_reducible refine W.region ?_
  refine WL.move .nil rfl rfl rfl rfl ?_
  refine WL.move .nil rfl rfl rfl rfl ?_
  refine WL.bin .nil rfl rfl rfl rfl rfl rfl ?_
  refine WL.move .nil rfl rfl rfl rfl ?_
  refine WL.guardD rfl rfl rfl (fun hg4 => ?_) (fun hg4 => ?_)
  · replace hr := ite_pos hr hg4
    refine WL.move .nil rfl rfl rfl rfl ?_
    refine WL.move .nil rfl rfl rfl rfl ?_
    refine WL.bin .nil rfl rfl rfl rfl rfl rfl ?_
    refine WL.pick .nil rfl rfl rfl rfl rfl ?_
    refine WL.assign .nil rfl rfl rfl rfl ?_
    with_reducible refine WL.nil ?_
    with_reducible refine Ex.thn_norm ?_
    with_reducible refine W.ret ?_
    obtain rfl := Option.some.inj hr
    exact ⟨.inr rfl, _, (.cons (.tmp rfl) .nil), ⟨(Ext.st hE0 hS0), rfl⟩⟩
  · replace hr := ite_neg hr hg4
    refine WL.skip .nil rfl rfl ?_
    refine WL.skip .nil rfl rfl ?_
    refine WL.skip .nil rfl rfl ?_
    refine WL.pick .nil rfl rfl rfl rfl rfl ?_
    refine WL.assign .nil rfl rfl rfl rfl ?_
    with_reducible refine WL.nil ?_
    with_reducible refine Ex.thn_norm ?_
    with_reducible refine W.ret ?_
    obtain rfl := Option.some.inj hr
    exact ⟨.inr rfl, _, (.cons (.tmp rfl) .nil), ⟨(Ext.st hE0 hS0), rfl⟩⟩
theorem f_impl_NameOK_k {Δ : Prims} (g : Env Try.prog Δ) {lo n0 : Nat} {H0 F0 : Heap} (hS : St lo n0 H0 F0) {x1 : Str} {res : (Bool)} (hr : f_impl_NameOK x1 = some res) :
    C Try.prog Δ n0 46 [str x1] n0 H0 (fun v n H => St n0 n H F0 ∧ v = .bool res) := by
  refine C.body Try.func46 rfl rfl ?_
  unfold f_impl_NameOK at hr
  have hS0 : St n0 n0 H0 F0 := hS.low (Nat.le_refl _)
  have hE0 := Ext.refl n0 F0
  have hlo0 := hS0.lo
  with_reducible refine W.seq ?_
  with_reducible refine W.region ?_
  refine WL.assign .nil rfl rfl rfl rfl ?_
  with_reducible refine WL.nil ?_
  with_reducible refine Ex.thn_norm ?_
  with_reducible refine W.seq ?_
  with_reducible refine W.seq ?_
  with_reducible refine W.region ?_
  refine WL.assign .nil rfl rfl rfl rfl ?_
  with_reducible refine WL.nil ?_
  with_reducible refine Ex.thn_norm ?_
  with_reducible refine W.block ?_
  refine W.loopF (fun k0 fr n H => ∃ (x410 : Int) (F : Heap), fr = [(0, str x1), (3, .int .i64 x410)] ∧ St n0 n H F ∧ Ext n0 F0 n F ∧ f_impl_NameOK_L0 x1 k0 x410 = some res) BIG (fr0 := [(0, str x1), (3, .int .i64 0)]) (Fr.le_cons rfl (Fr.le_cons rfl Fr.le_nil)) ?_ ?_ ?_
  · exact ⟨0, F0, rfl, hS0, hE0, hr⟩
  · intro fr n H hI
    obtain ⟨x410, F407, hfr, hS408, hE409, hr⟩ := hI
    rw [f_impl_NameOK_L0] at hr
    cases hr
  · intro k0 _ n405 H406 hI
    obtain ⟨x410, F407, rfl, hS408, hE409, hr⟩ := hI
    have hlen405 := hE409.le
    have hlon405 := hS408.lo
    rw [f_impl_NameOK_L0] at hr
    with_reducible refine W.seq ?_
    with_reducible refine W.seq ?_
    refine W.cut (fun fr n H => ∃ (x417 : Bool) (F : Heap), fr = [(0, str x1), (3, .int .i64 x410), (13, .bool x417)] ∧ St n0 n H F ∧ Ext n0 F0 n F ∧ f_impl_NameOK_J1 x1 x410 (f_impl_NameOK_L0 x1 k0) x417 = some res) ?_ ?_
    · with_reducible refine W.region ?_
      refine WL.move .nil rfl rfl rfl rfl ?_
      refine WL.move .nil rfl rfl rfl rfl ?_
      refine GL.lenStr .nil rfl rfl rfl Try.underlying9 rfl ?_
      refine WL.bin .nil rfl rfl rfl rfl rfl rfl ?_
      refine WL.move .nil rfl rfl rfl rfl ?_
      refine WL.guardD rfl rfl rfl (fun hg493 => ?_) (fun hg493 => ?_)
      · replace hr := ite_pos hr hg493
        refine WL.move .nil rfl rfl rfl rfl ?_
        refine WL.bin .nil rfl rfl rfl rfl rfl rfl ?_
        refine WL.pick .nil rfl rfl rfl rfl rfl ?_
        with_reducible refine WL.nil ?_
        with_reducible refine Ex.thn_norm ?_
        exact ⟨[(0, str x1), (3, .int .i64 x410), (13, .bool (decide (x410 < 100)))], (Fr.le_cons rfl (Fr.le_cons rfl (Fr.le_cons rfl Fr.le_nil))), (decide (x410 < 100)), F407, rfl, hS408, hE409, hr⟩
      · replace hr := ite_neg hr hg493
        refine WL.skip .nil rfl rfl ?_
        refine WL.skip .nil rfl rfl ?_
        refine WL.pick .nil rfl rfl rfl rfl rfl ?_
        with_reducible refine WL.nil ?_
        with_reducible refine Ex.thn_norm ?_
        exact ⟨[(0, str x1), (3, .int .i64 x410), (13, .bool false)], (Fr.le_cons rfl (Fr.le_cons rfl (Fr.le_cons rfl Fr.le_nil))), false, F407, rfl, hS408, hE409, hr⟩
    · intro _ n412 H413 hI
      obtain ⟨x417, F414, rfl, hS415, hE416, hr⟩ := hI
      have hlen412 := hE416.le
      have hlon412 := hS415.lo
      unfold f_impl_NameOK_J1 at hr
      refine W.cond rfl (fun hc419 => ?_) (fun hc419 => ?_)
      · replace hr := iteB_pos hr hc419
        with_reducible refine W.skip ?_
        with_reducible refine Ex.thn_norm ?_
        with_reducible refine W.seq ?_
        with_reducible refine W.block ?_
        with_reducible refine W.seq ?_
        with_reducible refine W.region ?_
        refine WL.move .nil rfl rfl rfl rfl ?_
        refine WL.move .nil rfl rfl rfl rfl ?_
        obtain ⟨x452, hx452, hr⟩ := bnd_some hr
        refine GL.strIdx .nil rfl rfl rfl Try.underlying9 rfl rfl hx452 ?_
        refine WL.assign .nil rfl rfl rfl rfl ?_
        with_reducible refine WL.nil ?_
        with_reducible refine Ex.thn_norm ?_
        with_reducible refine W.seq ?_
        refine W.cut (fun fr n H => ∃ (x464 : Bool) (F : Heap), fr = [(0, str x1), (3, .int .i64 x410), (4, u8 x452), (5, .bool x464)] ∧ St n0 n H F ∧ Ext n0 F0 n F ∧ f_impl_NameOK_J2 x410 (f_impl_NameOK_L0 x1 k0) x452 x464 = some res) ?_ ?_
        · with_reducible refine W.region ?_
          refine WL.move .nil rfl rfl rfl rfl ?_
          refine WL.bin .nil rfl rfl rfl rfl rfl rfl ?_
          refine WL.move .nil rfl rfl rfl rfl ?_
          refine WL.guardD rfl rfl rfl (fun hg479 => ?_) (fun hg479 => ?_)
          · replace hr := ite_pos hr hg479
            refine WL.move .nil rfl rfl rfl rfl ?_
            refine WL.bin .nil rfl rfl rfl rfl rfl rfl ?_
            refine WL.pick .nil rfl rfl rfl rfl rfl ?_
            refine WL.move .nil rfl rfl rfl rfl ?_
            refine WL.guardD rfl rfl rfl (fun hg480 => ?_) (fun hg480 => ?_)
            · replace hr := ite_pos hr hg480
              refine WL.skip .nil rfl rfl ?_
              refine WL.skip .nil rfl rfl ?_
              refine WL.skip .nil rfl rfl ?_
              refine WL.skip .nil rfl rfl ?_
              refine WL.skip .nil rfl rfl ?_
              refine WL.skip .nil rfl rfl ?_
              refine WL.pick .nil rfl rfl rfl rfl rfl ?_
              refine WL.move .nil rfl rfl rfl rfl ?_
              refine WL.skip .nil rfl rfl ?_
              refine WL.skip .nil rfl rfl ?_
              refine WL.pick .nil rfl rfl rfl rfl rfl ?_
              refine WL.assign .nil rfl rfl rfl rfl ?_
              with_reducible refine WL.nil ?_
              with_reducible refine Ex.thn_norm ?_
              exact ⟨[(0, str x1), (3, .int .i64 x410), (4, u8 x452), (5, .bool true)], (Fr.le_cons rfl (Fr.le_cons rfl (Fr.le_cons rfl (Fr.le_cons rfl Fr.le_nil)))), true, F414, rfl, hS415, hE416, hr⟩
            · replace hr := ite_neg hr hg480
              refine WL.move .nil rfl rfl rfl rfl ?_
              refine WL.bin .nil rfl rfl rfl rfl rfl rfl ?_
              refine WL.move .nil rfl rfl rfl rfl ?_
              refine WL.guardD rfl rfl rfl (fun hg481 => ?_) (fun hg481 => ?_)
              · replace hr := ite_pos hr hg481
                refine WL.move .nil rfl rfl rfl rfl ?_
                refine WL.bin .nil rfl rfl rfl rfl rfl rfl ?_
                refine WL.pick .nil rfl rfl rfl rfl rfl ?_
                refine WL.pick .nil rfl rfl rfl rfl rfl ?_
                refine WL.move .nil rfl rfl rfl rfl ?_
                refine WL.guardD rfl rfl rfl (fun hg482 => ?_) (fun hg482 => ?_)
                · replace hr := ite_pos hr hg482
                  refine WL.skip .nil rfl rfl ?_
                  refine WL.skip .nil rfl rfl ?_
                  refine WL.pick .nil rfl rfl rfl rfl rfl ?_
                  refine WL.assign .nil rfl rfl rfl rfl ?_
                  with_reducible refine WL.nil ?_
                  with_reducible refine Ex.thn_norm ?_
                  exact ⟨[(0, str x1), (3, .int .i64 x410), (4, u8 x452), (5, .bool true)], (Fr.le_cons rfl (Fr.le_cons rfl (Fr.le_cons rfl (Fr.le_cons rfl Fr.le_nil)))), true, F414, rfl, hS415, hE416, hr⟩
                · replace hr := ite_neg hr hg482
                  refine WL.move .nil rfl rfl rfl rfl ?_
                  refine WL.bin .nil rfl rfl rfl rfl rfl rfl ?_
                  refine WL.pick .nil rfl rfl rfl rfl rfl ?_
                  refine WL.assign .nil rfl rfl rfl rfl ?_
                  with_reducible refine WL.nil ?_
                  with_reducible refine Ex.thn_norm ?_
                  exact ⟨[(0, str x1), (3, .int .i64 x410), (4, u8 x452), (5, .bool (decide ((x452.toNat : Int) = (95 : Int))))], (Fr.le_cons rfl (Fr.le_cons rfl (Fr.le_cons rfl (Fr.le_cons rfl Fr.le_nil)))), (decide ((x452.toNat : Int) = (95 : Int))), F414, rfl, hS415, hE416, hr⟩
              · replace hr := ite_neg hr hg481
                refine WL.skip .nil rfl rfl ?_
                refine WL.skip .nil rfl rfl ?_
                refine WL.pick .nil rfl rfl rfl rfl rfl ?_
                refine WL.pick .nil rfl rfl rfl rfl rfl ?_
                refine WL.move .nil rfl rfl rfl rfl ?_
                refine WL.move .nil rfl rfl rfl rfl ?_
                refine WL.bin .nil rfl rfl rfl rfl rfl rfl ?_
                refine WL.pick .nil rfl rfl rfl rfl rfl ?_
                refine WL.assign .nil rfl rfl rfl rfl ?_
                with_reducible refine WL.nil ?_
                with_reducible refine Ex.thn_norm ?_
                exact ⟨[(0, str x1), (3, .int .i64 x410), (4, u8 x452), (5, .bool (decide ((x452.toNat : Int) = (95 : Int))))], (Fr.le_cons rfl (Fr.le_cons rfl (Fr.le_cons rfl (Fr.le_cons rfl Fr.le_nil)))), (decide ((x452.toNat : Int) = (95 : Int))), F414, rfl, hS415, hE416, hr⟩
          · replace hr := ite_neg hr hg479
            refine WL.skip .nil rfl rfl ?_
            refine WL.skip .nil rfl rfl ?_
            refine WL.pick .nil rfl rfl rfl rfl rfl ?_
            refine WL.move .nil rfl rfl rfl rfl ?_
            refine WL.move .nil rfl rfl rfl rfl ?_
            refine WL.bin .nil rfl rfl rfl rfl rfl rfl ?_
            refine WL.move .nil rfl rfl rfl rfl ?_
            refine WL.guardD rfl rfl rfl (fun hg483 => ?_) (fun hg483 => ?_)
            · replace hr := ite_pos hr hg483
              refine WL.move .nil rfl rfl rfl rfl ?_
              refine WL.bin .nil rfl rfl rfl rfl rfl rfl ?_
              refine WL.pick .nil rfl rfl rfl rfl rfl ?_
              refine WL.pick .nil rfl rfl rfl rfl rfl ?_
              refine WL.move .nil rfl rfl rfl rfl ?_
              refine WL.guardD rfl rfl rfl (fun hg484 => ?_) (fun hg484 => ?_)
              · replace hr := ite_pos hr hg484
                refine WL.skip .nil rfl rfl ?_
                refine WL.skip .nil rfl rfl ?_
                refine WL.pick .nil rfl rfl rfl rfl rfl ?_
                refine WL.assign .nil rfl rfl rfl rfl ?_
                with_reducible refine WL.nil ?_
                with_reducible refine Ex.thn_norm ?_
                exact ⟨[(0, str x1), (3, .int .i64 x410), (4, u8 x452), (5, .bool true)], (Fr.le_cons rfl (Fr.le_cons rfl (Fr.le_cons rfl (Fr.le_cons rfl Fr.le_nil)))), true, F414, rfl, hS415, hE416, hr⟩
              · replace hr := ite_neg hr hg484
                refine WL.move .nil rfl rfl rfl rfl ?_
                refine WL.bin .nil rfl rfl rfl rfl rfl rfl ?_
                refine WL.pick .nil rfl rfl rfl rfl rfl ?_
                refine WL.assign .nil rfl rfl rfl rfl ?_
                with_reducible refine WL.nil ?_
                with_reducible refine Ex.thn_norm ?_
                exact ⟨[(0, str x1), (3, .int .i64 x410), (4, u8 x452), (5, .bool (decide ((x452.toNat : Int) = (95 : Int))))], (Fr.le_cons rfl (Fr.le_cons rfl (Fr.le_cons rfl (Fr.le_cons rfl Fr.le_nil)))), (decide ((x452.toNat : Int) = (95 : Int))), F414, rfl, hS415, hE416, hr⟩
            · replace hr := ite_neg hr hg483
              refine WL.skip .nil rfl rfl ?_
              refine WL.skip .nil rfl rfl ?_
              refine WL.pick .nil rfl rfl rfl rfl rfl ?_
              refine WL.pick .nil rfl rfl rfl rfl rfl ?_
              refine WL.move .nil rfl rfl rfl rfl ?_
              refine WL.move .nil rfl rfl rfl rfl ?_
              refine WL.bin .nil rfl rfl rfl rfl rfl rfl ?_
              refine WL.pick .nil rfl rfl rfl rfl rfl ?_
              refine WL.assign .nil rfl rfl rfl rfl ?_
              with_reducible refine WL.nil ?_
              with_reducible refine Ex.thn_norm ?_
              exact ⟨[(0, str x1), (3, .int .i64 x410), (4, u8 x452), (5, .bool (decide ((x452.toNat : Int) = (95 : Int))))], (Fr.le_cons rfl (Fr.le_cons rfl (Fr.le_cons rfl (Fr.le_cons rfl Fr.le_nil)))), (decide ((x452.toNat : Int) = (95 : Int))), F414, rfl, hS415, hE416, hr⟩
        · intro _ n459 H460 hI
          obtain ⟨x464, F461, rfl, hS462, hE463, hr⟩ := hI
          have hlen459 := hE463.le
          have hlon459 := hS462.lo
          unfold f_impl_NameOK_J2 at hr
          with_reducible refine W.seq ?_
          refine W.cut (fun fr n H => ∃ (x473 : Bool) (F : Heap), fr = [(0, str x1), (3, .int .i64 x410), (50, .bool x473)] ∧ St n0 n H F ∧ Ext n0 F0 n F ∧ f_impl_NameOK_J3 x410 (f_impl_NameOK_L0 x1 k0) x473 = some res) ?_ ?_
          · with_reducible refine W.region ?_
            refine WL.move .nil rfl rfl rfl rfl ?_
            refine WL.not .nil rfl rfl rfl rfl ?_
            refine WL.move .nil rfl rfl rfl rfl ?_
            refine WL.guard rfl rfl rfl (fun hg476 => ?_) (fun hg476 => ?_)
            · replace hr := iteB_pos hr hg476
              refine WL.move .nil rfl rfl rfl rfl ?_
              refine WL.bin .nil rfl rfl rfl rfl rfl rfl ?_
              refine WL.move .nil rfl rfl rfl rfl ?_
              refine WL.guardD rfl rfl rfl (fun hg477 => ?_) (fun hg477 => ?_)
              · replace hr := ite_pos hr hg477
                refine WL.skip .nil rfl rfl ?_
                refine WL.skip .nil rfl rfl ?_
                refine WL.pick .nil rfl rfl rfl rfl rfl ?_
                refine WL.move .nil rfl rfl rfl rfl ?_
                refine WL.skip .nil rfl rfl ?_
                refine WL.skip .nil rfl rfl ?_
                refine WL.pick .nil rfl rfl rfl rfl rfl ?_
                refine WL.pick .nil rfl rfl rfl rfl rfl ?_
                with_reducible refine WL.nil ?_
                with_reducible refine Ex.thn_norm ?_
                exact ⟨[(0, str x1), (3, .int .i64 x410), (50, .bool true)], (Fr.le_cons rfl (Fr.le_cons rfl (Fr.le_cons rfl Fr.le_nil))), true, F461, rfl, hS462, hE463, hr⟩
              · replace hr := ite_neg hr hg477
                refine WL.move .nil rfl rfl rfl rfl ?_
                refine WL.bin .nil rfl rfl rfl rfl rfl rfl ?_
                refine WL.pick .nil rfl rfl rfl rfl rfl ?_
                refine WL.move .nil rfl rfl rfl rfl ?_
                refine WL.guardD rfl rfl rfl (fun hg478 => ?_) (fun hg478 => ?_)
                · replace hr := ite_pos hr hg478
                  refine WL.skip .nil rfl rfl ?_
                  refine WL.skip .nil rfl rfl ?_
                  refine WL.pick .nil rfl rfl rfl rfl rfl ?_
                  refine WL.pick .nil rfl rfl rfl rfl rfl ?_
                  with_reducible refine WL.nil ?_
                  with_reducible refine Ex.thn_norm ?_
                  exact ⟨[(0, str x1), (3, .int .i64 x410), (50, .bool true)], (Fr.le_cons rfl (Fr.le_cons rfl (Fr.le_cons rfl Fr.le_nil))), true, F461, rfl, hS462, hE463, hr⟩
                · replace hr := ite_neg hr hg478
                  refine WL.move .nil rfl rfl rfl rfl ?_
                  refine WL.bin .nil rfl rfl rfl rfl rfl rfl ?_
                  refine WL.pick .nil rfl rfl rfl rfl rfl ?_
                  refine WL.pick .nil rfl rfl rfl rfl rfl ?_
                  with_reducible refine WL.nil ?_
                  with_reducible refine Ex.thn_norm ?_
                  exact ⟨[(0, str x1), (3, .int .i64 x410), (50, .bool (decide ((57 : Int) < (x452.toNat : Int))))], (Fr.le_cons rfl (Fr.le_cons rfl (Fr.le_cons rfl Fr.le_nil))), (decide ((57 : Int) < (x452.toNat : Int))), F461, rfl, hS462, hE463, hr⟩
            · replace hr := iteB_neg hr hg476
              refine WL.skip .nil rfl rfl ?_
              refine WL.skip .nil rfl rfl ?_
              refine WL.skip .nil rfl rfl ?_
              refine WL.skip .nil rfl rfl ?_
              refine WL.skip .nil rfl rfl ?_
              refine WL.skip .nil rfl rfl ?_
              refine WL.skip .nil rfl rfl ?_
              refine WL.skip .nil rfl rfl ?_
              refine WL.skip .nil rfl rfl ?_
              refine WL.skip .nil rfl rfl ?_
              refine WL.pick .nil rfl rfl rfl rfl rfl ?_
              with_reducible refine WL.nil ?_
              with_reducible refine Ex.thn_norm ?_
              exact ⟨[(0, str x1), (3, .int .i64 x410), (50, .bool false)], (Fr.le_cons rfl (Fr.le_cons rfl (Fr.le_cons rfl Fr.le_nil))), false, F461, rfl, hS462, hE463, hr⟩
          · intro _ n468 H469 hI
            obtain ⟨x473, F470, rfl, hS471, hE472, hr⟩ := hI
            have hlen468 := hE472.le
            have hlon468 := hS471.lo
            unfold f_impl_NameOK_J3 at hr
            refine W.cond rfl (fun hc474 => ?_) (fun hc474 => ?_)
            · replace hr := iteB_pos hr hc474
              with_reducible refine W.seq ?_
              with_reducible refine W.region ?_
              refine WL.assign .nil rfl rfl rfl rfl ?_
              with_reducible refine WL.nil ?_
              with_reducible refine Ex.thn_norm ?_
              with_reducible refine W.ret ?_
              with_reducible refine Ex.blk_ret ?_
              with_reducible refine Ex.thn_ret ?_
              with_reducible refine Ex.thn_ret ?_
              with_reducible refine Ex.blk_ret ?_
              with_reducible refine Ex.thn_ret ?_
              obtain rfl := Option.some.inj hr
              exact ⟨.inr rfl, _, (.cons (.tmp rfl) .nil), ⟨(Ext.st hE472 hS471), rfl⟩⟩
            · replace hr := iteB_neg hr hc474
              with_reducible refine W.skip ?_
              with_reducible refine Ex.blk_norm ?_
              with_reducible refine Ex.thn_norm ?_
              with_reducible refine W.region ?_
              refine WL.move .nil rfl rfl rfl rfl ?_
              obtain ⟨hc475, hr⟩ := chk_some hr
              refine WL.addI .nil rfl rfl rfl rfl rfl hc475.1 hc475.2 ?_
              refine WL.assign .nil rfl rfl rfl rfl ?_
              with_reducible refine WL.nil ?_
              with_reducible refine Ex.thn_norm ?_
              exact ⟨[(0, str x1), (3, .int .i64 (x410 + 1))], (Fr.le_cons rfl (Fr.le_cons rfl Fr.le_nil)), (x410 + 1), F470, rfl, hS471, hE472, hr⟩
      · replace hr := iteB_neg hr hc419
        with_reducible refine W.exit ?_
        with_reducible refine Ex.thn_ex ?_
        with_reducible refine Ex.thn_ex ?_
        with_reducible refine Ex.blk_here ?_
        with_reducible refine Ex.thn_norm ?_
        with_reducible refine W.seq ?_
        with_reducible refine W.region ?_
        refine WL.move .nil rfl rfl rfl rfl ?_
        refine GL.lenStr .nil rfl rfl rfl Try.underlying9 rfl ?_
        obtain ⟨x485, hx485, hr⟩ := bnd_some hr
        refine GL.callP g.good .nil rfl rfl rfl rfl rfl rfl Try.func63 rfl rfl hS415.lo (f_impl_within_k  g hS415 hx485) (fun v n486 H487 hn488 hk489 hp490 => ?_)
        obtain ⟨hS491, rfl⟩ := hp490
        have hS492 : St n0 n486 H487 F414 := ⟨by have := hS415.lo; omega, hS491.hb, hS491.fh⟩
        have hlon486 := hS492.lo
        refine WL.assign .nil rfl rfl rfl rfl ?_
        with_reducible refine WL.nil ?_
        with_reducible refine Ex.thn_norm ?_
        with_reducible refine W.ret ?_
        obtain rfl := Option.some.inj hr
        exact ⟨.inr rfl, _, (.cons (.tmp rfl) .nil), ⟨(Ext.st hE416 hS492), rfl⟩⟩
theorem f_impl_isCount_k {Δ : Prims} (g : Env Try.prog Δ) {lo n0 : Nat} {H0 F0 : Heap} (hS : St lo n0 H0 F0) {x1 : Int} {res : (Bool)} (hr : f_impl_isCount x1 = some res) :
    C Try.prog Δ n0 47 [.int .i64 x1] n0 H0 (fun v n H => St n0 n H F0 ∧ v = .bool res) := by
  refine C.body Try.func47 rfl rfl ?_
  unfold f_impl_isCount at hr
  have hS0 : St n0 n0 H0 F0 := hS.low (Nat.le_refl _)
  have hE0 := Ext.refl n0 F0
  have hlo0 := hS0.lo
  with_reducible refine W.seq ?_
  with_reducible refine W.region ?_
  refine WL.assign .nil rfl rfl rfl rfl ?_
  with_reducible refine WL.nil ?_
  with_reducible refine Ex.thn_norm ?_
  with_reducible refine W.seq ?_
  with_reducible refine W.region ?_
  refine WL.move .nil rfl rfl rfl rfl ?_
  obtain ⟨x2, hx2, hr⟩ := bnd_some hr
  refine GL.callP g.good .nil rfl rfl rfl rfl rfl rfl Try.func63 rfl rfl hS0.lo (f_impl_within_k  g hS0 hx2) (fun v n3 H4 hn5 hk6 hp7 => ?_)
  obtain ⟨hS8, rfl⟩ := hp7
  have hS9 : St n0 n3 H4 F0 := ⟨by have := hS0.lo; omega, hS8.hb, hS8.fh⟩
  have hlon3 := hS9.lo
  refine WL.assign .nil rfl rfl rfl rfl ?_
  with_reducible refine WL.nil ?_
  with_reducible refine Ex.thn_norm ?_
  with_reducible refine W.ret ?_
  obtain rfl := Option.some.inj hr
  exact ⟨.inr rfl, _, (.cons (.tmp rfl) .nil), ⟨(Ext.st hE0 hS9), rfl⟩⟩
theorem f__impl_State_file_k {Δ : Prims} (g : Env Try.prog Δ) {lo n0 : Nat} {H0 F0 : Heap} (hS : St lo n0 H0 F0) {x1 : GState} {a2 : Option Addr} {cap3 : Nat} {a5 : Option Addr} {cap6 : Nat} {x8 : Str} (h4 : SR F0 (.slice a2 x1.Files.length cap3) x1.Files) (h7 : SR F0 (.slice a5 x1.Sessions.length cap6) x1.Sessions) {res : (Int)} (hr : f__impl_State_file x1 x8 = some res) :
    C Try.prog Δ n0 48 [.agg [.slice a2 x1.Files.length cap3, .slice a5 x1.Sessions.length cap6].toArray, str x8] n0 H0 (fun v n H => St n0 n H F0 ∧ v = .int .i64 res) := by
  refine C.body Try.func48 rfl rfl ?_
  unfold f__impl_State_file at hr
  have hS0 : St n0 n0 H0 F0 := hS.low (Nat.le_refl _)
  have hE0 := Ext.refl n0 F0
  have hlo0 := hS0.lo
  with_reducible refine W.seq ?_
  with_reducible refine W.region ?_
  refine GL.box hS0 .nil (vc := [.slice a2 x1.Files.length cap3, .slice a5 x1.Sessions.length cap6]) rfl rfl rfl rfl rfl (by repeat' (first | exact List.forall_mem_nil _ | refine List.forall_mem_cons.2 ⟨?_, ?_⟩ | rfl)) (fun H9 hS10 ho11 hk12 => ?_)
  have fo13 := hS0.fnone (Nat.le_refl _)
  have hlon01 := hS10.lo
  have lt14 : n0 < (n0 + 1) := by omega
  refine GL.box hS10 .nil (vc := [str x8]) rfl rfl rfl rfl rfl (by repeat' (first | exact List.forall_mem_nil _ | refine List.forall_mem_cons.2 ⟨?_, ?_⟩ | rfl)) (fun H15 hS16 ho17 hk18 => ?_)
  have fo19 := hS10.fnone (Nat.le_refl _)
  have ho21 := (hk18 _ (by have := lt14; omega)).trans ho11
  have hlon011 := hS16.lo
  have lt20 : (n0 + 1) < ((n0 + 1) + 1) := by omega
  refine WL.assign .nil rfl rfl rfl rfl ?_
  with_reducible refine WL.nil ?_
  with_reducible refine Ex.thn_norm ?_
  with_reducible refine W.seq ?_
  with_reducible refine W.region ?_
  refine WL.fieldAddr .nil rfl rfl rfl Try.underlying26 rfl info23 rfl rfl ?_
  refine WL.load1 .nil rfl rfl rfl Try.underlying23 rfl rfl ho21 rfl ?_
  refine WL.mkFunc .nil rfl rfl rfl rfl rfl ?_
  refine GL.callIn (args := [.slice a2 x1.Files.length cap3, .func (.func 65) [].toArray [.pointer (some ⟨(n0 + 1), 0, none⟩)].toArray]) .nil n0 rfl rfl rfl rfl rfl rfl Try.func64 rfl rfl (Nat.le_refl _) hS16.lo ?_
  refine C.body Try.func64 rfl rfl ?_
  with_reducible refine W.seq ?_
  with_reducible refine W.region ?_
  refine WL.assign .nil rfl rfl rfl rfl ?_
  with_reducible refine WL.nil ?_
  with_reducible refine Ex.thn_norm ?_
  with_reducible refine W.seq ?_
  with_reducible refine W.seq ?_
  with_reducible refine W.region ?_
  refine WL.move .nil rfl rfl rfl rfl ?_
  refine WL.len .nil rfl rfl rfl Try.underlying23 rfl ?_
  refine WL.move .nil rfl rfl rfl rfl ?_
  with_reducible refine WL.nil ?_
  with_reducible refine Ex.thn_norm ?_
  with_reducible refine W.block ?_
  refine W.loopF (fun k0 fr n H => ∃ (x117 : Int) (F : Heap), fr = [(0, .slice a2 x1.Files.length cap3), (1, .func (.func 65) [].toArray [.pointer (some ⟨(n0 + 1), 0, none⟩)].toArray), (7, .int .i64 (x1.Files.length : Int)), (8, .int .i64 x117)] ∧ St n0 n H F ∧ Ext n0 F0 n F ∧ H (n0 + 1) = some (.row 1 [str x8]) ∧ F (n0 + 1) = none ∧ SR F (.slice a2 x1.Files.length cap3) x1.Files ∧ f__impl_State_file_L0 x1 x8 k0 x117 = some res) BIG (fr0 := [(0, .slice a2 x1.Files.length cap3), (1, .func (.func 65) [].toArray [.pointer (some ⟨(n0 + 1), 0, none⟩)].toArray), (7, .int .i64 (x1.Files.length : Int)), (8, .int .i64 0)]) (Fr.le_cons rfl (Fr.le_cons rfl (Fr.le_cons rfl (Fr.le_cons rfl Fr.le_nil)))) ?_ ?_ ?_
  · exact ⟨0, F0, rfl, hS16, (hE0.up (by omega)), ho17, fo19, h4, hr⟩
  · intro fr n H hI
    obtain ⟨x117, F113, hfr, hS114, hE115, ho118, fo119, h116, hr⟩ := hI
    rw [f__impl_State_file_L0] at hr
    cases hr
  · intro k0 _ n111 H112 hI
    obtain ⟨x117, F113, rfl, hS114, hE115, ho118, fo119, h116, hr⟩ := hI
    have lt120 := hS114.lt ho118
    have hlen111 := hE115.le
    have hlon111 := hS114.lo
    rw [f__impl_State_file_L0] at hr
    with_reducible refine W.seq ?_
    with_reducible refine W.region ?_
    refine WL.bin .nil rfl rfl rfl rfl rfl rfl ?_
    with_reducible refine WL.nil ?_
    with_reducible refine Ex.thn_norm ?_
    with_reducible refine W.seq ?_
    refine W.condD rfl (fun hc122 => ?_) (fun hc122 => ?_)
    · replace hr := ite_pos hr hc122
      with_reducible refine W.skip ?_
      with_reducible refine Ex.thn_norm ?_
      with_reducible refine W.seq ?_
      with_reducible refine W.block ?_
      with_reducible refine W.seq ?_
      with_reducible refine W.region ?_
      refine WL.move .nil rfl rfl rfl rfl ?_
      refine WL.assign .nil rfl rfl rfl rfl ?_
      with_reducible refine WL.nil ?_
      with_reducible refine Ex.thn_norm ?_
      with_reducible refine W.seq ?_
      with_reducible refine W.region ?_
      refine WL.move .nil rfl rfl rfl rfl ?_
      refine WL.move .nil rfl rfl rfl rfl ?_
      refine WL.move .nil rfl rfl rfl rfl ?_
      obtain ⟨x139, hx139, hr⟩ := bnd_some hr
      refine GL.index .nil rfl rfl rfl Try.underlying23 info50 rfl rfl h116 hS114.fh rfl hx139 (fun b140 kp141 c142 ecs143 hrow144 hwin145 hR146 => ?_)
      obtain ⟨rfl⟩ := GFile.ofR hR146
      refine WL.loadN .nil (l' := [str x139.Name, .int .i64 x139.Version, str x139.Text]) rfl rfl rfl Try.underlying50 rfl info50 rfl hrow144 hwin145 rfl ?_
      refine GL.callIn (args := [.agg [str x139.Name, .int .i64 x139.Version, str x139.Text].toArray, .pointer (some ⟨(n0 + 1), 0, none⟩)]) .nil n0 rfl rfl rfl rfl rfl rfl Try.func65 rfl rfl (Nat.le_refl _) hS114.lo ?_
      refine C.body Try.func65 rfl rfl ?_
      with_reducible refine W.seq ?_
      with_reducible refine W.region ?_
      refine GL.box hS114 .nil (vc := [str x139.Name, .int .i64 x139.Version, str x139.Text]) rfl rfl rfl rfl rfl (by repeat' (first | exact List.forall_mem_nil _ | refine List.forall_mem_cons.2 ⟨?_, ?_⟩ | rfl)) (fun H147 hS148 ho149 hk150 => ?_)
      have fo151 := hS114.fnone (Nat.le_refl _)
      have ho153 := (hk150 _ (by have := lt120; omega)).trans ho118
      have hlon1111 := hS148.lo
      have lt152 : n111 < (n111 + 1) := by omega
      refine WL.assign .nil rfl rfl rfl rfl ?_
      with_reducible refine WL.nil ?_
      with_reducible refine Ex.thn_norm ?_
      with_reducible refine W.seq ?_
      with_reducible refine W.region ?_
      refine WL.fieldAddr .nil rfl rfl rfl Try.underlying50 rfl info9 rfl rfl ?_
      refine WL.load1 .nil rfl rfl rfl Try.underlying9 rfl rfl ho149 rfl ?_
      refine WL.load1 .nil rfl rfl rfl Try.underlying9 rfl rfl ho153 rfl ?_
      refine GL.strCmp .nil rfl rfl rfl rfl rfl (by decide) rfl ?_
      refine WL.assign .nil rfl rfl rfl rfl ?_
      with_reducible refine WL.nil ?_
      with_reducible refine Ex.thn_norm ?_
      with_reducible refine W.ret ?_
      refine ⟨.inr rfl, _, (.cons (.tmp rfl) .nil), ?_⟩
      with_reducible refine WL.nil ?_
      with_reducible refine Ex.thn_norm ?_
      refine W.condD (p := lst x139.Name = lst x8) rfl (fun hc154 => ?_) (fun hc154 => ?_)
      · replace hr := ite_pos hr hc154
        with_reducible refine W.seq ?_
        with_reducible refine W.region ?_
        refine WL.move .nil rfl rfl rfl rfl ?_
        refine WL.assign .nil rfl rfl rfl rfl ?_
        with_reducible refine WL.nil ?_
        with_reducible refine Ex.thn_norm ?_
        with_reducible refine W.ret ?_
        with_reducible refine Ex.blk_ret ?_
        with_reducible refine Ex.thn_ret ?_
        with_reducible refine Ex.thn_ret ?_
        with_reducible refine Ex.blk_ret ?_
        with_reducible refine Ex.thn_ret ?_
        refine ⟨.inr rfl, _, (.cons (.tmp rfl) .nil), ?_⟩
        refine WL.assign .nil rfl rfl rfl rfl ?_
        with_reducible refine WL.nil ?_
        with_reducible refine Ex.thn_norm ?_
        with_reducible refine W.ret ?_
        obtain rfl := Option.some.inj hr
        exact ⟨.inr rfl, _, (.cons (.tmp rfl) .nil), ⟨(Ext.st hE115 hS148), rfl⟩⟩
      · replace hr := ite_neg hr hc154
        with_reducible refine W.skip ?_
        with_reducible refine Ex.blk_norm ?_
        with_reducible refine Ex.thn_norm ?_
        with_reducible refine W.region ?_
        obtain ⟨hc155, hr⟩ := chk_some hr
        refine WL.addI .nil rfl rfl rfl rfl rfl hc155.1 hc155.2 ?_
        refine WL.move .nil rfl rfl rfl rfl ?_
        with_reducible refine WL.nil ?_
        with_reducible refine Ex.thn_norm ?_
        exact ⟨[(0, .slice a2 x1.Files.length cap3), (1, .func (.func 65) [].toArray [.pointer (some ⟨(n0 + 1), 0, none⟩)].toArray), (7, .int .i64 (x1.Files.length : Int)), (8, .int .i64 (x117 + 1))], (Fr.le_cons rfl (Fr.le_cons rfl (Fr.le_cons rfl (Fr.le_cons rfl Fr.le_nil)))), (x117 + 1), F113, rfl, hS148, (hE115.up (by omega)), ho153, fo119, h116, hr⟩
    · replace hr := ite_neg hr hc122
      with_reducible refine W.exit ?_
      with_reducible refine Ex.thn_ex ?_
      with_reducible refine Ex.thn_ex ?_
      with_reducible refine Ex.blk_here ?_
      with_reducible refine Ex.thn_norm ?_
      with_reducible refine W.seq ?_
      with_reducible refine W.region ?_
      refine WL.assign .nil rfl rfl rfl rfl ?_
      with_reducible refine WL.nil ?_
      with_reducible refine Ex.thn_norm ?_
      with_reducible refine W.ret ?_
      refine ⟨.inr rfl, _, (.cons (.tmp rfl) .nil), ?_⟩
      refine WL.assign .nil rfl rfl rfl rfl ?_
      with_reducible refine WL.nil ?_
      with_reducible refine Ex.thn_norm ?_
      with_reducible refine W.ret ?_
      obtain rfl := Option.some.inj hr
      exact ⟨.inr rfl, _, (.cons (.tmp rfl) .nil), ⟨(Ext.st hE115 hS114), rfl⟩⟩
theorem f_impl_contains_k {Δ : Prims} (g : Env Try.prog Δ) {lo n0 : Nat} {H0 F0 : Heap} (hS : St lo n0 H0 F0) {x1 : Str} {x2 : UInt8} {res : (Bool)} (hr : f_impl_contains x1 x2 = some res) :
    C Try.prog Δ n0 75 [str x1, u8 x2] n0 H0 (fun v n H => St n0 n H F0 ∧ v = .bool res) := by
  refine C.body Try.func75 rfl rfl ?_
  unfold f_impl_contains at hr
  have hS0 : St n0 n0 H0 F0 := hS.low (Nat.le_refl _)
  have hE0 := Ext.refl n0 F0
  have hlo0 := hS0.lo
  with_reducible refine W.seq ?_
  with_reducible refine W.region ?_
  refine WL.assign .nil rfl rfl rfl rfl ?_
  with_reducible refine WL.nil ?_
  with_reducible refine Ex.thn_norm ?_
  with_reducible refine W.seq ?_
  with_reducible refine W.seq ?_
  with_reducible refine W.region ?_
  refine WL.move .nil rfl rfl rfl rfl ?_
  refine GL.lenStr .nil rfl rfl rfl Try.underlying9 rfl ?_
  refine WL.move .nil rfl rfl rfl rfl ?_
  with_reducible refine WL.nil ?_
  with_reducible refine Ex.thn_norm ?_
  with_reducible refine W.block ?_
  refine W.loopF (fun k0 fr n H => ∃ (x33 : Int) (F : Heap), fr = [(0, str x1), (1, u8 x2), (7, .int .i64 (x1.length : Int)), (8, .int .i64 x33)] ∧ St n0 n H F ∧ Ext n0 F0 n F ∧ f_impl_contains_L0 x1 x2 k0 x33 = some res) BIG (fr0 := [(0, str x1), (1, u8 x2), (7, .int .i64 (x1.length : Int)), (8, .int .i64 0)]) (Fr.le_cons rfl (Fr.le_cons rfl (Fr.le_cons rfl (Fr.le_cons rfl Fr.le_nil)))) ?_ ?_ ?_
  · exact ⟨0, F0, rfl, hS0, hE0, hr⟩
  · intro fr n H hI
    obtain ⟨x33, F30, hfr, hS31, hE32, hr⟩ := hI
    rw [f_impl_contains_L0] at hr
    cases hr
  · intro k0 _ n28 H29 hI
    obtain ⟨x33, F30, rfl, hS31, hE32, hr⟩ := hI
    have hlen28 := hE32.le
    have hlon28 := hS31.lo
    rw [f_impl_contains_L0] at hr
    with_reducible refine W.seq ?_
    with_reducible refine W.region ?_
    refine WL.bin .nil rfl rfl rfl rfl rfl rfl ?_
    with_reducible refine WL.nil ?_
    with_reducible refine Ex.thn_norm ?_
    with_reducible refine W.seq ?_
    refine W.condD rfl (fun hc35 => ?_) (fun hc35 => ?_)
    · replace hr := ite_pos hr hc35
      with_reducible refine W.skip ?_
      with_reducible refine Ex.thn_norm ?_
      with_reducible refine W.seq ?_
      with_reducible refine W.block ?_
      with_reducible refine W.seq ?_
      with_reducible refine W.region ?_
      refine WL.move .nil rfl rfl rfl rfl ?_
      refine WL.assign .nil rfl rfl rfl rfl ?_
      with_reducible refine WL.nil ?_
      with_reducible refine Ex.thn_norm ?_
      with_reducible refine W.seq ?_
      with_reducible refine W.region ?_
      refine WL.move .nil rfl rfl rfl rfl ?_
      refine WL.move .nil rfl rfl rfl rfl ?_
      obtain ⟨x38, hx38, hr⟩ := bnd_some hr
      refine GL.strIdx .nil rfl rfl rfl Try.underlying9 rfl rfl hx38 ?_
      refine WL.move .nil rfl rfl rfl rfl ?_
      refine WL.bin .nil rfl rfl rfl rfl rfl rfl ?_
      with_reducible refine WL.nil ?_
      with_reducible refine Ex.thn_norm ?_
      refine W.condD rfl (fun hc39 => ?_) (fun hc39 => ?_)
      · replace hr := ite_pos hr hc39
        with_reducible refine W.seq ?_
        with_reducible refine W.region ?_
        refine WL.assign .nil rfl rfl rfl rfl ?_
        with_reducible refine WL.nil ?_
        with_reducible refine Ex.thn_norm ?_
        with_reducible refine W.ret ?_
        with_reducible refine Ex.blk_ret ?_
        with_reducible refine Ex.thn_ret ?_
        with_reducible refine Ex.thn_ret ?_
        with_reducible refine Ex.blk_ret ?_
        with_reducible refine Ex.thn_ret ?_
        obtain rfl := Option.some.inj hr
        exact ⟨.inr rfl, _, (.cons (.tmp rfl) .nil), ⟨(Ext.st hE32 hS31), rfl⟩⟩
      · replace hr := ite_neg hr hc39
        with_reducible refine W.skip ?_
        with_reducible refine Ex.blk_norm ?_
        with_reducible refine Ex.thn_norm ?_
        with_reducible refine W.region ?_
        obtain ⟨hc40, hr⟩ := chk_some hr
        refine WL.addI .nil rfl rfl rfl rfl rfl hc40.1 hc40.2 ?_
        refine WL.move .nil rfl rfl rfl rfl ?_
        with_reducible refine WL.nil ?_
        with_reducible refine Ex.thn_norm ?_
        exact ⟨[(0, str x1), (1, u8 x2), (7, .int .i64 (x1.length : Int)), (8, .int .i64 (x33 + 1))], (Fr.le_cons rfl (Fr.le_cons rfl (Fr.le_cons rfl (Fr.le_cons rfl Fr.le_nil)))), (x33 + 1), F30, rfl, hS31, hE32, hr⟩
    · replace hr := ite_neg hr hc35
      with_reducible refine W.exit ?_
      with_reducible refine Ex.thn_ex ?_
      with_reducible refine Ex.thn_ex ?_
      with_reducible refine Ex.blk_here ?_
      with_reducible refine Ex.thn_norm ?_
      with_reducible refine W.seq ?_
      with_reducible refine W.region ?_
      refine WL.assign .nil rfl rfl rfl rfl ?_
      with_reducible refine WL.nil ?_
      with_reducible refine Ex.thn_norm ?_
      with_reducible refine W.ret ?_
      obtain rfl := Option.some.inj hr
      exact ⟨.inr rfl, _, (.cons (.tmp rfl) .nil), ⟨(Ext.st hE32 hS31), rfl⟩⟩
end Go.Proofs.YtmodhnkjimpkbaaAb
