import Derived.Test.YtmodhnkjimpkbaaPxSbTx0
import Derived.Test.YtmodhnkjimpkbaaPxSbD
import Derived.Test.YtmodhnkjimpkbaaAbInfoS
import Derived.KernelRfl
set_option linter.all false
set_option maxRecDepth 20000
namespace Go.Proofs.YtmodhnkjimpkbaaAb
open Go Go.Proofs
theorem f__impl_State_session_k {Δ : Prims} (g : Env Try.prog Δ) {lo n0 : Nat} {H0 F0 : Heap} (hS : St lo n0 H0 F0) {x1 : GState} {a2 : Option Addr} {cap3 : Nat} {a5 : Option Addr} {cap6 : Nat} {x8 : Int} (h4 : SR F0 (.slice a2 x1.Files.length cap3) x1.Files) (h7 : SR F0 (.slice a5 x1.Sessions.length cap6) x1.Sessions) {res : (Int)} (hr : f__impl_State_session x1 x8 = some res) :
    C Try.prog Δ n0 50 [.agg [.slice a2 x1.Files.length cap3, .slice a5 x1.Sessions.length cap6].toArray, .int .i64 x8] n0 H0 (fun v n H => St n0 n H F0 ∧ v = .int .i64 res) := by
  refine C.body Try.func50 rfl rfl ?_
  unfold f__impl_State_session at hr
  have hS0 : St n0 n0 H0 F0 := hS.low (Nat.le_refl _)
  have hE0 := Ext.refl n0 F0
  have hlo0 := hS0.lo
  with_reducible refine W.seq ?_
  with_reducible refine W.region ?_
  refine GL.box hS0 .nil (vc := [.slice a2 x1.Files.length cap3, .slice a5 x1.Sessions.length cap6]) rfl rfl rfl rfl rfl (by repeat' (first | exact List.forall_mem_nil _ | refine List.forall_mem_cons.2 ⟨?_, ?_⟩ | rfl)) (fun H9 hS10 ho11 hk12 => ?_)
  have fo13 := hS0.fnone (Nat.le_refl _)
  have hlon01 := hS10.lo
  have lt14 : n0 < (n0 + 1) := by omega
  refine GL.box hS10 .nil (vc := [.int .i64 x8]) rfl rfl rfl rfl rfl (by repeat' (first | exact List.forall_mem_nil _ | refine List.forall_mem_cons.2 ⟨?_, ?_⟩ | rfl)) (fun H15 hS16 ho17 hk18 => ?_)
  have fo19 := hS10.fnone (Nat.le_refl _)
  have ho21 := (hk18 _ (by have := lt14; omega)).trans ho11
  have hlon011 := hS16.lo
  have lt20 : (n0 + 1) < ((n0 + 1) + 1) := by omega
  refine WL.assign .nil rfl rfl rfl rfl ?_
  with_reducible refine WL.nil ?_
  with_reducible refine Ex.thn_norm ?_
  with_reducible refine W.seq ?_
  with_reducible refine W.region ?_
  refine WL.fieldAddr .nil rfl rfl rfl Try.underlying26 rfl info24 rfl rfl ?_
  refine WL.load1 .nil rfl rfl rfl Try.underlying24 rfl rfl ho21 rfl ?_
  refine WL.mkFunc .nil rfl rfl rfl rfl rfl ?_
  refine GL.callIn (args := [.slice a5 x1.Sessions.length cap6, .func (.func 68) [].toArray [.pointer (some ⟨(n0 + 1), 0, none⟩)].toArray]) .nil n0 rfl rfl rfl rfl rfl rfl Try.func67 rfl rfl (Nat.le_refl _) hS16.lo ?_
  refine C.body Try.func67 rfl rfl ?_
  with_reducible refine W.seq ?_
  with_reducible refine W.region ?_
  refine WL.assign .nil rfl rfl rfl rfl ?_
  with_reducible refine WL.nil ?_
  with_reducible refine Ex.thn_norm ?_
  with_reducible refine W.seq ?_
  with_reducible refine W.seq ?_
  with_reducible refine W.region ?_
  refine WL.move .nil rfl rfl rfl rfl ?_
  refine WL.len .nil rfl rfl rfl Try.underlying24 rfl ?_
  refine WL.move .nil rfl rfl rfl rfl ?_
  with_reducible refine WL.nil ?_
  with_reducible refine Ex.thn_norm ?_
  with_reducible refine W.block ?_
  refine W.loopF (fun k0 fr n H => ∃ (x117 : Int) (F : Heap), fr = [(0, .slice a5 x1.Sessions.length cap6), (1, .func (.func 68) [].toArray [.pointer (some ⟨(n0 + 1), 0, none⟩)].toArray), (7, .int .i64 (x1.Sessions.length : Int)), (8, .int .i64 x117)] ∧ St n0 n H F ∧ Ext n0 F0 n F ∧ H (n0 + 1) = some (.row 1 [.int .i64 x8]) ∧ F (n0 + 1) = none ∧ SR F (.slice a5 x1.Sessions.length cap6) x1.Sessions ∧ f__impl_State_session_L0 x1 x8 k0 x117 = some res) BIG (fr0 := [(0, .slice a5 x1.Sessions.length cap6), (1, .func (.func 68) [].toArray [.pointer (some ⟨(n0 + 1), 0, none⟩)].toArray), (7, .int .i64 (x1.Sessions.length : Int)), (8, .int .i64 0)]) (Fr.le_cons rfl (Fr.le_cons rfl (Fr.le_cons rfl (Fr.le_cons rfl Fr.le_nil)))) ?_ ?_ ?_
  · exact ⟨0, F0, rfl, hS16, (hE0.up (by omega)), ho17, fo19, h7, hr⟩
  · intro fr n H hI
    obtain ⟨x117, F113, hfr, hS114, hE115, ho118, fo119, h116, hr⟩ := hI
    rw [f__impl_State_session_L0] at hr
    cases hr
  · intro k0 _ n111 H112 hI
    obtain ⟨x117, F113, rfl, hS114, hE115, ho118, fo119, h116, hr⟩ := hI
    have lt120 := hS114.lt ho118
    have hlen111 := hE115.le
    have hlon111 := hS114.lo
    rw [f__impl_State_session_L0] at hr
    with_reducible refine W.seq ?_
    with_reducible refine W.region ?_
    refine WL.bin .nil rfl rfl rfl rfl rfl rfl ?_
    with_reducible refine WL.nil ?_
    with_reducible refine Ex.thn_norm ?_
    with_reducible refine W.seq ?_
    refine W.condD rfl (fun hc122 => ?_) (fun hc122 => ?_)
    · replace hr := ite_pos hr hc122
      with_reducible refine W.skip ?_
      with_reducible refine Ex.thn_norm ?_
      with_reducible refine W.seq ?_
      with_reducible refine W.block ?_
      with_reducible refine W.seq ?_
      with_reducible refine W.region ?_
      refine WL.move .nil rfl rfl rfl rfl ?_
      refine WL.assign .nil rfl rfl rfl rfl ?_
      with_reducible refine WL.nil ?_
      with_reducible refine Ex.thn_norm ?_
      with_reducible refine W.seq ?_
      with_reducible refine W.region ?_
      refine WL.move .nil rfl rfl rfl rfl ?_
      refine WL.move .nil rfl rfl rfl rfl ?_
      refine WL.move .nil rfl rfl rfl rfl ?_
      obtain ⟨x139, hx139, hr⟩ := bnd_some hr
      refine GL.index .nil rfl rfl rfl Try.underlying24 info54 rfl rfl h116 hS114.fh rfl hx139 (fun b140 kp141 c142 ecs143 hrow144 hwin145 hR146 => ?_)
      obtain ⟨rfl⟩ := GSession.ofR hR146
      refine WL.loadN .nil (l' := [.int .i64 x139.Client, .int .i64 x139.Seq, .int .i64 x139.Reply.Code, .int .i64 x139.Reply.Version, str x139.Reply.Sha]) rfl rfl rfl Try.underlying54 rfl info54 rfl hrow144 hwin145 rfl ?_
      refine GL.callIn (args := [.agg [.int .i64 x139.Client, .int .i64 x139.Seq, .int .i64 x139.Reply.Code, .int .i64 x139.Reply.Version, str x139.Reply.Sha].toArray, .pointer (some ⟨(n0 + 1), 0, none⟩)]) .nil n0 rfl rfl rfl rfl rfl rfl Try.func68 rfl rfl (Nat.le_refl _) hS114.lo ?_
      refine C.body Try.func68 rfl rfl ?_
      with_reducible refine W.seq ?_
      with_reducible refine W.region ?_
      refine GL.box hS114 .nil (vc := [.int .i64 x139.Client, .int .i64 x139.Seq, .int .i64 x139.Reply.Code, .int .i64 x139.Reply.Version, str x139.Reply.Sha]) rfl rfl rfl rfl rfl (by repeat' (first | exact List.forall_mem_nil _ | refine List.forall_mem_cons.2 ⟨?_, ?_⟩ | rfl)) (fun H147 hS148 ho149 hk150 => ?_)
      have fo151 := hS114.fnone (Nat.le_refl _)
      have ho153 := (hk150 _ (by have := lt120; omega)).trans ho118
      have hlon1111 := hS148.lo
      have lt152 : n111 < (n111 + 1) := by omega
      refine WL.assign .nil rfl rfl rfl rfl ?_
      with_reducible refine WL.nil ?_
      with_reducible refine Ex.thn_norm ?_
      with_reducible refine W.seq ?_
      with_reducible refine W.region ?_
      refine WL.fieldAddr .nil rfl rfl rfl Try.underlying54 rfl info3 rfl rfl ?_
      refine WL.load1 .nil rfl rfl rfl Try.underlying3 rfl rfl ho149 rfl ?_
      refine WL.load1 .nil rfl rfl rfl Try.underlying3 rfl rfl ho153 rfl ?_
      refine WL.bin .nil rfl rfl rfl rfl rfl rfl ?_
      refine WL.assign .nil rfl rfl rfl rfl ?_
      with_reducible refine WL.nil ?_
      with_reducible refine Ex.thn_norm ?_
      with_reducible refine W.ret ?_
      refine ⟨.inr rfl, _, (.cons (.tmp rfl) .nil), ?_⟩
      with_reducible refine WL.nil ?_
      with_reducible refine Ex.thn_norm ?_
      refine W.condD rfl (fun hc154 => ?_) (fun hc154 => ?_)
      · replace hr := ite_pos hr hc154
        with_reducible refine W.seq ?_
        with_reducible refine W.region ?_
        refine WL.move .nil rfl rfl rfl rfl ?_
        refine WL.assign .nil rfl rfl rfl rfl ?_
        with_reducible refine WL.nil ?_
        with_reducible refine Ex.thn_norm ?_
        with_reducible refine W.ret ?_
        with_reducible refine Ex.blk_ret ?_
        with_reducible refine Ex.thn_ret ?_
        with_reducible refine Ex.thn_ret ?_
        with_reducible refine Ex.blk_ret ?_
        with_reducible refine Ex.thn_ret ?_
        refine ⟨.inr rfl, _, (.cons (.tmp rfl) .nil), ?_⟩
        refine WL.assign .nil rfl rfl rfl rfl ?_
        with_reducible refine WL.nil ?_
        with_reducible refine Ex.thn_norm ?_
        with_reducible refine W.ret ?_
        obtain rfl := Option.some.inj hr
        exact ⟨.inr rfl, _, (.cons (.tmp rfl) .nil), ⟨(Ext.st hE115 hS148), rfl⟩⟩
      · replace hr := ite_neg hr hc154
        with_reducible refine W.skip ?_
        with_reducible refine Ex.blk_norm ?_
        with_reducible refine Ex.thn_norm ?_
        with_reducible refine W.region ?_
        obtain ⟨hc155, hr⟩ := chk_some hr
        refine WL.addI .nil rfl rfl rfl rfl rfl hc155.1 hc155.2 ?_
        refine WL.move .nil rfl rfl rfl rfl ?_
        with_reducible refine WL.nil ?_
        with_reducible refine Ex.thn_norm ?_
        exact ⟨[(0, .slice a5 x1.Sessions.length cap6), (1, .func (.func 68) [].toArray [.pointer (some ⟨(n0 + 1), 0, none⟩)].toArray), (7, .int .i64 (x1.Sessions.length : Int)), (8, .int .i64 (x117 + 1))], (Fr.le_cons rfl (Fr.le_cons rfl (Fr.le_cons rfl (Fr.le_cons rfl Fr.le_nil)))), (x117 + 1), F113, rfl, hS148, (hE115.up (by omega)), ho153, fo119, h116, hr⟩
    · replace hr := ite_neg hr hc122
      with_reducible refine W.exit ?_
      with_reducible refine Ex.thn_ex ?_
      with_reducible refine Ex.thn_ex ?_
      with_reducible refine Ex.blk_here ?_
      with_reducible refine Ex.thn_norm ?_
      with_reducible refine W.seq ?_
      with_reducible refine W.region ?_
      refine WL.assign .nil rfl rfl rfl rfl ?_
      with_reducible refine WL.nil ?_
      with_reducible refine Ex.thn_norm ?_
      with_reducible refine W.ret ?_
      refine ⟨.inr rfl, _, (.cons (.tmp rfl) .nil), ?_⟩
      refine WL.assign .nil rfl rfl rfl rfl ?_
      with_reducible refine WL.nil ?_
      with_reducible refine Ex.thn_norm ?_
      with_reducible refine W.ret ?_
      obtain rfl := Option.some.inj hr
      exact ⟨.inr rfl, _, (.cons (.tmp rfl) .nil), ⟨(Ext.st hE115 hS114), rfl⟩⟩
theorem f_impl_StateOK_k {Δ : Prims} (g : Env Try.prog Δ) {lo n0 : Nat} {H0 F0 : Heap} (hS : St lo n0 H0 F0) {x1 : GState} {a2 : Option Addr} {cap3 : Nat} {a5 : Option Addr} {cap6 : Nat} (h4 : SR F0 (.slice a2 x1.Files.length cap3) x1.Files) (h7 : SR F0 (.slice a5 x1.Sessions.length cap6) x1.Sessions) {res : (Bool)} (hr : f_impl_StateOK x1 = some res) :
    C Try.prog Δ n0 24 [.agg [.slice a2 x1.Files.length cap3, .slice a5 x1.Sessions.length cap6].toArray] n0 H0 (fun v n H => St n0 n H F0 ∧ v = .bool res) := by
  refine C.body Try.func24 rfl rfl ?_
  unfold f_impl_StateOK at hr
  have hS0 : St n0 n0 H0 F0 := hS.low (Nat.le_refl _)
  have hE0 := Ext.refl n0 F0
  have hlo0 := hS0.lo
  with_reducible refine W.seq ?_
  with_reducible refine W.region ?_
  refine GL.box hS0 .nil (vc := [.slice a2 x1.Files.length cap3, .slice a5 x1.Sessions.length cap6]) rfl rfl rfl rfl rfl (by repeat' (first | exact List.forall_mem_nil _ | refine List.forall_mem_cons.2 ⟨?_, ?_⟩ | rfl)) (fun H8 hS9 ho10 hk11 => ?_)
  have fo12 := hS0.fnone (Nat.le_refl _)
  have hlon01 := hS9.lo
  have lt13 : n0 < (n0 + 1) := by omega
  refine WL.assign .nil rfl rfl rfl rfl ?_
  with_reducible refine WL.nil ?_
  with_reducible refine Ex.thn_norm ?_
  with_reducible refine W.seq ?_
  with_reducible refine W.seq ?_
  refine W.cut (fun fr n H => ∃ (x20 : Bool) (F : Heap), fr = [(1, .pointer (some ⟨n0, 0, none⟩)), (16, .bool x20)] ∧ St n0 n H F ∧ Ext n0 F0 n F ∧ H n0 = some (.row 1 [.slice a2 x1.Files.length cap3, .slice a5 x1.Sessions.length cap6]) ∧ F n0 = none ∧ SR F (.slice a2 x1.Files.length cap3) x1.Files ∧ SR F (.slice a5 x1.Sessions.length cap6) x1.Sessions ∧ f_impl_StateOK_J0 x1 x20 = some res) ?_ ?_
  · with_reducible refine W.region ?_
    refine WL.fieldAddr .nil rfl rfl rfl Try.underlying26 rfl info23 rfl rfl ?_
    refine WL.load1 .nil rfl rfl rfl Try.underlying23 rfl rfl ho10 rfl ?_
    refine WL.len .nil rfl rfl rfl Try.underlying23 rfl ?_
    refine WL.bin .nil rfl rfl rfl rfl rfl rfl ?_
    refine WL.move .nil rfl rfl rfl rfl ?_
    refine WL.guardD rfl rfl rfl (fun hg2035 => ?_) (fun hg2035 => ?_)
    · replace hr := ite_pos hr hg2035
      refine WL.skip .nil rfl rfl ?_
      refine WL.skip .nil rfl rfl ?_
      refine WL.skip .nil rfl rfl ?_
      refine WL.skip .nil rfl rfl ?_
      refine WL.pick .nil rfl rfl rfl rfl rfl ?_
      with_reducible refine WL.nil ?_
      with_reducible refine Ex.thn_norm ?_
      exact ⟨[(1, .pointer (some ⟨n0, 0, none⟩)), (16, .bool true)], (Fr.le_cons rfl (Fr.le_cons rfl Fr.le_nil)), true, F0, rfl, hS9, (hE0.up (by omega)), ho10, fo12, h4, h7, hr⟩
    · replace hr := ite_neg hr hg2035
      refine WL.fieldAddr .nil rfl rfl rfl Try.underlying26 rfl info24 rfl rfl ?_
      refine WL.load1 .nil rfl rfl rfl Try.underlying24 rfl rfl ho10 rfl ?_
      refine WL.len .nil rfl rfl rfl Try.underlying24 rfl ?_
      refine WL.bin .nil rfl rfl rfl rfl rfl rfl ?_
      refine WL.pick .nil rfl rfl rfl rfl rfl ?_
      with_reducible refine WL.nil ?_
      with_reducible refine Ex.thn_norm ?_
      exact ⟨[(1, .pointer (some ⟨n0, 0, none⟩)), (16, .bool (decide ((200 : Int) < (x1.Sessions.length : Int))))], (Fr.le_cons rfl (Fr.le_cons rfl Fr.le_nil)), (decide ((200 : Int) < (x1.Sessions.length : Int))), F0, rfl, hS9, (hE0.up (by omega)), ho10, fo12, h4, h7, hr⟩
  · intro _ n15 H16 hI
    obtain ⟨x20, F17, rfl, hS18, hE19, ho23, fo24, h21, h22, hr⟩ := hI
    have lt25 := hS18.lt ho23
    have hlen15 := hE19.le
    have hlon15 := hS18.lo
    unfold f_impl_StateOK_J0 at hr
    refine W.cond rfl (fun hc27 => ?_) (fun hc27 => ?_)
    · replace hr := iteB_pos hr hc27
      with_reducible refine W.seq ?_
      with_reducible refine W.region ?_
      refine WL.assign .nil rfl rfl rfl rfl ?_
      with_reducible refine WL.nil ?_
      with_reducible refine Ex.thn_norm ?_
      with_reducible refine W.ret ?_
      with_reducible refine Ex.thn_ret ?_
      obtain rfl := Option.some.inj hr
      exact ⟨.inr rfl, _, (.cons (.tmp rfl) .nil), ⟨(Ext.st hE19 hS18), rfl⟩⟩
    · replace hr := iteB_neg hr hc27
      with_reducible refine W.skip ?_
      with_reducible refine Ex.thn_norm ?_
      with_reducible refine W.seq ?_
      with_reducible refine W.seq ?_
      with_reducible refine W.region ?_
      refine WL.fieldAddr .nil rfl rfl rfl Try.underlying26 rfl info23 rfl rfl ?_
      refine WL.load1 .nil rfl rfl rfl Try.underlying23 rfl rfl ho23 rfl ?_
      refine WL.len .nil rfl rfl rfl Try.underlying23 rfl ?_
      refine WL.move .nil rfl rfl rfl rfl ?_
      with_reducible refine WL.nil ?_
      with_reducible refine Ex.thn_norm ?_
      with_reducible refine W.block ?_
      refine W.loopF (fun k1 fr n H => ∃ (x1082 : Int) (F : Heap), fr = [(1, .pointer (some ⟨n0, 0, none⟩)), (18, .slice a2 x1.Files.length cap3), (19, .int .i64 (x1.Files.length : Int)), (20, .int .i64 x1082)] ∧ St n0 n H F ∧ Ext n0 F0 n F ∧ H n0 = some (.row 1 [.slice a2 x1.Files.length cap3, .slice a5 x1.Sessions.length cap6]) ∧ F n0 = none ∧ SR F (.slice a2 x1.Files.length cap3) x1.Files ∧ SR F (.slice a5 x1.Sessions.length cap6) x1.Sessions ∧ f_impl_StateOK_L1 x1 k1 x1082 = some res) BIG (fr0 := [(1, .pointer (some ⟨n0, 0, none⟩)), (18, .slice a2 x1.Files.length cap3), (19, .int .i64 (x1.Files.length : Int)), (20, .int .i64 0)]) (Fr.le_cons rfl (Fr.le_cons rfl (Fr.le_cons rfl (Fr.le_cons rfl Fr.le_nil)))) ?_ ?_ ?_
      · exact ⟨0, F17, rfl, hS18, hE19, ho23, fo24, h21, h22, hr⟩
      · intro fr n H hI
        obtain ⟨x1082, F1078, hfr, hS1079, hE1080, ho1084, fo1085, h1081, h1083, hr⟩ := hI
        rw [f_impl_StateOK_L1] at hr
        cases hr
      · intro k1 _ n1076 H1077 hI
        obtain ⟨x1082, F1078, rfl, hS1079, hE1080, ho1084, fo1085, h1081, h1083, hr⟩ := hI
        have lt1086 := hS1079.lt ho1084
        have hlen1076 := hE1080.le
        have hlon1076 := hS1079.lo
        rw [f_impl_StateOK_L1] at hr
        with_reducible refine W.seq ?_
        with_reducible refine W.region ?_
        refine WL.bin .nil rfl rfl rfl rfl rfl rfl ?_
        with_reducible refine WL.nil ?_
        with_reducible refine Ex.thn_norm ?_
        with_reducible refine W.seq ?_
        refine W.condD rfl (fun hc1088 => ?_) (fun hc1088 => ?_)
        · replace hr := ite_pos hr hc1088
          with_reducible refine W.skip ?_
          with_reducible refine Ex.thn_norm ?_
          with_reducible refine W.seq ?_
          with_reducible refine W.block ?_
          with_reducible refine W.seq ?_
          with_reducible refine W.region ?_
          refine WL.move .nil rfl rfl rfl rfl ?_
          obtain ⟨x1187, hx1187, hr⟩ := bnd_some hr
          refine GL.index .nil rfl rfl rfl Try.underlying23 info50 rfl rfl h1081 hS1079.fh rfl hx1187 (fun b1188 kp1189 c1190 ecs1191 hrow1192 hwin1193 hR1194 => ?_)
          obtain ⟨rfl⟩ := GFile.ofR hR1194
          refine WL.loadN .nil (l' := [str x1187.Name, .int .i64 x1187.Version, str x1187.Text]) rfl rfl rfl Try.underlying50 rfl info50 rfl hrow1192 hwin1193 rfl ?_
          refine GL.alloc hS1079 .nil (zc := [str ([] : List UInt8), .int .i64 0, str ([] : List UInt8)]) rfl rfl rfl info50 rfl rfl rfl (fun H1195 hS1196 ho1197 hk1198 => ?_)
          have fo1199 := hS1079.fnone (Nat.le_refl _)
          have ho1201 := (hk1198 _ (by have := lt1086; omega)).trans ho1084
          have hlon10761 := hS1196.lo
          have lt1200 : n1076 < (n1076 + 1) := by omega
          refine WL.assign .nil rfl rfl rfl rfl ?_
          refine GL.store hS1196 .nil (vc := [str x1187.Name, .int .i64 x1187.Version, str x1187.Text]) (c' := [str x1187.Name, .int .i64 x1187.Version, str x1187.Text]) rfl rfl rfl info50 rfl rfl rfl rfl ho1197 fo1199 (Nat.le_of_ble_eq_true rfl) (by omega) (by repeat' (first | exact List.forall_mem_nil _ | refine List.forall_mem_cons.2 ⟨?_, ?_⟩ | rfl)) rfl (fun H1202 hS1203 ho1204 hk1205 => ?_)
          have ho1206 := (hk1205 _ (by omega)).trans ho1201
          with_reducible refine WL.nil ?_
          with_reducible refine Ex.thn_norm ?_
          with_reducible refine W.seq ?_
          refine W.cut (fun fr n H => ∃ (x1246 : Bool) (F : Heap), fr = [(1, .pointer (some ⟨n0, 0, none⟩)), (18, .slice a2 x1.Files.length cap3), (19, .int .i64 (x1.Files.length : Int)), (20, .int .i64 x1082), (48, .bool x1246)] ∧ St n0 n H F ∧ Ext n0 F0 n F ∧ H n0 = some (.row 1 [.slice a2 x1.Files.length cap3, .slice a5 x1.Sessions.length cap6]) ∧ F n0 = none ∧ SR F (.slice a2 x1.Files.length cap3) x1.Files ∧ SR F (.slice a5 x1.Sessions.length cap6) x1.Sessions ∧ f_impl_StateOK_J2 x1082 (f_impl_StateOK_L1 x1 k1) x1246 = some res) ?_ ?_
          · with_reducible refine W.region ?_
            refine WL.fieldAddr .nil rfl rfl rfl Try.underlying50 rfl info9 rfl rfl ?_
            refine WL.load1 .nil rfl rfl rfl Try.underlying9 rfl rfl ho1204 rfl ?_
            obtain ⟨x1253, hx1253, hr⟩ := bnd_some hr
            refine GL.callP g.good .nil rfl rfl rfl rfl rfl rfl Try.func46 rfl rfl hS1203.lo (f_impl_NameOK_k  g hS1203 hx1253) (fun v n1254 H1255 hn1256 hk1257 hp1258 => ?_)
            obtain ⟨hS1259, rfl⟩ := hp1258
            have ho1260 := (hk1257 _ (by have := lt1086; omega)).trans ho1206
            have ho1261 := (hk1257 _ (by have := lt1200; omega)).trans ho1204
            have hS1262 : St n0 n1254 H1255 F1078 := ⟨by have := hS1203.lo; omega, hS1259.hb, hS1259.fh⟩
            have hlon1254 := hS1262.lo
            refine WL.not .nil rfl rfl rfl rfl ?_
            refine WL.move .nil rfl rfl rfl rfl ?_
            refine WL.guard rfl rfl rfl (fun hg1263 => ?_) (fun hg1263 => ?_)
            · replace hr := iteB_pos hr hg1263
              refine WL.skip .nil rfl rfl ?_
              refine WL.skip .nil rfl rfl ?_
              refine WL.skip .nil rfl rfl ?_
              refine WL.skip .nil rfl rfl ?_
              refine WL.pick .nil rfl rfl rfl rfl rfl ?_
              refine WL.move .nil rfl rfl rfl rfl ?_
              refine WL.skip .nil rfl rfl ?_
              refine WL.skip .nil rfl rfl ?_
              refine WL.skip .nil rfl rfl ?_
              refine WL.skip .nil rfl rfl ?_
              refine WL.pick .nil rfl rfl rfl rfl rfl ?_
              refine WL.move .nil rfl rfl rfl rfl ?_
              refine WL.skip .nil rfl rfl ?_
              refine WL.skip .nil rfl rfl ?_
              refine WL.skip .nil rfl rfl ?_
              refine WL.skip .nil rfl rfl ?_
              refine WL.skip .nil rfl rfl ?_
              refine WL.skip .nil rfl rfl ?_
              refine WL.pick .nil rfl rfl rfl rfl rfl ?_
              with_reducible refine WL.nil ?_
              with_reducible refine Ex.thn_norm ?_
              exact ⟨[(1, .pointer (some ⟨n0, 0, none⟩)), (18, .slice a2 x1.Files.length cap3), (19, .int .i64 (x1.Files.length : Int)), (20, .int .i64 x1082), (48, .bool true)], (Fr.le_cons rfl (Fr.le_cons rfl (Fr.le_cons rfl (Fr.le_cons rfl (Fr.le_cons rfl Fr.le_nil))))), true, F1078, rfl, hS1262, (hE1080.up (by omega)), ho1260, fo1085, h1081, h1083, hr⟩
            · replace hr := iteB_neg hr hg1263
              refine WL.fieldAddr .nil rfl rfl rfl Try.underlying50 rfl info3 rfl rfl ?_
              refine WL.load1 .nil rfl rfl rfl Try.underlying3 rfl rfl ho1261 rfl ?_
              obtain ⟨x1264, hx1264, hr⟩ := bnd_some hr
              refine GL.callP g.good .nil rfl rfl rfl rfl rfl rfl Try.func47 rfl rfl hS1262.lo (f_impl_isCount_k  g hS1262 hx1264) (fun v n1265 H1266 hn1267 hk1268 hp1269 => ?_)
              obtain ⟨hS1270, rfl⟩ := hp1269
              have ho1271 := (hk1268 _ (by have := lt1086; omega)).trans ho1260
              have ho1272 := (hk1268 _ (by have := lt1200; omega)).trans ho1261
              have hS1273 : St n0 n1265 H1266 F1078 := ⟨by have := hS1262.lo; omega, hS1270.hb, hS1270.fh⟩
              have hlon1265 := hS1273.lo
              refine WL.not .nil rfl rfl rfl rfl ?_
              refine WL.pick .nil rfl rfl rfl rfl rfl ?_
              refine WL.move .nil rfl rfl rfl rfl ?_
              refine WL.guard rfl rfl rfl (fun hg1274 => ?_) (fun hg1274 => ?_)
              · replace hr := iteB_pos hr hg1274
                refine WL.skip .nil rfl rfl ?_
                refine WL.skip .nil rfl rfl ?_
                refine WL.skip .nil rfl rfl ?_
                refine WL.skip .nil rfl rfl ?_
                refine WL.pick .nil rfl rfl rfl rfl rfl ?_
                refine WL.move .nil rfl rfl rfl rfl ?_
                refine WL.skip .nil rfl rfl ?_
                refine WL.skip .nil rfl rfl ?_
                refine WL.skip .nil rfl rfl ?_
                refine WL.skip .nil rfl rfl ?_
                refine WL.skip .nil rfl rfl ?_
                refine WL.skip .nil rfl rfl ?_
                refine WL.pick .nil rfl rfl rfl rfl rfl ?_
                with_reducible refine WL.nil ?_
                with_reducible refine Ex.thn_norm ?_
                exact ⟨[(1, .pointer (some ⟨n0, 0, none⟩)), (18, .slice a2 x1.Files.length cap3), (19, .int .i64 (x1.Files.length : Int)), (20, .int .i64 x1082), (48, .bool true)], (Fr.le_cons rfl (Fr.le_cons rfl (Fr.le_cons rfl (Fr.le_cons rfl (Fr.le_cons rfl Fr.le_nil))))), true, F1078, rfl, hS1273, (hE1080.up (by omega)), ho1271, fo1085, h1081, h1083, hr⟩
              · replace hr := iteB_neg hr hg1274
                refine WL.fieldAddr .nil rfl rfl rfl Try.underlying50 rfl info9 rfl rfl ?_
                refine WL.load1 .nil rfl rfl rfl Try.underlying9 rfl rfl ho1272 rfl ?_
                refine GL.lenStr .nil rfl rfl rfl Try.underlying9 rfl ?_
                refine WL.bin .nil rfl rfl rfl rfl rfl rfl ?_
                refine WL.pick .nil rfl rfl rfl rfl rfl ?_
                refine WL.move .nil rfl rfl rfl rfl ?_
                refine WL.guardD rfl rfl rfl (fun hg1275 => ?_) (fun hg1275 => ?_)
                · replace hr := ite_pos hr hg1275
                  refine WL.skip .nil rfl rfl ?_
                  refine WL.skip .nil rfl rfl ?_
                  refine WL.skip .nil rfl rfl ?_
                  refine WL.skip .nil rfl rfl ?_
                  refine WL.skip .nil rfl rfl ?_
                  refine WL.skip .nil rfl rfl ?_
                  refine WL.pick .nil rfl rfl rfl rfl rfl ?_
                  with_reducible refine WL.nil ?_
                  with_reducible refine Ex.thn_norm ?_
                  exact ⟨[(1, .pointer (some ⟨n0, 0, none⟩)), (18, .slice a2 x1.Files.length cap3), (19, .int .i64 (x1.Files.length : Int)), (20, .int .i64 x1082), (48, .bool true)], (Fr.le_cons rfl (Fr.le_cons rfl (Fr.le_cons rfl (Fr.le_cons rfl (Fr.le_cons rfl Fr.le_nil))))), true, F1078, rfl, hS1273, (hE1080.up (by omega)), ho1271, fo1085, h1081, h1083, hr⟩
                · replace hr := ite_neg hr hg1275
                  refine WL.loadN .nil (l' := [.slice a2 x1.Files.length cap3, .slice a5 x1.Sessions.length cap6]) rfl rfl rfl Try.underlying26 rfl info26 rfl ho1271 rfl rfl ?_
                  refine WL.fieldAddr .nil rfl rfl rfl Try.underlying50 rfl info9 rfl rfl ?_
                  refine WL.load1 .nil rfl rfl rfl Try.underlying9 rfl rfl ho1272 rfl ?_
                  obtain ⟨x1276, hx1276, hr⟩ := bnd_some hr
                  refine GL.callP g.good .nil rfl rfl rfl rfl rfl rfl Try.func48 rfl rfl hS1273.lo (f__impl_State_file_k  g hS1273 h1081 h1083 hx1276) (fun v n1277 H1278 hn1279 hk1280 hp1281 => ?_)
                  obtain ⟨hS1282, rfl⟩ := hp1281
                  have ho1283 := (hk1280 _ (by have := lt1086; omega)).trans ho1271
                  have ho1284 := (hk1280 _ (by have := lt1200; omega)).trans ho1272
                  have hS1285 : St n0 n1277 H1278 F1078 := ⟨by have := hS1273.lo; omega, hS1282.hb, hS1282.fh⟩
                  have hlon1277 := hS1285.lo
                  refine WL.move .nil rfl rfl rfl rfl ?_
                  refine WL.bin .nil rfl rfl rfl rfl rfl rfl ?_
                  refine WL.pick .nil rfl rfl rfl rfl rfl ?_
                  with_reducible refine WL.nil ?_
                  with_reducible refine Ex.thn_norm ?_
                  exact ⟨[(1, .pointer (some ⟨n0, 0, none⟩)), (18, .slice a2 x1.Files.length cap3), (19, .int .i64 (x1.Files.length : Int)), (20, .int .i64 x1082), (48, .bool (!decide (x1276 = x1082)))], (Fr.le_cons rfl (Fr.le_cons rfl (Fr.le_cons rfl (Fr.le_cons rfl (Fr.le_cons rfl Fr.le_nil))))), (!decide (x1276 = x1082)), F1078, rfl, hS1285, (hE1080.up (by omega)), ho1283, fo1085, h1081, h1083, hr⟩
          · intro _ n1240 H1241 hI
            obtain ⟨x1246, F1242, rfl, hS1243, hE1244, ho1248, fo1249, h1245, h1247, hr⟩ := hI
            have lt1250 := hS1243.lt ho1248
            have hlen1240 := hE1244.le
            have hlon1240 := hS1243.lo
            unfold f_impl_StateOK_J2 at hr
            refine W.cond rfl (fun hc1251 => ?_) (fun hc1251 => ?_)
            · replace hr := iteB_pos hr hc1251
              with_reducible refine W.seq ?_
              with_reducible refine W.region ?_
              refine WL.assign .nil rfl rfl rfl rfl ?_
              with_reducible refine WL.nil ?_
              with_reducible refine Ex.thn_norm ?_
              with_reducible refine W.ret ?_
              with_reducible refine Ex.blk_ret ?_
              with_reducible refine Ex.thn_ret ?_
              with_reducible refine Ex.thn_ret ?_
              with_reducible refine Ex.blk_ret ?_
              with_reducible refine Ex.thn_ret ?_
              obtain rfl := Option.some.inj hr
              exact ⟨.inr rfl, _, (.cons (.tmp rfl) .nil), ⟨(Ext.st hE1244 hS1243), rfl⟩⟩
            · replace hr := iteB_neg hr hc1251
              with_reducible refine W.skip ?_
              with_reducible refine Ex.blk_norm ?_
              with_reducible refine Ex.thn_norm ?_
              with_reducible refine W.region ?_
              obtain ⟨hc1252, hr⟩ := chk_some hr
              refine WL.addI .nil rfl rfl rfl rfl rfl hc1252.1 hc1252.2 ?_
              refine WL.move .nil rfl rfl rfl rfl ?_
              with_reducible refine WL.nil ?_
              with_reducible refine Ex.thn_norm ?_
              exact ⟨[(1, .pointer (some ⟨n0, 0, none⟩)), (18, .slice a2 x1.Files.length cap3), (19, .int .i64 (x1.Files.length : Int)), (20, .int .i64 (x1082 + 1))], (Fr.le_cons rfl (Fr.le_cons rfl (Fr.le_cons rfl (Fr.le_cons rfl Fr.le_nil)))), (x1082 + 1), F1242, rfl, hS1243, hE1244, ho1248, fo1249, h1245, h1247, hr⟩
        · replace hr := ite_neg hr hc1088
          with_reducible refine W.exit ?_
          with_reducible refine Ex.thn_ex ?_
          with_reducible refine Ex.thn_ex ?_
          with_reducible refine Ex.blk_here ?_
          with_reducible refine Ex.thn_norm ?_
          with_reducible refine W.seq ?_
          with_reducible refine W.seq ?_
          with_reducible refine W.region ?_
          refine WL.fieldAddr .nil rfl rfl rfl Try.underlying26 rfl info24 rfl rfl ?_
          refine WL.load1 .nil rfl rfl rfl Try.underlying24 rfl rfl ho1084 rfl ?_
          refine WL.len .nil rfl rfl rfl Try.underlying24 rfl ?_
          refine WL.move .nil rfl rfl rfl rfl ?_
          with_reducible refine WL.nil ?_
          with_reducible refine Ex.thn_norm ?_
          with_reducible refine W.block ?_
          refine W.loopF (fun k3 fr n H => ∃ (x1791 : Int) (F : Heap), fr = [(1, .pointer (some ⟨n0, 0, none⟩)), (51, .slice a5 x1.Sessions.length cap6), (52, .int .i64 (x1.Sessions.length : Int)), (53, .int .i64 x1791)] ∧ St n0 n H F ∧ Ext n0 F0 n F ∧ H n0 = some (.row 1 [.slice a2 x1.Files.length cap3, .slice a5 x1.Sessions.length cap6]) ∧ F n0 = none ∧ SR F (.slice a5 x1.Sessions.length cap6) x1.Sessions ∧ SR F (.slice a2 x1.Files.length cap3) x1.Files ∧ f_impl_StateOK_L3 x1 k3 x1791 = some res) BIG (fr0 := [(1, .pointer (some ⟨n0, 0, none⟩)), (51, .slice a5 x1.Sessions.length cap6), (52, .int .i64 (x1.Sessions.length : Int)), (53, .int .i64 0)]) (Fr.le_cons rfl (Fr.le_cons rfl (Fr.le_cons rfl (Fr.le_cons rfl Fr.le_nil)))) ?_ ?_ ?_
          · exact ⟨0, F1078, rfl, hS1079, hE1080, ho1084, fo1085, h1083, h1081, hr⟩
          · intro fr n H hI
            obtain ⟨x1791, F1787, hfr, hS1788, hE1789, ho1793, fo1794, h1790, h1792, hr⟩ := hI
            rw [f_impl_StateOK_L3] at hr
            cases hr
          · intro k3 _ n1785 H1786 hI
            obtain ⟨x1791, F1787, rfl, hS1788, hE1789, ho1793, fo1794, h1790, h1792, hr⟩ := hI
            have lt1795 := hS1788.lt ho1793
            have hlen1785 := hE1789.le
            have hlon1785 := hS1788.lo
            rw [f_impl_StateOK_L3] at hr
            with_reducible refine W.seq ?_
            with_reducible refine W.region ?_
            refine WL.bin .nil rfl rfl rfl rfl rfl rfl ?_
            with_reducible refine WL.nil ?_
            with_reducible refine Ex.thn_norm ?_
            with_reducible refine W.seq ?_
            refine W.condD rfl (fun hc1797 => ?_) (fun hc1797 => ?_)
            · replace hr := ite_pos hr hc1797
              with_reducible refine W.skip ?_
              with_reducible refine Ex.thn_norm ?_
              with_reducible refine W.seq ?_
              with_reducible refine W.block ?_
              with_reducible refine W.seq ?_
              with_reducible refine W.region ?_
              refine WL.move .nil rfl rfl rfl rfl ?_
              obtain ⟨x1916, hx1916, hr⟩ := bnd_some hr
              refine GL.index .nil rfl rfl rfl Try.underlying24 info54 rfl rfl h1790 hS1788.fh rfl hx1916 (fun b1917 kp1918 c1919 ecs1920 hrow1921 hwin1922 hR1923 => ?_)
              obtain ⟨rfl⟩ := GSession.ofR hR1923
              refine WL.loadN .nil (l' := [.int .i64 x1916.Client, .int .i64 x1916.Seq, .int .i64 x1916.Reply.Code, .int .i64 x1916.Reply.Version, str x1916.Reply.Sha]) rfl rfl rfl Try.underlying54 rfl info54 rfl hrow1921 hwin1922 rfl ?_
              refine GL.alloc hS1788 .nil (zc := [.int .i64 0, .int .i64 0, .int .i64 0, .int .i64 0, str ([] : List UInt8)]) rfl rfl rfl info54 rfl rfl rfl (fun H1924 hS1925 ho1926 hk1927 => ?_)
              have fo1928 := hS1788.fnone (Nat.le_refl _)
              have ho1930 := (hk1927 _ (by have := lt1795; omega)).trans ho1793
              have hlon17851 := hS1925.lo
              have lt1929 : n1785 < (n1785 + 1) := by omega
              refine WL.assign .nil rfl rfl rfl rfl ?_
              refine GL.store hS1925 .nil (vc := [.int .i64 x1916.Client, .int .i64 x1916.Seq, .int .i64 x1916.Reply.Code, .int .i64 x1916.Reply.Version, str x1916.Reply.Sha]) (c' := [.int .i64 x1916.Client, .int .i64 x1916.Seq, .int .i64 x1916.Reply.Code, .int .i64 x1916.Reply.Version, str x1916.Reply.Sha]) rfl rfl rfl info54 rfl rfl rfl rfl ho1926 fo1928 (Nat.le_of_ble_eq_true rfl) (by omega) (by repeat' (first | exact List.forall_mem_nil _ | refine List.forall_mem_cons.2 ⟨?_, ?_⟩ | rfl)) rfl (fun H1931 hS1932 ho1933 hk1934 => ?_)
              have ho1935 := (hk1934 _ (by omega)).trans ho1930
              with_reducible refine WL.nil ?_
              with_reducible refine Ex.thn_norm ?_
              with_reducible refine W.seq ?_
              refine W.cut (fun fr n H => ∃ (x1985 : Bool) (F : Heap), fr = [(1, .pointer (some ⟨n0, 0, none⟩)), (51, .slice a5 x1.Sessions.length cap6), (52, .int .i64 (x1.Sessions.length : Int)), (53, .int .i64 x1791), (81, .bool x1985)] ∧ St n0 n H F ∧ Ext n0 F0 n F ∧ H n0 = some (.row 1 [.slice a2 x1.Files.length cap3, .slice a5 x1.Sessions.length cap6]) ∧ F n0 = none ∧ SR F (.slice a5 x1.Sessions.length cap6) x1.Sessions ∧ SR F (.slice a2 x1.Files.length cap3) x1.Files ∧ f_impl_StateOK_J4 x1791 (f_impl_StateOK_L3 x1 k3) x1985 = some res) ?_ ?_
              · with_reducible refine W.region ?_
                refine WL.fieldAddr .nil rfl rfl rfl Try.underlying54 rfl info3 rfl rfl ?_
                refine WL.load1 .nil rfl rfl rfl Try.underlying3 rfl rfl ho1933 rfl ?_
                obtain ⟨x1992, hx1992, hr⟩ := bnd_some hr
                refine GL.callP g.good .nil rfl rfl rfl rfl rfl rfl Try.func47 rfl rfl hS1932.lo (f_impl_isCount_k  g hS1932 hx1992) (fun v n1993 H1994 hn1995 hk1996 hp1997 => ?_)
                obtain ⟨hS1998, rfl⟩ := hp1997
                have ho1999 := (hk1996 _ (by have := lt1795; omega)).trans ho1935
                have ho2000 := (hk1996 _ (by have := lt1929; omega)).trans ho1933
                have hS2001 : St n0 n1993 H1994 F1787 := ⟨by have := hS1932.lo; omega, hS1998.hb, hS1998.fh⟩
                have hlon1993 := hS2001.lo
                refine WL.not .nil rfl rfl rfl rfl ?_
                refine WL.move .nil rfl rfl rfl rfl ?_
                refine WL.guard rfl rfl rfl (fun hg2002 => ?_) (fun hg2002 => ?_)
                · replace hr := iteB_pos hr hg2002
                  refine WL.skip .nil rfl rfl ?_
                  refine WL.skip .nil rfl rfl ?_
                  refine WL.skip .nil rfl rfl ?_
                  refine WL.skip .nil rfl rfl ?_
                  refine WL.pick .nil rfl rfl rfl rfl rfl ?_
                  refine WL.move .nil rfl rfl rfl rfl ?_
                  refine WL.skip .nil rfl rfl ?_
                  refine WL.skip .nil rfl rfl ?_
                  refine WL.skip .nil rfl rfl ?_
                  refine WL.skip .nil rfl rfl ?_
                  refine WL.pick .nil rfl rfl rfl rfl rfl ?_
                  refine WL.move .nil rfl rfl rfl rfl ?_
                  refine WL.skip .nil rfl rfl ?_
                  refine WL.skip .nil rfl rfl ?_
                  refine WL.skip .nil rfl rfl ?_
                  refine WL.skip .nil rfl rfl ?_
                  refine WL.skip .nil rfl rfl ?_
                  refine WL.skip .nil rfl rfl ?_
                  refine WL.pick .nil rfl rfl rfl rfl rfl ?_
                  with_reducible refine WL.nil ?_
                  with_reducible refine Ex.thn_norm ?_
                  exact ⟨[(1, .pointer (some ⟨n0, 0, none⟩)), (51, .slice a5 x1.Sessions.length cap6), (52, .int .i64 (x1.Sessions.length : Int)), (53, .int .i64 x1791), (81, .bool true)], (Fr.le_cons rfl (Fr.le_cons rfl (Fr.le_cons rfl (Fr.le_cons rfl (Fr.le_cons rfl Fr.le_nil))))), true, F1787, rfl, hS2001, (hE1789.up (by omega)), ho1999, fo1794, h1790, h1792, hr⟩
                · replace hr := iteB_neg hr hg2002
                  refine WL.fieldAddr .nil rfl rfl rfl Try.underlying54 rfl info3 rfl rfl ?_
                  refine WL.load1 .nil rfl rfl rfl Try.underlying3 rfl rfl ho2000 rfl ?_
                  obtain ⟨x2003, hx2003, hr⟩ := bnd_some hr
                  refine GL.callP g.good .nil rfl rfl rfl rfl rfl rfl Try.func47 rfl rfl hS2001.lo (f_impl_isCount_k  g hS2001 hx2003) (fun v n2004 H2005 hn2006 hk2007 hp2008 => ?_)
                  obtain ⟨hS2009, rfl⟩ := hp2008
                  have ho2010 := (hk2007 _ (by have := lt1795; omega)).trans ho1999
                  have ho2011 := (hk2007 _ (by have := lt1929; omega)).trans ho2000
                  have hS2012 : St n0 n2004 H2005 F1787 := ⟨by have := hS2001.lo; omega, hS2009.hb, hS2009.fh⟩
                  have hlon2004 := hS2012.lo
                  refine WL.not .nil rfl rfl rfl rfl ?_
                  refine WL.pick .nil rfl rfl rfl rfl rfl ?_
                  refine WL.move .nil rfl rfl rfl rfl ?_
                  refine WL.guard rfl rfl rfl (fun hg2013 => ?_) (fun hg2013 => ?_)
                  · replace hr := iteB_pos hr hg2013
                    refine WL.skip .nil rfl rfl ?_
                    refine WL.skip .nil rfl rfl ?_
                    refine WL.skip .nil rfl rfl ?_
                    refine WL.skip .nil rfl rfl ?_
                    refine WL.pick .nil rfl rfl rfl rfl rfl ?_
                    refine WL.move .nil rfl rfl rfl rfl ?_
                    refine WL.skip .nil rfl rfl ?_
                    refine WL.skip .nil rfl rfl ?_
                    refine WL.skip .nil rfl rfl ?_
                    refine WL.skip .nil rfl rfl ?_
                    refine WL.skip .nil rfl rfl ?_
                    refine WL.skip .nil rfl rfl ?_
                    refine WL.pick .nil rfl rfl rfl rfl rfl ?_
                    with_reducible refine WL.nil ?_
                    with_reducible refine Ex.thn_norm ?_
                    exact ⟨[(1, .pointer (some ⟨n0, 0, none⟩)), (51, .slice a5 x1.Sessions.length cap6), (52, .int .i64 (x1.Sessions.length : Int)), (53, .int .i64 x1791), (81, .bool true)], (Fr.le_cons rfl (Fr.le_cons rfl (Fr.le_cons rfl (Fr.le_cons rfl (Fr.le_cons rfl Fr.le_nil))))), true, F1787, rfl, hS2012, (hE1789.up (by omega)), ho2010, fo1794, h1790, h1792, hr⟩
                  · replace hr := iteB_neg hr hg2013
                    refine WL.fieldAddr .nil rfl rfl rfl Try.underlying54 rfl info52 rfl rfl ?_
                    refine WL.loadN .nil (l' := [.int .i64 x1916.Reply.Code, .int .i64 x1916.Reply.Version, str x1916.Reply.Sha]) rfl rfl rfl Try.underlying52 rfl info52 rfl ho2011 rfl rfl ?_
                    obtain ⟨x2014, hx2014, hr⟩ := bnd_some hr
                    refine GL.callP g.good .nil rfl rfl rfl rfl rfl rfl Try.func49 rfl rfl hS2012.lo (f_impl_replyOK_k  g hS2012 hx2014) (fun v n2015 H2016 hn2017 hk2018 hp2019 => ?_)
                    obtain ⟨hS2020, rfl⟩ := hp2019
                    have ho2021 := (hk2018 _ (by have := lt1795; omega)).trans ho2010
                    have ho2022 := (hk2018 _ (by have := lt1929; omega)).trans ho2011
                    have hS2023 : St n0 n2015 H2016 F1787 := ⟨by have := hS2012.lo; omega, hS2020.hb, hS2020.fh⟩
                    have hlon2015 := hS2023.lo
                    refine WL.not .nil rfl rfl rfl rfl ?_
                    refine WL.pick .nil rfl rfl rfl rfl rfl ?_
                    refine WL.move .nil rfl rfl rfl rfl ?_
                    refine WL.guard rfl rfl rfl (fun hg2024 => ?_) (fun hg2024 => ?_)
                    · replace hr := iteB_pos hr hg2024
                      refine WL.skip .nil rfl rfl ?_
                      refine WL.skip .nil rfl rfl ?_
                      refine WL.skip .nil rfl rfl ?_
                      refine WL.skip .nil rfl rfl ?_
                      refine WL.skip .nil rfl rfl ?_
                      refine WL.skip .nil rfl rfl ?_
                      refine WL.pick .nil rfl rfl rfl rfl rfl ?_
                      with_reducible refine WL.nil ?_
                      with_reducible refine Ex.thn_norm ?_
                      exact ⟨[(1, .pointer (some ⟨n0, 0, none⟩)), (51, .slice a5 x1.Sessions.length cap6), (52, .int .i64 (x1.Sessions.length : Int)), (53, .int .i64 x1791), (81, .bool true)], (Fr.le_cons rfl (Fr.le_cons rfl (Fr.le_cons rfl (Fr.le_cons rfl (Fr.le_cons rfl Fr.le_nil))))), true, F1787, rfl, hS2023, (hE1789.up (by omega)), ho2021, fo1794, h1790, h1792, hr⟩
                    · replace hr := iteB_neg hr hg2024
                      refine WL.loadN .nil (l' := [.slice a2 x1.Files.length cap3, .slice a5 x1.Sessions.length cap6]) rfl rfl rfl Try.underlying26 rfl info26 rfl ho2021 rfl rfl ?_
                      refine WL.fieldAddr .nil rfl rfl rfl Try.underlying54 rfl info3 rfl rfl ?_
                      refine WL.load1 .nil rfl rfl rfl Try.underlying3 rfl rfl ho2022 rfl ?_
                      obtain ⟨x2025, hx2025, hr⟩ := bnd_some hr
                      refine GL.callP g.good .nil rfl rfl rfl rfl rfl rfl Try.func50 rfl rfl hS2023.lo (f__impl_State_session_k  g hS2023 h1792 h1790 hx2025) (fun v n2026 H2027 hn2028 hk2029 hp2030 => ?_)
                      obtain ⟨hS2031, rfl⟩ := hp2030
                      have ho2032 := (hk2029 _ (by have := lt1795; omega)).trans ho2021
                      have ho2033 := (hk2029 _ (by have := lt1929; omega)).trans ho2022
                      have hS2034 : St n0 n2026 H2027 F1787 := ⟨by have := hS2023.lo; omega, hS2031.hb, hS2031.fh⟩
                      have hlon2026 := hS2034.lo
                      refine WL.move .nil rfl rfl rfl rfl ?_
                      refine WL.bin .nil rfl rfl rfl rfl rfl rfl ?_
                      refine WL.pick .nil rfl rfl rfl rfl rfl ?_
                      with_reducible refine WL.nil ?_
                      with_reducible refine Ex.thn_norm ?_
                      exact ⟨[(1, .pointer (some ⟨n0, 0, none⟩)), (51, .slice a5 x1.Sessions.length cap6), (52, .int .i64 (x1.Sessions.length : Int)), (53, .int .i64 x1791), (81, .bool (!decide (x2025 = x1791)))], (Fr.le_cons rfl (Fr.le_cons rfl (Fr.le_cons rfl (Fr.le_cons rfl (Fr.le_cons rfl Fr.le_nil))))), (!decide (x2025 = x1791)), F1787, rfl, hS2034, (hE1789.up (by omega)), ho2032, fo1794, h1790, h1792, hr⟩
              · intro _ n1979 H1980 hI
                obtain ⟨x1985, F1981, rfl, hS1982, hE1983, ho1987, fo1988, h1984, h1986, hr⟩ := hI
                have lt1989 := hS1982.lt ho1987
                have hlen1979 := hE1983.le
                have hlon1979 := hS1982.lo
                unfold f_impl_StateOK_J4 at hr
                refine W.cond rfl (fun hc1990 => ?_) (fun hc1990 => ?_)
                · replace hr := iteB_pos hr hc1990
                  with_reducible refine W.seq ?_
                  with_reducible refine W.region ?_
                  refine WL.assign .nil rfl rfl rfl rfl ?_
                  with_reducible refine WL.nil ?_
                  with_reducible refine Ex.thn_norm ?_
                  with_reducible refine W.ret ?_
                  with_reducible refine Ex.blk_ret ?_
                  with_reducible refine Ex.thn_ret ?_
                  with_reducible refine Ex.thn_ret ?_
                  with_reducible refine Ex.blk_ret ?_
                  with_reducible refine Ex.thn_ret ?_
                  obtain rfl := Option.some.inj hr
                  exact ⟨.inr rfl, _, (.cons (.tmp rfl) .nil), ⟨(Ext.st hE1983 hS1982), rfl⟩⟩
                · replace hr := iteB_neg hr hc1990
                  with_reducible refine W.skip ?_
                  with_reducible refine Ex.blk_norm ?_
                  with_reducible refine Ex.thn_norm ?_
                  with_reducible refine W.region ?_
                  obtain ⟨hc1991, hr⟩ := chk_some hr
                  refine WL.addI .nil rfl rfl rfl rfl rfl hc1991.1 hc1991.2 ?_
                  refine WL.move .nil rfl rfl rfl rfl ?_
                  with_reducible refine WL.nil ?_
                  with_reducible refine Ex.thn_norm ?_
                  exact ⟨[(1, .pointer (some ⟨n0, 0, none⟩)), (51, .slice a5 x1.Sessions.length cap6), (52, .int .i64 (x1.Sessions.length : Int)), (53, .int .i64 (x1791 + 1))], (Fr.le_cons rfl (Fr.le_cons rfl (Fr.le_cons rfl (Fr.le_cons rfl Fr.le_nil)))), (x1791 + 1), F1981, rfl, hS1982, hE1983, ho1987, fo1988, h1984, h1986, hr⟩
            · replace hr := ite_neg hr hc1797
              with_reducible refine W.exit ?_
              with_reducible refine Ex.thn_ex ?_
              with_reducible refine Ex.thn_ex ?_
              with_reducible refine Ex.blk_here ?_
              with_reducible refine Ex.thn_norm ?_
              with_reducible refine W.seq ?_
              with_reducible refine W.region ?_
              refine WL.assign .nil rfl rfl rfl rfl ?_
              with_reducible refine WL.nil ?_
              with_reducible refine Ex.thn_norm ?_
              with_reducible refine W.ret ?_
              obtain rfl := Option.some.inj hr
              exact ⟨.inr rfl, _, (.cons (.tmp rfl) .nil), ⟨(Ext.st hE1789 hS1788), rfl⟩⟩
theorem f_impl_number_k {Δ : Prims} (g : Env Try.prog Δ) {lo n0 : Nat} {H0 F0 : Heap} (hS : St lo n0 H0 F0) {x1 : Int} {res : ((List UInt8))} (hr : f_impl_number x1 = some res) :
    C Try.prog Δ n0 58 [.int .i64 x1] n0 H0 (fun v n H => ∃ (ra1 : Option Addr) (rcap2 : Nat), St n0 n H F0 ∧ v = .slice ra1 res.length rcap2 ∧ OW n0 n H F0 (.slice ra1 res.length rcap2) res) := by
  refine C.body Try.func58 rfl rfl ?_
  unfold f_impl_number at hr
  have hS0 : St n0 n0 H0 F0 := hS.low (Nat.le_refl _)
  have hE0 := Ext.refl n0 F0
  have hlo0 := hS0.lo
  with_reducible refine W.seq ?_
  with_reducible refine W.region ?_
  refine WL.assign .nil rfl rfl rfl rfl ?_
  with_reducible refine WL.nil ?_
  with_reducible refine Ex.thn_norm ?_
  with_reducible refine W.seq ?_
  with_reducible refine W.region ?_
  refine GL.lit (cs := []) (xs := ([] : List UInt8)) hS0 .nil rfl rfl rfl Try.underlying22 info5 rfl rfl rfl (by decide) (by decide) rfl rfl rfl rfl rfl RA.nil rfl (fun H2 hS3 hO4 hk5 => ?_)
  have h6 := OW.lower (lo' := n0) hO4 (by omega)
  have hlon01 := hS3.lo
  refine WL.assign .nil rfl rfl rfl rfl ?_
  with_reducible refine WL.nil ?_
  with_reducible refine Ex.thn_norm ?_
  with_reducible refine W.seq ?_
  with_reducible refine W.block ?_
  refine W.loopF (fun k0 fr n H => ∃ (x203 : Int) (a204 : Option Addr) (cap205 : Nat) (xs206 : (List UInt8)) (F : Heap), fr = [(0, .int .i64 x203), (3, .slice a204 xs206.length cap205)] ∧ St n0 n H F ∧ Ext n0 F0 n F ∧ OW n0 n H F (.slice a204 xs206.length cap205) xs206 ∧ f_impl_number_L0 k0 x203 xs206 = some res) BIG (fr0 := [(0, .int .i64 x1), (3, .slice (some ⟨n0, 0, none⟩) ([] : List UInt8).length 0)]) (Fr.le_cons rfl (Fr.le_cons rfl Fr.le_nil)) ?_ ?_ ?_
  · exact ⟨x1, (some ⟨n0, 0, none⟩), 0, ([] : List UInt8), F0, rfl, hS3, (hE0.up (by omega)), h6, hr⟩
  · intro fr n H hI
    obtain ⟨x203, a204, cap205, xs206, F200, hfr, hS201, hE202, h207, hr⟩ := hI
    rw [f_impl_number_L0] at hr
    cases hr
  · intro k0 _ n198 H199 hI
    obtain ⟨x203, a204, cap205, xs206, F200, rfl, hS201, hE202, h207, hr⟩ := hI
    have hlen198 := hE202.le
    have hlon198 := hS201.lo
    rw [f_impl_number_L0] at hr
    with_reducible refine W.seq ?_
    with_reducible refine W.seq ?_
    with_reducible refine W.region ?_
    refine WL.move .nil rfl rfl rfl rfl ?_
    refine WL.bin .nil rfl rfl rfl rfl rfl rfl ?_
    with_reducible refine WL.nil ?_
    with_reducible refine Ex.thn_norm ?_
    refine W.condD rfl (fun hc210 => ?_) (fun hc210 => ?_)
    · replace hr := ite_pos hr hc210
      with_reducible refine W.skip ?_
      with_reducible refine Ex.thn_norm ?_
      with_reducible refine W.block ?_
      with_reducible refine W.seq ?_
      with_reducible refine W.region ?_
      refine WL.move .nil rfl rfl rfl rfl ?_
      refine WL.move .nil rfl rfl rfl rfl ?_
      obtain ⟨hc211, hr⟩ := chk_some hr
      refine WL.remI .nil rfl rfl rfl rfl rfl hc211.1 hc211.2 ?_
      obtain ⟨hc212, hr⟩ := chk_some hr
      refine WL.addI .nil rfl rfl rfl rfl rfl hc212.1 hc212.2 ?_
      refine WL.convB .nil rfl rfl rfl Try.underlying3 Try.underlying5 rfl ?_
      have hb217 := fun b hb => (OW.id_lt (i := b) h207 hb).2
      refine GL.lit (cs := [u8 (byteOf ((x203 % 128) + 128))]) (xs := ([(byteOf ((x203 % 128) + 128))] : List UInt8)) hS201 .nil rfl rfl rfl Try.underlying22 info5 rfl rfl rfl (by decide) (by decide) rfl rfl rfl rfl rfl (RA.cons (cs := [u8 (byteOf ((x203 % 128) + 128))]) (a := ((byteOf ((x203 % 128) + 128)) : UInt8)) rfl RA.nil) rfl (fun H213 hS214 hO215 hk216 => ?_)
      have h218 := OW.keep (n' := (n198 + 1)) h207 (by omega) (fun i hi => hk216 i (OW.id_lt h207 hi).2)
      have h219 := OW.lower (lo' := n0) hO215 (by omega)
      have hlon1981 := hS214.lo
      have ap221 : ∀ b, idOf (.slice (some ⟨n198, 0, none⟩) ([(byteOf ((x203 % 128) + 128))] : List UInt8).length 1) = some b → idOf (.slice a204 xs206.length cap205) ≠ some b := fun b hj hi => by have := (OW.id_lt hO215 hj).1; have := hb217 b hi; omega
      obtain ⟨hc222, hr⟩ := chk_some hr
      have hb232 := fun b hb => (OW.id_lt (i := b) h218 hb).2
      have hb233 := fun b hb => (OW.id_lt (i := b) h219 hb).2
      refine GL.append (α := UInt8) hS214 .nil rfl rfl rfl Try.underlying22 Try.underlying22 rfl info5 rfl rfl rfl (by decide) rfl rfl h218 (by omega) (by omega) (OW.src h219) hc222 (fun a223 cap224 n225 H226 hS227 hn228 hO229 hk230 hid231 => ?_)
      have h234 := OW.keep h219 hn228 (fun i hi => hk230 i (OW.id_lt h219 hi).2 (fun hj => (fun b h1 h2 => ap221 b h2 h1) _ hj hi))
      have ap236 : ∀ b, idOf (.slice a223 (xs206 ++ ([(byteOf ((x203 % 128) + 128))] : List UInt8)).length cap224) = some b → idOf (.slice (some ⟨n198, 0, none⟩) ([(byteOf ((x203 % 128) + 128))] : List UInt8).length 1) ≠ some b := fun b hj hi => (hid231 _ hj).elim (fun h => by have := hb233 b hi; omega) (fun h => (fun b h1 h2 => ap221 b h2 h1) _ h hi)
      have hlon225 := hS227.lo
      refine WL.assign .nil rfl rfl rfl rfl ?_
      with_reducible refine WL.nil ?_
      with_reducible refine Ex.thn_norm ?_
      with_reducible refine W.region ?_
      refine WL.move .nil rfl rfl rfl rfl ?_
      obtain ⟨hc237, hr⟩ := chk_some hr
      refine WL.quoI .nil rfl rfl rfl rfl rfl hc237.1 hc237.2.1 hc237.2.2 ?_
      refine WL.assign .nil rfl rfl rfl rfl ?_
      with_reducible refine WL.nil ?_
      with_reducible refine Ex.blk_norm ?_
      with_reducible refine Ex.thn_norm ?_
      exact ⟨[(0, .int .i64 (x203 / 128)), (3, .slice a223 (xs206 ++ ([(byteOf ((x203 % 128) + 128))] : List UInt8)).length cap224)], (Fr.le_cons rfl (Fr.le_cons rfl Fr.le_nil)), (x203 / 128), a223, cap224, (xs206 ++ ([(byteOf ((x203 % 128) + 128))] : List UInt8)), F200, rfl, hS227, (hE202.up (by omega)), hO229, hr⟩
    · replace hr := ite_neg hr hc210
      with_reducible refine W.exit ?_
      with_reducible refine Ex.thn_ex ?_
      with_reducible refine Ex.thn_ex ?_
      with_reducible refine Ex.blk_here ?_
      with_reducible refine Ex.thn_norm ?_
      with_reducible refine W.seq ?_
      with_reducible refine W.region ?_
      refine WL.move .nil rfl rfl rfl rfl ?_
      refine WL.move .nil rfl rfl rfl rfl ?_
      refine WL.convB .nil rfl rfl rfl Try.underlying3 Try.underlying5 rfl ?_
      have hb242 := fun b hb => (OW.id_lt (i := b) h207 hb).2
      refine GL.lit (cs := [u8 (byteOf x203)]) (xs := ([(byteOf x203)] : List UInt8)) hS201 .nil rfl rfl rfl Try.underlying22 info5 rfl rfl rfl (by decide) (by decide) rfl rfl rfl rfl rfl (RA.cons (cs := [u8 (byteOf x203)]) (a := ((byteOf x203) : UInt8)) rfl RA.nil) rfl (fun H238 hS239 hO240 hk241 => ?_)
      have h243 := OW.keep (n' := (n198 + 1)) h207 (by omega) (fun i hi => hk241 i (OW.id_lt h207 hi).2)
      have h244 := OW.lower (lo' := n0) hO240 (by omega)
      have hlon1981 := hS239.lo
      have ap246 : ∀ b, idOf (.slice (some ⟨n198, 0, none⟩) ([(byteOf x203)] : List UInt8).length 1) = some b → idOf (.slice a204 xs206.length cap205) ≠ some b := fun b hj hi => by have := (OW.id_lt hO240 hj).1; have := hb242 b hi; omega
      obtain ⟨hc247, hr⟩ := chk_some hr
      have hb257 := fun b hb => (OW.id_lt (i := b) h243 hb).2
      have hb258 := fun b hb => (OW.id_lt (i := b) h244 hb).2
      refine GL.append (α := UInt8) hS239 .nil rfl rfl rfl Try.underlying22 Try.underlying22 rfl info5 rfl rfl rfl (by decide) rfl rfl h243 (by omega) (by omega) (OW.src h244) hc247 (fun a248 cap249 n250 H251 hS252 hn253 hO254 hk255 hid256 => ?_)
      have h259 := OW.keep h244 hn253 (fun i hi => hk255 i (OW.id_lt h244 hi).2 (fun hj => (fun b h1 h2 => ap246 b h2 h1) _ hj hi))
      have ap261 : ∀ b, idOf (.slice a248 (xs206 ++ ([(byteOf x203)] : List UInt8)).length cap249) = some b → idOf (.slice (some ⟨n198, 0, none⟩) ([(byteOf x203)] : List UInt8).length 1) ≠ some b := fun b hj hi => (hid256 _ hj).elim (fun h => by have := hb258 b hi; omega) (fun h => (fun b h1 h2 => ap246 b h2 h1) _ h hi)
      have hlon250 := hS252.lo
      refine WL.assign .nil rfl rfl rfl rfl ?_
      with_reducible refine WL.nil ?_
      with_reducible refine Ex.thn_norm ?_
      with_reducible refine W.ret ?_
      obtain rfl := Option.some.inj hr
      exact ⟨.inr rfl, _, (.cons (.tmp rfl) .nil), ⟨a248, cap249, (Ext.st hE202 hS252), rfl, (OW.downFl hE202.sub hO254)⟩⟩
theorem f_impl_textBytes_k {Δ : Prims} (g : Env Try.prog Δ) {lo n0 : Nat} {H0 F0 : Heap} (hS : St lo n0 H0 F0) {x1 : Str} {res : ((List UInt8))} (hr : f_impl_textBytes x1 = some res) :
    C Try.prog Δ n0 60 [str x1] n0 H0 (fun v n H => ∃ (ra1 : Option Addr) (rcap2 : Nat), St n0 n H F0 ∧ v = .slice ra1 res.length rcap2 ∧ OW n0 n H F0 (.slice ra1 res.length rcap2) res) := by
  refine C.body Try.func60 rfl rfl ?_
  unfold f_impl_textBytes at hr
  have hS0 : St n0 n0 H0 F0 := hS.low (Nat.le_refl _)
  have hE0 := Ext.refl n0 F0
  have hlo0 := hS0.lo
  with_reducible refine W.seq ?_
  with_reducible refine W.region ?_
  refine WL.assign .nil rfl rfl rfl rfl ?_
  with_reducible refine WL.nil ?_
  with_reducible refine Ex.thn_norm ?_
  with_reducible refine W.seq ?_
  with_reducible refine W.region ?_
  refine WL.move .nil rfl rfl rfl rfl ?_
  refine GL.lenStr .nil rfl rfl rfl Try.underlying9 rfl ?_
  obtain ⟨x2, hx2, hr⟩ := bnd_some hr
  refine GL.callP g.good .nil rfl rfl rfl rfl rfl rfl Try.func58 rfl rfl hS0.lo (f_impl_number_k  g hS0 hx2) (fun v n3 H4 hn5 hk6 hp7 => ?_)
  obtain ⟨a8, cap9, hS11, rfl, h10⟩ := hp7
  have hS12 : St n0 n3 H4 F0 := ⟨by have := hS0.lo; omega, hS11.hb, hS11.fh⟩
  have hlon3 := hS12.lo
  have h13 := OW.lower (lo' := n0) h10 (by omega)
  refine WL.move .nil rfl rfl rfl rfl ?_
  obtain ⟨hc15, hr⟩ := chk_some hr
  have hb25 := fun b hb => (OW.id_lt (i := b) h13 hb).2
  refine GL.appendStr (ys := x1) hS12 .nil rfl rfl rfl Try.underlying22 Try.underlying9 rfl info5 rfl rfl rfl (by decide) rfl rfl h13 (by omega) (by omega) hc15 (fun a16 cap17 n18 H19 hS20 hn21 hO22 hk23 hid24 => ?_)
  have hlon18 := hS20.lo
  refine WL.assign .nil rfl rfl rfl rfl ?_
  with_reducible refine WL.nil ?_
  with_reducible refine Ex.thn_norm ?_
  with_reducible refine W.ret ?_
  obtain rfl := Option.some.inj hr
  exact ⟨.inr rfl, _, (.cons (.tmp rfl) .nil), ⟨a16, cap17, (Ext.st hE0 hS20), rfl, (OW.downFl hE0.sub hO22)⟩⟩
theorem f_slices_Grow_byte_nil0_k {Δ : Prims} (g : Env Try.prog Δ) {lo n0 : Nat} {H0 F0 : Heap} (hS : St lo n0 H0 F0) {x1 : Int} {res : ((List UInt8))} (hr : f_slices_Grow_byte_nil0 x1 = some res) :
    C Try.prog Δ n0 72 [.slice none 0 0, .int .i64 x1] n0 H0 (fun v n H => ∃ (ra1 : Option Addr) (rcap2 : Nat), St n0 n H F0 ∧ v = .slice ra1 res.length rcap2 ∧ OW n0 n H F0 (.slice ra1 res.length rcap2) res) := by
  refine C.body Try.func72 rfl rfl ?_
  unfold f_slices_Grow_byte_nil0 at hr
  have hS0 : St n0 n0 H0 F0 := hS.low (Nat.le_refl _)
  have hE0 := Ext.refl n0 F0
  have hlo0 := hS0.lo
  with_reducible refine W.seq ?_
  with_reducible refine W.region ?_
  refine WL.assign .nil rfl rfl rfl rfl ?_
  with_reducible refine WL.nil ?_
  with_reducible refine Ex.thn_norm ?_
  with_reducible refine W.seq ?_
  with_reducible refine W.seq ?_
  with_reducible refine W.region ?_
  refine WL.move .nil rfl rfl rfl rfl ?_
  refine WL.bin .nil rfl rfl rfl rfl rfl rfl ?_
  with_reducible refine WL.nil ?_
  with_reducible refine Ex.thn_norm ?_
  refine W.condD rfl (fun hc3 => ?_) (fun hc3 => ?_)
  · replace hr := ite_pos hr hc3
    cases hr
  · replace hr := ite_neg hr hc3
    with_reducible refine W.skip ?_
    with_reducible refine Ex.thn_norm ?_
    with_reducible refine W.seq ?_
    with_reducible refine W.seq ?_
    with_reducible refine W.region ?_
    refine WL.move .nil rfl rfl rfl rfl ?_
    refine WL.move .nil rfl rfl rfl rfl ?_
    refine WL.capE .nil rfl rfl rfl Try.underlying22 rfl (by decide) ?_
    refine WL.move .nil rfl rfl rfl rfl ?_
    refine WL.len .nil rfl rfl rfl Try.underlying22 rfl ?_
    obtain ⟨hc4, hr⟩ := chk_some hr
    refine WL.subI .nil rfl rfl rfl rfl rfl hc4.1 hc4.2 ?_
    obtain ⟨hc5, hr⟩ := chk_some hr
    refine WL.subI .nil rfl rfl rfl rfl rfl hc5.1 hc5.2 ?_
    refine WL.assign .nil rfl rfl rfl rfl ?_
    with_reducible refine WL.nil ?_
    with_reducible refine Ex.thn_norm ?_
    with_reducible refine W.seq ?_
    with_reducible refine W.region ?_
    refine WL.move .nil rfl rfl rfl rfl ?_
    refine WL.bin .nil rfl rfl rfl rfl rfl rfl ?_
    with_reducible refine WL.nil ?_
    with_reducible refine Ex.thn_norm ?_
    refine W.condD rfl (fun hc6 => ?_) (fun hc6 => ?_)
    · replace hr := ite_pos hr hc6
      with_reducible refine W.region ?_
      refine WL.move .nil rfl rfl rfl rfl ?_
      refine WL.move .nil rfl rfl rfl rfl ?_
      refine WL.capE .nil rfl rfl rfl Try.underlying22 rfl (by decide) ?_
      obtain ⟨hc7, hr⟩ := chk_some hr
      refine GL.sliceNil .nil rfl rfl rfl Try.underlying22 info5 rfl rfl ⟨_, rfl⟩ hc7.1 hc7.2 ?_
      refine WL.move .nil rfl rfl rfl rfl ?_
      obtain ⟨hc8, hr⟩ := chk_some hr
      refine GL.appendZ (α := UInt8) (z0 := (0 : UInt8)) hS0 .nil rfl rfl rfl Try.underlying22 Try.underlying3 info5 rfl rfl (by decide) rfl rfl (by decide) rfl rfl rfl hc8.1 hc8.2 (fun a9 cap10 H11 hS12 hO13 hk14 => ?_)
      have h15 := OW.lower (lo' := n0) hO13 (by omega)
      have hlon01 := hS12.lo
      refine WL.move .nil rfl rfl rfl rfl ?_
      refine WL.len .nil rfl rfl rfl Try.underlying22 rfl ?_
      obtain ⟨xs17, hxs17, hr⟩ := bnd_some hr
      refine GL.sliceO .nil rfl rfl rfl Try.underlying22 info5 rfl rfl h15 rfl ⟨_, rfl⟩ hxs17 (fun a18 cap19 hid20 h21 => ?_)
      refine WL.assign .nil rfl rfl rfl rfl ?_
      with_reducible refine WL.nil ?_
      with_reducible refine Ex.thn_norm ?_
      with_reducible refine W.seq ?_
      with_reducible refine W.region ?_
      refine WL.move .nil rfl rfl rfl rfl ?_
      refine WL.assign .nil rfl rfl rfl rfl ?_
      with_reducible refine WL.nil ?_
      with_reducible refine Ex.thn_norm ?_
      with_reducible refine W.ret ?_
      obtain rfl := Option.some.inj hr
      exact ⟨.inr rfl, _, (.cons (.tmp rfl) .nil), ⟨a18, cap19, (Ext.st hE0 hS12), rfl, (OW.downFl hE0.sub h21)⟩⟩
    · replace hr := ite_neg hr hc6
      with_reducible refine W.skip ?_
      with_reducible refine Ex.thn_norm ?_
      with_reducible refine W.seq ?_
      with_reducible refine W.region ?_
      refine WL.move .nil rfl rfl rfl rfl ?_
      refine WL.assign .nil rfl rfl rfl rfl ?_
      with_reducible refine WL.nil ?_
      with_reducible refine Ex.thn_norm ?_
      with_reducible refine W.ret ?_
      obtain rfl := Option.some.inj hr
      exact ⟨.inr rfl, _, (.cons (.tmp rfl) .nil), ⟨none, 0, (Ext.st hE0 hS0), rfl, OW.nil⟩⟩
theorem f_slices_Concat_byte_k {Δ : Prims} (g : Env Try.prog Δ) {lo n0 : Nat} {H0 F0 : Heap} (hS : St lo n0 H0 F0) {a2 : Option Addr} {cap3 : Nat} {xs1 : (List (List UInt8))} (h4 : SR F0 (.slice a2 xs1.length cap3) xs1) {res : ((List UInt8))} (hr : f_slices_Concat_byte xs1 = some res) :
    C Try.prog Δ n0 59 [.slice a2 xs1.length cap3] n0 H0 (fun v n H => ∃ (ra1 : Option Addr) (rcap2 : Nat), St n0 n H F0 ∧ v = .slice ra1 res.length rcap2 ∧ OW n0 n H F0 (.slice ra1 res.length rcap2) res) := by
  refine C.body Try.func59 rfl rfl ?_
  unfold f_slices_Concat_byte at hr
  have hS0 : St n0 n0 H0 F0 := hS.low (Nat.le_refl _)
  have hE0 := Ext.refl n0 F0
  have hlo0 := hS0.lo
  with_reducible refine W.seq ?_
  with_reducible refine W.region ?_
  refine WL.assign .nil rfl rfl rfl rfl ?_
  with_reducible refine WL.nil ?_
  with_reducible refine Ex.thn_norm ?_
  with_reducible refine W.seq ?_
  with_reducible refine W.region ?_
  refine WL.assign .nil rfl rfl rfl rfl ?_
  with_reducible refine WL.nil ?_
  with_reducible refine Ex.thn_norm ?_
  with_reducible refine W.seq ?_
  with_reducible refine W.seq ?_
  with_reducible refine W.region ?_
  refine WL.move .nil rfl rfl rfl rfl ?_
  refine WL.len .nil rfl rfl rfl Try.underlying102 rfl ?_
  refine WL.move .nil rfl rfl rfl rfl ?_
  with_reducible refine WL.nil ?_
  with_reducible refine Ex.thn_norm ?_
  with_reducible refine W.block ?_
  refine W.loopF (fun k0 fr n H => ∃ (x192 : Int) (x193 : Int) (F : Heap), fr = [(0, .slice a2 xs1.length cap3), (3, .int .i64 x192), (9, .slice a2 xs1.length cap3), (10, .int .i64 (xs1.length : Int)), (11, .int .i64 x193)] ∧ St n0 n H F ∧ Ext n0 F0 n F ∧ SR F (.slice a2 xs1.length cap3) xs1 ∧ f_slices_Concat_byte_L0 xs1 k0 x192 x193 = some res) BIG (fr0 := [(0, .slice a2 xs1.length cap3), (3, .int .i64 0), (9, .slice a2 xs1.length cap3), (10, .int .i64 (xs1.length : Int)), (11, .int .i64 0)]) (Fr.le_cons rfl (Fr.le_cons rfl (Fr.le_cons rfl (Fr.le_cons rfl (Fr.le_cons rfl Fr.le_nil))))) ?_ ?_ ?_
  · exact ⟨0, 0, F0, rfl, hS0, hE0, h4, hr⟩
  · intro fr n H hI
    obtain ⟨x192, x193, F188, hfr, hS189, hE190, h191, hr⟩ := hI
    rw [f_slices_Concat_byte_L0] at hr
    cases hr
  · intro k0 _ n186 H187 hI
    obtain ⟨x192, x193, F188, rfl, hS189, hE190, h191, hr⟩ := hI
    have hlen186 := hE190.le
    have hlon186 := hS189.lo
    rw [f_slices_Concat_byte_L0] at hr
    with_reducible refine W.seq ?_
    with_reducible refine W.region ?_
    refine WL.bin .nil rfl rfl rfl rfl rfl rfl ?_
    with_reducible refine WL.nil ?_
    with_reducible refine Ex.thn_norm ?_
    with_reducible refine W.seq ?_
    refine W.condD rfl (fun hc195 => ?_) (fun hc195 => ?_)
    · replace hr := ite_pos hr hc195
      with_reducible refine W.skip ?_
      with_reducible refine Ex.thn_norm ?_
      with_reducible refine W.seq ?_
      with_reducible refine W.block ?_
      with_reducible refine W.seq ?_
      with_reducible refine W.region ?_
      obtain ⟨x209, hx209, hr⟩ := bnd_some hr
      refine GL.index .nil rfl rfl rfl Try.underlying102 info22 rfl rfl h191 hS189.fh rfl hx209 (fun b210 kp211 c212 ecs213 hrow214 hwin215 hR216 => ?_)
      obtain ⟨_, hcs, h219⟩ := hR216
      obtain ⟨a217, cap218, rfl⟩ := SR.form h219
      subst hcs
      refine WL.load1 .nil rfl rfl rfl Try.underlying22 rfl rfl hrow214 ((win_get0 hwin215 (show (0 : Nat) < 1 by decide)).trans rfl) ?_
      refine WL.assign .nil rfl rfl rfl rfl ?_
      with_reducible refine WL.nil ?_
      with_reducible refine Ex.thn_norm ?_
      with_reducible refine W.seq ?_
      with_reducible refine W.region ?_
      refine WL.move .nil rfl rfl rfl rfl ?_
      refine WL.move .nil rfl rfl rfl rfl ?_
      refine WL.len .nil rfl rfl rfl Try.underlying22 rfl ?_
      obtain ⟨hc220, hr⟩ := chk_some hr
      refine WL.addI .nil rfl rfl rfl rfl rfl hc220.1 hc220.2 ?_
      refine WL.assign .nil rfl rfl rfl rfl ?_
      with_reducible refine WL.nil ?_
      with_reducible refine Ex.thn_norm ?_
      with_reducible refine W.seq ?_
      with_reducible refine W.region ?_
      refine WL.move .nil rfl rfl rfl rfl ?_
      refine WL.bin .nil rfl rfl rfl rfl rfl rfl ?_
      with_reducible refine WL.nil ?_
      with_reducible refine Ex.thn_norm ?_
      refine W.condD rfl (fun hc221 => ?_) (fun hc221 => ?_)
      · replace hr := ite_pos hr hc221
        cases hr
      · replace hr := ite_neg hr hc221
        with_reducible refine W.skip ?_
        with_reducible refine Ex.blk_norm ?_
        with_reducible refine Ex.thn_norm ?_
        with_reducible refine W.region ?_
        obtain ⟨hc222, hr⟩ := chk_some hr
        refine WL.addI .nil rfl rfl rfl rfl rfl hc222.1 hc222.2 ?_
        refine WL.move .nil rfl rfl rfl rfl ?_
        with_reducible refine WL.nil ?_
        with_reducible refine Ex.thn_norm ?_
        exact ⟨[(0, .slice a2 xs1.length cap3), (3, .int .i64 (x192 + (x209.length : Int))), (9, .slice a2 xs1.length cap3), (10, .int .i64 (xs1.length : Int)), (11, .int .i64 (x193 + 1))], (Fr.le_cons rfl (Fr.le_cons rfl (Fr.le_cons rfl (Fr.le_cons rfl (Fr.le_cons rfl Fr.le_nil))))), (x192 + (x209.length : Int)), (x193 + 1), F188, rfl, hS189, hE190, h191, hr⟩
    · replace hr := ite_neg hr hc195
      with_reducible refine W.exit ?_
      with_reducible refine Ex.thn_ex ?_
      with_reducible refine Ex.thn_ex ?_
      with_reducible refine Ex.blk_here ?_
      with_reducible refine Ex.thn_norm ?_
      with_reducible refine W.seq ?_
      with_reducible refine W.region ?_
      refine WL.move .nil rfl rfl rfl rfl ?_
      obtain ⟨x223, hx223, hr⟩ := bnd_some hr
      refine GL.callP g.good .nil rfl rfl rfl rfl rfl rfl Try.func72 rfl rfl hS189.lo (f_slices_Grow_byte_nil0_k  g hS189 hx223) (fun v n224 H225 hn226 hk227 hp228 => ?_)
      obtain ⟨a229, cap230, hS232, rfl, h231⟩ := hp228
      have hS233 : St n0 n224 H225 F188 := ⟨by have := hS189.lo; omega, hS232.hb, hS232.fh⟩
      have hlon224 := hS233.lo
      have h234 := OW.lower (lo' := n0) h231 (by omega)
      refine WL.assign .nil rfl rfl rfl rfl ?_
      with_reducible refine WL.nil ?_
      with_reducible refine Ex.thn_norm ?_
      with_reducible refine W.seq ?_
      with_reducible refine W.seq ?_
      with_reducible refine W.region ?_
      refine WL.move .nil rfl rfl rfl rfl ?_
      refine WL.len .nil rfl rfl rfl Try.underlying102 rfl ?_
      refine WL.move .nil rfl rfl rfl rfl ?_
      with_reducible refine WL.nil ?_
      with_reducible refine Ex.thn_norm ?_
      with_reducible refine W.block ?_
      refine W.loopF (fun k1 fr n H => ∃ (a358 : Option Addr) (cap359 : Nat) (xs360 : (List UInt8)) (x364 : Int) (F : Heap), fr = [(6, .slice a358 xs360.length cap359), (25, .slice a2 xs1.length cap3), (26, .int .i64 (xs1.length : Int)), (27, .int .i64 x364)] ∧ St n0 n H F ∧ Ext n0 F0 n F ∧ OW n0 n H F (.slice a358 xs360.length cap359) xs360 ∧ SR F (.slice a2 xs1.length cap3) xs1 ∧ f_slices_Concat_byte_L1 xs1 k1 xs360 x364 = some res) BIG (fr0 := [(6, .slice a229 x223.length cap230), (25, .slice a2 xs1.length cap3), (26, .int .i64 (xs1.length : Int)), (27, .int .i64 0)]) (Fr.le_cons rfl (Fr.le_cons rfl (Fr.le_cons rfl (Fr.le_cons rfl Fr.le_nil)))) ?_ ?_ ?_
      · exact ⟨a229, cap230, x223, 0, F188, rfl, hS233, (hE190.up (by omega)), h234, h191, hr⟩
      · intro fr n H hI
        obtain ⟨a358, cap359, xs360, x364, F355, hfr, hS356, hE357, h361, h363, hr⟩ := hI
        rw [f_slices_Concat_byte_L1] at hr
        cases hr
      · intro k1 _ n353 H354 hI
        obtain ⟨a358, cap359, xs360, x364, F355, rfl, hS356, hE357, h361, h363, hr⟩ := hI
        have hlen353 := hE357.le
        have hlon353 := hS356.lo
        rw [f_slices_Concat_byte_L1] at hr
        with_reducible refine W.seq ?_
        with_reducible refine W.region ?_
        refine WL.bin .nil rfl rfl rfl rfl rfl rfl ?_
        with_reducible refine WL.nil ?_
        with_reducible refine Ex.thn_norm ?_
        with_reducible refine W.seq ?_
        refine W.condD rfl (fun hc366 => ?_) (fun hc366 => ?_)
        · replace hr := ite_pos hr hc366
          with_reducible refine W.skip ?_
          with_reducible refine Ex.thn_norm ?_
          with_reducible refine W.seq ?_
          with_reducible refine W.block ?_
          with_reducible refine W.seq ?_
          with_reducible refine W.region ?_
          obtain ⟨x390, hx390, hr⟩ := bnd_some hr
          refine GL.index .nil rfl rfl rfl Try.underlying102 info22 rfl rfl h363 hS356.fh rfl hx390 (fun b391 kp392 c393 ecs394 hrow395 hwin396 hR397 => ?_)
          obtain ⟨_, hcs, h400⟩ := hR397
          obtain ⟨a398, cap399, rfl⟩ := SR.form h400
          subst hcs
          refine WL.load1 .nil rfl rfl rfl Try.underlying22 rfl rfl hrow395 ((win_get0 hwin396 (show (0 : Nat) < 1 by decide)).trans rfl) ?_
          refine WL.assign .nil rfl rfl rfl rfl ?_
          with_reducible refine WL.nil ?_
          with_reducible refine Ex.thn_norm ?_
          with_reducible refine W.region ?_
          refine WL.move .nil rfl rfl rfl rfl ?_
          refine WL.move .nil rfl rfl rfl rfl ?_
          obtain ⟨hc401, hr⟩ := chk_some hr
          have hb411 := fun b hb => (OW.id_lt (i := b) h361 hb).2
          refine GL.append (α := UInt8) hS356 .nil rfl rfl rfl Try.underlying22 Try.underlying22 rfl info5 rfl rfl rfl (by decide) rfl rfl h361 (by omega) (by omega) (SR.src h400 hS356.fh) hc401 (fun a402 cap403 n404 H405 hS406 hn407 hO408 hk409 hid410 => ?_)
          have hlon404 := hS406.lo
          refine WL.assign .nil rfl rfl rfl rfl ?_
          with_reducible refine WL.nil ?_
          with_reducible refine Ex.blk_norm ?_
          with_reducible refine Ex.thn_norm ?_
          with_reducible refine W.region ?_
          obtain ⟨hc413, hr⟩ := chk_some hr
          refine WL.addI .nil rfl rfl rfl rfl rfl hc413.1 hc413.2 ?_
          refine WL.move .nil rfl rfl rfl rfl ?_
          with_reducible refine WL.nil ?_
          with_reducible refine Ex.thn_norm ?_
          exact ⟨[(6, .slice a402 (xs360 ++ x390).length cap403), (25, .slice a2 xs1.length cap3), (26, .int .i64 (xs1.length : Int)), (27, .int .i64 (x364 + 1))], (Fr.le_cons rfl (Fr.le_cons rfl (Fr.le_cons rfl (Fr.le_cons rfl Fr.le_nil)))), a402, cap403, (xs360 ++ x390), (x364 + 1), F355, rfl, hS406, (hE357.up (by omega)), hO408, h363, hr⟩
        · replace hr := ite_neg hr hc366
          with_reducible refine W.exit ?_
          with_reducible refine Ex.thn_ex ?_
          with_reducible refine Ex.thn_ex ?_
          with_reducible refine Ex.blk_here ?_
          with_reducible refine Ex.thn_norm ?_
          with_reducible refine W.seq ?_
          with_reducible refine W.region ?_
          refine WL.move .nil rfl rfl rfl rfl ?_
          refine WL.assign .nil rfl rfl rfl rfl ?_
          with_reducible refine WL.nil ?_
          with_reducible refine Ex.thn_norm ?_
          with_reducible refine W.ret ?_
          obtain rfl := Option.some.inj hr
          exact ⟨.inr rfl, _, (.cons (.tmp rfl) .nil), ⟨a358, cap359, (Ext.st hE357 hS356), rfl, (OW.downFl hE357.sub h361)⟩⟩
theorem f__impl_State_bytes_k {Δ : Prims} (g : Env Try.prog Δ) {lo n0 : Nat} {H0 F0 : Heap} (hS : St lo n0 H0 F0) {x1 : GState} {a2 : Option Addr} {cap3 : Nat} {a5 : Option Addr} {cap6 : Nat} (h4 : SR F0 (.slice a2 x1.Files.length cap3) x1.Files) (h7 : SR F0 (.slice a5 x1.Sessions.length cap6) x1.Sessions) {res : ((List UInt8))} (hr : f__impl_State_bytes x1 = some res) :
    C Try.prog Δ n0 37 [.agg [.slice a2 x1.Files.length cap3, .slice a5 x1.Sessions.length cap6].toArray] n0 H0 (fun v n H => ∃ (ra1 : Option Addr) (rcap2 : Nat), St n0 n H F0 ∧ v = .slice ra1 res.length rcap2 ∧ OW n0 n H F0 (.slice ra1 res.length rcap2) res) := by
  refine C.body Try.func37 rfl rfl ?_
  unfold f__impl_State_bytes at hr
  have hS0 : St n0 n0 H0 F0 := hS.low (Nat.le_refl _)
  have hE0 := Ext.refl n0 F0
  have hlo0 := hS0.lo
  with_reducible refine W.seq ?_
  with_reducible refine W.region ?_
  refine GL.box hS0 .nil (vc := [.slice a2 x1.Files.length cap3, .slice a5 x1.Sessions.length cap6]) rfl rfl rfl rfl rfl (by repeat' (first | exact List.forall_mem_nil _ | refine List.forall_mem_cons.2 ⟨?_, ?_⟩ | rfl)) (fun H8 hS9 ho10 hk11 => ?_)
  have fo12 := hS0.fnone (Nat.le_refl _)
  have hlon01 := hS9.lo
  have lt13 : n0 < (n0 + 1) := by omega
  refine WL.assign .nil rfl rfl rfl rfl ?_
  with_reducible refine WL.nil ?_
  with_reducible refine Ex.thn_norm ?_
  with_reducible refine W.seq ?_
  with_reducible refine W.region ?_
  refine WL.fieldAddr .nil rfl rfl rfl Try.underlying26 rfl info23 rfl rfl ?_
  refine WL.load1 .nil rfl rfl rfl Try.underlying23 rfl rfl ho10 rfl ?_
  refine WL.len .nil rfl rfl rfl Try.underlying23 rfl ?_
  obtain ⟨x14, hx14, hr⟩ := bnd_some hr
  refine GL.callP g.good .nil rfl rfl rfl rfl rfl rfl Try.func58 rfl rfl hS9.lo (f_impl_number_k  g hS9 hx14) (fun v n15 H16 hn17 hk18 hp19 => ?_)
  obtain ⟨a20, cap21, hS23, rfl, h22⟩ := hp19
  have ho24 := (hk18 _ (by have := lt13; omega)).trans ho10
  have hS25 : St n0 n15 H16 F0 := ⟨by have := hS9.lo; omega, hS23.hb, hS23.fh⟩
  have hlon15 := hS25.lo
  have h26 := OW.lower (lo' := n0) h22 (by omega)
  have ap28 : idOf (.slice a20 x14.length cap21) ≠ some n0 := fun hj => by have := (OW.id_lt h22 hj).1; have := lt13; omega
  refine WL.assign .nil rfl rfl rfl rfl ?_
  with_reducible refine WL.nil ?_
  with_reducible refine Ex.thn_norm ?_
  with_reducible refine W.seq ?_
  with_reducible refine W.seq ?_
  with_reducible refine W.region ?_
  refine WL.fieldAddr .nil rfl rfl rfl Try.underlying26 rfl info23 rfl rfl ?_
  refine WL.load1 .nil rfl rfl rfl Try.underlying23 rfl rfl ho24 rfl ?_
  refine WL.len .nil rfl rfl rfl Try.underlying23 rfl ?_
  refine WL.move .nil rfl rfl rfl rfl ?_
  with_reducible refine WL.nil ?_
  with_reducible refine Ex.thn_norm ?_
  with_reducible refine W.block ?_
  refine W.loopF (fun k0 fr n H => ∃ (a1804 : Option Addr) (cap1805 : Nat) (xs1806 : (List UInt8)) (x1810 : Int) (F : Heap), fr = [(1, .pointer (some ⟨n0, 0, none⟩)), (3, .slice a1804 xs1806.length cap1805), (13, .slice a2 x1.Files.length cap3), (14, .int .i64 (x1.Files.length : Int)), (15, .int .i64 x1810)] ∧ St n0 n H F ∧ Ext n0 F0 n F ∧ H n0 = some (.row 1 [.slice a2 x1.Files.length cap3, .slice a5 x1.Sessions.length cap6]) ∧ F n0 = none ∧ OW n0 n H F (.slice a1804 xs1806.length cap1805) xs1806 ∧ SR F (.slice a2 x1.Files.length cap3) x1.Files ∧ SR F (.slice a5 x1.Sessions.length cap6) x1.Sessions ∧ idOf (.slice a1804 xs1806.length cap1805) ≠ some n0 ∧ f__impl_State_bytes_L0 x1 k0 xs1806 x1810 = some res) BIG (fr0 := [(1, .pointer (some ⟨n0, 0, none⟩)), (3, .slice a20 x14.length cap21), (13, .slice a2 x1.Files.length cap3), (14, .int .i64 (x1.Files.length : Int)), (15, .int .i64 0)]) (Fr.le_cons rfl (Fr.le_cons rfl (Fr.le_cons rfl (Fr.le_cons rfl (Fr.le_cons rfl Fr.le_nil))))) ?_ ?_ ?_
  · exact ⟨a20, cap21, x14, 0, F0, rfl, hS25, (hE0.up (by omega)), ho24, fo12, h26, h4, h7, ap28, hr⟩
  · intro fr n H hI
    obtain ⟨a1804, cap1805, xs1806, x1810, F1801, hfr, hS1802, hE1803, ho1812, fo1813, h1807, h1809, h1811, ap1814, hr⟩ := hI
    rw [f__impl_State_bytes_L0] at hr
    cases hr
  · intro k0 _ n1799 H1800 hI
    obtain ⟨a1804, cap1805, xs1806, x1810, F1801, rfl, hS1802, hE1803, ho1812, fo1813, h1807, h1809, h1811, ap1814, hr⟩ := hI
    have lt1815 := hS1802.lt ho1812
    have hlen1799 := hE1803.le
    have hlon1799 := hS1802.lo
    rw [f__impl_State_bytes_L0] at hr
    with_reducible refine W.seq ?_
    with_reducible refine W.region ?_
    refine WL.bin .nil rfl rfl rfl rfl rfl rfl ?_
    with_reducible refine WL.nil ?_
    with_reducible refine Ex.thn_norm ?_
    with_reducible refine W.seq ?_
    refine W.condD rfl (fun hc1817 => ?_) (fun hc1817 => ?_)
    · replace hr := ite_pos hr hc1817
      with_reducible refine W.skip ?_
      with_reducible refine Ex.thn_norm ?_
      with_reducible refine W.seq ?_
      with_reducible refine W.block ?_
      with_reducible refine W.seq ?_
      with_reducible refine W.region ?_
      obtain ⟨x1986, hx1986, hr⟩ := bnd_some hr
      refine GL.index .nil rfl rfl rfl Try.underlying23 info50 rfl rfl h1809 hS1802.fh rfl hx1986 (fun b1987 kp1988 c1989 ecs1990 hrow1991 hwin1992 hR1993 => ?_)
      obtain ⟨rfl⟩ := GFile.ofR hR1993
      refine WL.loadN .nil (l' := [str x1986.Name, .int .i64 x1986.Version, str x1986.Text]) rfl rfl rfl Try.underlying50 rfl info50 rfl hrow1991 hwin1992 rfl ?_
      refine GL.alloc hS1802 .nil (zc := [str ([] : List UInt8), .int .i64 0, str ([] : List UInt8)]) rfl rfl rfl info50 rfl rfl rfl (fun H1994 hS1995 ho1996 hk1997 => ?_)
      have fo1998 := hS1802.fnone (Nat.le_refl _)
      have ap2000 : idOf (.slice a1804 xs1806.length cap1805) ≠ some n1799 := fun hj => by have := OW.id_lt h1807 hj; omega
      have ho2001 := (hk1997 _ (by have := lt1815; omega)).trans ho1812
      have h2002 := OW.keep (n' := (n1799 + 1)) h1807 (by omega) (fun i hi => hk1997 i (OW.id_lt h1807 hi).2)
      have hlon17991 := hS1995.lo
      have lt1999 : n1799 < (n1799 + 1) := by omega
      refine GL.store hS1995 .nil (vc := [str x1986.Name, .int .i64 x1986.Version, str x1986.Text]) (c' := [str x1986.Name, .int .i64 x1986.Version, str x1986.Text]) rfl rfl rfl info50 rfl rfl rfl rfl ho1996 fo1998 (Nat.le_of_ble_eq_true rfl) (by omega) (by repeat' (first | exact List.forall_mem_nil _ | refine List.forall_mem_cons.2 ⟨?_, ?_⟩ | rfl)) rfl (fun H2003 hS2004 ho2005 hk2006 => ?_)
      have ho2007 := (hk2006 _ (by omega)).trans ho2001
      have h2008 := OW.keep h2002 (Nat.le_refl _) (fun i hi => hk2006 i (fun hj => ap2000 (hj ▸ hi)))
      with_reducible refine WL.nil ?_
      with_reducible refine Ex.thn_norm ?_
      refine W.regionD [0, 1, 2, 3, 4, 5, 6, 7, 8, 9, 10, 11, 12] [false, false, false, false, false, false, false, false, false, false, false, false, false] rfl rfl (by kernel_rfl) (by kernel_rfl) (by (conv => lhs; simp only [List.map_cons, List.map_nil, List.getD_cons_zero, List.getD_cons_succ]) <;> rfl) ?_
      refine WL.move .r rfl rfl rfl rfl ?_
      refine WL.fieldAddr .r rfl rfl rfl Try.underlying50 rfl info9 rfl rfl ?_
      refine WL.load1 .r rfl rfl rfl Try.underlying9 rfl rfl ho2005 rfl ?_
      obtain ⟨x2009, hx2009, hr⟩ := bnd_some hr
      have hb2015 := fun b hb => (OW.id_lt (i := b) h2008 hb).2
      refine GL.callP g.good .r rfl rfl rfl rfl rfl rfl Try.func60 rfl rfl (Nat.le_refl _) (f_impl_textBytes_k  g hS2004 hx2009) (fun v n2010 H2011 hn2012 hk2013 hp2014 => ?_)
      obtain ⟨a2016, cap2017, hS2019, rfl, h2018⟩ := hp2014
      have ho2020 := (hk2013 _ (by have := lt1815; omega)).trans ho2007
      have ho2021 := (hk2013 _ (by have := lt1999; omega)).trans ho2005
      have h2022 := OW.keep (n' := n2010) h2008 (by omega) (fun i hi => hk2013 i (OW.id_lt h2008 hi).2)
      have hS2023 : St n0 n2010 H2011 F1801 := ⟨by have := hS2004.lo; omega, hS2019.hb, hS2019.fh⟩
      have hlon2010 := hS2023.lo
      have h2024 := OW.lower (lo' := n0) h2018 (by omega)
      have ap2026 : idOf (.slice a2016 x2009.length cap2017) ≠ some n0 := fun hj => by have := (OW.id_lt h2018 hj).1; have := lt1815; omega
      have ap2027 : idOf (.slice a2016 x2009.length cap2017) ≠ some n1799 := fun hj => by have := (OW.id_lt h2018 hj).1; have := lt1999; omega
      have ap2028 : ∀ b, idOf (.slice a2016 x2009.length cap2017) = some b → idOf (.slice a1804 xs1806.length cap1805) ≠ some b := fun b hj hi => by have := (OW.id_lt h2018 hj).1; have := hb2015 b hi; omega
      refine WL.fieldAddr .r rfl rfl rfl Try.underlying50 rfl info3 rfl rfl ?_
      refine WL.load1 .r rfl rfl rfl Try.underlying3 rfl rfl ho2021 rfl ?_
      obtain ⟨x2029, hx2029, hr⟩ := bnd_some hr
      have hb2035 := fun b hb => (OW.id_lt (i := b) h2022 hb).2
      have hb2036 := fun b hb => (OW.id_lt (i := b) h2024 hb).2
      refine GL.callP g.good .r rfl rfl rfl rfl rfl rfl Try.func58 rfl rfl (Nat.le_refl _) (f_impl_number_k  g hS2023 hx2029) (fun v n2030 H2031 hn2032 hk2033 hp2034 => ?_)
      obtain ⟨a2037, cap2038, hS2040, rfl, h2039⟩ := hp2034
      have ho2041 := (hk2033 _ (by have := lt1815; omega)).trans ho2020
      have ho2042 := (hk2033 _ (by have := lt1999; omega)).trans ho2021
      have h2043 := OW.keep (n' := n2030) h2022 (by omega) (fun i hi => hk2033 i (OW.id_lt h2022 hi).2)
      have h2044 := OW.keep (n' := n2030) h2024 (by omega) (fun i hi => hk2033 i (OW.id_lt h2024 hi).2)
      have hS2045 : St n0 n2030 H2031 F1801 := ⟨by have := hS2023.lo; omega, hS2040.hb, hS2040.fh⟩
      have hlon2030 := hS2045.lo
      have h2046 := OW.lower (lo' := n0) h2039 (by omega)
      have ap2048 : idOf (.slice a2037 x2029.length cap2038) ≠ some n0 := fun hj => by have := (OW.id_lt h2039 hj).1; have := lt1815; omega
      have ap2049 : idOf (.slice a2037 x2029.length cap2038) ≠ some n1799 := fun hj => by have := (OW.id_lt h2039 hj).1; have := lt1999; omega
      have ap2050 : ∀ b, idOf (.slice a2037 x2029.length cap2038) = some b → idOf (.slice a1804 xs1806.length cap1805) ≠ some b := fun b hj hi => by have := (OW.id_lt h2039 hj).1; have := hb2035 b hi; omega
      have ap2051 : ∀ b, idOf (.slice a2037 x2029.length cap2038) = some b → idOf (.slice a2016 x2009.length cap2017) ≠ some b := fun b hj hi => by have := (OW.id_lt h2039 hj).1; have := hb2036 b hi; omega
      refine WL.fieldAddr .r rfl rfl rfl Try.underlying50 rfl info9 rfl rfl ?_
      refine WL.load1 .r rfl rfl rfl Try.underlying9 rfl rfl ho2042 rfl ?_
      obtain ⟨x2052, hx2052, hr⟩ := bnd_some hr
      have hb2058 := fun b hb => (OW.id_lt (i := b) h2043 hb).2
      have hb2059 := fun b hb => (OW.id_lt (i := b) h2044 hb).2
      have hb2060 := fun b hb => (OW.id_lt (i := b) h2046 hb).2
      refine GL.callP g.good .r rfl rfl rfl rfl rfl rfl Try.func60 rfl rfl (Nat.le_refl _) (f_impl_textBytes_k  g hS2045 hx2052) (fun v n2053 H2054 hn2055 hk2056 hp2057 => ?_)
      obtain ⟨a2061, cap2062, hS2064, rfl, h2063⟩ := hp2057
      have ho2065 := (hk2056 _ (by have := lt1815; omega)).trans ho2041
      have ho2066 := (hk2056 _ (by have := lt1999; omega)).trans ho2042
      have h2067 := OW.keep (n' := n2053) h2043 (by omega) (fun i hi => hk2056 i (OW.id_lt h2043 hi).2)
      have h2068 := OW.keep (n' := n2053) h2044 (by omega) (fun i hi => hk2056 i (OW.id_lt h2044 hi).2)
      have h2069 := OW.keep (n' := n2053) h2046 (by omega) (fun i hi => hk2056 i (OW.id_lt h2046 hi).2)
      have hS2070 : St n0 n2053 H2054 F1801 := ⟨by have := hS2045.lo; omega, hS2064.hb, hS2064.fh⟩
      have hlon2053 := hS2070.lo
      have h2071 := OW.lower (lo' := n0) h2063 (by omega)
      have ap2073 : idOf (.slice a2061 x2052.length cap2062) ≠ some n0 := fun hj => by have := (OW.id_lt h2063 hj).1; have := lt1815; omega
      have ap2074 : idOf (.slice a2061 x2052.length cap2062) ≠ some n1799 := fun hj => by have := (OW.id_lt h2063 hj).1; have := lt1999; omega
      have ap2075 : ∀ b, idOf (.slice a2061 x2052.length cap2062) = some b → idOf (.slice a1804 xs1806.length cap1805) ≠ some b := fun b hj hi => by have := (OW.id_lt h2063 hj).1; have := hb2058 b hi; omega
      have ap2076 : ∀ b, idOf (.slice a2061 x2052.length cap2062) = some b → idOf (.slice a2016 x2009.length cap2017) ≠ some b := fun b hj hi => by have := (OW.id_lt h2063 hj).1; have := hb2059 b hi; omega
      have ap2077 : ∀ b, idOf (.slice a2061 x2052.length cap2062) = some b → idOf (.slice a2037 x2029.length cap2038) ≠ some b := fun b hj hi => by have := (OW.id_lt h2063 hj).1; have := hb2060 b hi; omega
      obtain ⟨F2078, hS2079, hle2080, h2081, hf2082⟩ := OW.freeze h2067 hS2070
      have fo2083 := (hf2082 _ ap1814).trans fo1813
      have fo2084 := (hf2082 _ ap2000).trans fo1998
      have h2085 := OW.keepF h2068 hle2080 (fun i hi => (hf2082 i (fun hj => (fun b h1 h2 => ap2028 b h2 h1) i hj hi)).trans (OW.fnone h2068 hi))
      have h2086 := OW.keepF h2069 hle2080 (fun i hi => (hf2082 i (fun hj => (fun b h1 h2 => ap2050 b h2 h1) i hj hi)).trans (OW.fnone h2069 hi))
      have h2087 := OW.keepF h2071 hle2080 (fun i hi => (hf2082 i (fun hj => (fun b h1 h2 => ap2075 b h2 h1) i hj hi)).trans (OW.fnone h2071 hi))
      have hE2088 : Ext n0 F0 n2053 F2078 := ⟨Nat.le_trans hE1803.le (by omega), hE1803.sub.trans hle2080, fun i hi => (hf2082 i (fun hj => by have := OW.id_lt h2067 hj; omega)).trans (hE1803.eq i hi)⟩
      obtain ⟨F2089, hS2090, hle2091, h2092, hf2093⟩ := OW.freeze h2085 hS2079
      have fo2094 := (hf2093 _ ap2026).trans fo2083
      have fo2095 := (hf2093 _ ap2027).trans fo2084
      have h2096 := OW.keepF h2086 hle2091 (fun i hi => (hf2093 i (fun hj => (fun b h1 h2 => ap2051 b h2 h1) i hj hi)).trans (OW.fnone h2086 hi))
      have h2097 := OW.keepF h2087 hle2091 (fun i hi => (hf2093 i (fun hj => (fun b h1 h2 => ap2076 b h2 h1) i hj hi)).trans (OW.fnone h2087 hi))
      have hE2098 : Ext n0 F0 n2053 F2089 := ⟨Nat.le_trans hE2088.le (by omega), hE2088.sub.trans hle2091, fun i hi => (hf2093 i (fun hj => by have := OW.id_lt h2085 hj; omega)).trans (hE2088.eq i hi)⟩
      obtain ⟨F2099, hS2100, hle2101, h2102, hf2103⟩ := OW.freeze h2096 hS2090
      have fo2104 := (hf2103 _ ap2048).trans fo2094
      have fo2105 := (hf2103 _ ap2049).trans fo2095
      have h2106 := OW.keepF h2097 hle2101 (fun i hi => (hf2103 i (fun hj => (fun b h1 h2 => ap2077 b h2 h1) i hj hi)).trans (OW.fnone h2097 hi))
      have hE2107 : Ext n0 F0 n2053 F2099 := ⟨Nat.le_trans hE2098.le (by omega), hE2098.sub.trans hle2101, fun i hi => (hf2103 i (fun hj => by have := OW.id_lt h2096 hj; omega)).trans (hE2098.eq i hi)⟩
      obtain ⟨F2108, hS2109, hle2110, h2111, hf2112⟩ := OW.freeze h2106 hS2100
      have fo2113 := (hf2112 _ ap2073).trans fo2104
      have fo2114 := (hf2112 _ ap2074).trans fo2105
      have hE2115 : Ext n0 F0 n2053 F2108 := ⟨Nat.le_trans hE2107.le (by omega), hE2107.sub.trans hle2110, fun i hi => (hf2112 i (fun hj => by have := OW.id_lt h2106 hj; omega)).trans (hE2107.eq i hi)⟩
      refine GL.lit (cs := [.slice a1804 xs1806.length cap1805, .slice a2016 x2009.length cap2017, .slice a2037 x2029.length cap2038, .slice a2061 x2052.length cap2062]) (xs := ([xs1806, x2009, x2029, x2052] : List (List UInt8))) hS2109 .r rfl rfl rfl Try.underlying102 info22 rfl rfl rfl (by decide) (by decide) rfl rfl rfl rfl rfl (RA.cons (cs := [.slice a1804 xs1806.length cap1805]) (a := (xs1806 : (List UInt8))) ⟨_, rfl, (((h2081.mono hle2091).mono hle2101).mono hle2110)⟩ (RA.cons (cs := [.slice a2016 x2009.length cap2017]) (a := (x2009 : (List UInt8))) ⟨_, rfl, ((h2092.mono hle2101).mono hle2110)⟩ (RA.cons (cs := [.slice a2037 x2029.length cap2038]) (a := (x2029 : (List UInt8))) ⟨_, rfl, (h2102.mono hle2110)⟩ (RA.cons (cs := [.slice a2061 x2052.length cap2062]) (a := (x2052 : (List UInt8))) ⟨_, rfl, h2111⟩ RA.nil)))) rfl (fun H2116 hS2117 hO2118 hk2119 => ?_)
      have ho2120 := (hk2119 _ (by have := lt1815; omega)).trans ho2065
      have ho2121 := (hk2119 _ (by have := lt1999; omega)).trans ho2066
      have h2122 := OW.lower (lo' := n0) hO2118 (by omega)
      have hlon20531 := hS2117.lo
      have ap2124 : idOf (.slice (some ⟨n2053, 0, none⟩) ([xs1806, x2009, x2029, x2052] : List (List UInt8)).length 4) ≠ some n0 := fun hj => by have := (OW.id_lt hO2118 hj).1; have := lt1815; omega
      have ap2125 : idOf (.slice (some ⟨n2053, 0, none⟩) ([xs1806, x2009, x2029, x2052] : List (List UInt8)).length 4) ≠ some n1799 := fun hj => by have := (OW.id_lt hO2118 hj).1; have := lt1999; omega
      obtain ⟨F2126, hS2127, hle2128, h2129, hf2130⟩ := OW.freeze h2122 hS2117
      have fo2131 := (hf2130 _ ap2124).trans fo2113
      have fo2132 := (hf2130 _ ap2125).trans fo2114
      obtain ⟨x2134, hx2134, hr⟩ := bnd_some hr
      have hb2140 := fun b hb => (OW.id_lt (i := b) h2122 hb).2
      refine GL.callP g.good .r rfl rfl rfl rfl rfl rfl Try.func59 rfl rfl (Nat.le_refl _) (f_slices_Concat_byte_k  g hS2127 h2129 hx2134) (fun v n2135 H2136 hn2137 hk2138 hp2139 => ?_)
      obtain ⟨a2141, cap2142, hS2144, rfl, h2143⟩ := hp2139
      have ho2145 := (hk2138 _ (by have := lt1815; omega)).trans ho2120
      have ho2146 := (hk2138 _ (by have := lt1999; omega)).trans ho2121
      have h2147 := OW.keep (n' := n2135) h2122 (by omega) (fun i hi => hk2138 i (OW.id_lt h2122 hi).2)
      have hS2148 : St n0 n2135 H2136 F2108 := ⟨by have := hS2117.lo; omega, hS2144.hb, fun i o hi => (hk2138 i (hS2117.lt (hS2117.fh i o hi))).trans (hS2117.fh i o hi)⟩
      have hlon2135 := hS2148.lo
      have h2149 := OW.lower (lo' := n0) (OW.downFl hle2128 h2143) (by omega)
      have ap2151 : idOf (.slice a2141 x2134.length cap2142) ≠ some n0 := fun hj => by have := (OW.id_lt h2143 hj).1; have := lt1815; omega
      have ap2152 : idOf (.slice a2141 x2134.length cap2142) ≠ some n1799 := fun hj => by have := (OW.id_lt h2143 hj).1; have := lt1999; omega
      have ap2153 : ∀ b, idOf (.slice a2141 x2134.length cap2142) = some b → idOf (.slice (some ⟨n2053, 0, none⟩) ([xs1806, x2009, x2029, x2052] : List (List UInt8)).length 4) ≠ some b := fun b hj hi => by have := (OW.id_lt h2143 hj).1; have := hb2140 b hi; omega
      refine WL.assign .r rfl rfl rfl rfl ?_
      with_reducible refine WL.nil ?_
      with_reducible refine Ex.blk_norm ?_
      with_reducible refine Ex.thn_norm ?_
      with_reducible refine W.region ?_
      obtain ⟨hc2154, hr⟩ := chk_some hr
      refine WL.addI .nil rfl rfl rfl rfl rfl hc2154.1 hc2154.2 ?_
      refine WL.move .nil rfl rfl rfl rfl ?_
      with_reducible refine WL.nil ?_
      with_reducible refine Ex.thn_norm ?_
      exact ⟨[(1, .pointer (some ⟨n0, 0, none⟩)), (3, .slice a2141 x2134.length cap2142), (13, .slice a2 x1.Files.length cap3), (14, .int .i64 (x1.Files.length : Int)), (15, .int .i64 (x1810 + 1))], (Fr.le_cons rfl (Fr.le_cons rfl (Fr.le_cons rfl (Fr.le_cons rfl (Fr.le_cons rfl Fr.le_nil))))), a2141, cap2142, x2134, (x1810 + 1), F2108, rfl, hS2148, (hE2115.up (by omega)), ho2145, fo2113, h2149, ((((h1809.mono hle2080).mono hle2091).mono hle2101).mono hle2110), ((((h1811.mono hle2080).mono hle2091).mono hle2101).mono hle2110), ap2151, hr⟩
    · replace hr := ite_neg hr hc1817
      with_reducible refine W.exit ?_
      with_reducible refine Ex.thn_ex ?_
      with_reducible refine Ex.thn_ex ?_
      with_reducible refine Ex.blk_here ?_
      with_reducible refine Ex.thn_norm ?_
      with_reducible refine W.seq ?_
      with_reducible refine W.region ?_
      refine WL.move .nil rfl rfl rfl rfl ?_
      refine WL.fieldAddr .nil rfl rfl rfl Try.underlying26 rfl info24 rfl rfl ?_
      refine WL.load1 .nil rfl rfl rfl Try.underlying24 rfl rfl ho1812 rfl ?_
      refine WL.len .nil rfl rfl rfl Try.underlying24 rfl ?_
      obtain ⟨x2155, hx2155, hr⟩ := bnd_some hr
      have hb2161 := fun b hb => (OW.id_lt (i := b) h1807 hb).2
      refine GL.callP g.good .nil rfl rfl rfl rfl rfl rfl Try.func58 rfl rfl hS1802.lo (f_impl_number_k  g hS1802 hx2155) (fun v n2156 H2157 hn2158 hk2159 hp2160 => ?_)
      obtain ⟨a2162, cap2163, hS2165, rfl, h2164⟩ := hp2160
      have ho2166 := (hk2159 _ (by have := lt1815; omega)).trans ho1812
      have h2167 := OW.keep (n' := n2156) h1807 (by omega) (fun i hi => hk2159 i (OW.id_lt h1807 hi).2)
      have hS2168 : St n0 n2156 H2157 F1801 := ⟨by have := hS1802.lo; omega, hS2165.hb, hS2165.fh⟩
      have hlon2156 := hS2168.lo
      have h2169 := OW.lower (lo' := n0) h2164 (by omega)
      have ap2171 : idOf (.slice a2162 x2155.length cap2163) ≠ some n0 := fun hj => by have := (OW.id_lt h2164 hj).1; have := lt1815; omega
      have ap2172 : ∀ b, idOf (.slice a2162 x2155.length cap2163) = some b → idOf (.slice a1804 xs1806.length cap1805) ≠ some b := fun b hj hi => by have := (OW.id_lt h2164 hj).1; have := hb2161 b hi; omega
      obtain ⟨hc2173, hr⟩ := chk_some hr
      have hb2183 := fun b hb => (OW.id_lt (i := b) h2167 hb).2
      have hb2184 := fun b hb => (OW.id_lt (i := b) h2169 hb).2
      refine GL.append (α := UInt8) hS2168 .nil rfl rfl rfl Try.underlying22 Try.underlying22 rfl info5 rfl rfl rfl (by decide) rfl rfl h2167 (by omega) (by omega) (OW.src h2169) hc2173 (fun a2174 cap2175 n2176 H2177 hS2178 hn2179 hO2180 hk2181 hid2182 => ?_)
      have ho2185 := (hk2181 _ (by have := lt1815; omega) ap1814).trans ho2166
      have h2186 := OW.keep h2169 hn2179 (fun i hi => hk2181 i (OW.id_lt h2169 hi).2 (fun hj => (fun b h1 h2 => ap2172 b h2 h1) _ hj hi))
      have ap2188 : idOf (.slice a2174 (xs1806 ++ x2155).length cap2175) ≠ some n0 := fun hj => (hid2182 _ hj).elim (fun h => by have := lt1815; omega) ap1814
      have ap2189 : ∀ b, idOf (.slice a2174 (xs1806 ++ x2155).length cap2175) = some b → idOf (.slice a2162 x2155.length cap2163) ≠ some b := fun b hj hi => (hid2182 _ hj).elim (fun h => by have := hb2184 b hi; omega) (fun h => (fun b h1 h2 => ap2172 b h2 h1) _ h hi)
      have hlon2176 := hS2178.lo
      refine WL.assign .nil rfl rfl rfl rfl ?_
      with_reducible refine WL.nil ?_
      with_reducible refine Ex.thn_norm ?_
      with_reducible refine W.seq ?_
      with_reducible refine W.seq ?_
      with_reducible refine W.region ?_
      refine WL.fieldAddr .nil rfl rfl rfl Try.underlying26 rfl info24 rfl rfl ?_
      refine WL.load1 .nil rfl rfl rfl Try.underlying24 rfl rfl ho2185 rfl ?_
      refine WL.len .nil rfl rfl rfl Try.underlying24 rfl ?_
      refine WL.move .nil rfl rfl rfl rfl ?_
      with_reducible refine WL.nil ?_
      with_reducible refine Ex.thn_norm ?_
      with_reducible refine W.block ?_
      refine W.loopF (fun k1 fr n H => ∃ (a3144 : Option Addr) (cap3145 : Nat) (xs3146 : (List UInt8)) (x3150 : Int) (F : Heap), fr = [(3, .slice a3144 xs3146.length cap3145), (39, .slice a5 x1.Sessions.length cap6), (40, .int .i64 (x1.Sessions.length : Int)), (41, .int .i64 x3150)] ∧ St n0 n H F ∧ Ext n0 F0 n F ∧ OW n0 n H F (.slice a3144 xs3146.length cap3145) xs3146 ∧ SR F (.slice a5 x1.Sessions.length cap6) x1.Sessions ∧ f__impl_State_bytes_L1 x1 k1 xs3146 x3150 = some res) BIG (fr0 := [(3, .slice a2174 (xs1806 ++ x2155).length cap2175), (39, .slice a5 x1.Sessions.length cap6), (40, .int .i64 (x1.Sessions.length : Int)), (41, .int .i64 0)]) (Fr.le_cons rfl (Fr.le_cons rfl (Fr.le_cons rfl (Fr.le_cons rfl Fr.le_nil)))) ?_ ?_ ?_
      · exact ⟨a2174, cap2175, (xs1806 ++ x2155), 0, F1801, rfl, hS2178, (hE1803.up (by omega)), hO2180, h1811, hr⟩
      · intro fr n H hI
        obtain ⟨a3144, cap3145, xs3146, x3150, F3141, hfr, hS3142, hE3143, h3147, h3149, hr⟩ := hI
        rw [f__impl_State_bytes_L1] at hr
        cases hr
      · intro k1 _ n3139 H3140 hI
        obtain ⟨a3144, cap3145, xs3146, x3150, F3141, rfl, hS3142, hE3143, h3147, h3149, hr⟩ := hI
        have hlen3139 := hE3143.le
        have hlon3139 := hS3142.lo
        rw [f__impl_State_bytes_L1] at hr
        with_reducible refine W.seq ?_
        with_reducible refine W.region ?_
        refine WL.bin .nil rfl rfl rfl rfl rfl rfl ?_
        with_reducible refine WL.nil ?_
        with_reducible refine Ex.thn_norm ?_
        with_reducible refine W.seq ?_
        refine W.condD rfl (fun hc3152 => ?_) (fun hc3152 => ?_)
        · replace hr := ite_pos hr hc3152
          with_reducible refine W.skip ?_
          with_reducible refine Ex.thn_norm ?_
          with_reducible refine W.seq ?_
          with_reducible refine W.block ?_
          with_reducible refine W.seq ?_
          with_reducible refine W.region ?_
          obtain ⟨x3384, hx3384, hr⟩ := bnd_some hr
          refine GL.index .nil rfl rfl rfl Try.underlying24 info54 rfl rfl h3149 hS3142.fh rfl hx3384 (fun b3385 kp3386 c3387 ecs3388 hrow3389 hwin3390 hR3391 => ?_)
          obtain ⟨rfl⟩ := GSession.ofR hR3391
          refine WL.loadN .nil (l' := [.int .i64 x3384.Client, .int .i64 x3384.Seq, .int .i64 x3384.Reply.Code, .int .i64 x3384.Reply.Version, str x3384.Reply.Sha]) rfl rfl rfl Try.underlying54 rfl info54 rfl hrow3389 hwin3390 rfl ?_
          refine GL.alloc hS3142 .nil (zc := [.int .i64 0, .int .i64 0, .int .i64 0, .int .i64 0, str ([] : List UInt8)]) rfl rfl rfl info54 rfl rfl rfl (fun H3392 hS3393 ho3394 hk3395 => ?_)
          have fo3396 := hS3142.fnone (Nat.le_refl _)
          have ap3398 : idOf (.slice a3144 xs3146.length cap3145) ≠ some n3139 := fun hj => by have := OW.id_lt h3147 hj; omega
          have h3399 := OW.keep (n' := (n3139 + 1)) h3147 (by omega) (fun i hi => hk3395 i (OW.id_lt h3147 hi).2)
          have hlon31391 := hS3393.lo
          have lt3397 : n3139 < (n3139 + 1) := by omega
          refine GL.store hS3393 .nil (vc := [.int .i64 x3384.Client, .int .i64 x3384.Seq, .int .i64 x3384.Reply.Code, .int .i64 x3384.Reply.Version, str x3384.Reply.Sha]) (c' := [.int .i64 x3384.Client, .int .i64 x3384.Seq, .int .i64 x3384.Reply.Code, .int .i64 x3384.Reply.Version, str x3384.Reply.Sha]) rfl rfl rfl info54 rfl rfl rfl rfl ho3394 fo3396 (Nat.le_of_ble_eq_true rfl) (by omega) (by repeat' (first | exact List.forall_mem_nil _ | refine List.forall_mem_cons.2 ⟨?_, ?_⟩ | rfl)) rfl (fun H3400 hS3401 ho3402 hk3403 => ?_)
          have h3404 := OW.keep h3399 (Nat.le_refl _) (fun i hi => hk3403 i (fun hj => ap3398 (hj ▸ hi)))
          with_reducible refine WL.nil ?_
          with_reducible refine Ex.thn_norm ?_
          refine W.regionD [0, 1, 2, 3, 4, 5, 6, 7, 8, 9, 10, 11, 12, 13, 14, 15, 16, 17, 18, 19, 20, 21] [false, false, false, false, false, false, false, false, false, false, false, false, false, false, false, false, false, false, false, false, false, false] rfl rfl (by kernel_rfl) (by kernel_rfl) (by (conv => lhs; simp only [List.map_cons, List.map_nil, List.getD_cons_zero, List.getD_cons_succ]) <;> rfl) ?_
          refine WL.move .r rfl rfl rfl rfl ?_
          refine WL.fieldAddr .r rfl rfl rfl Try.underlying54 rfl info3 rfl rfl ?_
          refine WL.load1 .r rfl rfl rfl Try.underlying3 rfl rfl ho3402 rfl ?_
          obtain ⟨x3405, hx3405, hr⟩ := bnd_some hr
          have hb3411 := fun b hb => (OW.id_lt (i := b) h3404 hb).2
          refine GL.callP g.good .r rfl rfl rfl rfl rfl rfl Try.func58 rfl rfl (Nat.le_refl _) (f_impl_number_k  g hS3401 hx3405) (fun v n3406 H3407 hn3408 hk3409 hp3410 => ?_)
          obtain ⟨a3412, cap3413, hS3415, rfl, h3414⟩ := hp3410
          have ho3416 := (hk3409 _ (by have := lt3397; omega)).trans ho3402
          have h3417 := OW.keep (n' := n3406) h3404 (by omega) (fun i hi => hk3409 i (OW.id_lt h3404 hi).2)
          have hS3418 : St n0 n3406 H3407 F3141 := ⟨by have := hS3401.lo; omega, hS3415.hb, hS3415.fh⟩
          have hlon3406 := hS3418.lo
          have h3419 := OW.lower (lo' := n0) h3414 (by omega)
          have ap3421 : idOf (.slice a3412 x3405.length cap3413) ≠ some n3139 := fun hj => by have := (OW.id_lt h3414 hj).1; have := lt3397; omega
          have ap3422 : ∀ b, idOf (.slice a3412 x3405.length cap3413) = some b → idOf (.slice a3144 xs3146.length cap3145) ≠ some b := fun b hj hi => by have := (OW.id_lt h3414 hj).1; have := hb3411 b hi; omega
          refine WL.fieldAddr .r rfl rfl rfl Try.underlying54 rfl info3 rfl rfl ?_
          refine WL.load1 .r rfl rfl rfl Try.underlying3 rfl rfl ho3416 rfl ?_
          obtain ⟨x3423, hx3423, hr⟩ := bnd_some hr
          have hb3429 := fun b hb => (OW.id_lt (i := b) h3417 hb).2
          have hb3430 := fun b hb => (OW.id_lt (i := b) h3419 hb).2
          refine GL.callP g.good .r rfl rfl rfl rfl rfl rfl Try.func58 rfl rfl (Nat.le_refl _) (f_impl_number_k  g hS3418 hx3423) (fun v n3424 H3425 hn3426 hk3427 hp3428 => ?_)
          obtain ⟨a3431, cap3432, hS3434, rfl, h3433⟩ := hp3428
          have ho3435 := (hk3427 _ (by have := lt3397; omega)).trans ho3416
          have h3436 := OW.keep (n' := n3424) h3417 (by omega) (fun i hi => hk3427 i (OW.id_lt h3417 hi).2)
          have h3437 := OW.keep (n' := n3424) h3419 (by omega) (fun i hi => hk3427 i (OW.id_lt h3419 hi).2)
          have hS3438 : St n0 n3424 H3425 F3141 := ⟨by have := hS3418.lo; omega, hS3434.hb, hS3434.fh⟩
          have hlon3424 := hS3438.lo
          have h3439 := OW.lower (lo' := n0) h3433 (by omega)
          have ap3441 : idOf (.slice a3431 x3423.length cap3432) ≠ some n3139 := fun hj => by have := (OW.id_lt h3433 hj).1; have := lt3397; omega
          have ap3442 : ∀ b, idOf (.slice a3431 x3423.length cap3432) = some b → idOf (.slice a3144 xs3146.length cap3145) ≠ some b := fun b hj hi => by have := (OW.id_lt h3433 hj).1; have := hb3429 b hi; omega
          have ap3443 : ∀ b, idOf (.slice a3431 x3423.length cap3432) = some b → idOf (.slice a3412 x3405.length cap3413) ≠ some b := fun b hj hi => by have := (OW.id_lt h3433 hj).1; have := hb3430 b hi; omega
          refine WL.fieldAddr .r rfl rfl rfl Try.underlying54 rfl info52 rfl rfl ?_
          refine WL.fieldAddr .r rfl rfl rfl Try.underlying52 rfl info3 rfl rfl ?_
          refine WL.load1 .r rfl rfl rfl Try.underlying3 rfl rfl ho3435 rfl ?_
          obtain ⟨x3444, hx3444, hr⟩ := bnd_some hr
          have hb3450 := fun b hb => (OW.id_lt (i := b) h3436 hb).2
          have hb3451 := fun b hb => (OW.id_lt (i := b) h3437 hb).2
          have hb3452 := fun b hb => (OW.id_lt (i := b) h3439 hb).2
          refine GL.callP g.good .r rfl rfl rfl rfl rfl rfl Try.func58 rfl rfl (Nat.le_refl _) (f_impl_number_k  g hS3438 hx3444) (fun v n3445 H3446 hn3447 hk3448 hp3449 => ?_)
          obtain ⟨a3453, cap3454, hS3456, rfl, h3455⟩ := hp3449
          have ho3457 := (hk3448 _ (by have := lt3397; omega)).trans ho3435
          have h3458 := OW.keep (n' := n3445) h3436 (by omega) (fun i hi => hk3448 i (OW.id_lt h3436 hi).2)
          have h3459 := OW.keep (n' := n3445) h3437 (by omega) (fun i hi => hk3448 i (OW.id_lt h3437 hi).2)
          have h3460 := OW.keep (n' := n3445) h3439 (by omega) (fun i hi => hk3448 i (OW.id_lt h3439 hi).2)
          have hS3461 : St n0 n3445 H3446 F3141 := ⟨by have := hS3438.lo; omega, hS3456.hb, hS3456.fh⟩
          have hlon3445 := hS3461.lo
          have h3462 := OW.lower (lo' := n0) h3455 (by omega)
          have ap3464 : idOf (.slice a3453 x3444.length cap3454) ≠ some n3139 := fun hj => by have := (OW.id_lt h3455 hj).1; have := lt3397; omega
          have ap3465 : ∀ b, idOf (.slice a3453 x3444.length cap3454) = some b → idOf (.slice a3144 xs3146.length cap3145) ≠ some b := fun b hj hi => by have := (OW.id_lt h3455 hj).1; have := hb3450 b hi; omega
          have ap3466 : ∀ b, idOf (.slice a3453 x3444.length cap3454) = some b → idOf (.slice a3412 x3405.length cap3413) ≠ some b := fun b hj hi => by have := (OW.id_lt h3455 hj).1; have := hb3451 b hi; omega
          have ap3467 : ∀ b, idOf (.slice a3453 x3444.length cap3454) = some b → idOf (.slice a3431 x3423.length cap3432) ≠ some b := fun b hj hi => by have := (OW.id_lt h3455 hj).1; have := hb3452 b hi; omega
          refine WL.fieldAddr .r rfl rfl rfl Try.underlying54 rfl info52 rfl rfl ?_
          refine WL.fieldAddr .r rfl rfl rfl Try.underlying52 rfl info3 rfl rfl ?_
          refine WL.load1 .r rfl rfl rfl Try.underlying3 rfl rfl ho3457 rfl ?_
          obtain ⟨x3468, hx3468, hr⟩ := bnd_some hr
          have hb3474 := fun b hb => (OW.id_lt (i := b) h3458 hb).2
          have hb3475 := fun b hb => (OW.id_lt (i := b) h3459 hb).2
          have hb3476 := fun b hb => (OW.id_lt (i := b) h3460 hb).2
          have hb3477 := fun b hb => (OW.id_lt (i := b) h3462 hb).2
          refine GL.callP g.good .r rfl rfl rfl rfl rfl rfl Try.func58 rfl rfl (Nat.le_refl _) (f_impl_number_k  g hS3461 hx3468) (fun v n3469 H3470 hn3471 hk3472 hp3473 => ?_)
          obtain ⟨a3478, cap3479, hS3481, rfl, h3480⟩ := hp3473
          have ho3482 := (hk3472 _ (by have := lt3397; omega)).trans ho3457
          have h3483 := OW.keep (n' := n3469) h3458 (by omega) (fun i hi => hk3472 i (OW.id_lt h3458 hi).2)
          have h3484 := OW.keep (n' := n3469) h3459 (by omega) (fun i hi => hk3472 i (OW.id_lt h3459 hi).2)
          have h3485 := OW.keep (n' := n3469) h3460 (by omega) (fun i hi => hk3472 i (OW.id_lt h3460 hi).2)
          have h3486 := OW.keep (n' := n3469) h3462 (by omega) (fun i hi => hk3472 i (OW.id_lt h3462 hi).2)
          have hS3487 : St n0 n3469 H3470 F3141 := ⟨by have := hS3461.lo; omega, hS3481.hb, hS3481.fh⟩
          have hlon3469 := hS3487.lo
          have h3488 := OW.lower (lo' := n0) h3480 (by omega)
          have ap3490 : idOf (.slice a3478 x3468.length cap3479) ≠ some n3139 := fun hj => by have := (OW.id_lt h3480 hj).1; have := lt3397; omega
          have ap3491 : ∀ b, idOf (.slice a3478 x3468.length cap3479) = some b → idOf (.slice a3144 xs3146.length cap3145) ≠ some b := fun b hj hi => by have := (OW.id_lt h3480 hj).1; have := hb3474 b hi; omega
          have ap3492 : ∀ b, idOf (.slice a3478 x3468.length cap3479) = some b → idOf (.slice a3412 x3405.length cap3413) ≠ some b := fun b hj hi => by have := (OW.id_lt h3480 hj).1; have := hb3475 b hi; omega
          have ap3493 : ∀ b, idOf (.slice a3478 x3468.length cap3479) = some b → idOf (.slice a3431 x3423.length cap3432) ≠ some b := fun b hj hi => by have := (OW.id_lt h3480 hj).1; have := hb3476 b hi; omega
          have ap3494 : ∀ b, idOf (.slice a3478 x3468.length cap3479) = some b → idOf (.slice a3453 x3444.length cap3454) ≠ some b := fun b hj hi => by have := (OW.id_lt h3480 hj).1; have := hb3477 b hi; omega
          refine WL.fieldAddr .r rfl rfl rfl Try.underlying54 rfl info52 rfl rfl ?_
          refine WL.fieldAddr .r rfl rfl rfl Try.underlying52 rfl info9 rfl rfl ?_
          refine WL.load1 .r rfl rfl rfl Try.underlying9 rfl rfl ho3482 rfl ?_
          obtain ⟨x3495, hx3495, hr⟩ := bnd_some hr
          have hb3501 := fun b hb => (OW.id_lt (i := b) h3483 hb).2
          have hb3502 := fun b hb => (OW.id_lt (i := b) h3484 hb).2
          have hb3503 := fun b hb => (OW.id_lt (i := b) h3485 hb).2
          have hb3504 := fun b hb => (OW.id_lt (i := b) h3486 hb).2
          have hb3505 := fun b hb => (OW.id_lt (i := b) h3488 hb).2
          refine GL.callP g.good .r rfl rfl rfl rfl rfl rfl Try.func60 rfl rfl (Nat.le_refl _) (f_impl_textBytes_k  g hS3487 hx3495) (fun v n3496 H3497 hn3498 hk3499 hp3500 => ?_)
          obtain ⟨a3506, cap3507, hS3509, rfl, h3508⟩ := hp3500
          have ho3510 := (hk3499 _ (by have := lt3397; omega)).trans ho3482
          have h3511 := OW.keep (n' := n3496) h3483 (by omega) (fun i hi => hk3499 i (OW.id_lt h3483 hi).2)
          have h3512 := OW.keep (n' := n3496) h3484 (by omega) (fun i hi => hk3499 i (OW.id_lt h3484 hi).2)
          have h3513 := OW.keep (n' := n3496) h3485 (by omega) (fun i hi => hk3499 i (OW.id_lt h3485 hi).2)
          have h3514 := OW.keep (n' := n3496) h3486 (by omega) (fun i hi => hk3499 i (OW.id_lt h3486 hi).2)
          have h3515 := OW.keep (n' := n3496) h3488 (by omega) (fun i hi => hk3499 i (OW.id_lt h3488 hi).2)
          have hS3516 : St n0 n3496 H3497 F3141 := ⟨by have := hS3487.lo; omega, hS3509.hb, hS3509.fh⟩
          have hlon3496 := hS3516.lo
          have h3517 := OW.lower (lo' := n0) h3508 (by omega)
          have ap3519 : idOf (.slice a3506 x3495.length cap3507) ≠ some n3139 := fun hj => by have := (OW.id_lt h3508 hj).1; have := lt3397; omega
          have ap3520 : ∀ b, idOf (.slice a3506 x3495.length cap3507) = some b → idOf (.slice a3144 xs3146.length cap3145) ≠ some b := fun b hj hi => by have := (OW.id_lt h3508 hj).1; have := hb3501 b hi; omega
          have ap3521 : ∀ b, idOf (.slice a3506 x3495.length cap3507) = some b → idOf (.slice a3412 x3405.length cap3413) ≠ some b := fun b hj hi => by have := (OW.id_lt h3508 hj).1; have := hb3502 b hi; omega
          have ap3522 : ∀ b, idOf (.slice a3506 x3495.length cap3507) = some b → idOf (.slice a3431 x3423.length cap3432) ≠ some b := fun b hj hi => by have := (OW.id_lt h3508 hj).1; have := hb3503 b hi; omega
          have ap3523 : ∀ b, idOf (.slice a3506 x3495.length cap3507) = some b → idOf (.slice a3453 x3444.length cap3454) ≠ some b := fun b hj hi => by have := (OW.id_lt h3508 hj).1; have := hb3504 b hi; omega
          have ap3524 : ∀ b, idOf (.slice a3506 x3495.length cap3507) = some b → idOf (.slice a3478 x3468.length cap3479) ≠ some b := fun b hj hi => by have := (OW.id_lt h3508 hj).1; have := hb3505 b hi; omega
          obtain ⟨F3525, hS3526, hle3527, h3528, hf3529⟩ := OW.freeze h3511 hS3516
          have fo3530 := (hf3529 _ ap3398).trans fo3396
          have h3531 := OW.keepF h3512 hle3527 (fun i hi => (hf3529 i (fun hj => (fun b h1 h2 => ap3422 b h2 h1) i hj hi)).trans (OW.fnone h3512 hi))
          have h3532 := OW.keepF h3513 hle3527 (fun i hi => (hf3529 i (fun hj => (fun b h1 h2 => ap3442 b h2 h1) i hj hi)).trans (OW.fnone h3513 hi))
          have h3533 := OW.keepF h3514 hle3527 (fun i hi => (hf3529 i (fun hj => (fun b h1 h2 => ap3465 b h2 h1) i hj hi)).trans (OW.fnone h3514 hi))
          have h3534 := OW.keepF h3515 hle3527 (fun i hi => (hf3529 i (fun hj => (fun b h1 h2 => ap3491 b h2 h1) i hj hi)).trans (OW.fnone h3515 hi))
          have h3535 := OW.keepF h3517 hle3527 (fun i hi => (hf3529 i (fun hj => (fun b h1 h2 => ap3520 b h2 h1) i hj hi)).trans (OW.fnone h3517 hi))
          have hE3536 : Ext n0 F0 n3496 F3525 := ⟨Nat.le_trans hE3143.le (by omega), hE3143.sub.trans hle3527, fun i hi => (hf3529 i (fun hj => by have := OW.id_lt h3511 hj; omega)).trans (hE3143.eq i hi)⟩
          obtain ⟨F3537, hS3538, hle3539, h3540, hf3541⟩ := OW.freeze h3531 hS3526
          have fo3542 := (hf3541 _ ap3421).trans fo3530
          have h3543 := OW.keepF h3532 hle3539 (fun i hi => (hf3541 i (fun hj => (fun b h1 h2 => ap3443 b h2 h1) i hj hi)).trans (OW.fnone h3532 hi))
          have h3544 := OW.keepF h3533 hle3539 (fun i hi => (hf3541 i (fun hj => (fun b h1 h2 => ap3466 b h2 h1) i hj hi)).trans (OW.fnone h3533 hi))
          have h3545 := OW.keepF h3534 hle3539 (fun i hi => (hf3541 i (fun hj => (fun b h1 h2 => ap3492 b h2 h1) i hj hi)).trans (OW.fnone h3534 hi))
          have h3546 := OW.keepF h3535 hle3539 (fun i hi => (hf3541 i (fun hj => (fun b h1 h2 => ap3521 b h2 h1) i hj hi)).trans (OW.fnone h3535 hi))
          have hE3547 : Ext n0 F0 n3496 F3537 := ⟨Nat.le_trans hE3536.le (by omega), hE3536.sub.trans hle3539, fun i hi => (hf3541 i (fun hj => by have := OW.id_lt h3531 hj; omega)).trans (hE3536.eq i hi)⟩
          obtain ⟨F3548, hS3549, hle3550, h3551, hf3552⟩ := OW.freeze h3543 hS3538
          have fo3553 := (hf3552 _ ap3441).trans fo3542
          have h3554 := OW.keepF h3544 hle3550 (fun i hi => (hf3552 i (fun hj => (fun b h1 h2 => ap3467 b h2 h1) i hj hi)).trans (OW.fnone h3544 hi))
          have h3555 := OW.keepF h3545 hle3550 (fun i hi => (hf3552 i (fun hj => (fun b h1 h2 => ap3493 b h2 h1) i hj hi)).trans (OW.fnone h3545 hi))
          have h3556 := OW.keepF h3546 hle3550 (fun i hi => (hf3552 i (fun hj => (fun b h1 h2 => ap3522 b h2 h1) i hj hi)).trans (OW.fnone h3546 hi))
          have hE3557 : Ext n0 F0 n3496 F3548 := ⟨Nat.le_trans hE3547.le (by omega), hE3547.sub.trans hle3550, fun i hi => (hf3552 i (fun hj => by have := OW.id_lt h3543 hj; omega)).trans (hE3547.eq i hi)⟩
          obtain ⟨F3558, hS3559, hle3560, h3561, hf3562⟩ := OW.freeze h3554 hS3549
          have fo3563 := (hf3562 _ ap3464).trans fo3553
          have h3564 := OW.keepF h3555 hle3560 (fun i hi => (hf3562 i (fun hj => (fun b h1 h2 => ap3494 b h2 h1) i hj hi)).trans (OW.fnone h3555 hi))
          have h3565 := OW.keepF h3556 hle3560 (fun i hi => (hf3562 i (fun hj => (fun b h1 h2 => ap3523 b h2 h1) i hj hi)).trans (OW.fnone h3556 hi))
          have hE3566 : Ext n0 F0 n3496 F3558 := ⟨Nat.le_trans hE3557.le (by omega), hE3557.sub.trans hle3560, fun i hi => (hf3562 i (fun hj => by have := OW.id_lt h3554 hj; omega)).trans (hE3557.eq i hi)⟩
          obtain ⟨F3567, hS3568, hle3569, h3570, hf3571⟩ := OW.freeze h3564 hS3559
          have fo3572 := (hf3571 _ ap3490).trans fo3563
          have h3573 := OW.keepF h3565 hle3569 (fun i hi => (hf3571 i (fun hj => (fun b h1 h2 => ap3524 b h2 h1) i hj hi)).trans (OW.fnone h3565 hi))
          have hE3574 : Ext n0 F0 n3496 F3567 := ⟨Nat.le_trans hE3566.le (by omega), hE3566.sub.trans hle3569, fun i hi => (hf3571 i (fun hj => by have := OW.id_lt h3564 hj; omega)).trans (hE3566.eq i hi)⟩
          obtain ⟨F3575, hS3576, hle3577, h3578, hf3579⟩ := OW.freeze h3573 hS3568
          have fo3580 := (hf3579 _ ap3519).trans fo3572
          have hE3581 : Ext n0 F0 n3496 F3575 := ⟨Nat.le_trans hE3574.le (by omega), hE3574.sub.trans hle3577, fun i hi => (hf3579 i (fun hj => by have := OW.id_lt h3573 hj; omega)).trans (hE3574.eq i hi)⟩
          refine GL.lit (cs := [.slice a3144 xs3146.length cap3145, .slice a3412 x3405.length cap3413, .slice a3431 x3423.length cap3432, .slice a3453 x3444.length cap3454, .slice a3478 x3468.length cap3479, .slice a3506 x3495.length cap3507]) (xs := ([xs3146, x3405, x3423, x3444, x3468, x3495] : List (List UInt8))) hS3576 .r rfl rfl rfl Try.underlying102 info22 rfl rfl rfl (by decide) (by decide) rfl rfl rfl rfl rfl (RA.cons (cs := [.slice a3144 xs3146.length cap3145]) (a := (xs3146 : (List UInt8))) ⟨_, rfl, (((((h3528.mono hle3539).mono hle3550).mono hle3560).mono hle3569).mono hle3577)⟩ (RA.cons (cs := [.slice a3412 x3405.length cap3413]) (a := (x3405 : (List UInt8))) ⟨_, rfl, ((((h3540.mono hle3550).mono hle3560).mono hle3569).mono hle3577)⟩ (RA.cons (cs := [.slice a3431 x3423.length cap3432]) (a := (x3423 : (List UInt8))) ⟨_, rfl, (((h3551.mono hle3560).mono hle3569).mono hle3577)⟩ (RA.cons (cs := [.slice a3453 x3444.length cap3454]) (a := (x3444 : (List UInt8))) ⟨_, rfl, ((h3561.mono hle3569).mono hle3577)⟩ (RA.cons (cs := [.slice a3478 x3468.length cap3479]) (a := (x3468 : (List UInt8))) ⟨_, rfl, (h3570.mono hle3577)⟩ (RA.cons (cs := [.slice a3506 x3495.length cap3507]) (a := (x3495 : (List UInt8))) ⟨_, rfl, h3578⟩ RA.nil)))))) rfl (fun H3582 hS3583 hO3584 hk3585 => ?_)
          have ho3586 := (hk3585 _ (by have := lt3397; omega)).trans ho3510
          have h3587 := OW.lower (lo' := n0) hO3584 (by omega)
          have hlon34961 := hS3583.lo
          have ap3589 : idOf (.slice (some ⟨n3496, 0, none⟩) ([xs3146, x3405, x3423, x3444, x3468, x3495] : List (List UInt8)).length 6) ≠ some n3139 := fun hj => by have := (OW.id_lt hO3584 hj).1; have := lt3397; omega
          obtain ⟨F3590, hS3591, hle3592, h3593, hf3594⟩ := OW.freeze h3587 hS3583
          have fo3595 := (hf3594 _ ap3589).trans fo3580
          obtain ⟨x3597, hx3597, hr⟩ := bnd_some hr
          have hb3603 := fun b hb => (OW.id_lt (i := b) h3587 hb).2
          refine GL.callP g.good .r rfl rfl rfl rfl rfl rfl Try.func59 rfl rfl (Nat.le_refl _) (f_slices_Concat_byte_k  g hS3591 h3593 hx3597) (fun v n3598 H3599 hn3600 hk3601 hp3602 => ?_)
          obtain ⟨a3604, cap3605, hS3607, rfl, h3606⟩ := hp3602
          have ho3608 := (hk3601 _ (by have := lt3397; omega)).trans ho3586
          have h3609 := OW.keep (n' := n3598) h3587 (by omega) (fun i hi => hk3601 i (OW.id_lt h3587 hi).2)
          have hS3610 : St n0 n3598 H3599 F3575 := ⟨by have := hS3583.lo; omega, hS3607.hb, fun i o hi => (hk3601 i (hS3583.lt (hS3583.fh i o hi))).trans (hS3583.fh i o hi)⟩
          have hlon3598 := hS3610.lo
          have h3611 := OW.lower (lo' := n0) (OW.downFl hle3592 h3606) (by omega)
          have ap3613 : idOf (.slice a3604 x3597.length cap3605) ≠ some n3139 := fun hj => by have := (OW.id_lt h3606 hj).1; have := lt3397; omega
          have ap3614 : ∀ b, idOf (.slice a3604 x3597.length cap3605) = some b → idOf (.slice (some ⟨n3496, 0, none⟩) ([xs3146, x3405, x3423, x3444, x3468, x3495] : List (List UInt8)).length 6) ≠ some b := fun b hj hi => by have := (OW.id_lt h3606 hj).1; have := hb3603 b hi; omega
          refine WL.assign .r rfl rfl rfl rfl ?_
          with_reducible refine WL.nil ?_
          with_reducible refine Ex.blk_norm ?_
          with_reducible refine Ex.thn_norm ?_
          with_reducible refine W.region ?_
          obtain ⟨hc3615, hr⟩ := chk_some hr
          refine WL.addI .nil rfl rfl rfl rfl rfl hc3615.1 hc3615.2 ?_
          refine WL.move .nil rfl rfl rfl rfl ?_
          with_reducible refine WL.nil ?_
          with_reducible refine Ex.thn_norm ?_
          exact ⟨[(3, .slice a3604 x3597.length cap3605), (39, .slice a5 x1.Sessions.length cap6), (40, .int .i64 (x1.Sessions.length : Int)), (41, .int .i64 (x3150 + 1))], (Fr.le_cons rfl (Fr.le_cons rfl (Fr.le_cons rfl (Fr.le_cons rfl Fr.le_nil)))), a3604, cap3605, x3597, (x3150 + 1), F3575, rfl, hS3610, (hE3581.up (by omega)), h3611, ((((((h3149.mono hle3527).mono hle3539).mono hle3550).mono hle3560).mono hle3569).mono hle3577), hr⟩
        · replace hr := ite_neg hr hc3152
          with_reducible refine W.exit ?_
          with_reducible refine Ex.thn_ex ?_
          with_reducible refine Ex.thn_ex ?_
          with_reducible refine Ex.blk_here ?_
          with_reducible refine Ex.thn_norm ?_
          with_reducible refine W.seq ?_
          with_reducible refine W.region ?_
          refine WL.move .nil rfl rfl rfl rfl ?_
          refine WL.assign .nil rfl rfl rfl rfl ?_
          with_reducible refine WL.nil ?_
          with_reducible refine Ex.thn_norm ?_
          with_reducible refine W.ret ?_
          obtain rfl := Option.some.inj hr
          exact ⟨.inr rfl, _, (.cons (.tmp rfl) .nil), ⟨a3144, cap3145, (Ext.st hE3143 hS3142), rfl, (OW.downFl hE3143.sub h3147)⟩⟩
theorem f_impl_StateBytes_k {Δ : Prims} (g : Env Try.prog Δ) {lo n0 : Nat} {H0 F0 : Heap} (hS : St lo n0 H0 F0) {x1 : GState} {a2 : Option Addr} {cap3 : Nat} {a5 : Option Addr} {cap6 : Nat} (h4 : SR F0 (.slice a2 x1.Files.length cap3) x1.Files) (h7 : SR F0 (.slice a5 x1.Sessions.length cap6) x1.Sessions) {res : ((List UInt8) × Int)} (hr : f_impl_StateBytes x1 = some res) :
    C Try.prog Δ n0 16 [.agg [.slice a2 x1.Files.length cap3, .slice a5 x1.Sessions.length cap6].toArray] n0 H0 (fun v n H => ∃ (ra1 : Option Addr) (rcap2 : Nat), St n0 n H F0 ∧ v = .tuple #[.slice ra1 res.1.length rcap2, .int .i64 res.2] ∧ OW n0 n H F0 (.slice ra1 res.1.length rcap2) res.1) := by
  refine C.body Try.func16 rfl rfl ?_
  unfold f_impl_StateBytes at hr
  have hS0 : St n0 n0 H0 F0 := hS.low (Nat.le_refl _)
  have hE0 := Ext.refl n0 F0
  have hlo0 := hS0.lo
  with_reducible refine W.seq ?_
  with_reducible refine W.region ?_
  refine GL.box hS0 .nil (vc := [.slice a2 x1.Files.length cap3, .slice a5 x1.Sessions.length cap6]) rfl rfl rfl rfl rfl (by repeat' (first | exact List.forall_mem_nil _ | refine List.forall_mem_cons.2 ⟨?_, ?_⟩ | rfl)) (fun H8 hS9 ho10 hk11 => ?_)
  have fo12 := hS0.fnone (Nat.le_refl _)
  have hlon01 := hS9.lo
  have lt13 : n0 < (n0 + 1) := by omega
  refine WL.assign .nil rfl rfl rfl rfl ?_
  refine WL.assign .nil rfl rfl rfl rfl ?_
  with_reducible refine WL.nil ?_
  with_reducible refine Ex.thn_norm ?_
  with_reducible refine W.seq ?_
  with_reducible refine W.seq ?_
  with_reducible refine W.region ?_
  refine WL.loadN .nil (l' := [.slice a2 x1.Files.length cap3, .slice a5 x1.Sessions.length cap6]) rfl rfl rfl Try.underlying26 rfl info26 rfl ho10 rfl rfl ?_
  obtain ⟨x14, hx14, hr⟩ := bnd_some hr
  refine GL.callP g.good .nil rfl rfl rfl rfl rfl rfl Try.func24 rfl rfl hS9.lo (f_impl_StateOK_k  g hS9 h4 h7 hx14) (fun v n15 H16 hn17 hk18 hp19 => ?_)
  obtain ⟨hS20, rfl⟩ := hp19
  have ho21 := (hk18 _ (by have := lt13; omega)).trans ho10
  have hS22 : St n0 n15 H16 F0 := ⟨by have := hS9.lo; omega, hS20.hb, hS20.fh⟩
  have hlon15 := hS22.lo
  refine WL.not .nil rfl rfl rfl rfl ?_
  with_reducible refine WL.nil ?_
  with_reducible refine Ex.thn_norm ?_
  refine W.cond rfl (fun hc24 => ?_) (fun hc24 => ?_)
  · replace hr := iteB_pos hr hc24
    with_reducible refine W.seq ?_
    with_reducible refine W.region ?_
    refine WL.assign .nil rfl rfl rfl rfl ?_
    refine WL.assign .nil rfl rfl rfl rfl ?_
    with_reducible refine WL.nil ?_
    with_reducible refine Ex.thn_norm ?_
    with_reducible refine W.ret ?_
    with_reducible refine Ex.thn_ret ?_
    obtain rfl := Option.some.inj hr
    exact ⟨.inr rfl, _, (.cons (.tmp rfl) (.cons (.tmp rfl) .nil)), ⟨none, 0, (Ext.st hE0 hS22), rfl, OW.nil⟩⟩
  · replace hr := iteB_neg hr hc24
    with_reducible refine W.skip ?_
    with_reducible refine Ex.thn_norm ?_
    with_reducible refine W.seq ?_
    with_reducible refine W.region ?_
    refine WL.loadN .nil (l' := [.slice a2 x1.Files.length cap3, .slice a5 x1.Sessions.length cap6]) rfl rfl rfl Try.underlying26 rfl info26 rfl ho21 rfl rfl ?_
    obtain ⟨x25, hx25, hr⟩ := bnd_some hr
    refine GL.callP g.good .nil rfl rfl rfl rfl rfl rfl Try.func37 rfl rfl hS22.lo (f__impl_State_bytes_k  g hS22 h4 h7 hx25) (fun v n26 H27 hn28 hk29 hp30 => ?_)
    obtain ⟨a31, cap32, hS34, rfl, h33⟩ := hp30
    have ho35 := (hk29 _ (by have := lt13; omega)).trans ho21
    have hS36 : St n0 n26 H27 F0 := ⟨by have := hS22.lo; omega, hS34.hb, hS34.fh⟩
    have hlon26 := hS36.lo
    have h37 := OW.lower (lo' := n0) h33 (by omega)
    have ap39 : idOf (.slice a31 x25.length cap32) ≠ some n0 := fun hj => by have := (OW.id_lt h33 hj).1; have := lt13; omega
    refine WL.assign .nil rfl rfl rfl rfl ?_
    with_reducible refine WL.nil ?_
    with_reducible refine Ex.thn_norm ?_
    with_reducible refine W.seq ?_
    with_reducible refine W.seq ?_
    with_reducible refine W.region ?_
    refine WL.move .nil rfl rfl rfl rfl ?_
    refine WL.len .nil rfl rfl rfl Try.underlying22 rfl ?_
    refine WL.bin .nil rfl rfl rfl rfl rfl rfl ?_
    with_reducible refine WL.nil ?_
    with_reducible refine Ex.thn_norm ?_
    refine W.condD rfl (fun hc40 => ?_) (fun hc40 => ?_)
    · replace hr := ite_pos hr hc40
      with_reducible refine W.seq ?_
      with_reducible refine W.region ?_
      refine WL.assign .nil rfl rfl rfl rfl ?_
      refine WL.assign .nil rfl rfl rfl rfl ?_
      with_reducible refine WL.nil ?_
      with_reducible refine Ex.thn_norm ?_
      with_reducible refine W.ret ?_
      with_reducible refine Ex.thn_ret ?_
      obtain rfl := Option.some.inj hr
      exact ⟨.inr rfl, _, (.cons (.tmp rfl) (.cons (.tmp rfl) .nil)), ⟨none, 0, (Ext.st hE0 hS36), rfl, OW.nil⟩⟩
    · replace hr := ite_neg hr hc40
      with_reducible refine W.skip ?_
      with_reducible refine Ex.thn_norm ?_
      with_reducible refine W.seq ?_
      with_reducible refine W.region ?_
      refine WL.move .nil rfl rfl rfl rfl ?_
      refine WL.assign .nil rfl rfl rfl rfl ?_
      refine WL.assign .nil rfl rfl rfl rfl ?_
      with_reducible refine WL.nil ?_
      with_reducible refine Ex.thn_norm ?_
      with_reducible refine W.ret ?_
      obtain rfl := Option.some.inj hr
      exact ⟨.inr rfl, _, (.cons (.tmp rfl) (.cons (.tmp rfl) .nil)), ⟨a31, cap32, (Ext.st hE0 hS36), rfl, (OW.downFl hE0.sub h37)⟩⟩
theorem f_laws_eqByteS_k {Δ : Prims} (g : Env Try.prog Δ) {lo n0 : Nat} {H0 F0 : Heap} (hS : St lo n0 H0 F0) {a2 : Option Addr} {cap3 : Nat} {xs1 : (List UInt8)} {a6 : Option Addr} {cap7 : Nat} {xs5 : (List UInt8)} (h4 : SR F0 (.slice a2 xs1.length cap3) xs1) (h8 : SR F0 (.slice a6 xs5.length cap7) xs5) {res : (Bool)} (hr : f_laws_eqByteS xs1 xs5 = some res) :
    C Try.prog Δ n0 9 [.slice a2 xs1.length cap3, .slice a6 xs5.length cap7] n0 H0 (fun v n H => St n0 n H F0 ∧ v = .bool res) := by
  refine C.body Try.func9 rfl rfl ?_
  unfold f_laws_eqByteS at hr
  have hS0 : St n0 n0 H0 F0 := hS.low (Nat.le_refl _)
  have hE0 := Ext.refl n0 F0
  have hlo0 := hS0.lo
  with_reducible refine W.seq ?_
  with_reducible refine W.region ?_
  refine WL.assign .nil rfl rfl rfl rfl ?_
  with_reducible refine WL.nil ?_
  with_reducible refine Ex.thn_norm ?_
  with_reducible refine W.seq ?_
  with_reducible refine W.seq ?_
  with_reducible refine W.region ?_
  refine WL.move .nil rfl rfl rfl rfl ?_
  refine WL.len .nil rfl rfl rfl Try.underlying22 rfl ?_
  refine WL.move .nil rfl rfl rfl rfl ?_
  refine WL.len .nil rfl rfl rfl Try.underlying22 rfl ?_
  refine WL.bin .nil rfl rfl rfl rfl rfl rfl ?_
  with_reducible refine WL.nil ?_
  with_reducible refine Ex.thn_norm ?_
  refine W.condN rfl (fun hc10 => ?_) (fun hc10 => ?_)
  · replace hr := ite_neg hr hc10
    with_reducible refine W.seq ?_
    with_reducible refine W.region ?_
    refine WL.assign .nil rfl rfl rfl rfl ?_
    with_reducible refine WL.nil ?_
    with_reducible refine Ex.thn_norm ?_
    with_reducible refine W.ret ?_
    with_reducible refine Ex.thn_ret ?_
    obtain rfl := Option.some.inj hr
    exact ⟨.inr rfl, _, (.cons (.tmp rfl) .nil), ⟨(Ext.st hE0 hS0), rfl⟩⟩
  · replace hr := ite_pos hr hc10
    with_reducible refine W.skip ?_
    with_reducible refine Ex.thn_norm ?_
    with_reducible refine W.seq ?_
    with_reducible refine W.seq ?_
    with_reducible refine W.region ?_
    refine WL.assign .nil rfl rfl rfl rfl ?_
    with_reducible refine WL.nil ?_
    with_reducible refine Ex.thn_norm ?_
    with_reducible refine W.block ?_
    refine W.loopF (fun k0 fr n H => ∃ (x107 : Int) (F : Heap), fr = [(0, .slice a2 xs1.length cap3), (1, .slice a6 xs5.length cap7), (5, .int .i64 x107)] ∧ St n0 n H F ∧ Ext n0 F0 n F ∧ SR F (.slice a2 xs1.length cap3) xs1 ∧ SR F (.slice a6 xs5.length cap7) xs5 ∧ f_laws_eqByteS_L0 xs1 xs5 k0 x107 = some res) BIG (fr0 := [(0, .slice a2 xs1.length cap3), (1, .slice a6 xs5.length cap7), (5, .int .i64 0)]) (Fr.le_cons rfl (Fr.le_cons rfl (Fr.le_cons rfl Fr.le_nil))) ?_ ?_ ?_
    · exact ⟨0, F0, rfl, hS0, hE0, h4, h8, hr⟩
    · intro fr n H hI
      obtain ⟨x107, F102, hfr, hS103, hE104, h105, h106, hr⟩ := hI
      rw [f_laws_eqByteS_L0] at hr
      cases hr
    · intro k0 _ n100 H101 hI
      obtain ⟨x107, F102, rfl, hS103, hE104, h105, h106, hr⟩ := hI
      have hlen100 := hE104.le
      have hlon100 := hS103.lo
      rw [f_laws_eqByteS_L0] at hr
      with_reducible refine W.seq ?_
      with_reducible refine W.seq ?_
      with_reducible refine W.region ?_
      refine WL.move .nil rfl rfl rfl rfl ?_
      refine WL.move .nil rfl rfl rfl rfl ?_
      refine WL.len .nil rfl rfl rfl Try.underlying22 rfl ?_
      refine WL.bin .nil rfl rfl rfl rfl rfl rfl ?_
      with_reducible refine WL.nil ?_
      with_reducible refine Ex.thn_norm ?_
      refine W.condD rfl (fun hc109 => ?_) (fun hc109 => ?_)
      · replace hr := ite_pos hr hc109
        with_reducible refine W.skip ?_
        with_reducible refine Ex.thn_norm ?_
        with_reducible refine W.seq ?_
        with_reducible refine W.block ?_
        with_reducible refine W.seq ?_
        refine W.regionD [0, 1, 2, 3, 4, 5, 6, 7, 8] [false, false, false, false, false, false, false, false, false] rfl rfl (by kernel_rfl) (by kernel_rfl) (by (conv => lhs; simp only [List.map_cons, List.map_nil, List.getD_cons_zero, List.getD_cons_succ]) <;> rfl) ?_
        refine WL.move .r rfl rfl rfl rfl ?_
        refine WL.move .r rfl rfl rfl rfl ?_
        obtain ⟨x127, hx127, hr⟩ := bnd_some hr
        refine GL.index .r rfl rfl rfl Try.underlying22 info5 rfl rfl h105 hS103.fh rfl hx127 (fun b128 kp129 c130 ecs131 hrow132 hwin133 hR134 => ?_)
        have hcs : _ = ([u8 x127] : List Value) := hR134
        subst hcs
        refine WL.load1 .r rfl rfl rfl Try.underlying5 rfl rfl hrow132 ((win_get0 hwin133 (show (0 : Nat) < 1 by decide)).trans rfl) ?_
        refine WL.move .r rfl rfl rfl rfl ?_
        refine WL.move .r rfl rfl rfl rfl ?_
        obtain ⟨x135, hx135, hr⟩ := bnd_some hr
        refine GL.index .r rfl rfl rfl Try.underlying22 info5 rfl rfl h106 hS103.fh rfl hx135 (fun b136 kp137 c138 ecs139 hrow140 hwin141 hR142 => ?_)
        have hcs : _ = ([u8 x135] : List Value) := hR142
        subst hcs
        refine WL.load1 .r rfl rfl rfl Try.underlying5 rfl rfl hrow140 ((win_get0 hwin141 (show (0 : Nat) < 1 by decide)).trans rfl) ?_
        refine WL.bin .r rfl rfl rfl rfl rfl rfl ?_
        with_reducible refine WL.nil ?_
        with_reducible refine Ex.thn_norm ?_
        refine W.condN rfl (fun hc143 => ?_) (fun hc143 => ?_)
        · replace hr := ite_neg hr hc143
          with_reducible refine W.seq ?_
          with_reducible refine W.region ?_
          refine WL.assign .nil rfl rfl rfl rfl ?_
          with_reducible refine WL.nil ?_
          with_reducible refine Ex.thn_norm ?_
          with_reducible refine W.ret ?_
          with_reducible refine Ex.blk_ret ?_
          with_reducible refine Ex.thn_ret ?_
          with_reducible refine Ex.thn_ret ?_
          with_reducible refine Ex.blk_ret ?_
          with_reducible refine Ex.thn_ret ?_
          obtain rfl := Option.some.inj hr
          exact ⟨.inr rfl, _, (.cons (.tmp rfl) .nil), ⟨(Ext.st hE104 hS103), rfl⟩⟩
        · replace hr := ite_pos hr hc143
          with_reducible refine W.skip ?_
          with_reducible refine Ex.blk_norm ?_
          with_reducible refine Ex.thn_norm ?_
          with_reducible refine W.region ?_
          refine WL.move .nil rfl rfl rfl rfl ?_
          obtain ⟨hc144, hr⟩ := chk_some hr
          refine WL.addI .nil rfl rfl rfl rfl rfl hc144.1 hc144.2 ?_
          refine WL.assign .nil rfl rfl rfl rfl ?_
          with_reducible refine WL.nil ?_
          with_reducible refine Ex.thn_norm ?_
          exact ⟨[(0, .slice a2 xs1.length cap3), (1, .slice a6 xs5.length cap7), (5, .int .i64 (x107 + 1))], (Fr.le_cons rfl (Fr.le_cons rfl (Fr.le_cons rfl Fr.le_nil))), (x107 + 1), F102, rfl, hS103, hE104, h105, h106, hr⟩
      · replace hr := ite_neg hr hc109
        with_reducible refine W.exit ?_
        with_reducible refine Ex.thn_ex ?_
        with_reducible refine Ex.thn_ex ?_
        with_reducible refine Ex.blk_here ?_
        with_reducible refine Ex.thn_norm ?_
        with_reducible refine W.seq ?_
        with_reducible refine W.region ?_
        refine WL.assign .nil rfl rfl rfl rfl ?_
        with_reducible refine WL.nil ?_
        with_reducible refine Ex.thn_norm ?_
        with_reducible refine W.ret ?_
        obtain rfl := Option.some.inj hr
        exact ⟨.inr rfl, _, (.cons (.tmp rfl) .nil), ⟨(Ext.st hE104 hS103), rfl⟩⟩
theorem f_laws_eqFile_k {Δ : Prims} (g : Env Try.prog Δ) {lo n0 : Nat} {H0 F0 : Heap} (hS : St lo n0 H0 F0) {x1 : GFile} {x2 : GFile} {res : (Bool)} (hr : f_laws_eqFile x1 x2 = some res) :
    C Try.prog Δ n0 51 [.agg [str x1.Name, .int .i64 x1.Version, str x1.Text].toArray, .agg [str x2.Name, .int .i64 x2.Version, str x2.Text].toArray] n0 H0 (fun v n H => St n0 n H F0 ∧ v = .bool res) := by
  refine C.body Try.func51 rfl rfl ?_
  unfold f_laws_eqFile at hr
  have hS0 : St n0 n0 H0 F0 := hS.low (Nat.le_refl _)
  have hE0 := Ext.refl n0 F0
  have hlo0 := hS0.lo
  with_reducible refine W.seq ?_
  with_reducible refine W.region ?_
  refine GL.box hS0 .nil (vc := [str x1.Name, .int .i64 x1.Version, str x1.Text]) rfl rfl rfl rfl rfl (by repeat' (first | exact List.forall_mem_nil _ | refine List.forall_mem_cons.2 ⟨?_, ?_⟩ | rfl)) (fun H3 hS4 ho5 hk6 => ?_)
  have fo7 := hS0.fnone (Nat.le_refl _)
  have hlon01 := hS4.lo
  have lt8 : n0 < (n0 + 1) := by omega
  refine GL.box hS4 .nil (vc := [str x2.Name, .int .i64 x2.Version, str x2.Text]) rfl rfl rfl rfl rfl (by repeat' (first | exact List.forall_mem_nil _ | refine List.forall_mem_cons.2 ⟨?_, ?_⟩ | rfl)) (fun H9 hS10 ho11 hk12 => ?_)
  have fo13 := hS4.fnone (Nat.le_refl _)
  have ho15 := (hk12 _ (by have := lt8; omega)).trans ho5
  have hlon011 := hS10.lo
  have lt14 : (n0 + 1) < ((n0 + 1) + 1) := by omega
  refine WL.assign .nil rfl rfl rfl rfl ?_
  with_reducible refine WL.nil ?_
  with_reducible refine Ex.thn_norm ?_
  with_reducible refine W.seq ?_
  with_reducible refine W.seq ?_
  with_reducible refine W.region ?_
  refine WL.fieldAddr .nil rfl rfl rfl Try.underlying50 rfl info9 rfl rfl ?_
  refine WL.load1 .nil rfl rfl rfl Try.underlying9 rfl rfl ho15 rfl ?_
  refine WL.fieldAddr .nil rfl rfl rfl Try.underlying50 rfl info9 rfl rfl ?_
  refine WL.load1 .nil rfl rfl rfl Try.underlying9 rfl rfl ho11 rfl ?_
  refine GL.strCmp .nil rfl rfl rfl rfl rfl (by decide) rfl ?_
  with_reducible refine WL.nil ?_
  with_reducible refine Ex.thn_norm ?_
  refine W.condN (p := lst x1.Name = lst x2.Name) rfl (fun hc17 => ?_) (fun hc17 => ?_)
  · replace hr := ite_neg hr hc17
    with_reducible refine W.seq ?_
    with_reducible refine W.region ?_
    refine WL.assign .nil rfl rfl rfl rfl ?_
    with_reducible refine WL.nil ?_
    with_reducible refine Ex.thn_norm ?_
    with_reducible refine W.ret ?_
    with_reducible refine Ex.thn_ret ?_
    obtain rfl := Option.some.inj hr
    exact ⟨.inr rfl, _, (.cons (.tmp rfl) .nil), ⟨(Ext.st hE0 hS10), rfl⟩⟩
  · replace hr := ite_pos hr hc17
    with_reducible refine W.skip ?_
    with_reducible refine Ex.thn_norm ?_
    with_reducible refine W.seq ?_
    with_reducible refine W.seq ?_
    with_reducible refine W.region ?_
    refine WL.fieldAddr .nil rfl rfl rfl Try.underlying50 rfl info3 rfl rfl ?_
    refine WL.load1 .nil rfl rfl rfl Try.underlying3 rfl rfl ho15 rfl ?_
    refine WL.fieldAddr .nil rfl rfl rfl Try.underlying50 rfl info3 rfl rfl ?_
    refine WL.load1 .nil rfl rfl rfl Try.underlying3 rfl rfl ho11 rfl ?_
    refine WL.bin .nil rfl rfl rfl rfl rfl rfl ?_
    with_reducible refine WL.nil ?_
    with_reducible refine Ex.thn_norm ?_
    refine W.condN rfl (fun hc19 => ?_) (fun hc19 => ?_)
    · replace hr := ite_neg hr hc19
      with_reducible refine W.seq ?_
      with_reducible refine W.region ?_
      refine WL.assign .nil rfl rfl rfl rfl ?_
      with_reducible refine WL.nil ?_
      with_reducible refine Ex.thn_norm ?_
      with_reducible refine W.ret ?_
      with_reducible refine Ex.thn_ret ?_
      obtain rfl := Option.some.inj hr
      exact ⟨.inr rfl, _, (.cons (.tmp rfl) .nil), ⟨(Ext.st hE0 hS10), rfl⟩⟩
    · replace hr := ite_pos hr hc19
      with_reducible refine W.skip ?_
      with_reducible refine Ex.thn_norm ?_
      with_reducible refine W.seq ?_
      with_reducible refine W.seq ?_
      with_reducible refine W.region ?_
      refine WL.fieldAddr .nil rfl rfl rfl Try.underlying50 rfl info9 rfl rfl ?_
      refine WL.load1 .nil rfl rfl rfl Try.underlying9 rfl rfl ho15 rfl ?_
      refine WL.fieldAddr .nil rfl rfl rfl Try.underlying50 rfl info9 rfl rfl ?_
      refine WL.load1 .nil rfl rfl rfl Try.underlying9 rfl rfl ho11 rfl ?_
      refine GL.strCmp .nil rfl rfl rfl rfl rfl (by decide) rfl ?_
      with_reducible refine WL.nil ?_
      with_reducible refine Ex.thn_norm ?_
      refine W.condN (p := lst x1.Text = lst x2.Text) rfl (fun hc20 => ?_) (fun hc20 => ?_)
      · replace hr := ite_neg hr hc20
        with_reducible refine W.seq ?_
        with_reducible refine W.region ?_
        refine WL.assign .nil rfl rfl rfl rfl ?_
        with_reducible refine WL.nil ?_
        with_reducible refine Ex.thn_norm ?_
        with_reducible refine W.ret ?_
        with_reducible refine Ex.thn_ret ?_
        obtain rfl := Option.some.inj hr
        exact ⟨.inr rfl, _, (.cons (.tmp rfl) .nil), ⟨(Ext.st hE0 hS10), rfl⟩⟩
      · replace hr := ite_pos hr hc20
        with_reducible refine W.skip ?_
        with_reducible refine Ex.thn_norm ?_
        with_reducible refine W.seq ?_
        with_reducible refine W.region ?_
        refine WL.assign .nil rfl rfl rfl rfl ?_
        with_reducible refine WL.nil ?_
        with_reducible refine Ex.thn_norm ?_
        with_reducible refine W.ret ?_
        obtain rfl := Option.some.inj hr
        exact ⟨.inr rfl, _, (.cons (.tmp rfl) .nil), ⟨(Ext.st hE0 hS10), rfl⟩⟩
theorem f_laws_eqFileS_k {Δ : Prims} (g : Env Try.prog Δ) {lo n0 : Nat} {H0 F0 : Heap} (hS : St lo n0 H0 F0) {a2 : Option Addr} {cap3 : Nat} {xs1 : (List GFile)} {a6 : Option Addr} {cap7 : Nat} {xs5 : (List GFile)} (h4 : SR F0 (.slice a2 xs1.length cap3) xs1) (h8 : SR F0 (.slice a6 xs5.length cap7) xs5) {res : (Bool)} (hr : f_laws_eqFileS xs1 xs5 = some res) :
    C Try.prog Δ n0 25 [.slice a2 xs1.length cap3, .slice a6 xs5.length cap7] n0 H0 (fun v n H => St n0 n H F0 ∧ v = .bool res) := by
  refine C.body Try.func25 rfl rfl ?_
  unfold f_laws_eqFileS at hr
  have hS0 : St n0 n0 H0 F0 := hS.low (Nat.le_refl _)
  have hE0 := Ext.refl n0 F0
  have hlo0 := hS0.lo
  with_reducible refine W.seq ?_
  with_reducible refine W.region ?_
  refine WL.assign .nil rfl rfl rfl rfl ?_
  with_reducible refine WL.nil ?_
  with_reducible refine Ex.thn_norm ?_
  with_reducible refine W.seq ?_
  with_reducible refine W.seq ?_
  with_reducible refine W.region ?_
  refine WL.move .nil rfl rfl rfl rfl ?_
  refine WL.len .nil rfl rfl rfl Try.underlying23 rfl ?_
  refine WL.move .nil rfl rfl rfl rfl ?_
  refine WL.len .nil rfl rfl rfl Try.underlying23 rfl ?_
  refine WL.bin .nil rfl rfl rfl rfl rfl rfl ?_
  with_reducible refine WL.nil ?_
  with_reducible refine Ex.thn_norm ?_
  refine W.condN rfl (fun hc10 => ?_) (fun hc10 => ?_)
  · replace hr := ite_neg hr hc10
    with_reducible refine W.seq ?_
    with_reducible refine W.region ?_
    refine WL.assign .nil rfl rfl rfl rfl ?_
    with_reducible refine WL.nil ?_
    with_reducible refine Ex.thn_norm ?_
    with_reducible refine W.ret ?_
    with_reducible refine Ex.thn_ret ?_
    obtain rfl := Option.some.inj hr
    exact ⟨.inr rfl, _, (.cons (.tmp rfl) .nil), ⟨(Ext.st hE0 hS0), rfl⟩⟩
  · replace hr := ite_pos hr hc10
    with_reducible refine W.skip ?_
    with_reducible refine Ex.thn_norm ?_
    with_reducible refine W.seq ?_
    with_reducible refine W.seq ?_
    with_reducible refine W.region ?_
    refine WL.assign .nil rfl rfl rfl rfl ?_
    with_reducible refine WL.nil ?_
    with_reducible refine Ex.thn_norm ?_
    with_reducible refine W.block ?_
    refine W.loopF (fun k0 fr n H => ∃ (x139 : Int) (F : Heap), fr = [(0, .slice a2 xs1.length cap3), (1, .slice a6 xs5.length cap7), (5, .int .i64 x139)] ∧ St n0 n H F ∧ Ext n0 F0 n F ∧ SR F (.slice a2 xs1.length cap3) xs1 ∧ SR F (.slice a6 xs5.length cap7) xs5 ∧ f_laws_eqFileS_L0 xs1 xs5 k0 x139 = some res) BIG (fr0 := [(0, .slice a2 xs1.length cap3), (1, .slice a6 xs5.length cap7), (5, .int .i64 0)]) (Fr.le_cons rfl (Fr.le_cons rfl (Fr.le_cons rfl Fr.le_nil))) ?_ ?_ ?_
    · exact ⟨0, F0, rfl, hS0, hE0, h4, h8, hr⟩
    · intro fr n H hI
      obtain ⟨x139, F134, hfr, hS135, hE136, h137, h138, hr⟩ := hI
      rw [f_laws_eqFileS_L0] at hr
      cases hr
    · intro k0 _ n132 H133 hI
      obtain ⟨x139, F134, rfl, hS135, hE136, h137, h138, hr⟩ := hI
      have hlen132 := hE136.le
      have hlon132 := hS135.lo
      rw [f_laws_eqFileS_L0] at hr
      with_reducible refine W.seq ?_
      with_reducible refine W.seq ?_
      with_reducible refine W.region ?_
      refine WL.move .nil rfl rfl rfl rfl ?_
      refine WL.move .nil rfl rfl rfl rfl ?_
      refine WL.len .nil rfl rfl rfl Try.underlying23 rfl ?_
      refine WL.bin .nil rfl rfl rfl rfl rfl rfl ?_
      with_reducible refine WL.nil ?_
      with_reducible refine Ex.thn_norm ?_
      refine W.condD rfl (fun hc141 => ?_) (fun hc141 => ?_)
      · replace hr := ite_pos hr hc141
        with_reducible refine W.skip ?_
        with_reducible refine Ex.thn_norm ?_
        with_reducible refine W.seq ?_
        with_reducible refine W.block ?_
        with_reducible refine W.seq ?_
        refine W.regionD [0, 1, 2, 3, 4, 5, 6, 7, 8, 9] [false, false, false, false, false, false, false, false, false, false] rfl rfl (by kernel_rfl) (by kernel_rfl) (by (conv => lhs; simp only [List.map_cons, List.map_nil, List.getD_cons_zero, List.getD_cons_succ]) <;> rfl) ?_
        refine WL.move .r rfl rfl rfl rfl ?_
        refine WL.move .r rfl rfl rfl rfl ?_
        obtain ⟨x167, hx167, hr⟩ := bnd_some hr
        refine GL.index .r rfl rfl rfl Try.underlying23 info50 rfl rfl h137 hS135.fh rfl hx167 (fun b168 kp169 c170 ecs171 hrow172 hwin173 hR174 => ?_)
        obtain ⟨rfl⟩ := GFile.ofR hR174
        refine WL.loadN .r (l' := [str x167.Name, .int .i64 x167.Version, str x167.Text]) rfl rfl rfl Try.underlying50 rfl info50 rfl hrow172 hwin173 rfl ?_
        refine WL.move .r rfl rfl rfl rfl ?_
        refine WL.move .r rfl rfl rfl rfl ?_
        obtain ⟨x175, hx175, hr⟩ := bnd_some hr
        refine GL.index .r rfl rfl rfl Try.underlying23 info50 rfl rfl h138 hS135.fh rfl hx175 (fun b176 kp177 c178 ecs179 hrow180 hwin181 hR182 => ?_)
        obtain ⟨rfl⟩ := GFile.ofR hR182
        refine WL.loadN .r (l' := [str x175.Name, .int .i64 x175.Version, str x175.Text]) rfl rfl rfl Try.underlying50 rfl info50 rfl hrow180 hwin181 rfl ?_
        obtain ⟨x183, hx183, hr⟩ := bnd_some hr
        refine GL.callP g.good .r rfl rfl rfl rfl rfl rfl Try.func51 rfl rfl (Nat.le_refl _) (f_laws_eqFile_k  g hS135 hx183) (fun v n184 H185 hn186 hk187 hp188 => ?_)
        obtain ⟨hS189, rfl⟩ := hp188
        have hS190 : St n0 n184 H185 F134 := ⟨by have := hS135.lo; omega, hS189.hb, hS189.fh⟩
        have hlon184 := hS190.lo
        refine WL.not .r rfl rfl rfl rfl ?_
        with_reducible refine WL.nil ?_
        with_reducible refine Ex.thn_norm ?_
        refine W.cond rfl (fun hc191 => ?_) (fun hc191 => ?_)
        · replace hr := iteB_pos hr hc191
          with_reducible refine W.seq ?_
          with_reducible refine W.region ?_
          refine WL.assign .nil rfl rfl rfl rfl ?_
          with_reducible refine WL.nil ?_
          with_reducible refine Ex.thn_norm ?_
          with_reducible refine W.ret ?_
          with_reducible refine Ex.blk_ret ?_
          with_reducible refine Ex.thn_ret ?_
          with_reducible refine Ex.thn_ret ?_
          with_reducible refine Ex.blk_ret ?_
          with_reducible refine Ex.thn_ret ?_
          obtain rfl := Option.some.inj hr
          exact ⟨.inr rfl, _, (.cons (.tmp rfl) .nil), ⟨(Ext.st hE136 hS190), rfl⟩⟩
        · replace hr := iteB_neg hr hc191
          with_reducible refine W.skip ?_
          with_reducible refine Ex.blk_norm ?_
          with_reducible refine Ex.thn_norm ?_
          with_reducible refine W.region ?_
          refine WL.move .nil rfl rfl rfl rfl ?_
          obtain ⟨hc192, hr⟩ := chk_some hr
          refine WL.addI .nil rfl rfl rfl rfl rfl hc192.1 hc192.2 ?_
          refine WL.assign .nil rfl rfl rfl rfl ?_
          with_reducible refine WL.nil ?_
          with_reducible refine Ex.thn_norm ?_
          exact ⟨[(0, .slice a2 xs1.length cap3), (1, .slice a6 xs5.length cap7), (5, .int .i64 (x139 + 1))], (Fr.le_cons rfl (Fr.le_cons rfl (Fr.le_cons rfl Fr.le_nil))), (x139 + 1), F134, rfl, hS190, (hE136.up (by omega)), h137, h138, hr⟩
      · replace hr := ite_neg hr hc141
        with_reducible refine W.exit ?_
        with_reducible refine Ex.thn_ex ?_
        with_reducible refine Ex.thn_ex ?_
        with_reducible refine Ex.blk_here ?_
        with_reducible refine Ex.thn_norm ?_
        with_reducible refine W.seq ?_
        with_reducible refine W.region ?_
        refine WL.assign .nil rfl rfl rfl rfl ?_
        with_reducible refine WL.nil ?_
        with_reducible refine Ex.thn_norm ?_
        with_reducible refine W.ret ?_
        obtain rfl := Option.some.inj hr
        exact ⟨.inr rfl, _, (.cons (.tmp rfl) .nil), ⟨(Ext.st hE136 hS135), rfl⟩⟩
theorem f_laws_eqReply_k {Δ : Prims} (g : Env Try.prog Δ) {lo n0 : Nat} {H0 F0 : Heap} (hS : St lo n0 H0 F0) {x1 : GReply} {x2 : GReply} {res : (Bool)} (hr : f_laws_eqReply x1 x2 = some res) :
    C Try.prog Δ n0 69 [.agg [.int .i64 x1.Code, .int .i64 x1.Version, str x1.Sha].toArray, .agg [.int .i64 x2.Code, .int .i64 x2.Version, str x2.Sha].toArray] n0 H0 (fun v n H => St n0 n H F0 ∧ v = .bool res) := by
  refine C.body Try.func69 rfl rfl ?_
  unfold f_laws_eqReply at hr
  have hS0 : St n0 n0 H0 F0 := hS.low (Nat.le_refl _)
  have hE0 := Ext.refl n0 F0
  have hlo0 := hS0.lo
  with_reducible refine W.seq ?_
  with_reducible refine W.region ?_
  refine GL.box hS0 .nil (vc := [.int .i64 x1.Code, .int .i64 x1.Version, str x1.Sha]) rfl rfl rfl rfl rfl (by repeat' (first | exact List.forall_mem_nil _ | refine List.forall_mem_cons.2 ⟨?_, ?_⟩ | rfl)) (fun H3 hS4 ho5 hk6 => ?_)
  have fo7 := hS0.fnone (Nat.le_refl _)
  have hlon01 := hS4.lo
  have lt8 : n0 < (n0 + 1) := by omega
  refine GL.box hS4 .nil (vc := [.int .i64 x2.Code, .int .i64 x2.Version, str x2.Sha]) rfl rfl rfl rfl rfl (by repeat' (first | exact List.forall_mem_nil _ | refine List.forall_mem_cons.2 ⟨?_, ?_⟩ | rfl)) (fun H9 hS10 ho11 hk12 => ?_)
  have fo13 := hS4.fnone (Nat.le_refl _)
  have ho15 := (hk12 _ (by have := lt8; omega)).trans ho5
  have hlon011 := hS10.lo
  have lt14 : (n0 + 1) < ((n0 + 1) + 1) := by omega
  refine WL.assign .nil rfl rfl rfl rfl ?_
  with_reducible refine WL.nil ?_
  with_reducible refine Ex.thn_norm ?_
  with_reducible refine W.seq ?_
  with_reducible refine W.seq ?_
  with_reducible refine W.region ?_
  refine WL.fieldAddr .nil rfl rfl rfl Try.underlying52 rfl info3 rfl rfl ?_
  refine WL.load1 .nil rfl rfl rfl Try.underlying3 rfl rfl ho15 rfl ?_
  refine WL.fieldAddr .nil rfl rfl rfl Try.underlying52 rfl info3 rfl rfl ?_
  refine WL.load1 .nil rfl rfl rfl Try.underlying3 rfl rfl ho11 rfl ?_
  refine WL.bin .nil rfl rfl rfl rfl rfl rfl ?_
  with_reducible refine WL.nil ?_
  with_reducible refine Ex.thn_norm ?_
  refine W.condN rfl (fun hc17 => ?_) (fun hc17 => ?_)
  · replace hr := ite_neg hr hc17
    with_reducible refine W.seq ?_
    with_reducible refine W.region ?_
    refine WL.assign .nil rfl rfl rfl rfl ?_
    with_reducible refine WL.nil ?_
    with_reducible refine Ex.thn_norm ?_
    with_reducible refine W.ret ?_
    with_reducible refine Ex.thn_ret ?_
    obtain rfl := Option.some.inj hr
    exact ⟨.inr rfl, _, (.cons (.tmp rfl) .nil), ⟨(Ext.st hE0 hS10), rfl⟩⟩
  · replace hr := ite_pos hr hc17
    with_reducible refine W.skip ?_
    with_reducible refine Ex.thn_norm ?_
    with_reducible refine W.seq ?_
    with_reducible refine W.seq ?_
    with_reducible refine W.region ?_
    refine WL.fieldAddr .nil rfl rfl rfl Try.underlying52 rfl info3 rfl rfl ?_
    refine WL.load1 .nil rfl rfl rfl Try.underlying3 rfl rfl ho15 rfl ?_
    refine WL.fieldAddr .nil rfl rfl rfl Try.underlying52 rfl info3 rfl rfl ?_
    refine WL.load1 .nil rfl rfl rfl Try.underlying3 rfl rfl ho11 rfl ?_
    refine WL.bin .nil rfl rfl rfl rfl rfl rfl ?_
    with_reducible refine WL.nil ?_
    with_reducible refine Ex.thn_norm ?_
    refine W.condN rfl (fun hc19 => ?_) (fun hc19 => ?_)
    · replace hr := ite_neg hr hc19
      with_reducible refine W.seq ?_
      with_reducible refine W.region ?_
      refine WL.assign .nil rfl rfl rfl rfl ?_
      with_reducible refine WL.nil ?_
      with_reducible refine Ex.thn_norm ?_
      with_reducible refine W.ret ?_
      with_reducible refine Ex.thn_ret ?_
      obtain rfl := Option.some.inj hr
      exact ⟨.inr rfl, _, (.cons (.tmp rfl) .nil), ⟨(Ext.st hE0 hS10), rfl⟩⟩
    · replace hr := ite_pos hr hc19
      with_reducible refine W.skip ?_
      with_reducible refine Ex.thn_norm ?_
      with_reducible refine W.seq ?_
      with_reducible refine W.seq ?_
      with_reducible refine W.region ?_
      refine WL.fieldAddr .nil rfl rfl rfl Try.underlying52 rfl info9 rfl rfl ?_
      refine WL.load1 .nil rfl rfl rfl Try.underlying9 rfl rfl ho15 rfl ?_
      refine WL.fieldAddr .nil rfl rfl rfl Try.underlying52 rfl info9 rfl rfl ?_
      refine WL.load1 .nil rfl rfl rfl Try.underlying9 rfl rfl ho11 rfl ?_
      refine GL.strCmp .nil rfl rfl rfl rfl rfl (by decide) rfl ?_
      with_reducible refine WL.nil ?_
      with_reducible refine Ex.thn_norm ?_
      refine W.condN (p := lst x1.Sha = lst x2.Sha) rfl (fun hc20 => ?_) (fun hc20 => ?_)
      · replace hr := ite_neg hr hc20
        with_reducible refine W.seq ?_
        with_reducible refine W.region ?_
        refine WL.assign .nil rfl rfl rfl rfl ?_
        with_reducible refine WL.nil ?_
        with_reducible refine Ex.thn_norm ?_
        with_reducible refine W.ret ?_
        with_reducible refine Ex.thn_ret ?_
        obtain rfl := Option.some.inj hr
        exact ⟨.inr rfl, _, (.cons (.tmp rfl) .nil), ⟨(Ext.st hE0 hS10), rfl⟩⟩
      · replace hr := ite_pos hr hc20
        with_reducible refine W.skip ?_
        with_reducible refine Ex.thn_norm ?_
        with_reducible refine W.seq ?_
        with_reducible refine W.region ?_
        refine WL.assign .nil rfl rfl rfl rfl ?_
        with_reducible refine WL.nil ?_
        with_reducible refine Ex.thn_norm ?_
        with_reducible refine W.ret ?_
        obtain rfl := Option.some.inj hr
        exact ⟨.inr rfl, _, (.cons (.tmp rfl) .nil), ⟨(Ext.st hE0 hS10), rfl⟩⟩
theorem f_laws_eqSession_k {Δ : Prims} (g : Env Try.prog Δ) {lo n0 : Nat} {H0 F0 : Heap} (hS : St lo n0 H0 F0) {x1 : GSession} {x2 : GSession} {res : (Bool)} (hr : f_laws_eqSession x1 x2 = some res) :
    C Try.prog Δ n0 52 [.agg [.int .i64 x1.Client, .int .i64 x1.Seq, .int .i64 x1.Reply.Code, .int .i64 x1.Reply.Version, str x1.Reply.Sha].toArray, .agg [.int .i64 x2.Client, .int .i64 x2.Seq, .int .i64 x2.Reply.Code, .int .i64 x2.Reply.Version, str x2.Reply.Sha].toArray] n0 H0 (fun v n H => St n0 n H F0 ∧ v = .bool res) := by
  refine C.body Try.func52 rfl rfl ?_
  unfold f_laws_eqSession at hr
  have hS0 : St n0 n0 H0 F0 := hS.low (Nat.le_refl _)
  have hE0 := Ext.refl n0 F0
  have hlo0 := hS0.lo
  with_reducible refine W.seq ?_
  with_reducible refine W.region ?_
  refine GL.box hS0 .nil (vc := [.int .i64 x1.Client, .int .i64 x1.Seq, .int .i64 x1.Reply.Code, .int .i64 x1.Reply.Version, str x1.Reply.Sha]) rfl rfl rfl rfl rfl (by repeat' (first | exact List.forall_mem_nil _ | refine List.forall_mem_cons.2 ⟨?_, ?_⟩ | rfl)) (fun H3 hS4 ho5 hk6 => ?_)
  have fo7 := hS0.fnone (Nat.le_refl _)
  have hlon01 := hS4.lo
  have lt8 : n0 < (n0 + 1) := by omega
  refine GL.box hS4 .nil (vc := [.int .i64 x2.Client, .int .i64 x2.Seq, .int .i64 x2.Reply.Code, .int .i64 x2.Reply.Version, str x2.Reply.Sha]) rfl rfl rfl rfl rfl (by repeat' (first | exact List.forall_mem_nil _ | refine List.forall_mem_cons.2 ⟨?_, ?_⟩ | rfl)) (fun H9 hS10 ho11 hk12 => ?_)
  have fo13 := hS4.fnone (Nat.le_refl _)
  have ho15 := (hk12 _ (by have := lt8; omega)).trans ho5
  have hlon011 := hS10.lo
  have lt14 : (n0 + 1) < ((n0 + 1) + 1) := by omega
  refine WL.assign .nil rfl rfl rfl rfl ?_
  with_reducible refine WL.nil ?_
  with_reducible refine Ex.thn_norm ?_
  with_reducible refine W.seq ?_
  with_reducible refine W.seq ?_
  with_reducible refine W.region ?_
  refine WL.fieldAddr .nil rfl rfl rfl Try.underlying54 rfl info3 rfl rfl ?_
  refine WL.load1 .nil rfl rfl rfl Try.underlying3 rfl rfl ho15 rfl ?_
  refine WL.fieldAddr .nil rfl rfl rfl Try.underlying54 rfl info3 rfl rfl ?_
  refine WL.load1 .nil rfl rfl rfl Try.underlying3 rfl rfl ho11 rfl ?_
  refine WL.bin .nil rfl rfl rfl rfl rfl rfl ?_
  with_reducible refine WL.nil ?_
  with_reducible refine Ex.thn_norm ?_
  refine W.condN rfl (fun hc17 => ?_) (fun hc17 => ?_)
  · replace hr := ite_neg hr hc17
    with_reducible refine W.seq ?_
    with_reducible refine W.region ?_
    refine WL.assign .nil rfl rfl rfl rfl ?_
    with_reducible refine WL.nil ?_
    with_reducible refine Ex.thn_norm ?_
    with_reducible refine W.ret ?_
    with_reducible refine Ex.thn_ret ?_
    obtain rfl := Option.some.inj hr
    exact ⟨.inr rfl, _, (.cons (.tmp rfl) .nil), ⟨(Ext.st hE0 hS10), rfl⟩⟩
  · replace hr := ite_pos hr hc17
    with_reducible refine W.skip ?_
    with_reducible refine Ex.thn_norm ?_
    with_reducible refine W.seq ?_
    with_reducible refine W.seq ?_
    with_reducible refine W.region ?_
    refine WL.fieldAddr .nil rfl rfl rfl Try.underlying54 rfl info3 rfl rfl ?_
    refine WL.load1 .nil rfl rfl rfl Try.underlying3 rfl rfl ho15 rfl ?_
    refine WL.fieldAddr .nil rfl rfl rfl Try.underlying54 rfl info3 rfl rfl ?_
    refine WL.load1 .nil rfl rfl rfl Try.underlying3 rfl rfl ho11 rfl ?_
    refine WL.bin .nil rfl rfl rfl rfl rfl rfl ?_
    with_reducible refine WL.nil ?_
    with_reducible refine Ex.thn_norm ?_
    refine W.condN rfl (fun hc19 => ?_) (fun hc19 => ?_)
    · replace hr := ite_neg hr hc19
      with_reducible refine W.seq ?_
      with_reducible refine W.region ?_
      refine WL.assign .nil rfl rfl rfl rfl ?_
      with_reducible refine WL.nil ?_
      with_reducible refine Ex.thn_norm ?_
      with_reducible refine W.ret ?_
      with_reducible refine Ex.thn_ret ?_
      obtain rfl := Option.some.inj hr
      exact ⟨.inr rfl, _, (.cons (.tmp rfl) .nil), ⟨(Ext.st hE0 hS10), rfl⟩⟩
    · replace hr := ite_pos hr hc19
      with_reducible refine W.skip ?_
      with_reducible refine Ex.thn_norm ?_
      with_reducible refine W.seq ?_
      with_reducible refine W.seq ?_
      with_reducible refine W.region ?_
      refine WL.fieldAddr .nil rfl rfl rfl Try.underlying54 rfl info52 rfl rfl ?_
      refine WL.loadN .nil (l' := [.int .i64 x1.Reply.Code, .int .i64 x1.Reply.Version, str x1.Reply.Sha]) rfl rfl rfl Try.underlying52 rfl info52 rfl ho15 rfl rfl ?_
      refine WL.fieldAddr .nil rfl rfl rfl Try.underlying54 rfl info52 rfl rfl ?_
      refine WL.loadN .nil (l' := [.int .i64 x2.Reply.Code, .int .i64 x2.Reply.Version, str x2.Reply.Sha]) rfl rfl rfl Try.underlying52 rfl info52 rfl ho11 rfl rfl ?_
      obtain ⟨x20, hx20, hr⟩ := bnd_some hr
      refine GL.callP g.good .nil rfl rfl rfl rfl rfl rfl Try.func69 rfl rfl hS10.lo (f_laws_eqReply_k  g hS10 hx20) (fun v n21 H22 hn23 hk24 hp25 => ?_)
      obtain ⟨hS26, rfl⟩ := hp25
      have ho27 := (hk24 _ (by have := lt8; omega)).trans ho15
      have ho28 := (hk24 _ (by have := lt14; omega)).trans ho11
      have hS29 : St n0 n21 H22 F0 := ⟨by have := hS10.lo; omega, hS26.hb, hS26.fh⟩
      have hlon21 := hS29.lo
      refine WL.not .nil rfl rfl rfl rfl ?_
      with_reducible refine WL.nil ?_
      with_reducible refine Ex.thn_norm ?_
      refine W.cond rfl (fun hc30 => ?_) (fun hc30 => ?_)
      · replace hr := iteB_pos hr hc30
        with_reducible refine W.seq ?_
        with_reducible refine W.region ?_
        refine WL.assign .nil rfl rfl rfl rfl ?_
        with_reducible refine WL.nil ?_
        with_reducible refine Ex.thn_norm ?_
        with_reducible refine W.ret ?_
        with_reducible refine Ex.thn_ret ?_
        obtain rfl := Option.some.inj hr
        exact ⟨.inr rfl, _, (.cons (.tmp rfl) .nil), ⟨(Ext.st hE0 hS29), rfl⟩⟩
      · replace hr := iteB_neg hr hc30
        with_reducible refine W.skip ?_
        with_reducible refine Ex.thn_norm ?_
        with_reducible refine W.seq ?_
        with_reducible refine W.region ?_
        refine WL.assign .nil rfl rfl rfl rfl ?_
        with_reducible refine WL.nil ?_
        with_reducible refine Ex.thn_norm ?_
        with_reducible refine W.ret ?_
        obtain rfl := Option.some.inj hr
        exact ⟨.inr rfl, _, (.cons (.tmp rfl) .nil), ⟨(Ext.st hE0 hS29), rfl⟩⟩
theorem f_laws_eqSessionS_k {Δ : Prims} (g : Env Try.prog Δ) {lo n0 : Nat} {H0 F0 : Heap} (hS : St lo n0 H0 F0) {a2 : Option Addr} {cap3 : Nat} {xs1 : (List GSession)} {a6 : Option Addr} {cap7 : Nat} {xs5 : (List GSession)} (h4 : SR F0 (.slice a2 xs1.length cap3) xs1) (h8 : SR F0 (.slice a6 xs5.length cap7) xs5) {res : (Bool)} (hr : f_laws_eqSessionS xs1 xs5 = some res) :
    C Try.prog Δ n0 26 [.slice a2 xs1.length cap3, .slice a6 xs5.length cap7] n0 H0 (fun v n H => St n0 n H F0 ∧ v = .bool res) := by
  refine C.body Try.func26 rfl rfl ?_
  unfold f_laws_eqSessionS at hr
  have hS0 : St n0 n0 H0 F0 := hS.low (Nat.le_refl _)
  have hE0 := Ext.refl n0 F0
  have hlo0 := hS0.lo
  with_reducible refine W.seq ?_
  with_reducible refine W.region ?_
  refine WL.assign .nil rfl rfl rfl rfl ?_
  with_reducible refine WL.nil ?_
  with_reducible refine Ex.thn_norm ?_
  with_reducible refine W.seq ?_
  with_reducible refine W.seq ?_
  with_reducible refine W.region ?_
  refine WL.move .nil rfl rfl rfl rfl ?_
  refine WL.len .nil rfl rfl rfl Try.underlying24 rfl ?_
  refine WL.move .nil rfl rfl rfl rfl ?_
  refine WL.len .nil rfl rfl rfl Try.underlying24 rfl ?_
  refine WL.bin .nil rfl rfl rfl rfl rfl rfl ?_
  with_reducible refine WL.nil ?_
  with_reducible refine Ex.thn_norm ?_
  refine W.condN rfl (fun hc10 => ?_) (fun hc10 => ?_)
  · replace hr := ite_neg hr hc10
    with_reducible refine W.seq ?_
    with_reducible refine W.region ?_
    refine WL.assign .nil rfl rfl rfl rfl ?_
    with_reducible refine WL.nil ?_
    with_reducible refine Ex.thn_norm ?_
    with_reducible refine W.ret ?_
    with_reducible refine Ex.thn_ret ?_
    obtain rfl := Option.some.inj hr
    exact ⟨.inr rfl, _, (.cons (.tmp rfl) .nil), ⟨(Ext.st hE0 hS0), rfl⟩⟩
  · replace hr := ite_pos hr hc10
    with_reducible refine W.skip ?_
    with_reducible refine Ex.thn_norm ?_
    with_reducible refine W.seq ?_
    with_reducible refine W.seq ?_
    with_reducible refine W.region ?_
    refine WL.assign .nil rfl rfl rfl rfl ?_
    with_reducible refine WL.nil ?_
    with_reducible refine Ex.thn_norm ?_
    with_reducible refine W.block ?_
    refine W.loopF (fun k0 fr n H => ∃ (x139 : Int) (F : Heap), fr = [(0, .slice a2 xs1.length cap3), (1, .slice a6 xs5.length cap7), (5, .int .i64 x139)] ∧ St n0 n H F ∧ Ext n0 F0 n F ∧ SR F (.slice a2 xs1.length cap3) xs1 ∧ SR F (.slice a6 xs5.length cap7) xs5 ∧ f_laws_eqSessionS_L0 xs1 xs5 k0 x139 = some res) BIG (fr0 := [(0, .slice a2 xs1.length cap3), (1, .slice a6 xs5.length cap7), (5, .int .i64 0)]) (Fr.le_cons rfl (Fr.le_cons rfl (Fr.le_cons rfl Fr.le_nil))) ?_ ?_ ?_
    · exact ⟨0, F0, rfl, hS0, hE0, h4, h8, hr⟩
    · intro fr n H hI
      obtain ⟨x139, F134, hfr, hS135, hE136, h137, h138, hr⟩ := hI
      rw [f_laws_eqSessionS_L0] at hr
      cases hr
    · intro k0 _ n132 H133 hI
      obtain ⟨x139, F134, rfl, hS135, hE136, h137, h138, hr⟩ := hI
      have hlen132 := hE136.le
      have hlon132 := hS135.lo
      rw [f_laws_eqSessionS_L0] at hr
      with_reducible refine W.seq ?_
      with_reducible refine W.seq ?_
      with_reducible refine W.region ?_
      refine WL.move .nil rfl rfl rfl rfl ?_
      refine WL.move .nil rfl rfl rfl rfl ?_
      refine WL.len .nil rfl rfl rfl Try.underlying24 rfl ?_
      refine WL.bin .nil rfl rfl rfl rfl rfl rfl ?_
      with_reducible refine WL.nil ?_
      with_reducible refine Ex.thn_norm ?_
      refine W.condD rfl (fun hc141 => ?_) (fun hc141 => ?_)
      · replace hr := ite_pos hr hc141
        with_reducible refine W.skip ?_
        with_reducible refine Ex.thn_norm ?_
        with_reducible refine W.seq ?_
        with_reducible refine W.block ?_
        with_reducible refine W.seq ?_
        refine W.regionD [0, 1, 2, 3, 4, 5, 6, 7, 8, 9] [false, false, false, false, false, false, false, false, false, false] rfl rfl (by kernel_rfl) (by kernel_rfl) (by (conv => lhs; simp only [List.map_cons, List.map_nil, List.getD_cons_zero, List.getD_cons_succ]) <;> rfl) ?_
        refine WL.move .r rfl rfl rfl rfl ?_
        refine WL.move .r rfl rfl rfl rfl ?_
        obtain ⟨x167, hx167, hr⟩ := bnd_some hr
        refine GL.index .r rfl rfl rfl Try.underlying24 info54 rfl rfl h137 hS135.fh rfl hx167 (fun b168 kp169 c170 ecs171 hrow172 hwin173 hR174 => ?_)
        obtain ⟨rfl⟩ := GSession.ofR hR174
        refine WL.loadN .r (l' := [.int .i64 x167.Client, .int .i64 x167.Seq, .int .i64 x167.Reply.Code, .int .i64 x167.Reply.Version, str x167.Reply.Sha]) rfl rfl rfl Try.underlying54 rfl info54 rfl hrow172 hwin173 rfl ?_
        refine WL.move .r rfl rfl rfl rfl ?_
        refine WL.move .r rfl rfl rfl rfl ?_
        obtain ⟨x175, hx175, hr⟩ := bnd_some hr
        refine GL.index .r rfl rfl rfl Try.underlying24 info54 rfl rfl h138 hS135.fh rfl hx175 (fun b176 kp177 c178 ecs179 hrow180 hwin181 hR182 => ?_)
        obtain ⟨rfl⟩ := GSession.ofR hR182
        refine WL.loadN .r (l' := [.int .i64 x175.Client, .int .i64 x175.Seq, .int .i64 x175.Reply.Code, .int .i64 x175.Reply.Version, str x175.Reply.Sha]) rfl rfl rfl Try.underlying54 rfl info54 rfl hrow180 hwin181 rfl ?_
        obtain ⟨x183, hx183, hr⟩ := bnd_some hr
        refine GL.callP g.good .r rfl rfl rfl rfl rfl rfl Try.func52 rfl rfl (Nat.le_refl _) (f_laws_eqSession_k  g hS135 hx183) (fun v n184 H185 hn186 hk187 hp188 => ?_)
        obtain ⟨hS189, rfl⟩ := hp188
        have hS190 : St n0 n184 H185 F134 := ⟨by have := hS135.lo; omega, hS189.hb, hS189.fh⟩
        have hlon184 := hS190.lo
        refine WL.not .r rfl rfl rfl rfl ?_
        with_reducible refine WL.nil ?_
        with_reducible refine Ex.thn_norm ?_
        refine W.cond rfl (fun hc191 => ?_) (fun hc191 => ?_)
        · replace hr := iteB_pos hr hc191
          with_reducible refine W.seq ?_
          with_reducible refine W.region ?_
          refine WL.assign .nil rfl rfl rfl rfl ?_
          with_reducible refine WL.nil ?_
          with_reducible refine Ex.thn_norm ?_
          with_reducible refine W.ret ?_
          with_reducible refine Ex.blk_ret ?_
          with_reducible refine Ex.thn_ret ?_
          with_reducible refine Ex.thn_ret ?_
          with_reducible refine Ex.blk_ret ?_
          with_reducible refine Ex.thn_ret ?_
          obtain rfl := Option.some.inj hr
          exact ⟨.inr rfl, _, (.cons (.tmp rfl) .nil), ⟨(Ext.st hE136 hS190), rfl⟩⟩
        · replace hr := iteB_neg hr hc191
          with_reducible refine W.skip ?_
          with_reducible refine Ex.blk_norm ?_
          with_reducible refine Ex.thn_norm ?_
          with_reducible refine W.region ?_
          refine WL.move .nil rfl rfl rfl rfl ?_
          obtain ⟨hc192, hr⟩ := chk_some hr
          refine WL.addI .nil rfl rfl rfl rfl rfl hc192.1 hc192.2 ?_
          refine WL.assign .nil rfl rfl rfl rfl ?_
          with_reducible refine WL.nil ?_
          with_reducible refine Ex.thn_norm ?_
          exact ⟨[(0, .slice a2 xs1.length cap3), (1, .slice a6 xs5.length cap7), (5, .int .i64 (x139 + 1))], (Fr.le_cons rfl (Fr.le_cons rfl (Fr.le_cons rfl Fr.le_nil))), (x139 + 1), F134, rfl, hS190, (hE136.up (by omega)), h137, h138, hr⟩
      · replace hr := ite_neg hr hc141
        with_reducible refine W.exit ?_
        with_reducible refine Ex.thn_ex ?_
        with_reducible refine Ex.thn_ex ?_
        with_reducible refine Ex.blk_here ?_
        with_reducible refine Ex.thn_norm ?_
        with_reducible refine W.seq ?_
        with_reducible refine W.region ?_
        refine WL.assign .nil rfl rfl rfl rfl ?_
        with_reducible refine WL.nil ?_
        with_reducible refine Ex.thn_norm ?_
        with_reducible refine W.ret ?_
        obtain rfl := Option.some.inj hr
        exact ⟨.inr rfl, _, (.cons (.tmp rfl) .nil), ⟨(Ext.st hE136 hS135), rfl⟩⟩
theorem f_laws_eqState_k {Δ : Prims} (g : Env Try.prog Δ) {lo n0 : Nat} {H0 F0 : Heap} (hS : St lo n0 H0 F0) {x1 : GState} {a2 : Option Addr} {cap3 : Nat} {a5 : Option Addr} {cap6 : Nat} {x8 : GState} {a9 : Option Addr} {cap10 : Nat} {a12 : Option Addr} {cap13 : Nat} (h4 : SR F0 (.slice a2 x1.Files.length cap3) x1.Files) (h7 : SR F0 (.slice a5 x1.Sessions.length cap6) x1.Sessions) (h11 : SR F0 (.slice a9 x8.Files.length cap10) x8.Files) (h14 : SR F0 (.slice a12 x8.Sessions.length cap13) x8.Sessions) {res : (Bool)} (hr : f_laws_eqState x1 x8 = some res) :
    C Try.prog Δ n0 8 [.agg [.slice a2 x1.Files.length cap3, .slice a5 x1.Sessions.length cap6].toArray, .agg [.slice a9 x8.Files.length cap10, .slice a12 x8.Sessions.length cap13].toArray] n0 H0 (fun v n H => St n0 n H F0 ∧ v = .bool res) := by
  refine C.body Try.func8 rfl rfl ?_
  unfold f_laws_eqState at hr
  have hS0 : St n0 n0 H0 F0 := hS.low (Nat.le_refl _)
  have hE0 := Ext.refl n0 F0
  have hlo0 := hS0.lo
  with_reducible refine W.seq ?_
  with_reducible refine W.region ?_
  refine GL.box hS0 .nil (vc := [.slice a2 x1.Files.length cap3, .slice a5 x1.Sessions.length cap6]) rfl rfl rfl rfl rfl (by repeat' (first | exact List.forall_mem_nil _ | refine List.forall_mem_cons.2 ⟨?_, ?_⟩ | rfl)) (fun H15 hS16 ho17 hk18 => ?_)
  have fo19 := hS0.fnone (Nat.le_refl _)
  have hlon01 := hS16.lo
  have lt20 : n0 < (n0 + 1) := by omega
  refine GL.box hS16 .nil (vc := [.slice a9 x8.Files.length cap10, .slice a12 x8.Sessions.length cap13]) rfl rfl rfl rfl rfl (by repeat' (first | exact List.forall_mem_nil _ | refine List.forall_mem_cons.2 ⟨?_, ?_⟩ | rfl)) (fun H21 hS22 ho23 hk24 => ?_)
  have fo25 := hS16.fnone (Nat.le_refl _)
  have ho27 := (hk24 _ (by have := lt20; omega)).trans ho17
  have hlon011 := hS22.lo
  have lt26 : (n0 + 1) < ((n0 + 1) + 1) := by omega
  refine WL.assign .nil rfl rfl rfl rfl ?_
  with_reducible refine WL.nil ?_
  with_reducible refine Ex.thn_norm ?_
  with_reducible refine W.seq ?_
  with_reducible refine W.seq ?_
  with_reducible refine W.region ?_
  refine WL.fieldAddr .nil rfl rfl rfl Try.underlying26 rfl info23 rfl rfl ?_
  refine WL.load1 .nil rfl rfl rfl Try.underlying23 rfl rfl ho27 rfl ?_
  refine WL.fieldAddr .nil rfl rfl rfl Try.underlying26 rfl info23 rfl rfl ?_
  refine WL.load1 .nil rfl rfl rfl Try.underlying23 rfl rfl ho23 rfl ?_
  obtain ⟨x28, hx28, hr⟩ := bnd_some hr
  refine GL.callP g.good .nil rfl rfl rfl rfl rfl rfl Try.func25 rfl rfl hS22.lo (f_laws_eqFileS_k  g hS22 h4 h11 hx28) (fun v n29 H30 hn31 hk32 hp33 => ?_)
  obtain ⟨hS34, rfl⟩ := hp33
  have ho35 := (hk32 _ (by have := lt20; omega)).trans ho27
  have ho36 := (hk32 _ (by have := lt26; omega)).trans ho23
  have hS37 : St n0 n29 H30 F0 := ⟨by have := hS22.lo; omega, hS34.hb, hS34.fh⟩
  have hlon29 := hS37.lo
  refine WL.not .nil rfl rfl rfl rfl ?_
  with_reducible refine WL.nil ?_
  with_reducible refine Ex.thn_norm ?_
  refine W.cond rfl (fun hc39 => ?_) (fun hc39 => ?_)
  · replace hr := iteB_pos hr hc39
    with_reducible refine W.seq ?_
    with_reducible refine W.region ?_
    refine WL.assign .nil rfl rfl rfl rfl ?_
    with_reducible refine WL.nil ?_
    with_reducible refine Ex.thn_norm ?_
    with_reducible refine W.ret ?_
    with_reducible refine Ex.thn_ret ?_
    obtain rfl := Option.some.inj hr
    exact ⟨.inr rfl, _, (.cons (.tmp rfl) .nil), ⟨(Ext.st hE0 hS37), rfl⟩⟩
  · replace hr := iteB_neg hr hc39
    with_reducible refine W.skip ?_
    with_reducible refine Ex.thn_norm ?_
    with_reducible refine W.seq ?_
    with_reducible refine W.seq ?_
    with_reducible refine W.region ?_
    refine WL.fieldAddr .nil rfl rfl rfl Try.underlying26 rfl info24 rfl rfl ?_
    refine WL.load1 .nil rfl rfl rfl Try.underlying24 rfl rfl ho35 rfl ?_
    refine WL.fieldAddr .nil rfl rfl rfl Try.underlying26 rfl info24 rfl rfl ?_
    refine WL.load1 .nil rfl rfl rfl Try.underlying24 rfl rfl ho36 rfl ?_
    obtain ⟨x40, hx40, hr⟩ := bnd_some hr
    refine GL.callP g.good .nil rfl rfl rfl rfl rfl rfl Try.func26 rfl rfl hS37.lo (f_laws_eqSessionS_k  g hS37 h7 h14 hx40) (fun v n41 H42 hn43 hk44 hp45 => ?_)
    obtain ⟨hS46, rfl⟩ := hp45
    have ho47 := (hk44 _ (by have := lt20; omega)).trans ho35
    have ho48 := (hk44 _ (by have := lt26; omega)).trans ho36
    have hS49 : St n0 n41 H42 F0 := ⟨by have := hS37.lo; omega, hS46.hb, hS46.fh⟩
    have hlon41 := hS49.lo
    refine WL.not .nil rfl rfl rfl rfl ?_
    with_reducible refine WL.nil ?_
    with_reducible refine Ex.thn_norm ?_
    refine W.cond rfl (fun hc50 => ?_) (fun hc50 => ?_)
    · replace hr := iteB_pos hr hc50
      with_reducible refine W.seq ?_
      with_reducible refine W.region ?_
      refine WL.assign .nil rfl rfl rfl rfl ?_
      with_reducible refine WL.nil ?_
      with_reducible refine Ex.thn_norm ?_
      with_reducible refine W.ret ?_
      with_reducible refine Ex.thn_ret ?_
      obtain rfl := Option.some.inj hr
      exact ⟨.inr rfl, _, (.cons (.tmp rfl) .nil), ⟨(Ext.st hE0 hS49), rfl⟩⟩
    · replace hr := iteB_neg hr hc50
      with_reducible refine W.skip ?_
      with_reducible refine Ex.thn_norm ?_
      with_reducible refine W.seq ?_
      with_reducible refine W.region ?_
      refine WL.assign .nil rfl rfl rfl rfl ?_
      with_reducible refine WL.nil ?_
      with_reducible refine Ex.thn_norm ?_
      with_reducible refine W.ret ?_
      obtain rfl := Option.some.inj hr
      exact ⟨.inr rfl, _, (.cons (.tmp rfl) .nil), ⟨(Ext.st hE0 hS49), rfl⟩⟩
theorem f_laws_markText_k {Δ : Prims} (g : Env Try.prog Δ) {lo n0 : Nat} {H0 F0 : Heap} (hS : St lo n0 H0 F0) {x1 : Int} {res : (Str)} (hr : f_laws_markText x1 = some res) :
    C Try.prog Δ n0 53 [.int .i64 x1] n0 H0 (fun v n H => St n0 n H F0 ∧ v = str res) := by
  refine C.body Try.func53 rfl rfl ?_
  unfold f_laws_markText at hr
  have hS0 : St n0 n0 H0 F0 := hS.low (Nat.le_refl _)
  have hE0 := Ext.refl n0 F0
  have hlo0 := hS0.lo
  with_reducible refine W.seq ?_
  with_reducible refine W.region ?_
  refine WL.assign .nil rfl rfl rfl rfl ?_
  with_reducible refine WL.nil ?_
  with_reducible refine Ex.thn_norm ?_
  with_reducible refine W.seq ?_
  with_reducible refine W.seq ?_
  with_reducible refine W.region ?_
  refine WL.move .nil rfl rfl rfl rfl ?_
  refine WL.bin .nil rfl rfl rfl rfl rfl rfl ?_
  with_reducible refine WL.nil ?_
  with_reducible refine Ex.thn_norm ?_
  refine W.condD rfl (fun hc3 => ?_) (fun hc3 => ?_)
  · replace hr := ite_pos hr hc3
    with_reducible refine W.seq ?_
    with_reducible refine W.region ?_
    refine WL.assign .nil rfl rfl rfl rfl ?_
    with_reducible refine WL.nil ?_
    with_reducible refine Ex.thn_norm ?_
    with_reducible refine W.ret ?_
    with_reducible refine Ex.thn_ret ?_
    obtain rfl := Option.some.inj hr
    exact ⟨.inr rfl, _, (.cons (.tmp rfl) .nil), ⟨(Ext.st hE0 hS0), rfl⟩⟩
  · replace hr := ite_neg hr hc3
    with_reducible refine W.skip ?_
    with_reducible refine Ex.thn_norm ?_
    with_reducible refine W.seq ?_
    with_reducible refine W.region ?_
    refine WL.assign .nil rfl rfl rfl rfl ?_
    with_reducible refine WL.nil ?_
    with_reducible refine Ex.thn_norm ?_
    with_reducible refine W.seq ?_
    with_reducible refine W.block ?_
    refine W.loopF (fun k0 fr n H => ∃ (x100 : Int) (x101 : Str) (F : Heap), fr = [(0, .int .i64 x100), (3, str x101)] ∧ St n0 n H F ∧ Ext n0 F0 n F ∧ f_laws_markText_L0 k0 x100 x101 = some res) BIG (fr0 := [(0, .int .i64 x1), (3, str ([] : List UInt8))]) (Fr.le_cons rfl (Fr.le_cons rfl Fr.le_nil)) ?_ ?_ ?_
    · exact ⟨x1, ([] : List UInt8), F0, rfl, hS0, hE0, hr⟩
    · intro fr n H hI
      obtain ⟨x100, x101, F97, hfr, hS98, hE99, hr⟩ := hI
      rw [f_laws_markText_L0] at hr
      cases hr
    · intro k0 _ n95 H96 hI
      obtain ⟨x100, x101, F97, rfl, hS98, hE99, hr⟩ := hI
      have hlen95 := hE99.le
      have hlon95 := hS98.lo
      rw [f_laws_markText_L0] at hr
      with_reducible refine W.seq ?_
      with_reducible refine W.seq ?_
      with_reducible refine W.region ?_
      refine WL.move .nil rfl rfl rfl rfl ?_
      refine WL.bin .nil rfl rfl rfl rfl rfl rfl ?_
      with_reducible refine WL.nil ?_
      with_reducible refine Ex.thn_norm ?_
      refine W.condD rfl (fun hc103 => ?_) (fun hc103 => ?_)
      · replace hr := ite_pos hr hc103
        with_reducible refine W.skip ?_
        with_reducible refine Ex.thn_norm ?_
        with_reducible refine W.block ?_
        with_reducible refine W.seq ?_
        with_reducible refine W.region ?_
        refine WL.move .nil rfl rfl rfl rfl ?_
        obtain ⟨hc104, hr⟩ := chk_some hr
        refine WL.remI .nil rfl rfl rfl rfl rfl hc104.1 hc104.2 ?_
        obtain ⟨hc105, hr⟩ := chk_some hr
        refine WL.addI .nil rfl rfl rfl rfl rfl hc105.1 hc105.2 ?_
        refine WL.convB .nil rfl rfl rfl Try.underlying3 Try.underlying5 rfl ?_
        refine GL.lit (cs := [u8 (byteOf ((48 : Int) + (x100 % 10)))]) (xs := ([(byteOf ((48 : Int) + (x100 % 10)))] : List UInt8)) hS98 .nil rfl rfl rfl Try.underlying22 info5 rfl rfl rfl (by decide) (by decide) rfl rfl rfl rfl rfl (RA.cons (cs := [u8 (byteOf ((48 : Int) + (x100 % 10)))]) (a := ((byteOf ((48 : Int) + (x100 % 10))) : UInt8)) rfl RA.nil) rfl (fun H106 hS107 hO108 hk109 => ?_)
        have h110 := OW.lower (lo' := n0) hO108 (by omega)
        have hlon951 := hS107.lo
        refine GL.toStr .nil rfl rfl rfl Try.underlying22 Try.underlying9 Try.underlying5 rfl (OW.sr h110 hS107.fh) (Heap.Le.refl _) ?_
        refine WL.move .nil rfl rfl rfl rfl ?_
        obtain ⟨hc112, hr⟩ := chk_some hr
        refine GL.strAdd .nil rfl rfl rfl rfl rfl hc112 ?_
        refine WL.assign .nil rfl rfl rfl rfl ?_
        with_reducible refine WL.nil ?_
        with_reducible refine Ex.thn_norm ?_
        with_reducible refine W.region ?_
        refine WL.move .nil rfl rfl rfl rfl ?_
        obtain ⟨hc113, hr⟩ := chk_some hr
        refine WL.quoI .nil rfl rfl rfl rfl rfl hc113.1 hc113.2.1 hc113.2.2 ?_
        refine WL.assign .nil rfl rfl rfl rfl ?_
        with_reducible refine WL.nil ?_
        with_reducible refine Ex.blk_norm ?_
        with_reducible refine Ex.thn_norm ?_
        exact ⟨[(0, .int .i64 (x100 / 10)), (3, str (lst ([(byteOf ((48 : Int) + (x100 % 10)))] : List UInt8) ++ lst x101))], (Fr.le_cons rfl (Fr.le_cons rfl Fr.le_nil)), (x100 / 10), (lst ([(byteOf ((48 : Int) + (x100 % 10)))] : List UInt8) ++ lst x101), F97, rfl, hS107, (hE99.up (by omega)), hr⟩
      · replace hr := ite_neg hr hc103
        with_reducible refine W.exit ?_
        with_reducible refine Ex.thn_ex ?_
        with_reducible refine Ex.thn_ex ?_
        with_reducible refine Ex.blk_here ?_
        with_reducible refine Ex.thn_norm ?_
        with_reducible refine W.seq ?_
        with_reducible refine W.region ?_
        refine WL.move .nil rfl rfl rfl rfl ?_
        obtain ⟨hc114, hr⟩ := chk_some hr
        refine GL.strAdd .nil rfl rfl rfl rfl rfl hc114 ?_
        refine WL.assign .nil rfl rfl rfl rfl ?_
        with_reducible refine WL.nil ?_
        with_reducible refine Ex.thn_norm ?_
        with_reducible refine W.ret ?_
        obtain rfl := Option.some.inj hr
        exact ⟨.inr rfl, _, (.cons (.tmp rfl) .nil), ⟨(Ext.st hE99 hS98), rfl⟩⟩
theorem f_laws_markFileS_k {Δ : Prims} (g : Env Try.prog Δ) {lo n0 : Nat} {H0 F0 : Heap} (hS : St lo n0 H0 F0) {a2 : Option Addr} {cap3 : Nat} {xs1 : (List GFile)} {x6 : Int} (h4 : OW lo n0 H0 F0 (.slice a2 xs1.length cap3) xs1) {res : ((List GFile) × Int)} (hr : f_laws_markFileS xs1 x6 = some res) :
    C Try.prog Δ lo 27 [.slice a2 xs1.length cap3, .int .i64 x6] n0 H0 (fun v n H => ∃ (F : Heap), Ext n0 F0 n F ∧ St lo n H F ∧ OW lo n H F (.slice a2 xs1.length cap3) res.1 ∧ xs1.length = res.1.length ∧ v = .int .i64 res.2) := by
  refine C.body Try.func27 rfl rfl ?_
  unfold f_laws_markFileS at hr
  have hS0 : St lo n0 H0 F0 := hS
  have hE0 := Ext.refl n0 F0
  have hlo0 := hS0.lo
  with_reducible refine W.seq ?_
  with_reducible refine W.region ?_
  refine WL.assign .nil rfl rfl rfl rfl ?_
  with_reducible refine WL.nil ?_
  with_reducible refine Ex.thn_norm ?_
  with_reducible refine W.seq ?_
  with_reducible refine W.seq ?_
  with_reducible refine W.region ?_
  refine WL.assign .nil rfl rfl rfl rfl ?_
  with_reducible refine WL.nil ?_
  with_reducible refine Ex.thn_norm ?_
  with_reducible refine W.block ?_
  refine W.loopF (fun k0 fr n H => ∃ (xs318 : (List GFile)) (x321 : Int) (x322 : Int) (F : Heap), fr = [(0, .slice a2 xs1.length cap3), (1, .int .i64 x321), (5, .int .i64 x322)] ∧ St lo n H F ∧ Ext n0 F0 n F ∧ OW lo n H F (.slice a2 xs1.length cap3) xs318 ∧ xs1.length = xs318.length ∧ f_laws_markFileS_L0 xs1 k0 xs318 x321 x322 = some res) BIG (fr0 := [(0, .slice a2 xs1.length cap3), (1, .int .i64 x6), (5, .int .i64 0)]) (Fr.le_cons rfl (Fr.le_cons rfl (Fr.le_cons rfl Fr.le_nil))) ?_ ?_ ?_
  · exact ⟨xs1, x6, 0, F0, rfl, hS0, hE0, h4, rfl, hr⟩
  · intro fr n H hI
    obtain ⟨xs318, x321, x322, F315, hfr, hS316, hE317, h319, hl320, hr⟩ := hI
    rw [f_laws_markFileS_L0] at hr
    cases hr
  · intro k0 _ n313 H314 hI
    obtain ⟨xs318, x321, x322, F315, rfl, hS316, hE317, h319, hl320, hr⟩ := hI
    have hlen313 := hE317.le
    have hlon313 := hS316.lo
    rw [f_laws_markFileS_L0] at hr
    with_reducible refine W.seq ?_
    with_reducible refine W.seq ?_
    with_reducible refine W.region ?_
    refine WL.move .nil rfl rfl rfl rfl ?_
    refine WL.move .nil rfl rfl rfl rfl ?_
    refine WL.len .nil rfl rfl rfl Try.underlying23 rfl ?_
    refine WL.bin .nil rfl rfl rfl rfl rfl rfl ?_
    with_reducible refine WL.nil ?_
    with_reducible refine Ex.thn_norm ?_
    refine W.condD rfl (fun hc324 => ?_) (fun hc324 => ?_)
    · replace hr := ite_pos hr hc324
      with_reducible refine W.skip ?_
      with_reducible refine Ex.thn_norm ?_
      with_reducible refine W.seq ?_
      with_reducible refine W.block ?_
      with_reducible refine W.seq ?_
      with_reducible refine W.region ?_
      refine WL.move .nil rfl rfl rfl rfl ?_
      refine WL.move .nil rfl rfl rfl rfl ?_
      refine WL.move .nil rfl rfl rfl rfl ?_
      obtain ⟨x396, hx396, hr⟩ := bnd_some hr
      have hb402 := fun b hb => (OW.id_lt (i := b) h319 hb).2
      refine GL.callP g.good .nil rfl rfl rfl rfl rfl rfl Try.func53 rfl rfl hS316.lo (f_laws_markText_k  g hS316 hx396) (fun v n397 H398 hn399 hk400 hp401 => ?_)
      obtain ⟨hS403, rfl⟩ := hp401
      have h404 := OW.keep (n' := n397) h319 (by omega) (fun i hi => hk400 i (OW.id_lt h319 hi).2)
      have hS405 : St lo n397 H398 F315 := ⟨by have := hS316.lo; omega, hS403.hb, hS403.fh⟩
      have hlon397 := hS405.lo
      obtain ⟨x406, hx406, hr⟩ := bnd_some hr
      refine GL.indexO .nil rfl rfl rfl Try.underlying23 info50 rfl rfl h404 rfl hx406 (fun b407 kp408 c409 ecs410 hid414 hrow411 hwin412 hR413 hup415 => ?_)
      obtain ⟨rfl⟩ := GFile.ofR hR413
      refine WL.fieldAddr .nil rfl rfl rfl Try.underlying50 rfl info9 rfl rfl ?_
      refine GL.store hS405 .nil (vc := [str x396]) rfl rfl rfl info9 rfl rfl rfl rfl hrow411 (OW.fnone h404 hid414) (by first | exact win_fit hwin412 (Nat.le_of_ble_eq_true rfl) rfl (Nat.le_of_ble_eq_true rfl) | exact win_fit2 hwin412 (Nat.le_of_ble_eq_true rfl) rfl (Nat.le_of_ble_eq_true rfl) | exact win_fit3 hwin412 (Nat.le_of_ble_eq_true rfl) rfl (Nat.le_of_ble_eq_true rfl)) (OW.id_lt h404 hid414).1 (by repeat' (first | exact List.forall_mem_nil _ | refine List.forall_mem_cons.2 ⟨?_, ?_⟩ | rfl)) rfl (fun H416 hS417 ho418 hk419 => ?_)
      have h420 := hup415 0 [str x396] (({ Name := x396, Version := x406.Version, Text := x406.Text } : GFile) : GFile) H416 (Nat.le_of_ble_eq_true rfl) (GFile.toR (x := ({ Name := x396, Version := x406.Version, Text := x406.Text } : GFile))) ho418
      have hl421 : xs1.length = (setI xs318 x322 ({ Name := x396, Version := x406.Version, Text := x406.Text } : GFile)).length := hl320.trans (setI_length _ _ _).symm
      with_reducible refine WL.nil ?_
      with_reducible refine Ex.thn_norm ?_
      with_reducible refine W.seq ?_
      with_reducible refine W.region ?_
      refine WL.move .nil rfl rfl rfl rfl ?_
      obtain ⟨hc422, hr⟩ := chk_some hr
      refine WL.addI .nil rfl rfl rfl rfl rfl hc422.1 hc422.2 ?_
      refine WL.assign .nil rfl rfl rfl rfl ?_
      with_reducible refine WL.nil ?_
      with_reducible refine Ex.thn_norm ?_
      with_reducible refine W.seq ?_
      with_reducible refine W.region ?_
      refine WL.move .nil rfl rfl rfl rfl ?_
      refine WL.move .nil rfl rfl rfl rfl ?_
      refine WL.move .nil rfl rfl rfl rfl ?_
      obtain ⟨x423, hx423, hr⟩ := bnd_some hr
      refine GL.indexO .nil rfl rfl rfl Try.underlying23 info50 rfl rfl h420 rfl hx423 (fun b424 kp425 c426 ecs427 hid431 hrow428 hwin429 hR430 hup432 => ?_)
      obtain ⟨rfl⟩ := GFile.ofR hR430
      refine WL.fieldAddr .nil rfl rfl rfl Try.underlying50 rfl info3 rfl rfl ?_
      refine GL.store hS417 .nil (vc := [.int .i64 (x321 + 1)]) rfl rfl rfl info3 rfl rfl rfl rfl hrow428 (OW.fnone h420 hid431) (by first | exact win_fit hwin429 (Nat.le_of_ble_eq_true rfl) rfl (Nat.le_of_ble_eq_true rfl) | exact win_fit2 hwin429 (Nat.le_of_ble_eq_true rfl) rfl (Nat.le_of_ble_eq_true rfl) | exact win_fit3 hwin429 (Nat.le_of_ble_eq_true rfl) rfl (Nat.le_of_ble_eq_true rfl)) (OW.id_lt h420 hid431).1 (by repeat' (first | exact List.forall_mem_nil _ | refine List.forall_mem_cons.2 ⟨?_, ?_⟩ | rfl)) rfl (fun H433 hS434 ho435 hk436 => ?_)
      have h437 := hup432 1 [.int .i64 (x321 + 1)] (({ Name := x423.Name, Version := (x321 + 1), Text := x423.Text } : GFile) : GFile) H433 (Nat.le_of_ble_eq_true rfl) (GFile.toR (x := ({ Name := x423.Name, Version := (x321 + 1), Text := x423.Text } : GFile))) ho435
      have hl438 : xs1.length = (setI (setI xs318 x322 ({ Name := x396, Version := x406.Version, Text := x406.Text } : GFile)) x322 ({ Name := x423.Name, Version := (x321 + 1), Text := x423.Text } : GFile)).length := hl421.trans (setI_length _ _ _).symm
      with_reducible refine WL.nil ?_
      with_reducible refine Ex.thn_norm ?_
      with_reducible refine W.seq ?_
      with_reducible refine W.region ?_
      refine WL.move .nil rfl rfl rfl rfl ?_
      obtain ⟨hc439, hr⟩ := chk_some hr
      refine WL.addI .nil rfl rfl rfl rfl rfl hc439.1 hc439.2 ?_
      refine WL.assign .nil rfl rfl rfl rfl ?_
      with_reducible refine WL.nil ?_
      with_reducible refine Ex.thn_norm ?_
      with_reducible refine W.seq ?_
      with_reducible refine W.region ?_
      refine WL.move .nil rfl rfl rfl rfl ?_
      refine WL.move .nil rfl rfl rfl rfl ?_
      refine WL.move .nil rfl rfl rfl rfl ?_
      obtain ⟨x440, hx440, hr⟩ := bnd_some hr
      have hb446 := fun b hb => (OW.id_lt (i := b) h437 hb).2
      refine GL.callP g.good .nil rfl rfl rfl rfl rfl rfl Try.func53 rfl rfl hS434.lo (f_laws_markText_k  g hS434 hx440) (fun v n441 H442 hn443 hk444 hp445 => ?_)
      obtain ⟨hS447, rfl⟩ := hp445
      have h448 := OW.keep (n' := n441) h437 (by omega) (fun i hi => hk444 i (OW.id_lt h437 hi).2)
      have hS449 : St lo n441 H442 F315 := ⟨by have := hS434.lo; omega, hS447.hb, hS447.fh⟩
      have hlon441 := hS449.lo
      obtain ⟨x450, hx450, hr⟩ := bnd_some hr
      refine GL.indexO .nil rfl rfl rfl Try.underlying23 info50 rfl rfl h448 rfl hx450 (fun b451 kp452 c453 ecs454 hid458 hrow455 hwin456 hR457 hup459 => ?_)
      obtain ⟨rfl⟩ := GFile.ofR hR457
      refine WL.fieldAddr .nil rfl rfl rfl Try.underlying50 rfl info9 rfl rfl ?_
      refine GL.store hS449 .nil (vc := [str x440]) rfl rfl rfl info9 rfl rfl rfl rfl hrow455 (OW.fnone h448 hid458) (by first | exact win_fit hwin456 (Nat.le_of_ble_eq_true rfl) rfl (Nat.le_of_ble_eq_true rfl) | exact win_fit2 hwin456 (Nat.le_of_ble_eq_true rfl) rfl (Nat.le_of_ble_eq_true rfl) | exact win_fit3 hwin456 (Nat.le_of_ble_eq_true rfl) rfl (Nat.le_of_ble_eq_true rfl)) (OW.id_lt h448 hid458).1 (by repeat' (first | exact List.forall_mem_nil _ | refine List.forall_mem_cons.2 ⟨?_, ?_⟩ | rfl)) rfl (fun H460 hS461 ho462 hk463 => ?_)
      have h464 := hup459 2 [str x440] (({ Name := x450.Name, Version := x450.Version, Text := x440 } : GFile) : GFile) H460 (Nat.le_of_ble_eq_true rfl) (GFile.toR (x := ({ Name := x450.Name, Version := x450.Version, Text := x440 } : GFile))) ho462
      have hl465 : xs1.length = (setI (setI (setI xs318 x322 ({ Name := x396, Version := x406.Version, Text := x406.Text } : GFile)) x322 ({ Name := x423.Name, Version := (x321 + 1), Text := x423.Text } : GFile)) x322 ({ Name := x450.Name, Version := x450.Version, Text := x440 } : GFile)).length := hl438.trans (setI_length _ _ _).symm
      with_reducible refine WL.nil ?_
      with_reducible refine Ex.thn_norm ?_
      with_reducible refine W.region ?_
      refine WL.move .nil rfl rfl rfl rfl ?_
      obtain ⟨hc466, hr⟩ := chk_some hr
      refine WL.addI .nil rfl rfl rfl rfl rfl hc466.1 hc466.2 ?_
      refine WL.assign .nil rfl rfl rfl rfl ?_
      with_reducible refine WL.nil ?_
      with_reducible refine Ex.blk_norm ?_
      with_reducible refine Ex.thn_norm ?_
      with_reducible refine W.region ?_
      refine WL.move .nil rfl rfl rfl rfl ?_
      obtain ⟨hc467, hr⟩ := chk_some hr
      refine WL.addI .nil rfl rfl rfl rfl rfl hc467.1 hc467.2 ?_
      refine WL.assign .nil rfl rfl rfl rfl ?_
      with_reducible refine WL.nil ?_
      with_reducible refine Ex.thn_norm ?_
      exact ⟨[(0, .slice a2 xs1.length cap3), (1, .int .i64 (((x321 + 1) + 1) + 1)), (5, .int .i64 (x322 + 1))], (Fr.le_cons rfl (Fr.le_cons rfl (Fr.le_cons rfl Fr.le_nil))), (setI (setI (setI xs318 x322 ({ Name := x396, Version := x406.Version, Text := x406.Text } : GFile)) x322 ({ Name := x423.Name, Version := (x321 + 1), Text := x423.Text } : GFile)) x322 ({ Name := x450.Name, Version := x450.Version, Text := x440 } : GFile)), (((x321 + 1) + 1) + 1), (x322 + 1), F315, rfl, hS461, (hE317.up (by omega)), h464, hl465, hr⟩
    · replace hr := ite_neg hr hc324
      with_reducible refine W.exit ?_
      with_reducible refine Ex.thn_ex ?_
      with_reducible refine Ex.thn_ex ?_
      with_reducible refine Ex.blk_here ?_
      with_reducible refine Ex.thn_norm ?_
      with_reducible refine W.seq ?_
      with_reducible refine W.region ?_
      refine WL.move .nil rfl rfl rfl rfl ?_
      refine WL.assign .nil rfl rfl rfl rfl ?_
      with_reducible refine WL.nil ?_
      with_reducible refine Ex.thn_norm ?_
      with_reducible refine W.ret ?_
      obtain rfl := Option.some.inj hr
      exact ⟨.inr rfl, _, (.cons (.tmp rfl) .nil), ⟨F315, (hE317.up (by omega)), hS316, h319, hl320, rfl⟩⟩
theorem f_laws_markSessionS_k {Δ : Prims} (g : Env Try.prog Δ) {lo n0 : Nat} {H0 F0 : Heap} (hS : St lo n0 H0 F0) {a2 : Option Addr} {cap3 : Nat} {xs1 : (List GSession)} {x6 : Int} (h4 : OW lo n0 H0 F0 (.slice a2 xs1.length cap3) xs1) {res : ((List GSession) × Int)} (hr : f_laws_markSessionS xs1 x6 = some res) :
    C Try.prog Δ lo 28 [.slice a2 xs1.length cap3, .int .i64 x6] n0 H0 (fun v n H => ∃ (F : Heap), Ext n0 F0 n F ∧ St lo n H F ∧ OW lo n H F (.slice a2 xs1.length cap3) res.1 ∧ xs1.length = res.1.length ∧ v = .int .i64 res.2) := by
  refine C.body Try.func28 rfl rfl ?_
  unfold f_laws_markSessionS at hr
  have hS0 : St lo n0 H0 F0 := hS
  have hE0 := Ext.refl n0 F0
  have hlo0 := hS0.lo
  with_reducible refine W.seq ?_
  with_reducible refine W.region ?_
  refine WL.assign .nil rfl rfl rfl rfl ?_
  with_reducible refine WL.nil ?_
  with_reducible refine Ex.thn_norm ?_
  with_reducible refine W.seq ?_
  with_reducible refine W.seq ?_
  with_reducible refine W.region ?_
  refine WL.assign .nil rfl rfl rfl rfl ?_
  with_reducible refine WL.nil ?_
  with_reducible refine Ex.thn_norm ?_
  with_reducible refine W.block ?_
  refine W.loopF (fun k0 fr n H => ∃ (xs414 : (List GSession)) (x417 : Int) (x418 : Int) (F : Heap), fr = [(0, .slice a2 xs1.length cap3), (1, .int .i64 x417), (5, .int .i64 x418)] ∧ St lo n H F ∧ Ext n0 F0 n F ∧ OW lo n H F (.slice a2 xs1.length cap3) xs414 ∧ xs1.length = xs414.length ∧ f_laws_markSessionS_L0 xs1 k0 xs414 x417 x418 = some res) BIG (fr0 := [(0, .slice a2 xs1.length cap3), (1, .int .i64 x6), (5, .int .i64 0)]) (Fr.le_cons rfl (Fr.le_cons rfl (Fr.le_cons rfl Fr.le_nil))) ?_ ?_ ?_
  · exact ⟨xs1, x6, 0, F0, rfl, hS0, hE0, h4, rfl, hr⟩
  · intro fr n H hI
    obtain ⟨xs414, x417, x418, F411, hfr, hS412, hE413, h415, hl416, hr⟩ := hI
    rw [f_laws_markSessionS_L0] at hr
    cases hr
  · intro k0 _ n409 H410 hI
    obtain ⟨xs414, x417, x418, F411, rfl, hS412, hE413, h415, hl416, hr⟩ := hI
    have hlen409 := hE413.le
    have hlon409 := hS412.lo
    rw [f_laws_markSessionS_L0] at hr
    with_reducible refine W.seq ?_
    with_reducible refine W.seq ?_
    with_reducible refine W.region ?_
    refine WL.move .nil rfl rfl rfl rfl ?_
    refine WL.move .nil rfl rfl rfl rfl ?_
    refine WL.len .nil rfl rfl rfl Try.underlying24 rfl ?_
    refine WL.bin .nil rfl rfl rfl rfl rfl rfl ?_
    with_reducible refine WL.nil ?_
    with_reducible refine Ex.thn_norm ?_
    refine W.condD rfl (fun hc420 => ?_) (fun hc420 => ?_)
    · replace hr := ite_pos hr hc420
      with_reducible refine W.skip ?_
      with_reducible refine Ex.thn_norm ?_
      with_reducible refine W.seq ?_
      with_reducible refine W.block ?_
      with_reducible refine W.seq ?_
      with_reducible refine W.region ?_
      refine WL.move .nil rfl rfl rfl rfl ?_
      refine WL.move .nil rfl rfl rfl rfl ?_
      refine WL.move .nil rfl rfl rfl rfl ?_
      obtain ⟨x516, hx516, hr⟩ := bnd_some hr
      refine GL.indexO .nil rfl rfl rfl Try.underlying24 info54 rfl rfl h415 rfl hx516 (fun b517 kp518 c519 ecs520 hid524 hrow521 hwin522 hR523 hup525 => ?_)
      obtain ⟨rfl⟩ := GSession.ofR hR523
      refine WL.fieldAddr .nil rfl rfl rfl Try.underlying54 rfl info3 rfl rfl ?_
      refine GL.store hS412 .nil (vc := [.int .i64 x417]) rfl rfl rfl info3 rfl rfl rfl rfl hrow521 (OW.fnone h415 hid524) (by first | exact win_fit hwin522 (Nat.le_of_ble_eq_true rfl) rfl (Nat.le_of_ble_eq_true rfl) | exact win_fit2 hwin522 (Nat.le_of_ble_eq_true rfl) rfl (Nat.le_of_ble_eq_true rfl) | exact win_fit3 hwin522 (Nat.le_of_ble_eq_true rfl) rfl (Nat.le_of_ble_eq_true rfl)) (OW.id_lt h415 hid524).1 (by repeat' (first | exact List.forall_mem_nil _ | refine List.forall_mem_cons.2 ⟨?_, ?_⟩ | rfl)) rfl (fun H526 hS527 ho528 hk529 => ?_)
      have h530 := hup525 0 [.int .i64 x417] (({ Client := x417, Seq := x516.Seq, Reply := ({ Code := x516.Reply.Code, Version := x516.Reply.Version, Sha := x516.Reply.Sha } : GReply) } : GSession) : GSession) H526 (Nat.le_of_ble_eq_true rfl) (GSession.toR (x := ({ Client := x417, Seq := x516.Seq, Reply := ({ Code := x516.Reply.Code, Version := x516.Reply.Version, Sha := x516.Reply.Sha } : GReply) } : GSession))) ho528
      have hl531 : xs1.length = (setI xs414 x418 ({ Client := x417, Seq := x516.Seq, Reply := ({ Code := x516.Reply.Code, Version := x516.Reply.Version, Sha := x516.Reply.Sha } : GReply) } : GSession)).length := hl416.trans (setI_length _ _ _).symm
      with_reducible refine WL.nil ?_
      with_reducible refine Ex.thn_norm ?_
      with_reducible refine W.seq ?_
      with_reducible refine W.region ?_
      refine WL.move .nil rfl rfl rfl rfl ?_
      obtain ⟨hc532, hr⟩ := chk_some hr
      refine WL.addI .nil rfl rfl rfl rfl rfl hc532.1 hc532.2 ?_
      refine WL.assign .nil rfl rfl rfl rfl ?_
      with_reducible refine WL.nil ?_
      with_reducible refine Ex.thn_norm ?_
      with_reducible refine W.seq ?_
      with_reducible refine W.region ?_
      refine WL.move .nil rfl rfl rfl rfl ?_
      refine WL.move .nil rfl rfl rfl rfl ?_
      refine WL.move .nil rfl rfl rfl rfl ?_
      obtain ⟨x533, hx533, hr⟩ := bnd_some hr
      refine GL.indexO .nil rfl rfl rfl Try.underlying24 info54 rfl rfl h530 rfl hx533 (fun b534 kp535 c536 ecs537 hid541 hrow538 hwin539 hR540 hup542 => ?_)
      obtain ⟨rfl⟩ := GSession.ofR hR540
      refine WL.fieldAddr .nil rfl rfl rfl Try.underlying54 rfl info3 rfl rfl ?_
      refine GL.store hS527 .nil (vc := [.int .i64 (x417 + 1)]) rfl rfl rfl info3 rfl rfl rfl rfl hrow538 (OW.fnone h530 hid541) (by first | exact win_fit hwin539 (Nat.le_of_ble_eq_true rfl) rfl (Nat.le_of_ble_eq_true rfl) | exact win_fit2 hwin539 (Nat.le_of_ble_eq_true rfl) rfl (Nat.le_of_ble_eq_true rfl) | exact win_fit3 hwin539 (Nat.le_of_ble_eq_true rfl) rfl (Nat.le_of_ble_eq_true rfl)) (OW.id_lt h530 hid541).1 (by repeat' (first | exact List.forall_mem_nil _ | refine List.forall_mem_cons.2 ⟨?_, ?_⟩ | rfl)) rfl (fun H543 hS544 ho545 hk546 => ?_)
      have h547 := hup542 1 [.int .i64 (x417 + 1)] (({ Client := x533.Client, Seq := (x417 + 1), Reply := ({ Code := x533.Reply.Code, Version := x533.Reply.Version, Sha := x533.Reply.Sha } : GReply) } : GSession) : GSession) H543 (Nat.le_of_ble_eq_true rfl) (GSession.toR (x := ({ Client := x533.Client, Seq := (x417 + 1), Reply := ({ Code := x533.Reply.Code, Version := x533.Reply.Version, Sha := x533.Reply.Sha } : GReply) } : GSession))) ho545
      have hl548 : xs1.length = (setI (setI xs414 x418 ({ Client := x417, Seq := x516.Seq, Reply := ({ Code := x516.Reply.Code, Version := x516.Reply.Version, Sha := x516.Reply.Sha } : GReply) } : GSession)) x418 ({ Client := x533.Client, Seq := (x417 + 1), Reply := ({ Code := x533.Reply.Code, Version := x533.Reply.Version, Sha := x533.Reply.Sha } : GReply) } : GSession)).length := hl531.trans (setI_length _ _ _).symm
      with_reducible refine WL.nil ?_
      with_reducible refine Ex.thn_norm ?_
      with_reducible refine W.seq ?_
      with_reducible refine W.region ?_
      refine WL.move .nil rfl rfl rfl rfl ?_
      obtain ⟨hc549, hr⟩ := chk_some hr
      refine WL.addI .nil rfl rfl rfl rfl rfl hc549.1 hc549.2 ?_
      refine WL.assign .nil rfl rfl rfl rfl ?_
      with_reducible refine WL.nil ?_
      with_reducible refine Ex.thn_norm ?_
      with_reducible refine W.seq ?_
      with_reducible refine W.region ?_
      refine WL.move .nil rfl rfl rfl rfl ?_
      refine WL.move .nil rfl rfl rfl rfl ?_
      refine WL.move .nil rfl rfl rfl rfl ?_
      obtain ⟨x550, hx550, hr⟩ := bnd_some hr
      refine GL.indexO .nil rfl rfl rfl Try.underlying24 info54 rfl rfl h547 rfl hx550 (fun b551 kp552 c553 ecs554 hid558 hrow555 hwin556 hR557 hup559 => ?_)
      obtain ⟨rfl⟩ := GSession.ofR hR557
      refine WL.fieldAddr .nil rfl rfl rfl Try.underlying54 rfl info52 rfl rfl ?_
      refine WL.fieldAddr .nil rfl rfl rfl Try.underlying52 rfl info3 rfl rfl ?_
      refine GL.store hS544 .nil (vc := [.int .i64 ((x417 + 1) + 1)]) rfl rfl rfl info3 rfl rfl rfl rfl hrow555 (OW.fnone h547 hid558) (by first | exact win_fit hwin556 (Nat.le_of_ble_eq_true rfl) rfl (Nat.le_of_ble_eq_true rfl) | exact win_fit2 hwin556 (Nat.le_of_ble_eq_true rfl) rfl (Nat.le_of_ble_eq_true rfl) | exact win_fit3 hwin556 (Nat.le_of_ble_eq_true rfl) rfl (Nat.le_of_ble_eq_true rfl)) (OW.id_lt h547 hid558).1 (by repeat' (first | exact List.forall_mem_nil _ | refine List.forall_mem_cons.2 ⟨?_, ?_⟩ | rfl)) rfl (fun H560 hS561 ho562 hk563 => ?_)
      have h564 := hup559 2 [.int .i64 ((x417 + 1) + 1)] (({ Client := x550.Client, Seq := x550.Seq, Reply := ({ Code := ((x417 + 1) + 1), Version := x550.Reply.Version, Sha := x550.Reply.Sha } : GReply) } : GSession) : GSession) H560 (Nat.le_of_ble_eq_true rfl) (GSession.toR (x := ({ Client := x550.Client, Seq := x550.Seq, Reply := ({ Code := ((x417 + 1) + 1), Version := x550.Reply.Version, Sha := x550.Reply.Sha } : GReply) } : GSession))) ho562
      have hl565 : xs1.length = (setI (setI (setI xs414 x418 ({ Client := x417, Seq := x516.Seq, Reply := ({ Code := x516.Reply.Code, Version := x516.Reply.Version, Sha := x516.Reply.Sha } : GReply) } : GSession)) x418 ({ Client := x533.Client, Seq := (x417 + 1), Reply := ({ Code := x533.Reply.Code, Version := x533.Reply.Version, Sha := x533.Reply.Sha } : GReply) } : GSession)) x418 ({ Client := x550.Client, Seq := x550.Seq, Reply := ({ Code := ((x417 + 1) + 1), Version := x550.Reply.Version, Sha := x550.Reply.Sha } : GReply) } : GSession)).length := hl548.trans (setI_length _ _ _).symm
      with_reducible refine WL.nil ?_
      with_reducible refine Ex.thn_norm ?_
      with_reducible refine W.seq ?_
      with_reducible refine W.region ?_
      refine WL.move .nil rfl rfl rfl rfl ?_
      obtain ⟨hc566, hr⟩ := chk_some hr
      refine WL.addI .nil rfl rfl rfl rfl rfl hc566.1 hc566.2 ?_
      refine WL.assign .nil rfl rfl rfl rfl ?_
      with_reducible refine WL.nil ?_
      with_reducible refine Ex.thn_norm ?_
      with_reducible refine W.seq ?_
      with_reducible refine W.region ?_
      refine WL.move .nil rfl rfl rfl rfl ?_
      refine WL.move .nil rfl rfl rfl rfl ?_
      refine WL.move .nil rfl rfl rfl rfl ?_
      obtain ⟨x567, hx567, hr⟩ := bnd_some hr
      refine GL.indexO .nil rfl rfl rfl Try.underlying24 info54 rfl rfl h564 rfl hx567 (fun b568 kp569 c570 ecs571 hid575 hrow572 hwin573 hR574 hup576 => ?_)
      obtain ⟨rfl⟩ := GSession.ofR hR574
      refine WL.fieldAddr .nil rfl rfl rfl Try.underlying54 rfl info52 rfl rfl ?_
      refine WL.fieldAddr .nil rfl rfl rfl Try.underlying52 rfl info3 rfl rfl ?_
      refine GL.store hS561 .nil (vc := [.int .i64 (((x417 + 1) + 1) + 1)]) rfl rfl rfl info3 rfl rfl rfl rfl hrow572 (OW.fnone h564 hid575) (by first | exact win_fit hwin573 (Nat.le_of_ble_eq_true rfl) rfl (Nat.le_of_ble_eq_true rfl) | exact win_fit2 hwin573 (Nat.le_of_ble_eq_true rfl) rfl (Nat.le_of_ble_eq_true rfl) | exact win_fit3 hwin573 (Nat.le_of_ble_eq_true rfl) rfl (Nat.le_of_ble_eq_true rfl)) (OW.id_lt h564 hid575).1 (by repeat' (first | exact List.forall_mem_nil _ | refine List.forall_mem_cons.2 ⟨?_, ?_⟩ | rfl)) rfl (fun H577 hS578 ho579 hk580 => ?_)
      have h581 := hup576 3 [.int .i64 (((x417 + 1) + 1) + 1)] (({ Client := x567.Client, Seq := x567.Seq, Reply := ({ Code := x567.Reply.Code, Version := (((x417 + 1) + 1) + 1), Sha := x567.Reply.Sha } : GReply) } : GSession) : GSession) H577 (Nat.le_of_ble_eq_true rfl) (GSession.toR (x := ({ Client := x567.Client, Seq := x567.Seq, Reply := ({ Code := x567.Reply.Code, Version := (((x417 + 1) + 1) + 1), Sha := x567.Reply.Sha } : GReply) } : GSession))) ho579
      have hl582 : xs1.length = (setI (setI (setI (setI xs414 x418 ({ Client := x417, Seq := x516.Seq, Reply := ({ Code := x516.Reply.Code, Version := x516.Reply.Version, Sha := x516.Reply.Sha } : GReply) } : GSession)) x418 ({ Client := x533.Client, Seq := (x417 + 1), Reply := ({ Code := x533.Reply.Code, Version := x533.Reply.Version, Sha := x533.Reply.Sha } : GReply) } : GSession)) x418 ({ Client := x550.Client, Seq := x550.Seq, Reply := ({ Code := ((x417 + 1) + 1), Version := x550.Reply.Version, Sha := x550.Reply.Sha } : GReply) } : GSession)) x418 ({ Client := x567.Client, Seq := x567.Seq, Reply := ({ Code := x567.Reply.Code, Version := (((x417 + 1) + 1) + 1), Sha := x567.Reply.Sha } : GReply) } : GSession)).length := hl565.trans (setI_length _ _ _).symm
      with_reducible refine WL.nil ?_
      with_reducible refine Ex.thn_norm ?_
      with_reducible refine W.seq ?_
      with_reducible refine W.region ?_
      refine WL.move .nil rfl rfl rfl rfl ?_
      obtain ⟨hc583, hr⟩ := chk_some hr
      refine WL.addI .nil rfl rfl rfl rfl rfl hc583.1 hc583.2 ?_
      refine WL.assign .nil rfl rfl rfl rfl ?_
      with_reducible refine WL.nil ?_
      with_reducible refine Ex.thn_norm ?_
      with_reducible refine W.seq ?_
      with_reducible refine W.region ?_
      refine WL.move .nil rfl rfl rfl rfl ?_
      refine WL.move .nil rfl rfl rfl rfl ?_
      refine WL.move .nil rfl rfl rfl rfl ?_
      obtain ⟨x584, hx584, hr⟩ := bnd_some hr
      have hb590 := fun b hb => (OW.id_lt (i := b) h581 hb).2
      refine GL.callP g.good .nil rfl rfl rfl rfl rfl rfl Try.func53 rfl rfl hS578.lo (f_laws_markText_k  g hS578 hx584) (fun v n585 H586 hn587 hk588 hp589 => ?_)
      obtain ⟨hS591, rfl⟩ := hp589
      have h592 := OW.keep (n' := n585) h581 (by omega) (fun i hi => hk588 i (OW.id_lt h581 hi).2)
      have hS593 : St lo n585 H586 F411 := ⟨by have := hS578.lo; omega, hS591.hb, hS591.fh⟩
      have hlon585 := hS593.lo
      obtain ⟨x594, hx594, hr⟩ := bnd_some hr
      refine GL.indexO .nil rfl rfl rfl Try.underlying24 info54 rfl rfl h592 rfl hx594 (fun b595 kp596 c597 ecs598 hid602 hrow599 hwin600 hR601 hup603 => ?_)
      obtain ⟨rfl⟩ := GSession.ofR hR601
      refine WL.fieldAddr .nil rfl rfl rfl Try.underlying54 rfl info52 rfl rfl ?_
      refine WL.fieldAddr .nil rfl rfl rfl Try.underlying52 rfl info9 rfl rfl ?_
      refine GL.store hS593 .nil (vc := [str x584]) rfl rfl rfl info9 rfl rfl rfl rfl hrow599 (OW.fnone h592 hid602) (by first | exact win_fit hwin600 (Nat.le_of_ble_eq_true rfl) rfl (Nat.le_of_ble_eq_true rfl) | exact win_fit2 hwin600 (Nat.le_of_ble_eq_true rfl) rfl (Nat.le_of_ble_eq_true rfl) | exact win_fit3 hwin600 (Nat.le_of_ble_eq_true rfl) rfl (Nat.le_of_ble_eq_true rfl)) (OW.id_lt h592 hid602).1 (by repeat' (first | exact List.forall_mem_nil _ | refine List.forall_mem_cons.2 ⟨?_, ?_⟩ | rfl)) rfl (fun H604 hS605 ho606 hk607 => ?_)
      have h608 := hup603 4 [str x584] (({ Client := x594.Client, Seq := x594.Seq, Reply := ({ Code := x594.Reply.Code, Version := x594.Reply.Version, Sha := x584 } : GReply) } : GSession) : GSession) H604 (Nat.le_of_ble_eq_true rfl) (GSession.toR (x := ({ Client := x594.Client, Seq := x594.Seq, Reply := ({ Code := x594.Reply.Code, Version := x594.Reply.Version, Sha := x584 } : GReply) } : GSession))) ho606
      have hl609 : xs1.length = (setI (setI (setI (setI (setI xs414 x418 ({ Client := x417, Seq := x516.Seq, Reply := ({ Code := x516.Reply.Code, Version := x516.Reply.Version, Sha := x516.Reply.Sha } : GReply) } : GSession)) x418 ({ Client := x533.Client, Seq := (x417 + 1), Reply := ({ Code := x533.Reply.Code, Version := x533.Reply.Version, Sha := x533.Reply.Sha } : GReply) } : GSession)) x418 ({ Client := x550.Client, Seq := x550.Seq, Reply := ({ Code := ((x417 + 1) + 1), Version := x550.Reply.Version, Sha := x550.Reply.Sha } : GReply) } : GSession)) x418 ({ Client := x567.Client, Seq := x567.Seq, Reply := ({ Code := x567.Reply.Code, Version := (((x417 + 1) + 1) + 1), Sha := x567.Reply.Sha } : GReply) } : GSession)) x418 ({ Client := x594.Client, Seq := x594.Seq, Reply := ({ Code := x594.Reply.Code, Version := x594.Reply.Version, Sha := x584 } : GReply) } : GSession)).length := hl582.trans (setI_length _ _ _).symm
      with_reducible refine WL.nil ?_
      with_reducible refine Ex.thn_norm ?_
      with_reducible refine W.region ?_
      refine WL.move .nil rfl rfl rfl rfl ?_
      obtain ⟨hc610, hr⟩ := chk_some hr
      refine WL.addI .nil rfl rfl rfl rfl rfl hc610.1 hc610.2 ?_
      refine WL.assign .nil rfl rfl rfl rfl ?_
      with_reducible refine WL.nil ?_
      with_reducible refine Ex.blk_norm ?_
      with_reducible refine Ex.thn_norm ?_
      with_reducible refine W.region ?_
      refine WL.move .nil rfl rfl rfl rfl ?_
      obtain ⟨hc611, hr⟩ := chk_some hr
      refine WL.addI .nil rfl rfl rfl rfl rfl hc611.1 hc611.2 ?_
      refine WL.assign .nil rfl rfl rfl rfl ?_
      with_reducible refine WL.nil ?_
      with_reducible refine Ex.thn_norm ?_
      exact ⟨[(0, .slice a2 xs1.length cap3), (1, .int .i64 (((((x417 + 1) + 1) + 1) + 1) + 1)), (5, .int .i64 (x418 + 1))], (Fr.le_cons rfl (Fr.le_cons rfl (Fr.le_cons rfl Fr.le_nil))), (setI (setI (setI (setI (setI xs414 x418 ({ Client := x417, Seq := x516.Seq, Reply := ({ Code := x516.Reply.Code, Version := x516.Reply.Version, Sha := x516.Reply.Sha } : GReply) } : GSession)) x418 ({ Client := x533.Client, Seq := (x417 + 1), Reply := ({ Code := x533.Reply.Code, Version := x533.Reply.Version, Sha := x533.Reply.Sha } : GReply) } : GSession)) x418 ({ Client := x550.Client, Seq := x550.Seq, Reply := ({ Code := ((x417 + 1) + 1), Version := x550.Reply.Version, Sha := x550.Reply.Sha } : GReply) } : GSession)) x418 ({ Client := x567.Client, Seq := x567.Seq, Reply := ({ Code := x567.Reply.Code, Version := (((x417 + 1) + 1) + 1), Sha := x567.Reply.Sha } : GReply) } : GSession)) x418 ({ Client := x594.Client, Seq := x594.Seq, Reply := ({ Code := x594.Reply.Code, Version := x594.Reply.Version, Sha := x584 } : GReply) } : GSession)), (((((x417 + 1) + 1) + 1) + 1) + 1), (x418 + 1), F411, rfl, hS605, (hE413.up (by omega)), h608, hl609, hr⟩
    · replace hr := ite_neg hr hc420
      with_reducible refine W.exit ?_
      with_reducible refine Ex.thn_ex ?_
      with_reducible refine Ex.thn_ex ?_
      with_reducible refine Ex.blk_here ?_
      with_reducible refine Ex.thn_norm ?_
      with_reducible refine W.seq ?_
      with_reducible refine W.region ?_
      refine WL.move .nil rfl rfl rfl rfl ?_
      refine WL.assign .nil rfl rfl rfl rfl ?_
      with_reducible refine WL.nil ?_
      with_reducible refine Ex.thn_norm ?_
      with_reducible refine W.ret ?_
      obtain rfl := Option.some.inj hr
      exact ⟨.inr rfl, _, (.cons (.tmp rfl) .nil), ⟨F411, (hE413.up (by omega)), hS412, h415, hl416, rfl⟩⟩
theorem f_laws_markByteS_k {Δ : Prims} (g : Env Try.prog Δ) {lo n0 : Nat} {H0 F0 : Heap} (hS : St lo n0 H0 F0) {a2 : Option Addr} {cap3 : Nat} {xs1 : (List UInt8)} {x6 : Int} (h4 : OW lo n0 H0 F0 (.slice a2 xs1.length cap3) xs1) {res : ((List UInt8) × Int)} (hr : f_laws_markByteS xs1 x6 = some res) :
    C Try.prog Δ lo 10 [.slice a2 xs1.length cap3, .int .i64 x6] n0 H0 (fun v n H => ∃ (F : Heap), Ext n0 F0 n F ∧ St lo n H F ∧ OW lo n H F (.slice a2 xs1.length cap3) res.1 ∧ xs1.length = res.1.length ∧ v = .int .i64 res.2) := by
  refine C.body Try.func10 rfl rfl ?_
  unfold f_laws_markByteS at hr
  have hS0 : St lo n0 H0 F0 := hS
  have hE0 := Ext.refl n0 F0
  have hlo0 := hS0.lo
  with_reducible refine W.seq ?_
  with_reducible refine W.region ?_
  refine WL.assign .nil rfl rfl rfl rfl ?_
  with_reducible refine WL.nil ?_
  with_reducible refine Ex.thn_norm ?_
  with_reducible refine W.seq ?_
  with_reducible refine W.seq ?_
  with_reducible refine W.region ?_
  refine WL.assign .nil rfl rfl rfl rfl ?_
  with_reducible refine WL.nil ?_
  with_reducible refine Ex.thn_norm ?_
  with_reducible refine W.block ?_
  refine W.loopF (fun k0 fr n H => ∃ (xs102 : (List UInt8)) (x105 : Int) (x106 : Int) (F : Heap), fr = [(0, .slice a2 xs1.length cap3), (1, .int .i64 x105), (5, .int .i64 x106)] ∧ St lo n H F ∧ Ext n0 F0 n F ∧ OW lo n H F (.slice a2 xs1.length cap3) xs102 ∧ xs1.length = xs102.length ∧ f_laws_markByteS_L0 xs1 k0 xs102 x105 x106 = some res) BIG (fr0 := [(0, .slice a2 xs1.length cap3), (1, .int .i64 x6), (5, .int .i64 0)]) (Fr.le_cons rfl (Fr.le_cons rfl (Fr.le_cons rfl Fr.le_nil))) ?_ ?_ ?_
  · exact ⟨xs1, x6, 0, F0, rfl, hS0, hE0, h4, rfl, hr⟩
  · intro fr n H hI
    obtain ⟨xs102, x105, x106, F99, hfr, hS100, hE101, h103, hl104, hr⟩ := hI
    rw [f_laws_markByteS_L0] at hr
    cases hr
  · intro k0 _ n97 H98 hI
    obtain ⟨xs102, x105, x106, F99, rfl, hS100, hE101, h103, hl104, hr⟩ := hI
    have hlen97 := hE101.le
    have hlon97 := hS100.lo
    rw [f_laws_markByteS_L0] at hr
    with_reducible refine W.seq ?_
    with_reducible refine W.seq ?_
    with_reducible refine W.region ?_
    refine WL.move .nil rfl rfl rfl rfl ?_
    refine WL.move .nil rfl rfl rfl rfl ?_
    refine WL.len .nil rfl rfl rfl Try.underlying22 rfl ?_
    refine WL.bin .nil rfl rfl rfl rfl rfl rfl ?_
    with_reducible refine WL.nil ?_
    with_reducible refine Ex.thn_norm ?_
    refine W.condD rfl (fun hc108 => ?_) (fun hc108 => ?_)
    · replace hr := ite_pos hr hc108
      with_reducible refine W.skip ?_
      with_reducible refine Ex.thn_norm ?_
      with_reducible refine W.seq ?_
      with_reducible refine W.block ?_
      with_reducible refine W.seq ?_
      with_reducible refine W.region ?_
      refine WL.move .nil rfl rfl rfl rfl ?_
      refine WL.move .nil rfl rfl rfl rfl ?_
      refine WL.move .nil rfl rfl rfl rfl ?_
      refine WL.convB .nil rfl rfl rfl Try.underlying3 Try.underlying5 rfl ?_
      obtain ⟨x126, hx126, hr⟩ := bnd_some hr
      refine GL.indexO .nil rfl rfl rfl Try.underlying22 info5 rfl rfl h103 rfl hx126 (fun b127 kp128 c129 ecs130 hid134 hrow131 hwin132 hR133 hup135 => ?_)
      have hcs : _ = ([u8 x126] : List Value) := hR133
      subst hcs
      refine GL.store hS100 .nil (vc := [u8 (byteOf x105)]) rfl rfl rfl info5 rfl rfl rfl rfl hrow131 (OW.fnone h103 hid134) (by first | exact win_fit hwin132 (Nat.le_of_ble_eq_true rfl) rfl (Nat.le_of_ble_eq_true rfl) | exact win_fit2 hwin132 (Nat.le_of_ble_eq_true rfl) rfl (Nat.le_of_ble_eq_true rfl) | exact win_fit3 hwin132 (Nat.le_of_ble_eq_true rfl) rfl (Nat.le_of_ble_eq_true rfl)) (OW.id_lt h103 hid134).1 (by repeat' (first | exact List.forall_mem_nil _ | refine List.forall_mem_cons.2 ⟨?_, ?_⟩ | rfl)) rfl (fun H136 hS137 ho138 hk139 => ?_)
      have h140 := hup135 0 [u8 (byteOf x105)] ((byteOf x105) : UInt8) H136 (Nat.le_of_ble_eq_true rfl) rfl ho138
      have hl141 : xs1.length = (setI xs102 x106 (byteOf x105)).length := hl104.trans (setI_length _ _ _).symm
      with_reducible refine WL.nil ?_
      with_reducible refine Ex.thn_norm ?_
      with_reducible refine W.region ?_
      refine WL.move .nil rfl rfl rfl rfl ?_
      obtain ⟨hc142, hr⟩ := chk_some hr
      refine WL.addI .nil rfl rfl rfl rfl rfl hc142.1 hc142.2 ?_
      refine WL.assign .nil rfl rfl rfl rfl ?_
      with_reducible refine WL.nil ?_
      with_reducible refine Ex.blk_norm ?_
      with_reducible refine Ex.thn_norm ?_
      with_reducible refine W.region ?_
      refine WL.move .nil rfl rfl rfl rfl ?_
      obtain ⟨hc143, hr⟩ := chk_some hr
      refine WL.addI .nil rfl rfl rfl rfl rfl hc143.1 hc143.2 ?_
      refine WL.assign .nil rfl rfl rfl rfl ?_
      with_reducible refine WL.nil ?_
      with_reducible refine Ex.thn_norm ?_
      exact ⟨[(0, .slice a2 xs1.length cap3), (1, .int .i64 (x105 + 1)), (5, .int .i64 (x106 + 1))], (Fr.le_cons rfl (Fr.le_cons rfl (Fr.le_cons rfl Fr.le_nil))), (setI xs102 x106 (byteOf x105)), (x105 + 1), (x106 + 1), F99, rfl, hS137, hE101, h140, hl141, hr⟩
    · replace hr := ite_neg hr hc108
      with_reducible refine W.exit ?_
      with_reducible refine Ex.thn_ex ?_
      with_reducible refine Ex.thn_ex ?_
      with_reducible refine Ex.blk_here ?_
      with_reducible refine Ex.thn_norm ?_
      with_reducible refine W.seq ?_
      with_reducible refine W.region ?_
      refine WL.move .nil rfl rfl rfl rfl ?_
      refine WL.assign .nil rfl rfl rfl rfl ?_
      with_reducible refine WL.nil ?_
      with_reducible refine Ex.thn_norm ?_
      with_reducible refine W.ret ?_
      obtain rfl := Option.some.inj hr
      exact ⟨.inr rfl, _, (.cons (.tmp rfl) .nil), ⟨F99, (hE101.up (by omega)), hS100, h103, hl104, rfl⟩⟩
theorem f_laws_heldByteS_k {Δ : Prims} (g : Env Try.prog Δ) {lo n0 : Nat} {H0 F0 : Heap} (hS : St lo n0 H0 F0) {a2 : Option Addr} {cap3 : Nat} {xs1 : (List UInt8)} {x5 : Int} (h4 : SR F0 (.slice a2 xs1.length cap3) xs1) {res : (Int)} (hr : f_laws_heldByteS xs1 x5 = some res) :
    C Try.prog Δ n0 17 [.slice a2 xs1.length cap3, .int .i64 x5] n0 H0 (fun v n H => St n0 n H F0 ∧ v = .int .i64 res) := by
  refine C.body Try.func17 rfl rfl ?_
  unfold f_laws_heldByteS at hr
  have hS0 : St n0 n0 H0 F0 := hS.low (Nat.le_refl _)
  have hE0 := Ext.refl n0 F0
  have hlo0 := hS0.lo
  with_reducible refine W.seq ?_
  with_reducible refine W.region ?_
  refine WL.assign .nil rfl rfl rfl rfl ?_
  with_reducible refine WL.nil ?_
  with_reducible refine Ex.thn_norm ?_
  with_reducible refine W.seq ?_
  with_reducible refine W.seq ?_
  with_reducible refine W.region ?_
  refine WL.assign .nil rfl rfl rfl rfl ?_
  with_reducible refine WL.nil ?_
  with_reducible refine Ex.thn_norm ?_
  with_reducible refine W.block ?_
  refine W.loopF (fun k0 fr n H => ∃ (x76 : Int) (x77 : Int) (F : Heap), fr = [(0, .slice a2 xs1.length cap3), (1, .int .i64 x76), (5, .int .i64 x77)] ∧ St n0 n H F ∧ Ext n0 F0 n F ∧ SR F (.slice a2 xs1.length cap3) xs1 ∧ f_laws_heldByteS_L0 xs1 k0 x76 x77 = some res) BIG (fr0 := [(0, .slice a2 xs1.length cap3), (1, .int .i64 x5), (5, .int .i64 0)]) (Fr.le_cons rfl (Fr.le_cons rfl (Fr.le_cons rfl Fr.le_nil))) ?_ ?_ ?_
  · exact ⟨x5, 0, F0, rfl, hS0, hE0, h4, hr⟩
  · intro fr n H hI
    obtain ⟨x76, x77, F72, hfr, hS73, hE74, h75, hr⟩ := hI
    rw [f_laws_heldByteS_L0] at hr
    cases hr
  · intro k0 _ n70 H71 hI
    obtain ⟨x76, x77, F72, rfl, hS73, hE74, h75, hr⟩ := hI
    have hlen70 := hE74.le
    have hlon70 := hS73.lo
    rw [f_laws_heldByteS_L0] at hr
    with_reducible refine W.seq ?_
    with_reducible refine W.seq ?_
    with_reducible refine W.region ?_
    refine WL.move .nil rfl rfl rfl rfl ?_
    refine WL.move .nil rfl rfl rfl rfl ?_
    refine WL.len .nil rfl rfl rfl Try.underlying22 rfl ?_
    refine WL.bin .nil rfl rfl rfl rfl rfl rfl ?_
    with_reducible refine WL.nil ?_
    with_reducible refine Ex.thn_norm ?_
    refine W.condD rfl (fun hc79 => ?_) (fun hc79 => ?_)
    · replace hr := ite_pos hr hc79
      with_reducible refine W.skip ?_
      with_reducible refine Ex.thn_norm ?_
      with_reducible refine W.seq ?_
      with_reducible refine W.block ?_
      with_reducible refine W.seq ?_
      with_reducible refine W.seq ?_
      with_reducible refine W.region ?_
      refine WL.move .nil rfl rfl rfl rfl ?_
      refine WL.move .nil rfl rfl rfl rfl ?_
      obtain ⟨x91, hx91, hr⟩ := bnd_some hr
      refine GL.index .nil rfl rfl rfl Try.underlying22 info5 rfl rfl h75 hS73.fh rfl hx91 (fun b92 kp93 c94 ecs95 hrow96 hwin97 hR98 => ?_)
      have hcs : _ = ([u8 x91] : List Value) := hR98
      subst hcs
      refine WL.load1 .nil rfl rfl rfl Try.underlying5 rfl rfl hrow96 ((win_get0 hwin97 (show (0 : Nat) < 1 by decide)).trans rfl) ?_
      refine WL.move .nil rfl rfl rfl rfl ?_
      refine WL.convB .nil rfl rfl rfl Try.underlying3 Try.underlying5 rfl ?_
      refine WL.bin .nil rfl rfl rfl rfl rfl rfl ?_
      with_reducible refine WL.nil ?_
      with_reducible refine Ex.thn_norm ?_
      refine W.condN rfl (fun hc100 => ?_) (fun hc100 => ?_)
      · replace hr := ite_neg hr hc100
        with_reducible refine W.seq ?_
        with_reducible refine W.region ?_
        refine WL.assign .nil rfl rfl rfl rfl ?_
        with_reducible refine WL.nil ?_
        with_reducible refine Ex.thn_norm ?_
        with_reducible refine W.ret ?_
        with_reducible refine Ex.thn_ret ?_
        with_reducible refine Ex.blk_ret ?_
        with_reducible refine Ex.thn_ret ?_
        with_reducible refine Ex.thn_ret ?_
        with_reducible refine Ex.blk_ret ?_
        with_reducible refine Ex.thn_ret ?_
        obtain rfl := Option.some.inj hr
        exact ⟨.inr rfl, _, (.cons (.tmp rfl) .nil), ⟨(Ext.st hE74 hS73), rfl⟩⟩
      · replace hr := ite_pos hr hc100
        with_reducible refine W.skip ?_
        with_reducible refine Ex.thn_norm ?_
        with_reducible refine W.region ?_
        refine WL.move .nil rfl rfl rfl rfl ?_
        obtain ⟨hc101, hr⟩ := chk_some hr
        refine WL.addI .nil rfl rfl rfl rfl rfl hc101.1 hc101.2 ?_
        refine WL.assign .nil rfl rfl rfl rfl ?_
        with_reducible refine WL.nil ?_
        with_reducible refine Ex.blk_norm ?_
        with_reducible refine Ex.thn_norm ?_
        with_reducible refine W.region ?_
        refine WL.move .nil rfl rfl rfl rfl ?_
        obtain ⟨hc102, hr⟩ := chk_some hr
        refine WL.addI .nil rfl rfl rfl rfl rfl hc102.1 hc102.2 ?_
        refine WL.assign .nil rfl rfl rfl rfl ?_
        with_reducible refine WL.nil ?_
        with_reducible refine Ex.thn_norm ?_
        exact ⟨[(0, .slice a2 xs1.length cap3), (1, .int .i64 (x76 + 1)), (5, .int .i64 (x77 + 1))], (Fr.le_cons rfl (Fr.le_cons rfl (Fr.le_cons rfl Fr.le_nil))), (x76 + 1), (x77 + 1), F72, rfl, hS73, hE74, h75, hr⟩
    · replace hr := ite_neg hr hc79
      with_reducible refine W.exit ?_
      with_reducible refine Ex.thn_ex ?_
      with_reducible refine Ex.thn_ex ?_
      with_reducible refine Ex.blk_here ?_
      with_reducible refine Ex.thn_norm ?_
      with_reducible refine W.seq ?_
      with_reducible refine W.region ?_
      refine WL.move .nil rfl rfl rfl rfl ?_
      refine WL.assign .nil rfl rfl rfl rfl ?_
      with_reducible refine WL.nil ?_
      with_reducible refine Ex.thn_norm ?_
      with_reducible refine W.ret ?_
      obtain rfl := Option.some.inj hr
      exact ⟨.inr rfl, _, (.cons (.tmp rfl) .nil), ⟨(Ext.st hE74 hS73), rfl⟩⟩
end Go.Proofs.YtmodhnkjimpkbaaAb
