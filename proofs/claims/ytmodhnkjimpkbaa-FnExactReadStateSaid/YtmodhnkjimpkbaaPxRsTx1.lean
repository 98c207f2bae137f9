import Derived.Test.YtmodhnkjimpkbaaPxRsTx0
import Derived.Test.YtmodhnkjimpkbaaPxRsD
import Derived.Test.YtmodhnkjimpkbaaAbInfoS
import Derived.KernelRfl
set_option linter.all false
set_option maxRecDepth 20000
namespace Go.Proofs.YtmodhnkjimpkbaaAb
open Go Go.Proofs
theorem f_impl_shaOK_k {Δ : Prims} (g : Env Try.prog Δ) {lo n0 : Nat} {H0 F0 : Heap} (hS : St lo n0 H0 F0) {x1 : Str} {res : (Bool)} (hr : f_impl_shaOK x1 = some res) :
    C Try.prog Δ n0 66 [str x1] n0 H0 (fun v n H => St n0 n H F0 ∧ v = .bool res) := by
  refine C.body Try.func66 rfl rfl ?_
  unfold f_impl_shaOK at hr
  have hS0 : St n0 n0 H0 F0 := hS.low (Nat.le_refl _)
  have hE0 := Ext.refl n0 F0
  have hlo0 := hS0.lo
  with_reducible refine W.seq ?_
  with_reducible refine W.region ?_
  refine WL.assign .nil rfl rfl rfl rfl ?_
  with_reducible refine WL.nil ?_
  with_reducible refine Ex.thn_norm ?_
  with_reducible refine W.seq ?_
  with_reducible refine W.seq ?_
  with_reducible refine W.region ?_
  refine WL.move .nil rfl rfl rfl rfl ?_
  refine GL.lenStr .nil rfl rfl rfl Try.underlying9 rfl ?_
  refine WL.move .nil rfl rfl rfl rfl ?_
  with_reducible refine WL.nil ?_
  with_reducible refine Ex.thn_norm ?_
  with_reducible refine W.block ?_
  refine W.loopF (fun k0 fr n H => ∃ (x150 : Int) (F : Heap), fr = [(0, str x1), (5, .int .i64 (x1.length : Int)), (6, .int .i64 x150)] ∧ St n0 n H F ∧ Ext n0 F0 n F ∧ f_impl_shaOK_L0 x1 k0 x150 = some res) BIG (fr0 := [(0, str x1), (5, .int .i64 (x1.length : Int)), (6, .int .i64 0)]) (Fr.le_cons rfl (Fr.le_cons rfl (Fr.le_cons rfl Fr.le_nil))) ?_ ?_ ?_
  · exact ⟨0, F0, rfl, hS0, hE0, hr⟩
  · intro fr n H hI
    obtain ⟨x150, F147, hfr, hS148, hE149, hr⟩ := hI
    rw [f_impl_shaOK_L0] at hr
    cases hr
  · intro k0 _ n145 H146 hI
    obtain ⟨x150, F147, rfl, hS148, hE149, hr⟩ := hI
    have hlen145 := hE149.le
    have hlon145 := hS148.lo
    rw [f_impl_shaOK_L0] at hr
    with_reducible refine W.seq ?_
    with_reducible refine W.region ?_
    refine WL.bin .nil rfl rfl rfl rfl rfl rfl ?_
    with_reducible refine WL.nil ?_
    with_reducible refine Ex.thn_norm ?_
    with_reducible refine W.seq ?_
    refine W.condD rfl (fun hc152 => ?_) (fun hc152 => ?_)
    · replace hr := ite_pos hr hc152
      with_reducible refine W.skip ?_
      with_reducible refine Ex.thn_norm ?_
      with_reducible refine W.seq ?_
      with_reducible refine W.block ?_
      with_reducible refine W.seq ?_
      with_reducible refine W.region ?_
      refine WL.move .nil rfl rfl rfl rfl ?_
      refine WL.assign .nil rfl rfl rfl rfl ?_
      with_reducible refine WL.nil ?_
      with_reducible refine Ex.thn_norm ?_
      with_reducible refine W.seq ?_
      with_reducible refine W.region ?_
      refine WL.move .nil rfl rfl rfl rfl ?_
      refine WL.move .nil rfl rfl rfl rfl ?_
      obtain ⟨x163, hx163, hr⟩ := bnd_some hr
      refine GL.strIdx .nil rfl rfl rfl Try.underlying9 rfl rfl hx163 ?_
      obtain ⟨x164, hx164, hr⟩ := bnd_some hr
      refine GL.callP g.good .nil rfl rfl rfl rfl rfl rfl Try.func75 rfl rfl hS148.lo (f_impl_contains_k  g hS148 hx164) (fun v n165 H166 hn167 hk168 hp169 => ?_)
      obtain ⟨hS170, rfl⟩ := hp169
      have hS171 : St n0 n165 H166 F147 := ⟨by have := hS148.lo; omega, hS170.hb, hS170.fh⟩
      have hlon165 := hS171.lo
      refine WL.not .nil rfl rfl rfl rfl ?_
      with_reducible refine WL.nil ?_
      with_reducible refine Ex.thn_norm ?_
      refine W.cond rfl (fun hc172 => ?_) (fun hc172 => ?_)
      · replace hr := iteB_pos hr hc172
        with_reducible refine W.seq ?_
        with_reducible refine W.region ?_
        refine WL.assign .nil rfl rfl rfl rfl ?_
        with_reducible refine WL.nil ?_
        with_reducible refine Ex.thn_norm ?_
        with_reducible refine W.ret ?_
        with_reducible refine Ex.blk_ret ?_
        with_reducible refine Ex.thn_ret ?_
        with_reducible refine Ex.thn_ret ?_
        with_reducible refine Ex.blk_ret ?_
        with_reducible refine Ex.thn_ret ?_
        obtain rfl := Option.some.inj hr
        exact ⟨.inr rfl, _, (.cons (.tmp rfl) .nil), ⟨(Ext.st hE149 hS171), rfl⟩⟩
      · replace hr := iteB_neg hr hc172
        with_reducible refine W.skip ?_
        with_reducible refine Ex.blk_norm ?_
        with_reducible refine Ex.thn_norm ?_
        with_reducible refine W.region ?_
        obtain ⟨hc173, hr⟩ := chk_some hr
        refine WL.addI .nil rfl rfl rfl rfl rfl hc173.1 hc173.2 ?_
        refine WL.move .nil rfl rfl rfl rfl ?_
        with_reducible refine WL.nil ?_
        with_reducible refine Ex.thn_norm ?_
        exact ⟨[(0, str x1), (5, .int .i64 (x1.length : Int)), (6, .int .i64 (x150 + 1))], (Fr.le_cons rfl (Fr.le_cons rfl (Fr.le_cons rfl Fr.le_nil))), (x150 + 1), F147, rfl, hS171, (hE149.up (by omega)), hr⟩
    · replace hr := ite_neg hr hc152
      with_reducible refine W.exit ?_
      with_reducible refine Ex.thn_ex ?_
      with_reducible refine Ex.thn_ex ?_
      with_reducible refine Ex.blk_here ?_
      with_reducible refine Ex.thn_norm ?_
      with_reducible refine W.seq ?_
      with_reducible refine W.region ?_
      refine WL.move .nil rfl rfl rfl rfl ?_
      refine GL.lenStr .nil rfl rfl rfl Try.underlying9 rfl ?_
      refine WL.bin .nil rfl rfl rfl rfl rfl rfl ?_
      refine WL.assign .nil rfl rfl rfl rfl ?_
      with_reducible refine WL.nil ?_
      with_reducible refine Ex.thn_norm ?_
      with_reducible refine W.ret ?_
      obtain rfl := Option.some.inj hr
      exact ⟨.inr rfl, _, (.cons (.tmp rfl) .nil), ⟨(Ext.st hE149 hS148), rfl⟩⟩
theorem f_impl_replyOK_k {Δ : Prims} (g : Env Try.prog Δ) {lo n0 : Nat} {H0 F0 : Heap} (hS : St lo n0 H0 F0) {x1 : GReply} {res : (Bool)} (hr : f_impl_replyOK x1 = some res) :
    C Try.prog Δ n0 49 [.agg [.int .i64 x1.Code, .int .i64 x1.Version, str x1.Sha].toArray] n0 H0 (fun v n H => St n0 n H F0 ∧ v = .bool res) := by
  refine C.body Try.func49 rfl rfl ?_
  unfold f_impl_replyOK at hr
  have hS0 : St n0 n0 H0 F0 := hS.low (Nat.le_refl _)
  have hE0 := Ext.refl n0 F0
  have hlo0 := hS0.lo
  with_reducible refine W.seq ?_
  with_reducible refine W.region ?_
  refine GL.box hS0 .nil (vc := [.int .i64 x1.Code, .int .i64 x1.Version, str x1.Sha]) rfl rfl rfl rfl rfl (by repeat' (first | exact List.forall_mem_nil _ | refine List.forall_mem_cons.2 ⟨?_, ?_⟩ | rfl)) (fun H2 hS3 ho4 hk5 => ?_)
  have fo6 := hS0.fnone (Nat.le_refl _)
  have hlon01 := hS3.lo
  have lt7 : n0 < (n0 + 1) := by omega
  refine WL.assign .nil rfl rfl rfl rfl ?_
  with_reducible refine WL.nil ?_
  with_reducible refine Ex.thn_norm ?_
  with_reducible refine W.seq ?_
  with_reducible refine W.seq ?_
  with_reducible refine W.region ?_
  refine WL.fieldAddr .nil rfl rfl rfl Try.underlying52 rfl info3 rfl rfl ?_
  refine WL.load1 .nil rfl rfl rfl Try.underlying3 rfl rfl ho4 rfl ?_
  refine WL.bin .nil rfl rfl rfl rfl rfl rfl ?_
  with_reducible refine WL.nil ?_
  with_reducible refine Ex.thn_norm ?_
  refine W.condD rfl (fun hc28 => ?_) (fun hc28 => ?_)
  · replace hr := ite_pos hr hc28
    with_reducible refine W.seq ?_
    with_reducible refine W.region ?_
    refine WL.fieldAddr .nil rfl rfl rfl Try.underlying52 rfl info3 rfl rfl ?_
    refine WL.load1 .nil rfl rfl rfl Try.underlying3 rfl rfl ho4 rfl ?_
    obtain ⟨x29, hx29, hr⟩ := bnd_some hr
    refine GL.callP g.good .nil rfl rfl rfl rfl rfl rfl Try.func47 rfl rfl hS3.lo (f_impl_isCount_k  g hS3 hx29) (fun v n30 H31 hn32 hk33 hp34 => ?_)
    obtain ⟨hS35, rfl⟩ := hp34
    have ho36 := (hk33 _ (by have := lt7; omega)).trans ho4
    have hS37 : St n0 n30 H31 F0 := ⟨by have := hS3.lo; omega, hS35.hb, hS35.fh⟩
    have hlon30 := hS37.lo
    refine WL.move .nil rfl rfl rfl rfl ?_
    refine WL.guard rfl rfl rfl (fun hg38 => ?_) (fun hg38 => ?_)
    · replace hr := iteB_pos hr hg38
      refine WL.fieldAddr .nil rfl rfl rfl Try.underlying52 rfl info9 rfl rfl ?_
      refine WL.load1 .nil rfl rfl rfl Try.underlying9 rfl rfl ho36 rfl ?_
      obtain ⟨x39, hx39, hr⟩ := bnd_some hr
      refine GL.callP g.good .nil rfl rfl rfl rfl rfl rfl Try.func66 rfl rfl hS37.lo (f_impl_shaOK_k  g hS37 hx39) (fun v n40 H41 hn42 hk43 hp44 => ?_)
      obtain ⟨hS45, rfl⟩ := hp44
      have ho46 := (hk43 _ (by have := lt7; omega)).trans ho36
      have hS47 : St n0 n40 H41 F0 := ⟨by have := hS37.lo; omega, hS45.hb, hS45.fh⟩
      have hlon40 := hS47.lo
      refine WL.pick .nil rfl rfl rfl rfl rfl ?_
      refine WL.assign .nil rfl rfl rfl rfl ?_
      with_reducible refine WL.nil ?_
      with_reducible refine Ex.thn_norm ?_
      with_reducible refine W.ret ?_
      with_reducible refine Ex.thn_ret ?_
      obtain rfl := Option.some.inj hr
      exact ⟨.inr rfl, _, (.cons (.tmp rfl) .nil), ⟨(Ext.st hE0 hS47), rfl⟩⟩
    · replace hr := iteB_neg hr hg38
      refine WL.skip .nil rfl rfl ?_
      refine WL.skip .nil rfl rfl ?_
      refine WL.skip .nil rfl rfl ?_
      refine WL.pick .nil rfl rfl rfl rfl rfl ?_
      refine WL.assign .nil rfl rfl rfl rfl ?_
      with_reducible refine WL.nil ?_
      with_reducible refine Ex.thn_norm ?_
      with_reducible refine W.ret ?_
      with_reducible refine Ex.thn_ret ?_
      obtain rfl := Option.some.inj hr
      exact ⟨.inr rfl, _, (.cons (.tmp rfl) .nil), ⟨(Ext.st hE0 hS37), rfl⟩⟩
  · replace hr := ite_neg hr hc28
    with_reducible refine W.skip ?_
    with_reducible refine Ex.thn_norm ?_
    with_reducible refine W.seq ?_
    with_reducible refine W.region ?_
    refine WL.fieldAddr .nil rfl rfl rfl Try.underlying52 rfl info3 rfl rfl ?_
    refine WL.load1 .nil rfl rfl rfl Try.underlying3 rfl rfl ho4 rfl ?_
    obtain ⟨x48, hx48, hr⟩ := bnd_some hr
    refine GL.callP g.good .nil rfl rfl rfl rfl rfl rfl Try.func63 rfl rfl hS3.lo (f_impl_within_k  g hS3 hx48) (fun v n49 H50 hn51 hk52 hp53 => ?_)
    obtain ⟨hS54, rfl⟩ := hp53
    have ho55 := (hk52 _ (by have := lt7; omega)).trans ho4
    have hS56 : St n0 n49 H50 F0 := ⟨by have := hS3.lo; omega, hS54.hb, hS54.fh⟩
    have hlon49 := hS56.lo
    refine WL.move .nil rfl rfl rfl rfl ?_
    refine WL.guard rfl rfl rfl (fun hg57 => ?_) (fun hg57 => ?_)
    · replace hr := iteB_pos hr hg57
      refine WL.fieldAddr .nil rfl rfl rfl Try.underlying52 rfl info3 rfl rfl ?_
      refine WL.load1 .nil rfl rfl rfl Try.underlying3 rfl rfl ho55 rfl ?_
      refine WL.bin .nil rfl rfl rfl rfl rfl rfl ?_
      refine WL.pick .nil rfl rfl rfl rfl rfl ?_
      refine WL.move .nil rfl rfl rfl rfl ?_
      refine WL.guardD rfl rfl rfl (fun hg58 => ?_) (fun hg58 => ?_)
      · replace hr := ite_pos hr hg58
        refine WL.fieldAddr .nil rfl rfl rfl Try.underlying52 rfl info9 rfl rfl ?_
        refine WL.load1 .nil rfl rfl rfl Try.underlying9 rfl rfl ho55 rfl ?_
        refine GL.strCmp .nil rfl rfl rfl rfl rfl (by decide) rfl ?_
        refine WL.pick .nil rfl rfl rfl rfl rfl ?_
        refine WL.assign .nil rfl rfl rfl rfl ?_
        with_reducible refine WL.nil ?_
        with_reducible refine Ex.thn_norm ?_
        with_reducible refine W.ret ?_
        obtain rfl := Option.some.inj hr
        exact ⟨.inr rfl, _, (.cons (.tmp rfl) .nil), ⟨(Ext.st hE0 hS56), rfl⟩⟩
      · replace hr := ite_neg hr hg58
        refine WL.skip .nil rfl rfl ?_
        refine WL.skip .nil rfl rfl ?_
        refine WL.skip .nil rfl rfl ?_
        refine WL.pick .nil rfl rfl rfl rfl rfl ?_
        refine WL.assign .nil rfl rfl rfl rfl ?_
        with_reducible refine WL.nil ?_
        with_reducible refine Ex.thn_norm ?_
        with_reducible refine W.ret ?_
        obtain rfl := Option.some.inj hr
        exact ⟨.inr rfl, _, (.cons (.tmp rfl) .nil), ⟨(Ext.st hE0 hS56), rfl⟩⟩
    · replace hr := iteB_neg hr hg57
      refine WL.skip .nil rfl rfl ?_
      refine WL.skip .nil rfl rfl ?_
      refine WL.skip .nil rfl rfl ?_
      refine WL.pick .nil rfl rfl rfl rfl rfl ?_
      refine WL.move .nil rfl rfl rfl rfl ?_
      refine WL.skip .nil rfl rfl ?_
      refine WL.skip .nil rfl rfl ?_
      refine WL.skip .nil rfl rfl ?_
      refine WL.pick .nil rfl rfl rfl rfl rfl ?_
      refine WL.assign .nil rfl rfl rfl rfl ?_
      with_reducible refine WL.nil ?_
      with_reducible refine Ex.thn_norm ?_
      with_reducible refine W.ret ?_
      obtain rfl := Option.some.inj hr
      exact ⟨.inr rfl, _, (.cons (.tmp rfl) .nil), ⟨(Ext.st hE0 hS56), rfl⟩⟩
theorem f__impl_State_session_k {Δ : Prims} (g : Env Try.prog Δ) {lo n0 : Nat} {H0 F0 : Heap} (hS : St lo n0 H0 F0) {x1 : GState} {a2 : Option Addr} {cap3 : Nat} {a5 : Option Addr} {cap6 : Nat} {x8 : Int} (h4 : SR F0 (.slice a2 x1.Files.length cap3) x1.Files) (h7 : SR F0 (.slice a5 x1.Sessions.length cap6) x1.Sessions) {res : (Int)} (hr : f__impl_State_session x1 x8 = some res) :
    C Try.prog Δ n0 50 [.agg [.slice a2 x1.Files.length cap3, .slice a5 x1.Sessions.length cap6].toArray, .int .i64 x8] n0 H0 (fun v n H => St n0 n H F0 ∧ v = .int .i64 res) := by
  refine C.body Try.func50 rfl rfl ?_
  unfold f__impl_State_session at hr
  have hS0 : St n0 n0 H0 F0 := hS.low (Nat.le_refl _)
  have hE0 := Ext.refl n0 F0
  have hlo0 := hS0.lo
  with_reducible refine W.seq ?_
  with_reducible refine W.region ?_
  refine GL.box hS0 .nil (vc := [.slice a2 x1.Files.length cap3, .slice a5 x1.Sessions.length cap6]) rfl rfl rfl rfl rfl (by repeat' (first | exact List.forall_mem_nil _ | refine List.forall_mem_cons.2 ⟨?_, ?_⟩ | rfl)) (fun H9 hS10 ho11 hk12 => ?_)
  have fo13 := hS0.fnone (Nat.le_refl _)
  have hlon01 := hS10.lo
  have lt14 : n0 < (n0 + 1) := by omega
  refine GL.box hS10 .nil (vc := [.int .i64 x8]) rfl rfl rfl rfl rfl (by repeat' (first | exact List.forall_mem_nil _ | refine List.forall_mem_cons.2 ⟨?_, ?_⟩ | rfl)) (fun H15 hS16 ho17 hk18 => ?_)
  have fo19 := hS10.fnone (Nat.le_refl _)
  have ho21 := (hk18 _ (by have := lt14; omega)).trans ho11
  have hlon011 := hS16.lo
  have lt20 : (n0 + 1) < ((n0 + 1) + 1) := by omega
  refine WL.assign .nil rfl rfl rfl rfl ?_
  with_reducible refine WL.nil ?_
  with_reducible refine Ex.thn_norm ?_
  with_reducible refine W.seq ?_
  with_reducible refine W.region ?_
  refine WL.fieldAddr .nil rfl rfl rfl Try.underlying26 rfl info24 rfl rfl ?_
  refine WL.load1 .nil rfl rfl rfl Try.underlying24 rfl rfl ho21 rfl ?_
  refine WL.mkFunc .nil rfl rfl rfl rfl rfl ?_
  refine GL.callIn (args := [.slice a5 x1.Sessions.length cap6, .func (.func 68) [].toArray [.pointer (some ⟨(n0 + 1), 0, none⟩)].toArray]) .nil n0 rfl rfl rfl rfl rfl rfl Try.func67 rfl rfl (Nat.le_refl _) hS16.lo ?_
  refine C.body Try.func67 rfl rfl ?_
  with_reducible refine W.seq ?_
  with_reducible refine W.region ?_
  refine WL.assign .nil rfl rfl rfl rfl ?_
  with_reducible refine WL.nil ?_
  with_reducible refine Ex.thn_norm ?_
  with_reducible refine W.seq ?_
  with_reducible refine W.seq ?_
  with_reducible refine W.region ?_
  refine WL.move .nil rfl rfl rfl rfl ?_
  refine WL.len .nil rfl rfl rfl Try.underlying24 rfl ?_
  refine WL.move .nil rfl rfl rfl rfl ?_
  with_reducible refine WL.nil ?_
  with_reducible refine Ex.thn_norm ?_
  with_reducible refine W.block ?_
  refine W.loopF (fun k0 fr n H => ∃ (x117 : Int) (F : Heap), fr = [(0, .slice a5 x1.Sessions.length cap6), (1, .func (.func 68) [].toArray [.pointer (some ⟨(n0 + 1), 0, none⟩)].toArray), (7, .int .i64 (x1.Sessions.length : Int)), (8, .int .i64 x117)] ∧ St n0 n H F ∧ Ext n0 F0 n F ∧ H (n0 + 1) = some (.row 1 [.int .i64 x8]) ∧ F (n0 + 1) = none ∧ SR F (.slice a5 x1.Sessions.length cap6) x1.Sessions ∧ f__impl_State_session_L0 x1 x8 k0 x117 = some res) BIG (fr0 := [(0, .slice a5 x1.Sessions.length cap6), (1, .func (.func 68) [].toArray [.pointer (some ⟨(n0 + 1), 0, none⟩)].toArray), (7, .int .i64 (x1.Sessions.length : Int)), (8, .int .i64 0)]) (Fr.le_cons rfl (Fr.le_cons rfl (Fr.le_cons rfl (Fr.le_cons rfl Fr.le_nil)))) ?_ ?_ ?_
  · exact ⟨0, F0, rfl, hS16, (hE0.up (by omega)), ho17, fo19, h7, hr⟩
  · intro fr n H hI
    obtain ⟨x117, F113, hfr, hS114, hE115, ho118, fo119, h116, hr⟩ := hI
    rw [f__impl_State_session_L0] at hr
    cases hr
  · intro k0 _ n111 H112 hI
    obtain ⟨x117, F113, rfl, hS114, hE115, ho118, fo119, h116, hr⟩ := hI
    have lt120 := hS114.lt ho118
    have hlen111 := hE115.le
    have hlon111 := hS114.lo
    rw [f__impl_State_session_L0] at hr
    with_reducible refine W.seq ?_
    with_reducible refine W.region ?_
    refine WL.bin .nil rfl rfl rfl rfl rfl rfl ?_
    with_reducible refine WL.nil ?_
    with_reducible refine Ex.thn_norm ?_
    with_reducible refine W.seq ?_
    refine W.condD rfl (fun hc122 => ?_) (fun hc122 => ?_)
    · replace hr := ite_pos hr hc122
      with_reducible refine W.skip ?_
      with_reducible refine Ex.thn_norm ?_
      with_reducible refine W.seq ?_
      with_reducible refine W.block ?_
      with_reducible refine W.seq ?_
      with_reducible refine W.region ?_
      refine WL.move .nil rfl rfl rfl rfl ?_
      refine WL.assign .nil rfl rfl rfl rfl ?_
      with_reducible refine WL.nil ?_
      with_reducible refine Ex.thn_norm ?_
      with_reducible refine W.seq ?_
      with_reducible refine W.region ?_
      refine WL.move .nil rfl rfl rfl rfl ?_
      refine WL.move .nil rfl rfl rfl rfl ?_
      refine WL.move .nil rfl rfl rfl rfl ?_
      obtain ⟨x139, hx139, hr⟩ := bnd_some hr
      refine GL.index .nil rfl rfl rfl Try.underlying24 info54 rfl rfl h116 hS114.fh rfl hx139 (fun b140 kp141 c142 ecs143 hrow144 hwin145 hR146 => ?_)
      obtain ⟨rfl⟩ := GSession.ofR hR146
      refine WL.loadN .nil (l' := [.int .i64 x139.Client, .int .i64 x139.Seq, .int .i64 x139.Reply.Code, .int .i64 x139.Reply.Version, str x139.Reply.Sha]) rfl rfl rfl Try.underlying54 rfl info54 rfl hrow144 hwin145 rfl ?_
      refine GL.callIn (args := [.agg [.int .i64 x139.Client, .int .i64 x139.Seq, .int .i64 x139.Reply.Code, .int .i64 x139.Reply.Version, str x139.Reply.Sha].toArray, .pointer (some ⟨(n0 + 1), 0, none⟩)]) .nil n0 rfl rfl rfl rfl rfl rfl Try.func68 rfl rfl (Nat.le_refl _) hS114.lo ?_
      refine C.body Try.func68 rfl rfl ?_
      with_reducible refine W.seq ?_
      with_reducible refine W.region ?_
      refine GL.box hS114 .nil (vc := [.int .i64 x139.Client, .int .i64 x139.Seq, .int .i64 x139.Reply.Code, .int .i64 x139.Reply.Version, str x139.Reply.Sha]) rfl rfl rfl rfl rfl (by repeat' (first | exact List.forall_mem_nil _ | refine List.forall_mem_cons.2 ⟨?_, ?_⟩ | rfl)) (fun H147 hS148 ho149 hk150 => ?_)
      have fo151 := hS114.fnone (Nat.le_refl _)
      have ho153 := (hk150 _ (by have := lt120; omega)).trans ho118
      have hlon1111 := hS148.lo
      have lt152 : n111 < (n111 + 1) := by omega
      refine WL.assign .nil rfl rfl rfl rfl ?_
      with_reducible refine WL.nil ?_
      with_reducible refine Ex.thn_norm ?_
      with_reducible refine W.seq ?_
      with_reducible refine W.region ?_
      refine WL.fieldAddr .nil rfl rfl rfl Try.underlying54 rfl info3 rfl rfl ?_
      refine WL.load1 .nil rfl rfl rfl Try.underlying3 rfl rfl ho149 rfl ?_
      refine WL.load1 .nil rfl rfl rfl Try.underlying3 rfl rfl ho153 rfl ?_
      refine WL.bin .nil rfl rfl rfl rfl rfl rfl ?_
      refine WL.assign .nil rfl rfl rfl rfl ?_
      with_reducible refine WL.nil ?_
      with_reducible refine Ex.thn_norm ?_
      with_reducible refine W.ret ?_
      refine ⟨.inr rfl, _, (.cons (.tmp rfl) .nil), ?_⟩
      with_reducible refine WL.nil ?_
      with_reducible refine Ex.thn_norm ?_
      refine W.condD rfl (fun hc154 => ?_) (fun hc154 => ?_)
      · replace hr := ite_pos hr hc154
        with_reducible refine W.seq ?_
        with_reducible refine W.region ?_
        refine WL.move .nil rfl rfl rfl rfl ?_
        refine WL.assign .nil rfl rfl rfl rfl ?_
        with_reducible refine WL.nil ?_
        with_reducible refine Ex.thn_norm ?_
        with_reducible refine W.ret ?_
        with_reducible refine Ex.blk_ret ?_
        with_reducible refine Ex.thn_ret ?_
        with_reducible refine Ex.thn_ret ?_
        with_reducible refine Ex.blk_ret ?_
        with_reducible refine Ex.thn_ret ?_
        refine ⟨.inr rfl, _, (.cons (.tmp rfl) .nil), ?_⟩
        refine WL.assign .nil rfl rfl rfl rfl ?_
        with_reducible refine WL.nil ?_
        with_reducible refine Ex.thn_norm ?_
        with_reducible refine W.ret ?_
        obtain rfl := Option.some.inj hr
        exact ⟨.inr rfl, _, (.cons (.tmp rfl) .nil), ⟨(Ext.st hE115 hS148), rfl⟩⟩
      · replace hr := ite_neg hr hc154
        with_reducible refine W.skip ?_
        with_reducible refine Ex.blk_norm ?_
        with_reducible refine Ex.thn_norm ?_
        with_reducible refine W.region ?_
        obtain ⟨hc155, hr⟩ := chk_some hr
        refine WL.addI .nil rfl rfl rfl rfl rfl hc155.1 hc155.2 ?_
        refine WL.move .nil rfl rfl rfl rfl ?_
        with_reducible refine WL.nil ?_
        with_reducible refine Ex.thn_norm ?_
        exact ⟨[(0, .slice a5 x1.Sessions.length cap6), (1, .func (.func 68) [].toArray [.pointer (some ⟨(n0 + 1), 0, none⟩)].toArray), (7, .int .i64 (x1.Sessions.length : Int)), (8, .int .i64 (x117 + 1))], (Fr.le_cons rfl (Fr.le_cons rfl (Fr.le_cons rfl (Fr.le_cons rfl Fr.le_nil)))), (x117 + 1), F113, rfl, hS148, (hE115.up (by omega)), ho153, fo119, h116, hr⟩
    · replace hr := ite_neg hr hc122
      with_reducible refine W.exit ?_
      with_reducible refine Ex.thn_ex ?_
      with_reducible refine Ex.thn_ex ?_
      with_reducible refine Ex.blk_here ?_
      with_reducible refine Ex.thn_norm ?_
      with_reducible refine W.seq ?_
      with_reducible refine W.region ?_
      refine WL.assign .nil rfl rfl rfl rfl ?_
      with_reducible refine WL.nil ?_
      with_reducible refine Ex.thn_norm ?_
      with_reducible refine W.ret ?_
      refine ⟨.inr rfl, _, (.cons (.tmp rfl) .nil), ?_⟩
      refine WL.assign .nil rfl rfl rfl rfl ?_
      with_reducible refine WL.nil ?_
      with_reducible refine Ex.thn_norm ?_
      with_reducible refine W.ret ?_
      obtain rfl := Option.some.inj hr
      exact ⟨.inr rfl, _, (.cons (.tmp rfl) .nil), ⟨(Ext.st hE115 hS114), rfl⟩⟩
theorem f_impl_StateOK_k {Δ : Prims} (g : Env Try.prog Δ) {lo n0 : Nat} {H0 F0 : Heap} (hS : St lo n0 H0 F0) {x1 : GState} {a2 : Option Addr} {cap3 : Nat} {a5 : Option Addr} {cap6 : Nat} (h4 : SR F0 (.slice a2 x1.Files.length cap3) x1.Files) (h7 : SR F0 (.slice a5 x1.Sessions.length cap6) x1.Sessions) {res : (Bool)} (hr : f_impl_StateOK x1 = some res) :
    C Try.prog Δ n0 24 [.agg [.slice a2 x1.Files.length cap3, .slice a5 x1.Sessions.length cap6].toArray] n0 H0 (fun v n H => St n0 n H F0 ∧ v = .bool res) := by
  refine C.body Try.func24 rfl rfl ?_
  unfold f_impl_StateOK at hr
  have hS0 : St n0 n0 H0 F0 := hS.low (Nat.le_refl _)
  have hE0 := Ext.refl n0 F0
  have hlo0 := hS0.lo
  with_reducible refine W.seq ?_
  with_reducible refine W.region ?_
  refine GL.box hS0 .nil (vc := [.slice a2 x1.Files.length cap3, .slice a5 x1.Sessions.length cap6]) rfl rfl rfl rfl rfl (by repeat' (first | exact List.forall_mem_nil _ | refine List.forall_mem_cons.2 ⟨?_, ?_⟩ | rfl)) (fun H8 hS9 ho10 hk11 => ?_)
  have fo12 := hS0.fnone (Nat.le_refl _)
  have hlon01 := hS9.lo
  have lt13 : n0 < (n0 + 1) := by omega
  refine WL.assign .nil rfl rfl rfl rfl ?_
  with_reducible refine WL.nil ?_
  with_reducible refine Ex.thn_norm ?_
  with_reducible refine W.seq ?_
  with_reducible refine W.seq ?_
  refine W.cut (fun fr n H => ∃ (x20 : Bool) (F : Heap), fr = [(1, .pointer (some ⟨n0, 0, none⟩)), (16, .bool x20)] ∧ St n0 n H F ∧ Ext n0 F0 n F ∧ H n0 = some (.row 1 [.slice a2 x1.Files.length cap3, .slice a5 x1.Sessions.length cap6]) ∧ F n0 = none ∧ SR F (.slice a2 x1.Files.length cap3) x1.Files ∧ SR F (.slice a5 x1.Sessions.length cap6) x1.Sessions ∧ f_impl_StateOK_J0 x1 x20 = some res) ?_ ?_
  · with_reducible refine W.region ?_
    refine WL.fieldAddr .nil rfl rfl rfl Try.underlying26 rfl info23 rfl rfl ?_
    refine WL.load1 .nil rfl rfl rfl Try.underlying23 rfl rfl ho10 rfl ?_
    refine WL.len .nil rfl rfl rfl Try.underlying23 rfl ?_
    refine WL.bin .nil rfl rfl rfl rfl rfl rfl ?_
    refine WL.move .nil rfl rfl rfl rfl ?_
    refine WL.guardD rfl rfl rfl (fun hg2035 => ?_) (fun hg2035 => ?_)
    · replace hr := ite_pos hr hg2035
      refine WL.skip .nil rfl rfl ?_
      refine WL.skip .nil rfl rfl ?_
      refine WL.skip .nil rfl rfl ?_
      refine WL.skip .nil rfl rfl ?_
      refine WL.pick .nil rfl rfl rfl rfl rfl ?_
      with_reducible refine WL.nil ?_
      with_reducible refine Ex.thn_norm ?_
      exact ⟨[(1, .pointer (some ⟨n0, 0, none⟩)), (16, .bool true)], (Fr.le_cons rfl (Fr.le_cons rfl Fr.le_nil)), true, F0, rfl, hS9, (hE0.up (by omega)), ho10, fo12, h4, h7, hr⟩
    · replace hr := ite_neg hr hg2035
      refine WL.fieldAddr .nil rfl rfl rfl Try.underlying26 rfl info24 rfl rfl ?_
      refine WL.load1 .nil rfl rfl rfl Try.underlying24 rfl rfl ho10 rfl ?_
      refine WL.len .nil rfl rfl rfl Try.underlying24 rfl ?_
      refine WL.bin .nil rfl rfl rfl rfl rfl rfl ?_
      refine WL.pick .nil rfl rfl rfl rfl rfl ?_
      with_reducible refine WL.nil ?_
      with_reducible refine Ex.thn_norm ?_
      exact ⟨[(1, .pointer (some ⟨n0, 0, none⟩)), (16, .bool (decide ((200 : Int) < (x1.Sessions.length : Int))))], (Fr.le_cons rfl (Fr.le_cons rfl Fr.le_nil)), (decide ((200 : Int) < (x1.Sessions.length : Int))), F0, rfl, hS9, (hE0.up (by omega)), ho10, fo12, h4, h7, hr⟩
  · intro _ n15 H16 hI
    obtain ⟨x20, F17, rfl, hS18, hE19, ho23, fo24, h21, h22, hr⟩ := hI
    have lt25 := hS18.lt ho23
    have hlen15 := hE19.le
    have hlon15 := hS18.lo
    unfold f_impl_StateOK_J0 at hr
    refine W.cond rfl (fun hc27 => ?_) (fun hc27 => ?_)
    · replace hr := iteB_pos hr hc27
      with_reducible refine W.seq ?_
      with_reducible refine W.region ?_
      refine WL.assign .nil rfl rfl rfl rfl ?_
      with_reducible refine WL.nil ?_
      with_reducible refine Ex.thn_norm ?_
      with_reducible refine W.ret ?_
      with_reducible refine Ex.thn_ret ?_
      obtain rfl := Option.some.inj hr
      exact ⟨.inr rfl, _, (.cons (.tmp rfl) .nil), ⟨(Ext.st hE19 hS18), rfl⟩⟩
    · replace hr := iteB_neg hr hc27
      with_reducible refine W.skip ?_
      with_reducible refine Ex.thn_norm ?_
      with_reducible refine W.seq ?_
      with_reducible refine W.seq ?_
      with_reducible refine W.region ?_
      refine WL.fieldAddr .nil rfl rfl rfl Try.underlying26 rfl info23 rfl rfl ?_
      refine WL.load1 .nil rfl rfl rfl Try.underlying23 rfl rfl ho23 rfl ?_
      refine WL.len .nil rfl rfl rfl Try.underlying23 rfl ?_
      refine WL.move .nil rfl rfl rfl rfl ?_
      with_reducible refine WL.nil ?_
      with_reducible refine Ex.thn_norm ?_
      with_reducible refine W.block ?_
      refine W.loopF (fun k1 fr n H => ∃ (x1082 : Int) (F : Heap), fr = [(1, .pointer (some ⟨n0, 0, none⟩)), (18, .slice a2 x1.Files.length cap3), (19, .int .i64 (x1.Files.length : Int)), (20, .int .i64 x1082)] ∧ St n0 n H F ∧ Ext n0 F0 n F ∧ H n0 = some (.row 1 [.slice a2 x1.Files.length cap3, .slice a5 x1.Sessions.length cap6]) ∧ F n0 = none ∧ SR F (.slice a2 x1.Files.length cap3) x1.Files ∧ SR F (.slice a5 x1.Sessions.length cap6) x1.Sessions ∧ f_impl_StateOK_L1 x1 k1 x1082 = some res) BIG (fr0 := [(1, .pointer (some ⟨n0, 0, none⟩)), (18, .slice a2 x1.Files.length cap3), (19, .int .i64 (x1.Files.length : Int)), (20, .int .i64 0)]) (Fr.le_cons rfl (Fr.le_cons rfl (Fr.le_cons rfl (Fr.le_cons rfl Fr.le_nil)))) ?_ ?_ ?_
      · exact ⟨0, F17, rfl, hS18, hE19, ho23, fo24, h21, h22, hr⟩
      · intro fr n H hI
        obtain ⟨x1082, F1078, hfr, hS1079, hE1080, ho1084, fo1085, h1081, h1083, hr⟩ := hI
        rw [f_impl_StateOK_L1] at hr
        cases hr
      · intro k1 _ n1076 H1077 hI
        obtain ⟨x1082, F1078, rfl, hS1079, hE1080, ho1084, fo1085, h1081, h1083, hr⟩ := hI
        have lt1086 := hS1079.lt ho1084
        have hlen1076 := hE1080.le
        have hlon1076 := hS1079.lo
        rw [f_impl_StateOK_L1] at hr
        with_reducible refine W.seq ?_
        with_reducible refine W.region ?_
        refine WL.bin .nil rfl rfl rfl rfl rfl rfl ?_
        with_reducible refine WL.nil ?_
        with_reducible refine Ex.thn_norm ?_
        with_reducible refine W.seq ?_
        refine W.condD rfl (fun hc1088 => ?_) (fun hc1088 => ?_)
        · replace hr := ite_pos hr hc1088
          with_reducible refine W.skip ?_
          with_reducible refine Ex.thn_norm ?_
          with_reducible refine W.seq ?_
          with_reducible refine W.block ?_
          with_reducible refine W.seq ?_
          with_reducible refine W.region ?_
          refine WL.move .nil rfl rfl rfl rfl ?_
          obtain ⟨x1187, hx1187, hr⟩ := bnd_some hr
          refine GL.index .nil rfl rfl rfl Try.underlying23 info50 rfl rfl h1081 hS1079.fh rfl hx1187 (fun b1188 kp1189 c1190 ecs1191 hrow1192 hwin1193 hR1194 => ?_)
          obtain ⟨rfl⟩ := GFile.ofR hR1194
          refine WL.loadN .nil (l' := [str x1187.Name, .int .i64 x1187.Version, str x1187.Text]) rfl rfl rfl Try.underlying50 rfl info50 rfl hrow1192 hwin1193 rfl ?_
          refine GL.alloc hS1079 .nil (zc := [str ([] : List UInt8), .int .i64 0, str ([] : List UInt8)]) rfl rfl rfl info50 rfl rfl rfl (fun H1195 hS1196 ho1197 hk1198 => ?_)
          have fo1199 := hS1079.fnone (Nat.le_refl _)
          have ho1201 := (hk1198 _ (by have := lt1086; omega)).trans ho1084
          have hlon10761 := hS1196.lo
          have lt1200 : n1076 < (n1076 + 1) := by omega
          refine WL.assign .nil rfl rfl rfl rfl ?_
          refine GL.store hS1196 .nil (vc := [str x1187.Name, .int .i64 x1187.Version, str x1187.Text]) (c' := [str x1187.Name, .int .i64 x1187.Version, str x1187.Text]) rfl rfl rfl info50 rfl rfl rfl rfl ho1197 fo1199 (Nat.le_of_ble_eq_true rfl) (by omega) (by repeat' (first | exact List.forall_mem_nil _ | refine List.forall_mem_cons.2 ⟨?_, ?_⟩ | rfl)) rfl (fun H1202 hS1203 ho1204 hk1205 => ?_)
          have ho1206 := (hk1205 _ (by omega)).trans ho1201
          with_reducible refine WL.nil ?_
          with_reducible refine Ex.thn_norm ?_
          with_reducible refine W.seq ?_
          refine W.cut (fun fr n H => ∃ (x1246 : Bool) (F : Heap), fr = [(1, .pointer (some ⟨n0, 0, none⟩)), (18, .slice a2 x1.Files.length cap3), (19, .int .i64 (x1.Files.length : Int)), (20, .int .i64 x1082), (48, .bool x1246)] ∧ St n0 n H F ∧ Ext n0 F0 n F ∧ H n0 = some (.row 1 [.slice a2 x1.Files.length cap3, .slice a5 x1.Sessions.length cap6]) ∧ F n0 = none ∧ SR F (.slice a2 x1.Files.length cap3) x1.Files ∧ SR F (.slice a5 x1.Sessions.length cap6) x1.Sessions ∧ f_impl_StateOK_J2 x1082 (f_impl_StateOK_L1 x1 k1) x1246 = some res) ?_ ?_
          · with_reducible refine W.region ?_
            refine WL.fieldAddr .nil rfl rfl rfl Try.underlying50 rfl info9 rfl rfl ?_
            refine WL.load1 .nil rfl rfl rfl Try.underlying9 rfl rfl ho1204 rfl ?_
            obtain ⟨x1253, hx1253, hr⟩ := bnd_some hr
            refine GL.callP g.good .nil rfl rfl rfl rfl rfl rfl Try.func46 rfl rfl hS1203.lo (f_impl_NameOK_k  g hS1203 hx1253) (fun v n1254 H1255 hn1256 hk1257 hp1258 => ?_)
            obtain ⟨hS1259, rfl⟩ := hp1258
            have ho1260 := (hk1257 _ (by have := lt1086; omega)).trans ho1206
            have ho1261 := (hk1257 _ (by have := lt1200; omega)).trans ho1204
            have hS1262 : St n0 n1254 H1255 F1078 := ⟨by have := hS1203.lo; omega, hS1259.hb, hS1259.fh⟩
            have hlon1254 := hS1262.lo
            refine WL.not .nil rfl rfl rfl rfl ?_
            refine WL.move .nil rfl rfl rfl rfl ?_
            refine WL.guard rfl rfl rfl (fun hg1263 => ?_) (fun hg1263 => ?_)
            · replace hr := iteB_pos hr hg1263
              refine WL.skip .nil rfl rfl ?_
              refine WL.skip .nil rfl rfl ?_
              refine WL.skip .nil rfl rfl ?_
              refine WL.skip .nil rfl rfl ?_
              refine WL.pick .nil rfl rfl rfl rfl rfl ?_
              refine WL.move .nil rfl rfl rfl rfl ?_
              refine WL.skip .nil rfl rfl ?_
              refine WL.skip .nil rfl rfl ?_
              refine WL.skip .nil rfl rfl ?_
              refine WL.skip .nil rfl rfl ?_
              refine WL.pick .nil rfl rfl rfl rfl rfl ?_
              refine WL.move .nil rfl rfl rfl rfl ?_
              refine WL.skip .nil rfl rfl ?_
              refine WL.skip .nil rfl rfl ?_
              refine WL.skip .nil rfl rfl ?_
              refine WL.skip .nil rfl rfl ?_
              refine WL.skip .nil rfl rfl ?_
              refine WL.skip .nil rfl rfl ?_
              refine WL.pick .nil rfl rfl rfl rfl rfl ?_
              with_reducible refine WL.nil ?_
              with_reducible refine Ex.thn_norm ?_
              exact ⟨[(1, .pointer (some ⟨n0, 0, none⟩)), (18, .slice a2 x1.Files.length cap3), (19, .int .i64 (x1.Files.length : Int)), (20, .int .i64 x1082), (48, .bool true)], (Fr.le_cons rfl (Fr.le_cons rfl (Fr.le_cons rfl (Fr.le_cons rfl (Fr.le_cons rfl Fr.le_nil))))), true, F1078, rfl, hS1262, (hE1080.up (by omega)), ho1260, fo1085, h1081, h1083, hr⟩
            · replace hr := iteB_neg hr hg1263
              refine WL.fieldAddr .nil rfl rfl rfl Try.underlying50 rfl info3 rfl rfl ?_
              refine WL.load1 .nil rfl rfl rfl Try.underlying3 rfl rfl ho1261 rfl ?_
              obtain ⟨x1264, hx1264, hr⟩ := bnd_some hr
              refine GL.callP g.good .nil rfl rfl rfl rfl rfl rfl Try.func47 rfl rfl hS1262.lo (f_impl_isCount_k  g hS1262 hx1264) (fun v n1265 H1266 hn1267 hk1268 hp1269 => ?_)
              obtain ⟨hS1270, rfl⟩ := hp1269
              have ho1271 := (hk1268 _ (by have := lt1086; omega)).trans ho1260
              have ho1272 := (hk1268 _ (by have := lt1200; omega)).trans ho1261
              have hS1273 : St n0 n1265 H1266 F1078 := ⟨by have := hS1262.lo; omega, hS1270.hb, hS1270.fh⟩
              have hlon1265 := hS1273.lo
              refine WL.not .nil rfl rfl rfl rfl ?_
              refine WL.pick .nil rfl rfl rfl rfl rfl ?_
              refine WL.move .nil rfl rfl rfl rfl ?_
              refine WL.guard rfl rfl rfl (fun hg1274 => ?_) (fun hg1274 => ?_)
              · replace hr := iteB_pos hr hg1274
                refine WL.skip .nil rfl rfl ?_
                refine WL.skip .nil rfl rfl ?_
                refine WL.skip .nil rfl rfl ?_
                refine WL.skip .nil rfl rfl ?_
                refine WL.pick .nil rfl rfl rfl rfl rfl ?_
                refine WL.move .nil rfl rfl rfl rfl ?_
                refine WL.skip .nil rfl rfl ?_
                refine WL.skip .nil rfl rfl ?_
                refine WL.skip .nil rfl rfl ?_
                refine WL.skip .nil rfl rfl ?_
                refine WL.skip .nil rfl rfl ?_
                refine WL.skip .nil rfl rfl ?_
                refine WL.pick .nil rfl rfl rfl rfl rfl ?_
                with_reducible refine WL.nil ?_
                with_reducible refine Ex.thn_norm ?_
                exact ⟨[(1, .pointer (some ⟨n0, 0, none⟩)), (18, .slice a2 x1.Files.length cap3), (19, .int .i64 (x1.Files.length : Int)), (20, .int .i64 x1082), (48, .bool true)], (Fr.le_cons rfl (Fr.le_cons rfl (Fr.le_cons rfl (Fr.le_cons rfl (Fr.le_cons rfl Fr.le_nil))))), true, F1078, rfl, hS1273, (hE1080.up (by omega)), ho1271, fo1085, h1081, h1083, hr⟩
              · replace hr := iteB_neg hr hg1274
                refine WL.fieldAddr .nil rfl rfl rfl Try.underlying50 rfl info9 rfl rfl ?_
                refine WL.load1 .nil rfl rfl rfl Try.underlying9 rfl rfl ho1272 rfl ?_
                refine GL.lenStr .nil rfl rfl rfl Try.underlying9 rfl ?_
                refine WL.bin .nil rfl rfl rfl rfl rfl rfl ?_
                refine WL.pick .nil rfl rfl rfl rfl rfl ?_
                refine WL.move .nil rfl rfl rfl rfl ?_
                refine WL.guardD rfl rfl rfl (fun hg1275 => ?_) (fun hg1275 => ?_)
                · replace hr := ite_pos hr hg1275
                  refine WL.skip .nil rfl rfl ?_
                  refine WL.skip .nil rfl rfl ?_
                  refine WL.skip .nil rfl rfl ?_
                  refine WL.skip .nil rfl rfl ?_
                  refine WL.skip .nil rfl rfl ?_
                  refine WL.skip .nil rfl rfl ?_
                  refine WL.pick .nil rfl rfl rfl rfl rfl ?_
                  with_reducible refine WL.nil ?_
                  with_reducible refine Ex.thn_norm ?_
                  exact ⟨[(1, .pointer (some ⟨n0, 0, none⟩)), (18, .slice a2 x1.Files.length cap3), (19, .int .i64 (x1.Files.length : Int)), (20, .int .i64 x1082), (48, .bool true)], (Fr.le_cons rfl (Fr.le_cons rfl (Fr.le_cons rfl (Fr.le_cons rfl (Fr.le_cons rfl Fr.le_nil))))), true, F1078, rfl, hS1273, (hE1080.up (by omega)), ho1271, fo1085, h1081, h1083, hr⟩
                · replace hr := ite_neg hr hg1275
                  refine WL.loadN .nil (l' := [.slice a2 x1.Files.length cap3, .slice a5 x1.Sessions.length cap6]) rfl rfl rfl Try.underlying26 rfl info26 rfl ho1271 rfl rfl ?_
                  refine WL.fieldAddr .nil rfl rfl rfl Try.underlying50 rfl info9 rfl rfl ?_
                  refine WL.load1 .nil rfl rfl rfl Try.underlying9 rfl rfl ho1272 rfl ?_
                  obtain ⟨x1276, hx1276, hr⟩ := bnd_some hr
                  refine GL.callP g.good .nil rfl rfl rfl rfl rfl rfl Try.func48 rfl rfl hS1273.lo (f__impl_State_file_k  g hS1273 h1081 h1083 hx1276) (fun v n1277 H1278 hn1279 hk1280 hp1281 => ?_)
                  obtain ⟨hS1282, rfl⟩ := hp1281
                  have ho1283 := (hk1280 _ (by have := lt1086; omega)).trans ho1271
                  have ho1284 := (hk1280 _ (by have := lt1200; omega)).trans ho1272
                  have hS1285 : St n0 n1277 H1278 F1078 := ⟨by have := hS1273.lo; omega, hS1282.hb, hS1282.fh⟩
                  have hlon1277 := hS1285.lo
                  refine WL.move .nil rfl rfl rfl rfl ?_
                  refine WL.bin .nil rfl rfl rfl rfl rfl rfl ?_
                  refine WL.pick .nil rfl rfl rfl rfl rfl ?_
                  with_reducible refine WL.nil ?_
                  with_reducible refine Ex.thn_norm ?_
                  exact ⟨[(1, .pointer (some ⟨n0, 0, none⟩)), (18, .slice a2 x1.Files.length cap3), (19, .int .i64 (x1.Files.length : Int)), (20, .int .i64 x1082), (48, .bool (!decide (x1276 = x1082)))], (Fr.le_cons rfl (Fr.le_cons rfl (Fr.le_cons rfl (Fr.le_cons rfl (Fr.le_cons rfl Fr.le_nil))))), (!decide (x1276 = x1082)), F1078, rfl, hS1285, (hE1080.up (by omega)), ho1283, fo1085, h1081, h1083, hr⟩
          · intro _ n1240 H1241 hI
            obtain ⟨x1246, F1242, rfl, hS1243, hE1244, ho1248, fo1249, h1245, h1247, hr⟩ := hI
            have lt1250 := hS1243.lt ho1248
            have hlen1240 := hE1244.le
            have hlon1240 := hS1243.lo
            unfold f_impl_StateOK_J2 at hr
            refine W.cond rfl (fun hc1251 => ?_) (fun hc1251 => ?_)
            · replace hr := iteB_pos hr hc1251
              with_reducible refine W.seq ?_
              with_reducible refine W.region ?_
              refine WL.assign .nil rfl rfl rfl rfl ?_
              with_reducible refine WL.nil ?_
              with_reducible refine Ex.thn_norm ?_
              with_reducible refine W.ret ?_
              with_reducible refine Ex.blk_ret ?_
              with_reducible refine Ex.thn_ret ?_
              with_reducible refine Ex.thn_ret ?_
              with_reducible refine Ex.blk_ret ?_
              with_reducible refine Ex.thn_ret ?_
              obtain rfl := Option.some.inj hr
              exact ⟨.inr rfl, _, (.cons (.tmp rfl) .nil), ⟨(Ext.st hE1244 hS1243), rfl⟩⟩
            · replace hr := iteB_neg hr hc1251
              with_reducible refine W.skip ?_
              with_reducible refine Ex.blk_norm ?_
              with_reducible refine Ex.thn_norm ?_
              with_reducible refine W.region ?_
              obtain ⟨hc1252, hr⟩ := chk_some hr
              refine WL.addI .nil rfl rfl rfl rfl rfl hc1252.1 hc1252.2 ?_
              refine WL.move .nil rfl rfl rfl rfl ?_
              with_reducible refine WL.nil ?_
              with_reducible refine Ex.thn_norm ?_
              exact ⟨[(1, .pointer (some ⟨n0, 0, none⟩)), (18, .slice a2 x1.Files.length cap3), (19, .int .i64 (x1.Files.length : Int)), (20, .int .i64 (x1082 + 1))], (Fr.le_cons rfl (Fr.le_cons rfl (Fr.le_cons rfl (Fr.le_cons rfl Fr.le_nil)))), (x1082 + 1), F1242, rfl, hS1243, hE1244, ho1248, fo1249, h1245, h1247, hr⟩
        · replace hr := ite_neg hr hc1088
          with_reducible refine W.exit ?_
          with_reducible refine Ex.thn_ex ?_
          with_reducible refine Ex.thn_ex ?_
          with_reducible refine Ex.blk_here ?_
          with_reducible refine Ex.thn_norm ?_
          with_reducible refine W.seq ?_
          with_reducible refine W.seq ?_
          with_reducible refine W.region ?_
          refine WL.fieldAddr .nil rfl rfl rfl Try.underlying26 rfl info24 rfl rfl ?_
          refine WL.load1 .nil rfl rfl rfl Try.underlying24 rfl rfl ho1084 rfl ?_
          refine WL.len .nil rfl rfl rfl Try.underlying24 rfl ?_
          refine WL.move .nil rfl rfl rfl rfl ?_
          with_reducible refine WL.nil ?_
          with_reducible refine Ex.thn_norm ?_
          with_reducible refine W.block ?_
          refine W.loopF (fun k3 fr n H => ∃ (x1791 : Int) (F : Heap), fr = [(1, .pointer (some ⟨n0, 0, none⟩)), (51, .slice a5 x1.Sessions.length cap6), (52, .int .i64 (x1.Sessions.length : Int)), (53, .int .i64 x1791)] ∧ St n0 n H F ∧ Ext n0 F0 n F ∧ H n0 = some (.row 1 [.slice a2 x1.Files.length cap3, .slice a5 x1.Sessions.length cap6]) ∧ F n0 = none ∧ SR F (.slice a5 x1.Sessions.length cap6) x1.Sessions ∧ SR F (.slice a2 x1.Files.length cap3) x1.Files ∧ f_impl_StateOK_L3 x1 k3 x1791 = some res) BIG (fr0 := [(1, .pointer (some ⟨n0, 0, none⟩)), (51, .slice a5 x1.Sessions.length cap6), (52, .int .i64 (x1.Sessions.length : Int)), (53, .int .i64 0)]) (Fr.le_cons rfl (Fr.le_cons rfl (Fr.le_cons rfl (Fr.le_cons rfl Fr.le_nil)))) ?_ ?_ ?_
          · exact ⟨0, F1078, rfl, hS1079, hE1080, ho1084, fo1085, h1083, h1081, hr⟩
          · intro fr n H hI
            obtain ⟨x1791, F1787, hfr, hS1788, hE1789, ho1793, fo1794, h1790, h1792, hr⟩ := hI
            rw [f_impl_StateOK_L3] at hr
            cases hr
          · intro k3 _ n1785 H1786 hI
            obtain ⟨x1791, F1787, rfl, hS1788, hE1789, ho1793, fo1794, h1790, h1792, hr⟩ := hI
            have lt1795 := hS1788.lt ho1793
            have hlen1785 := hE1789.le
            have hlon1785 := hS1788.lo
            rw [f_impl_StateOK_L3] at hr
            with_reducible refine W.seq ?_
            with_reducible refine W.region ?_
            refine WL.bin .nil rfl rfl rfl rfl rfl rfl ?_
            with_reducible refine WL.nil ?_
            with_reducible refine Ex.thn_norm ?_
            with_reducible refine W.seq ?_
            refine W.condD rfl (fun hc1797 => ?_) (fun hc1797 => ?_)
            · replace hr := ite_pos hr hc1797
              with_reducible refine W.skip ?_
              with_reducible refine Ex.thn_norm ?_
              with_reducible refine W.seq ?_
              with_reducible refine W.block ?_
              with_reducible refine W.seq ?_
              with_reducible refine W.region ?_
              refine WL.move .nil rfl rfl rfl rfl ?_
              obtain ⟨x1916, hx1916, hr⟩ := bnd_some hr
              refine GL.index .nil rfl rfl rfl Try.underlying24 info54 rfl rfl h1790 hS1788.fh rfl hx1916 (fun b1917 kp1918 c1919 ecs1920 hrow1921 hwin1922 hR1923 => ?_)
              obtain ⟨rfl⟩ := GSession.ofR hR1923
              refine WL.loadN .nil (l' := [.int .i64 x1916.Client, .int .i64 x1916.Seq, .int .i64 x1916.Reply.Code, .int .i64 x1916.Reply.Version, str x1916.Reply.Sha]) rfl rfl rfl Try.underlying54 rfl info54 rfl hrow1921 hwin1922 rfl ?_
              refine GL.alloc hS1788 .nil (zc := [.int .i64 0, .int .i64 0, .int .i64 0, .int .i64 0, str ([] : List UInt8)]) rfl rfl rfl info54 rfl rfl rfl (fun H1924 hS1925 ho1926 hk1927 => ?_)
              have fo1928 := hS1788.fnone (Nat.le_refl _)
              have ho1930 := (hk1927 _ (by have := lt1795; omega)).trans ho1793
              have hlon17851 := hS1925.lo
              have lt1929 : n1785 < (n1785 + 1) := by omega
              refine WL.assign .nil rfl rfl rfl rfl ?_
              refine GL.store hS1925 .nil (vc := [.int .i64 x1916.Client, .int .i64 x1916.Seq, .int .i64 x1916.Reply.Code, .int .i64 x1916.Reply.Version, str x1916.Reply.Sha]) (c' := [.int .i64 x1916.Client, .int .i64 x1916.Seq, .int .i64 x1916.Reply.Code, .int .i64 x1916.Reply.Version, str x1916.Reply.Sha]) rfl rfl rfl info54 rfl rfl rfl rfl ho1926 fo1928 (Nat.le_of_ble_eq_true rfl) (by omega) (by repeat' (first | exact List.forall_mem_nil _ | refine List.forall_mem_cons.2 ⟨?_, ?_⟩ | rfl)) rfl (fun H1931 hS1932 ho1933 hk1934 => ?_)
              have ho1935 := (hk1934 _ (by omega)).trans ho1930
              with_reducible refine WL.nil ?_
              with_reducible refine Ex.thn_norm ?_
              with_reducible refine W.seq ?_
              refine W.cut (fun fr n H => ∃ (x1985 : Bool) (F : Heap), fr = [(1, .pointer (some ⟨n0, 0, none⟩)), (51, .slice a5 x1.Sessions.length cap6), (52, .int .i64 (x1.Sessions.length : Int)), (53, .int .i64 x1791), (81, .bool x1985)] ∧ St n0 n H F ∧ Ext n0 F0 n F ∧ H n0 = some (.row 1 [.slice a2 x1.Files.length cap3, .slice a5 x1.Sessions.length cap6]) ∧ F n0 = none ∧ SR F (.slice a5 x1.Sessions.length cap6) x1.Sessions ∧ SR F (.slice a2 x1.Files.length cap3) x1.Files ∧ f_impl_StateOK_J4 x1791 (f_impl_StateOK_L3 x1 k3) x1985 = some res) ?_ ?_
              · with_reducible refine W.region ?_
                refine WL.fieldAddr .nil rfl rfl rfl Try.underlying54 rfl info3 rfl rfl ?_
                refine WL.load1 .nil rfl rfl rfl Try.underlying3 rfl rfl ho1933 rfl ?_
                obtain ⟨x1992, hx1992, hr⟩ := bnd_some hr
                refine GL.callP g.good .nil rfl rfl rfl rfl rfl rfl Try.func47 rfl rfl hS1932.lo (f_impl_isCount_k  g hS1932 hx1992) (fun v n1993 H1994 hn1995 hk1996 hp1997 => ?_)
                obtain ⟨hS1998, rfl⟩ := hp1997
                have ho1999 := (hk1996 _ (by have := lt1795; omega)).trans ho1935
                have ho2000 := (hk1996 _ (by have := lt1929; omega)).trans ho1933
                have hS2001 : St n0 n1993 H1994 F1787 := ⟨by have := hS1932.lo; omega, hS1998.hb, hS1998.fh⟩
                have hlon1993 := hS2001.lo
                refine WL.not .nil rfl rfl rfl rfl ?_
                refine WL.move .nil rfl rfl rfl rfl ?_
                refine WL.guard rfl rfl rfl (fun hg2002 => ?_) (fun hg2002 => ?_)
                · replace hr := iteB_pos hr hg2002
                  refine WL.skip .nil rfl rfl ?_
                  refine WL.skip .nil rfl rfl ?_
                  refine WL.skip .nil rfl rfl ?_
                  refine WL.skip .nil rfl rfl ?_
                  refine WL.pick .nil rfl rfl rfl rfl rfl ?_
                  refine WL.move .nil rfl rfl rfl rfl ?_
                  refine WL.skip .nil rfl rfl ?_
                  refine WL.skip .nil rfl rfl ?_
                  refine WL.skip .nil rfl rfl ?_
                  refine WL.skip .nil rfl rfl ?_
                  refine WL.pick .nil rfl rfl rfl rfl rfl ?_
                  refine WL.move .nil rfl rfl rfl rfl ?_
                  refine WL.skip .nil rfl rfl ?_
                  refine WL.skip .nil rfl rfl ?_
                  refine WL.skip .nil rfl rfl ?_
                  refine WL.skip .nil rfl rfl ?_
                  refine WL.skip .nil rfl rfl ?_
                  refine WL.skip .nil rfl rfl ?_
                  refine WL.pick .nil rfl rfl rfl rfl rfl ?_
                  with_reducible refine WL.nil ?_
                  with_reducible refine Ex.thn_norm ?_
                  exact ⟨[(1, .pointer (some ⟨n0, 0, none⟩)), (51, .slice a5 x1.Sessions.length cap6), (52, .int .i64 (x1.Sessions.length : Int)), (53, .int .i64 x1791), (81, .bool true)], (Fr.le_cons rfl (Fr.le_cons rfl (Fr.le_cons rfl (Fr.le_cons rfl (Fr.le_cons rfl Fr.le_nil))))), true, F1787, rfl, hS2001, (hE1789.up (by omega)), ho1999, fo1794, h1790, h1792, hr⟩
                · replace hr := iteB_neg hr hg2002
                  refine WL.fieldAddr .nil rfl rfl rfl Try.underlying54 rfl info3 rfl rfl ?_
                  refine WL.load1 .nil rfl rfl rfl Try.underlying3 rfl rfl ho2000 rfl ?_
                  obtain ⟨x2003, hx2003, hr⟩ := bnd_some hr
                  refine GL.callP g.good .nil rfl rfl rfl rfl rfl rfl Try.func47 rfl rfl hS2001.lo (f_impl_isCount_k  g hS2001 hx2003) (fun v n2004 H2005 hn2006 hk2007 hp2008 => ?_)
                  obtain ⟨hS2009, rfl⟩ := hp2008
                  have ho2010 := (hk2007 _ (by have := lt1795; omega)).trans ho1999
                  have ho2011 := (hk2007 _ (by have := lt1929; omega)).trans ho2000
                  have hS2012 : St n0 n2004 H2005 F1787 := ⟨by have := hS2001.lo; omega, hS2009.hb, hS2009.fh⟩
                  have hlon2004 := hS2012.lo
                  refine WL.not .nil rfl rfl rfl rfl ?_
                  refine WL.pick .nil rfl rfl rfl rfl rfl ?_
                  refine WL.move .nil rfl rfl rfl rfl ?_
                  refine WL.guard rfl rfl rfl (fun hg2013 => ?_) (fun hg2013 => ?_)
                  · replace hr := iteB_pos hr hg2013
                    refine WL.skip .nil rfl rfl ?_
                    refine WL.skip .nil rfl rfl ?_
                    refine WL.skip .nil rfl rfl ?_
                    refine WL.skip .nil rfl rfl ?_
                    refine WL.pick .nil rfl rfl rfl rfl rfl ?_
                    refine WL.move .nil rfl rfl rfl rfl ?_
                    refine WL.skip .nil rfl rfl ?_
                    refine WL.skip .nil rfl rfl ?_
                    refine WL.skip .nil rfl rfl ?_
                    refine WL.skip .nil rfl rfl ?_
                    refine WL.skip .nil rfl rfl ?_
                    refine WL.skip .nil rfl rfl ?_
                    refine WL.pick .nil rfl rfl rfl rfl rfl ?_
                    with_reducible refine WL.nil ?_
                    with_reducible refine Ex.thn_norm ?_
                    exact ⟨[(1, .pointer (some ⟨n0, 0, none⟩)), (51, .slice a5 x1.Sessions.length cap6), (52, .int .i64 (x1.Sessions.length : Int)), (53, .int .i64 x1791), (81, .bool true)], (Fr.le_cons rfl (Fr.le_cons rfl (Fr.le_cons rfl (Fr.le_cons rfl (Fr.le_cons rfl Fr.le_nil))))), true, F1787, rfl, hS2012, (hE1789.up (by omega)), ho2010, fo1794, h1790, h1792, hr⟩
                  · replace hr := iteB_neg hr hg2013
                    refine WL.fieldAddr .nil rfl rfl rfl Try.underlying54 rfl info52 rfl rfl ?_
                    refine WL.loadN .nil (l' := [.int .i64 x1916.Reply.Code, .int .i64 x1916.Reply.Version, str x1916.Reply.Sha]) rfl rfl rfl Try.underlying52 rfl info52 rfl ho2011 rfl rfl ?_
                    obtain ⟨x2014, hx2014, hr⟩ := bnd_some hr
                    refine GL.callP g.good .nil rfl rfl rfl rfl rfl rfl Try.func49 rfl rfl hS2012.lo (f_impl_replyOK_k  g hS2012 hx2014) (fun v n2015 H2016 hn2017 hk2018 hp2019 => ?_)
                    obtain ⟨hS2020, rfl⟩ := hp2019
                    have ho2021 := (hk2018 _ (by have := lt1795; omega)).trans ho2010
                    have ho2022 := (hk2018 _ (by have := lt1929; omega)).trans ho2011
                    have hS2023 : St n0 n2015 H2016 F1787 := ⟨by have := hS2012.lo; omega, hS2020.hb, hS2020.fh⟩
                    have hlon2015 := hS2023.lo
                    refine WL.not .nil rfl rfl rfl rfl ?_
                    refine WL.pick .nil rfl rfl rfl rfl rfl ?_
                    refine WL.move .nil rfl rfl rfl rfl ?_
                    refine WL.guard rfl rfl rfl (fun hg2024 => ?_) (fun hg2024 => ?_)
                    · replace hr := iteB_pos hr hg2024
                      refine WL.skip .nil rfl rfl ?_
                      refine WL.skip .nil rfl rfl ?_
                      refine WL.skip .nil rfl rfl ?_
                      refine WL.skip .nil rfl rfl ?_
                      refine WL.skip .nil rfl rfl ?_
                      refine WL.skip .nil rfl rfl ?_
                      refine WL.pick .nil rfl rfl rfl rfl rfl ?_
                      with_reducible refine WL.nil ?_
                      with_reducible refine Ex.thn_norm ?_
                      exact ⟨[(1, .pointer (some ⟨n0, 0, none⟩)), (51, .slice a5 x1.Sessions.length cap6), (52, .int .i64 (x1.Sessions.length : Int)), (53, .int .i64 x1791), (81, .bool true)], (Fr.le_cons rfl (Fr.le_cons rfl (Fr.le_cons rfl (Fr.le_cons rfl (Fr.le_cons rfl Fr.le_nil))))), true, F1787, rfl, hS2023, (hE1789.up (by omega)), ho2021, fo1794, h1790, h1792, hr⟩
                    · replace hr := iteB_neg hr hg2024
                      refine WL.loadN .nil (l' := [.slice a2 x1.Files.length cap3, .slice a5 x1.Sessions.length cap6]) rfl rfl rfl Try.underlying26 rfl info26 rfl ho2021 rfl rfl ?_
                      refine WL.fieldAddr .nil rfl rfl rfl Try.underlying54 rfl info3 rfl rfl ?_
                      refine WL.load1 .nil rfl rfl rfl Try.underlying3 rfl rfl ho2022 rfl ?_
                      obtain ⟨x2025, hx2025, hr⟩ := bnd_some hr
                      refine GL.callP g.good .nil rfl rfl rfl rfl rfl rfl Try.func50 rfl rfl hS2023.lo (f__impl_State_session_k  g hS2023 h1792 h1790 hx2025) (fun v n2026 H2027 hn2028 hk2029 hp2030 => ?_)
                      obtain ⟨hS2031, rfl⟩ := hp2030
                      have ho2032 := (hk2029 _ (by have := lt1795; omega)).trans ho2021
                      have ho2033 := (hk2029 _ (by have := lt1929; omega)).trans ho2022
                      have hS2034 : St n0 n2026 H2027 F1787 := ⟨by have := hS2023.lo; omega, hS2031.hb, hS2031.fh⟩
                      have hlon2026 := hS2034.lo
                      refine WL.move .nil rfl rfl rfl rfl ?_
                      refine WL.bin .nil rfl rfl rfl rfl rfl rfl ?_
                      refine WL.pick .nil rfl rfl rfl rfl rfl ?_
                      with_reducible refine WL.nil ?_
                      with_reducible refine Ex.thn_norm ?_
                      exact ⟨[(1, .pointer (some ⟨n0, 0, none⟩)), (51, .slice a5 x1.Sessions.length cap6), (52, .int .i64 (x1.Sessions.length : Int)), (53, .int .i64 x1791), (81, .bool (!decide (x2025 = x1791)))], (Fr.le_cons rfl (Fr.le_cons rfl (Fr.le_cons rfl (Fr.le_cons rfl (Fr.le_cons rfl Fr.le_nil))))), (!decide (x2025 = x1791)), F1787, rfl, hS2034, (hE1789.up (by omega)), ho2032, fo1794, h1790, h1792, hr⟩
              · intro _ n1979 H1980 hI
                obtain ⟨x1985, F1981, rfl, hS1982, hE1983, ho1987, fo1988, h1984, h1986, hr⟩ := hI
                have lt1989 := hS1982.lt ho1987
                have hlen1979 := hE1983.le
                have hlon1979 := hS1982.lo
                unfold f_impl_StateOK_J4 at hr
                refine W.cond rfl (fun hc1990 => ?_) (fun hc1990 => ?_)
                · replace hr := iteB_pos hr hc1990
                  with_reducible refine W.seq ?_
                  with_reducible refine W.region ?_
                  refine WL.assign .nil rfl rfl rfl rfl ?_
                  with_reducible refine WL.nil ?_
                  with_reducible refine Ex.thn_norm ?_
                  with_reducible refine W.ret ?_
                  with_reducible refine Ex.blk_ret ?_
                  with_reducible refine Ex.thn_ret ?_
                  with_reducible refine Ex.thn_ret ?_
                  with_reducible refine Ex.blk_ret ?_
                  with_reducible refine Ex.thn_ret ?_
                  obtain rfl := Option.some.inj hr
                  exact ⟨.inr rfl, _, (.cons (.tmp rfl) .nil), ⟨(Ext.st hE1983 hS1982), rfl⟩⟩
                · replace hr := iteB_neg hr hc1990
                  with_reducible refine W.skip ?_
                  with_reducible refine Ex.blk_norm ?_
                  with_reducible refine Ex.thn_norm ?_
                  with_reducible refine W.region ?_
                  obtain ⟨hc1991, hr⟩ := chk_some hr
                  refine WL.addI .nil rfl rfl rfl rfl rfl hc1991.1 hc1991.2 ?_
                  refine WL.move .nil rfl rfl rfl rfl ?_
                  with_reducible refine WL.nil ?_
                  with_reducible refine Ex.thn_norm ?_
                  exact ⟨[(1, .pointer (some ⟨n0, 0, none⟩)), (51, .slice a5 x1.Sessions.length cap6), (52, .int .i64 (x1.Sessions.length : Int)), (53, .int .i64 (x1791 + 1))], (Fr.le_cons rfl (Fr.le_cons rfl (Fr.le_cons rfl (Fr.le_cons rfl Fr.le_nil)))), (x1791 + 1), F1981, rfl, hS1982, hE1983, ho1987, fo1988, h1984, h1986, hr⟩
            · replace hr := ite_neg hr hc1797
              with_reducible refine W.exit ?_
              with_reducible refine Ex.thn_ex ?_
              with_reducible refine Ex.thn_ex ?_
              with_reducible refine Ex.blk_here ?_
              with_reducible refine Ex.thn_norm ?_
              with_reducible refine W.seq ?_
              with_reducible refine W.region ?_
              refine WL.assign .nil rfl rfl rfl rfl ?_
              with_reducible refine WL.nil ?_
              with_reducible refine Ex.thn_norm ?_
              with_reducible refine W.ret ?_
              obtain rfl := Option.some.inj hr
              exact ⟨.inr rfl, _, (.cons (.tmp rfl) .nil), ⟨(Ext.st hE1789 hS1788), rfl⟩⟩
theorem f_impl_ReadState_k {Δ : Prims} (g : Env Try.prog Δ) {lo n0 : Nat} {H0 F0 : Heap} (hS : St lo n0 H0 F0) {a2 : Option Addr} {cap3 : Nat} {xs1 : (List UInt8)} (h4 : SR F0 (.slice a2 xs1.length cap3) xs1) {res : (GState × Int)} (hr : f_impl_ReadState xs1 = some res) :
    C Try.prog Δ n0 7 [.slice a2 xs1.length cap3] n0 H0 (fun v n H => ∃ (ra1 : Option Addr) (rcap2 : Nat) (ra4 : Option Addr) (rcap5 : Nat), St n0 n H F0 ∧ v = .tuple #[.agg [.slice ra1 res.1.Files.length rcap2, .slice ra4 res.1.Sessions.length rcap5].toArray, .int .i64 res.2] ∧ OW n0 n H F0 (.slice ra1 res.1.Files.length rcap2) res.1.Files ∧ OW n0 n H F0 (.slice ra4 res.1.Sessions.length rcap5) res.1.Sessions ∧ (∀ b, idOf (.slice ra4 res.1.Sessions.length rcap5) = some b → idOf (.slice ra1 res.1.Files.length rcap2) ≠ some b)) := by
  refine C.body Try.func7 rfl rfl ?_
  unfold f_impl_ReadState at hr
  have hS0 : St n0 n0 H0 F0 := hS.low (Nat.le_refl _)
  have hE0 := Ext.refl n0 F0
  have hlo0 := hS0.lo
  with_reducible refine W.seq ?_
  with_reducible refine W.region ?_
  refine GL.alloc hS0 .nil (zc := [.slice none 0 0, .slice none 0 0]) rfl rfl rfl info26 rfl rfl rfl (fun H5 hS6 ho7 hk8 => ?_)
  have fo9 := hS0.fnone (Nat.le_refl _)
  have hlon01 := hS6.lo
  have lt10 : n0 < (n0 + 1) := by omega
  refine WL.assign .nil rfl rfl rfl rfl ?_
  with_reducible refine WL.nil ?_
  with_reducible refine Ex.thn_norm ?_
  with_reducible refine W.seq ?_
  with_reducible refine W.seq ?_
  with_reducible refine W.region ?_
  refine WL.move .nil rfl rfl rfl rfl ?_
  obtain ⟨x11, hx11, hr⟩ := bnd_some hr
  refine GL.callP g.good .nil rfl rfl rfl rfl rfl rfl Try.func21 rfl rfl hS6.lo (f_impl_longBytes_k  g hS6 h4 hx11) (fun v n12 H13 hn14 hk15 hp16 => ?_)
  obtain ⟨hS17, rfl⟩ := hp16
  have ho18 := (hk15 _ (by have := lt10; omega)).trans ho7
  have hS19 : St n0 n12 H13 F0 := ⟨by have := hS6.lo; omega, hS17.hb, hS17.fh⟩
  have hlon12 := hS19.lo
  refine WL.assign .nil rfl rfl rfl rfl ?_
  with_reducible refine WL.nil ?_
  with_reducible refine Ex.thn_norm ?_
  with_reducible refine W.seq ?_
  with_reducible refine W.region ?_
  refine WL.move .nil rfl rfl rfl rfl ?_
  refine WL.bin .nil rfl rfl rfl rfl rfl rfl ?_
  with_reducible refine WL.nil ?_
  with_reducible refine Ex.thn_norm ?_
  refine W.condN rfl (fun hc25 => ?_) (fun hc25 => ?_)
  · replace hr := ite_neg hr hc25
    with_reducible refine W.seq ?_
    with_reducible refine W.region ?_
    refine WL.buildL .nil (cells := [.slice none 0 0, .slice none 0 0]) rfl rfl rfl Try.underlying26 info26 rfl rfl rfl (by simp only [List.mapM_cons, List.mapM_nil, info23, info24]; rfl) rfl (by first | rfl | ((conv => lhs; simp [splice, fillL, cells_int, cells_bool, cells_string, cells_str, cells_slice, cells_ptr, cells_map, cells_func, cells_nilFunc, cells_nilIface, cells_iface, cells_agg, cells_u8]) <;> rfl)) ?_
    refine WL.move .nil rfl rfl rfl rfl ?_
    refine GL.store hS19 .nil (vc := [.slice none 0 0, .slice none 0 0]) (c' := [.slice none 0 0, .slice none 0 0]) rfl rfl rfl info26 rfl rfl rfl rfl ho18 fo9 (Nat.le_of_ble_eq_true rfl) (by omega) (by repeat' (first | exact List.forall_mem_nil _ | refine List.forall_mem_cons.2 ⟨?_, ?_⟩ | rfl)) rfl (fun H26 hS27 ho28 hk29 => ?_)
    refine WL.assign .nil rfl rfl rfl rfl ?_
    with_reducible refine WL.nil ?_
    with_reducible refine Ex.thn_norm ?_
    with_reducible refine W.ret ?_
    with_reducible refine Ex.thn_ret ?_
    obtain rfl := Option.some.inj hr
    exact ⟨.inr rfl, _, (.cons (.cellN (l := [.slice none 0 0, .slice none 0 0]) rfl Try.underlying26 rfl info26 ho28 rfl rfl) (.cons (.tmp rfl) .nil)), ⟨none, 0, none, 0, (Ext.st hE0 hS27), rfl, OW.nil, OW.nil, (fun b h => by cases h)⟩⟩
  · replace hr := ite_pos hr hc25
    with_reducible refine W.skip ?_
    with_reducible refine Ex.thn_norm ?_
    with_reducible refine W.seq ?_
    with_reducible refine W.region ?_
    refine WL.move .nil rfl rfl rfl rfl ?_
    refine WL.buildL .nil (cells := [.slice a2 xs1.length cap3, .bool false]) rfl rfl rfl Try.underlying59 info59 rfl rfl rfl (by simp only [List.mapM_cons, List.mapM_nil, info22, info4]; rfl) rfl (by first | rfl | ((conv => lhs; simp [splice, fillL, cells_int, cells_bool, cells_string, cells_str, cells_slice, cells_ptr, cells_map, cells_func, cells_nilFunc, cells_nilIface, cells_iface, cells_agg, cells_u8]) <;> rfl)) ?_
    refine GL.box hS19 .nil (vc := [.slice a2 xs1.length cap3, .bool false]) rfl rfl rfl rfl rfl (by repeat' (first | exact List.forall_mem_nil _ | refine List.forall_mem_cons.2 ⟨?_, ?_⟩ | rfl)) (fun H30 hS31 ho32 hk33 => ?_)
    have fo34 := hS19.fnone (Nat.le_refl _)
    have ho36 := (hk33 _ (by have := lt10; omega)).trans ho18
    have hlon121 := hS31.lo
    have lt35 : n12 < (n12 + 1) := by omega
    refine WL.buildL .nil (cells := [.slice none 0 0, .slice none 0 0]) rfl rfl rfl Try.underlying26 info26 rfl rfl rfl (by simp only [List.mapM_cons, List.mapM_nil, info23, info24]; rfl) rfl (by first | rfl | ((conv => lhs; simp [splice, fillL, cells_int, cells_bool, cells_string, cells_str, cells_slice, cells_ptr, cells_map, cells_func, cells_nilFunc, cells_nilIface, cells_iface, cells_agg, cells_u8]) <;> rfl)) ?_
    refine GL.alloc hS31 .nil (zc := [.slice none 0 0, .slice none 0 0]) rfl rfl rfl info26 rfl rfl rfl (fun H37 hS38 ho39 hk40 => ?_)
    have fo41 := hS31.fnone (Nat.le_refl _)
    have ho43 := (hk40 _ (by have := lt10; omega)).trans ho36
    have ho44 := (hk40 _ (by have := lt35; omega)).trans ho32
    have hlon1211 := hS38.lo
    have lt42 : (n12 + 1) < ((n12 + 1) + 1) := by omega
    refine WL.assign .nil rfl rfl rfl rfl ?_
    refine GL.store hS38 .nil (vc := [.slice none 0 0, .slice none 0 0]) (c' := [.slice none 0 0, .slice none 0 0]) rfl rfl rfl info26 rfl rfl rfl rfl ho39 fo41 (Nat.le_of_ble_eq_true rfl) (by omega) (by repeat' (first | exact List.forall_mem_nil _ | refine List.forall_mem_cons.2 ⟨?_, ?_⟩ | rfl)) rfl (fun H45 hS46 ho47 hk48 => ?_)
    have ho49 := (hk48 _ (by omega)).trans ho43
    have ho50 := (hk48 _ (by omega)).trans ho44
    with_reducible refine WL.nil ?_
    with_reducible refine Ex.thn_norm ?_
    with_reducible refine W.seq ?_
    with_reducible refine W.seq ?_
    with_reducible refine W.region ?_
    refine WL.move .nil rfl rfl rfl rfl ?_
    obtain ⟨x51, hx51, hr⟩ := bnd_some hr
    refine GL.callIO g .nil (fun i => (F0 i).isSome = true ∨ i = n12) rfl rfl rfl rfl rfl rfl Try.func22 rfl rfl (Nat.le_refl _) hS46.lo (f_impl_byteReader_number_k (x1 := ({ b := xs1, bad := false } : GbyteReader)) g (St.vis hS46 (fun i hi => .inl hi)) (vis_get ho50 (.inr (rfl))) fo34 (by omega) h4 hx51) (fun v n52 H53 H54 hn55 hp56 hle57 hnew58 hk59 hd60 => ?_)
    obtain ⟨F65, a61, cap62, hX66, hS64, ho67, rfl, h63⟩ := hp56
    have hS68 : St n0 n52 H53 _ := ⟨hS64.lo, fun i hi => (hnew58 i (by omega)).trans (hS64.hb i hi), hS64.fh.trans hle57⟩
    have ho69 := (hk59 _ (by have := lt10; omega) (fun hs => by
      rcases hs with h | h
      · rw [fo9] at h; cases h
      · omega)).trans ho49
    have ho70 := (hk59 _ (by have := lt42; omega) (fun hs => by
      rcases hs with h | h
      · rw [fo41] at h; cases h
      · omega)).trans ho47
    have fo71 := (hX66.eq _ (by have := lt10; omega)).trans fo9
    have fo72 := (hX66.eq _ (by have := lt35; omega)).trans fo34
    have fo73 := (hX66.eq _ (by have := lt42; omega)).trans fo41
    have hE74 := (hE0.up (n' := ((n12 + 1) + 1)) (by omega)).trans hX66
    have ho75 := hle57 _ _ ho67
    have hlon52 := hS68.lo
    have lt76 := hS68.lt ho69
    have lt77 := hS68.lt ho75
    have lt78 := hS68.lt ho70
    refine WL.assign .nil rfl rfl rfl rfl ?_
    with_reducible refine WL.nil ?_
    with_reducible refine Ex.thn_norm ?_
    with_reducible refine W.block ?_
    refine W.loopF (fun k0 fr n H => ∃ (x2073 : Int) (a2074 : Option Addr) (cap2075 : Nat) (xs2076 : (List GFile)) (a2083 : Option Addr) (cap2084 : Nat) (xs2085 : (List UInt8)) (x2087 : Bool) (F : Heap), fr = [(2, .pointer (some ⟨n0, 0, none⟩)), (5, .pointer (some ⟨n12, 0, none⟩)), (6, .pointer (some ⟨(n12 + 1), 0, none⟩)), (7, .int .i64 x2073)] ∧ St n0 n H F ∧ Ext n0 F0 n F ∧ H (n12 + 1) = some (.row 1 [.slice a2074 xs2076.length cap2075, .slice none 0 0]) ∧ F (n12 + 1) = none ∧ H n0 = some (.row 1 [.slice none 0 0, .slice none 0 0]) ∧ F n0 = none ∧ H n12 = some (.row 1 [.slice a2083 xs2085.length cap2084, .bool x2087]) ∧ F n12 = none ∧ OW n0 n H F (.slice a2074 xs2076.length cap2075) xs2076 ∧ SR F (.slice a2083 xs2085.length cap2084) xs2085 ∧ idOf (.slice a2074 xs2076.length cap2075) ≠ some (n12 + 1) ∧ idOf (.slice a2074 xs2076.length cap2075) ≠ some n0 ∧ idOf (.slice a2074 xs2076.length cap2075) ≠ some n12 ∧ f_impl_ReadState_L0 k0 x2073 xs2076 xs2085 x2087 = some res) BIG (fr0 := [(2, .pointer (some ⟨n0, 0, none⟩)), (5, .pointer (some ⟨n12, 0, none⟩)), (6, .pointer (some ⟨(n12 + 1), 0, none⟩)), (7, .int .i64 x51.2)]) (Fr.le_cons rfl (Fr.le_cons rfl (Fr.le_cons rfl (Fr.le_cons rfl Fr.le_nil)))) ?_ ?_ ?_
    · exact ⟨x51.2, none, 0, [], a61, cap62, x51.1.b, x51.1.bad, F65, rfl, hS68, hE74, ho70, fo73, ho69, fo71, ho75, fo72, OW.nil, h63, (fun h => by cases h), (fun h => by cases h), (fun h => by cases h), hr⟩
    · intro fr n H hI
      obtain ⟨x2073, a2074, cap2075, xs2076, a2083, cap2084, xs2085, x2087, F2070, hfr, hS2071, hE2072, ho2079, fo2080, ho2081, fo2082, ho2088, fo2089, h2077, h2086, ap2090, ap2091, ap2092, hr⟩ := hI
      rw [f_impl_ReadState_L0] at hr
      cases hr
    · intro k0 _ n2068 H2069 hI
      obtain ⟨x2073, a2074, cap2075, xs2076, a2083, cap2084, xs2085, x2087, F2070, rfl, hS2071, hE2072, ho2079, fo2080, ho2081, fo2082, ho2088, fo2089, h2077, h2086, ap2090, ap2091, ap2092, hr⟩ := hI
      have lt2093 := hS2071.lt ho2079
      have lt2094 := hS2071.lt ho2081
      have lt2095 := hS2071.lt ho2088
      have hlen2068 := hE2072.le
      have hlon2068 := hS2071.lo
      rw [f_impl_ReadState_L0] at hr
      with_reducible refine W.seq ?_
      with_reducible refine W.seq ?_
      refine W.cut (fun fr n H => ∃ (x2102 : Bool) (F : Heap), fr = [(2, .pointer (some ⟨n0, 0, none⟩)), (5, .pointer (some ⟨n12, 0, none⟩)), (6, .pointer (some ⟨(n12 + 1), 0, none⟩)), (7, .int .i64 x2073), (31, .bool x2102)] ∧ St n0 n H F ∧ Ext n0 F0 n F ∧ H (n12 + 1) = some (.row 1 [.slice a2074 xs2076.length cap2075, .slice none 0 0]) ∧ F (n12 + 1) = none ∧ H n0 = some (.row 1 [.slice none 0 0, .slice none 0 0]) ∧ F n0 = none ∧ H n12 = some (.row 1 [.slice a2083 xs2085.length cap2084, .bool x2087]) ∧ F n12 = none ∧ OW n0 n H F (.slice a2074 xs2076.length cap2075) xs2076 ∧ SR F (.slice a2083 xs2085.length cap2084) xs2085 ∧ idOf (.slice a2074 xs2076.length cap2075) ≠ some (n12 + 1) ∧ idOf (.slice a2074 xs2076.length cap2075) ≠ some n0 ∧ idOf (.slice a2074 xs2076.length cap2075) ≠ some n12 ∧ f_impl_ReadState_J1 xs2085 x2087 xs2076 x2073 (f_impl_ReadState_L0 k0) x2102 = some res) ?_ ?_
      · with_reducible refine W.region ?_
        refine WL.move .nil rfl rfl rfl rfl ?_
        refine WL.bin .nil rfl rfl rfl rfl rfl rfl ?_
        refine WL.move .nil rfl rfl rfl rfl ?_
        refine WL.guardD rfl rfl rfl (fun hg6396 => ?_) (fun hg6396 => ?_)
        · replace hr := ite_pos hr hg6396
          refine WL.move .nil rfl rfl rfl rfl ?_
          refine WL.nilCheck .nil rfl rfl rfl rfl ?_
          refine WL.fieldAddr .nil rfl rfl rfl Try.underlying59 rfl info4 rfl rfl ?_
          refine WL.load1 .nil rfl rfl rfl Try.underlying4 rfl rfl ho2088 rfl ?_
          refine WL.not .nil rfl rfl rfl rfl ?_
          refine WL.pick .nil rfl rfl rfl rfl rfl ?_
          with_reducible refine WL.nil ?_
          with_reducible refine Ex.thn_norm ?_
          exact ⟨[(2, .pointer (some ⟨n0, 0, none⟩)), (5, .pointer (some ⟨n12, 0, none⟩)), (6, .pointer (some ⟨(n12 + 1), 0, none⟩)), (7, .int .i64 x2073), (31, .bool (!x2087))], (Fr.le_cons rfl (Fr.le_cons rfl (Fr.le_cons rfl (Fr.le_cons rfl (Fr.le_cons rfl Fr.le_nil))))), (!x2087), F2070, rfl, hS2071, hE2072, ho2079, fo2080, ho2081, fo2082, ho2088, fo2089, h2077, h2086, ap2090, ap2091, ap2092, hr⟩
        · replace hr := ite_neg hr hg6396
          refine WL.skip .nil rfl rfl ?_
          refine WL.skip .nil rfl rfl ?_
          refine WL.skip .nil rfl rfl ?_
          refine WL.skip .nil rfl rfl ?_
          refine WL.skip .nil rfl rfl ?_
          refine WL.pick .nil rfl rfl rfl rfl rfl ?_
          with_reducible refine WL.nil ?_
          with_reducible refine Ex.thn_norm ?_
          exact ⟨[(2, .pointer (some ⟨n0, 0, none⟩)), (5, .pointer (some ⟨n12, 0, none⟩)), (6, .pointer (some ⟨(n12 + 1), 0, none⟩)), (7, .int .i64 x2073), (31, .bool false)], (Fr.le_cons rfl (Fr.le_cons rfl (Fr.le_cons rfl (Fr.le_cons rfl (Fr.le_cons rfl Fr.le_nil))))), false, F2070, rfl, hS2071, hE2072, ho2079, fo2080, ho2081, fo2082, ho2088, fo2089, h2077, h2086, ap2090, ap2091, ap2092, hr⟩
      · intro _ n2097 H2098 hI
        obtain ⟨x2102, F2099, rfl, hS2100, hE2101, ho2104, fo2105, ho2106, fo2107, ho2109, fo2110, h2103, h2108, ap2111, ap2112, ap2113, hr⟩ := hI
        have lt2114 := hS2100.lt ho2104
        have lt2115 := hS2100.lt ho2106
        have lt2116 := hS2100.lt ho2109
        have hlen2097 := hE2101.le
        have hlon2097 := hS2100.lo
        unfold f_impl_ReadState_J1 at hr
        refine W.cond rfl (fun hc2118 => ?_) (fun hc2118 => ?_)
        · replace hr := iteB_pos hr hc2118
          with_reducible refine W.skip ?_
          with_reducible refine Ex.thn_norm ?_
          with_reducible refine W.seq ?_
          with_reducible refine W.block ?_
          with_reducible refine W.seq ?_
          with_reducible refine W.region ?_
          refine WL.move .nil rfl rfl rfl rfl ?_
          obtain ⟨x2302, hx2302, hr⟩ := bnd_some hr
          have hb2312 := fun b hb => (OW.id_lt (i := b) h2103 hb).2
          refine GL.callIO g .nil (fun i => (F2099 i).isSome = true ∨ i = n12) rfl rfl rfl rfl rfl rfl Try.func23 rfl rfl (Nat.le_refl _) hS2100.lo (f_impl_byteReader_text_k (x1 := ({ b := xs2085, bad := x2087 } : GbyteReader)) g (St.vis hS2100 (fun i hi => .inl hi)) (vis_get ho2109 (.inr (rfl))) fo2110 (by omega) h2108 hx2302) (fun v n2303 H2304 H2305 hn2306 hp2307 hle2308 hnew2309 hk2310 hd2311 => ?_)
          obtain ⟨F2317, a2313, cap2314, hX2318, hS2316, ho2319, rfl, h2315⟩ := hp2307
          have hS2320 : St n0 n2303 H2304 _ := ⟨hS2316.lo, fun i hi => (hnew2309 i (by omega)).trans (hS2316.hb i hi), hS2316.fh.trans hle2308⟩
          have ho2321 := (hk2310 _ (by have := lt2114; omega) (fun hs => by
      rcases hs with h | h
      · rw [fo2105] at h; cases h
      · omega)).trans ho2104
          have ho2322 := (hk2310 _ (by have := lt2115; omega) (fun hs => by
      rcases hs with h | h
      · rw [fo2107] at h; cases h
      · omega)).trans ho2106
          have h2323 := OW.keep (n' := n2303) h2103 (by omega) (fun i hi => hk2310 i (OW.id_lt h2103 hi).2 (fun hs => by
      rcases hs with h | h
      · rw [(OW.fnone h2103 hi)] at h; cases h
      · exact ap2113 (h ▸ hi)))
          have fo2324 := (hX2318.eq _ (by have := lt2114; omega)).trans fo2105
          have fo2325 := (hX2318.eq _ (by have := lt2115; omega)).trans fo2107
          have fo2326 := (hX2318.eq _ (by have := lt2116; omega)).trans fo2110
          have h2327 := OW.keepF h2323 hX2318.sub (fun i hi => (hX2318.eq i (by have := hb2312 i hi; omega)).trans (OW.fnone h2323 hi))
          have hE2328 := (hE2101.up (n' := n2097) (by omega)).trans hX2318
          have ho2329 := hle2308 _ _ ho2319
          have hlon2303 := hS2320.lo
          have lt2330 := hS2320.lt ho2321
          have lt2331 := hS2320.lt ho2322
          have lt2332 := hS2320.lt ho2329
          refine WL.buildL .nil (cells := [str x2302.2, .int .i64 0, str ([] : List UInt8)]) rfl rfl rfl Try.underlying50 info50 rfl rfl rfl (by simp only [List.mapM_cons, List.mapM_nil, info9, info3, info9]; rfl) rfl (by first | rfl | ((conv => lhs; simp [splice, fillL, cells_int, cells_bool, cells_string, cells_str, cells_slice, cells_ptr, cells_map, cells_func, cells_nilFunc, cells_nilIface, cells_iface, cells_agg, cells_u8]) <;> rfl)) ?_
          refine GL.alloc hS2320 .nil (zc := [str ([] : List UInt8), .int .i64 0, str ([] : List UInt8)]) rfl rfl rfl info50 rfl rfl rfl (fun H2333 hS2334 ho2335 hk2336 => ?_)
          have fo2337 := hS2320.fnone (Nat.le_refl _)
          have ap2339 : idOf (.slice a2074 xs2076.length cap2075) ≠ some n2303 := fun hj => by have := OW.id_lt h2327 hj; omega
          have ho2340 := (hk2336 _ (by have := lt2330; omega)).trans ho2321
          have ho2341 := (hk2336 _ (by have := lt2331; omega)).trans ho2322
          have ho2342 := (hk2336 _ (by have := lt2332; omega)).trans ho2329
          have h2343 := OW.keep (n' := (n2303 + 1)) h2327 (by omega) (fun i hi => hk2336 i (OW.id_lt h2327 hi).2)
          have hlon23031 := hS2334.lo
          have lt2338 : n2303 < (n2303 + 1) := by omega
          refine GL.store hS2334 .nil (vc := [str x2302.2, .int .i64 0, str ([] : List UInt8)]) (c' := [str x2302.2, .int .i64 0, str ([] : List UInt8)]) rfl rfl rfl info50 rfl rfl rfl rfl ho2335 fo2337 (Nat.le_of_ble_eq_true rfl) (by omega) (by repeat' (first | exact List.forall_mem_nil _ | refine List.forall_mem_cons.2 ⟨?_, ?_⟩ | rfl)) rfl (fun H2344 hS2345 ho2346 hk2347 => ?_)
          have ho2348 := (hk2347 _ (by omega)).trans ho2340
          have ho2349 := (hk2347 _ (by omega)).trans ho2341
          have ho2350 := (hk2347 _ (by omega)).trans ho2342
          have h2351 := OW.keep h2343 (Nat.le_refl _) (fun i hi => hk2347 i (fun hj => ap2339 (hj ▸ hi)))
          with_reducible refine WL.nil ?_
          with_reducible refine Ex.thn_norm ?_
          with_reducible refine W.seq ?_
          with_reducible refine W.region ?_
          refine WL.move .nil rfl rfl rfl rfl ?_
          obtain ⟨x2352, hx2352, hr⟩ := bnd_some hr
          have hb2362 := fun b hb => (OW.id_lt (i := b) h2351 hb).2
          refine GL.callIO g .nil (fun i => (F2317 i).isSome = true ∨ i = n12) rfl rfl rfl rfl rfl rfl Try.func22 rfl rfl (Nat.le_refl _) hS2345.lo (f_impl_byteReader_number_k (x1 := ({ b := x2302.1.b, bad := x2302.1.bad } : GbyteReader)) g (St.vis hS2345 (fun i hi => .inl hi)) (vis_get ho2350 (.inr (rfl))) fo2326 (by omega) h2315 hx2352) (fun v n2353 H2354 H2355 hn2356 hp2357 hle2358 hnew2359 hk2360 hd2361 => ?_)
          obtain ⟨F2367, a2363, cap2364, hX2368, hS2366, ho2369, rfl, h2365⟩ := hp2357
          have hS2370 : St n0 n2353 H2354 _ := ⟨hS2366.lo, fun i hi => (hnew2359 i (by omega)).trans (hS2366.hb i hi), hS2366.fh.trans hle2358⟩
          have ho2371 := (hk2360 _ (by have := lt2330; omega) (fun hs => by
      rcases hs with h | h
      · rw [fo2324] at h; cases h
      · omega)).trans ho2348
          have ho2372 := (hk2360 _ (by have := lt2331; omega) (fun hs => by
      rcases hs with h | h
      · rw [fo2325] at h; cases h
      · omega)).trans ho2349
          have ho2373 := (hk2360 _ (by have := lt2338; omega) (fun hs => by
      rcases hs with h | h
      · rw [fo2337] at h; cases h
      · omega)).trans ho2346
          have h2374 := OW.keep (n' := n2353) h2351 (by omega) (fun i hi => hk2360 i (OW.id_lt h2351 hi).2 (fun hs => by
      rcases hs with h | h
      · rw [(OW.fnone h2351 hi)] at h; cases h
      · exact ap2113 (h ▸ hi)))
          have fo2375 := (hX2368.eq _ (by have := lt2330; omega)).trans fo2324
          have fo2376 := (hX2368.eq _ (by have := lt2331; omega)).trans fo2325
          have fo2377 := (hX2368.eq _ (by have := lt2332; omega)).trans fo2326
          have fo2378 := (hX2368.eq _ (by have := lt2338; omega)).trans fo2337
          have h2379 := OW.keepF h2374 hX2368.sub (fun i hi => (hX2368.eq i (by have := hb2362 i hi; omega)).trans (OW.fnone h2374 hi))
          have hE2380 := (hE2328.up (n' := (n2303 + 1)) (by omega)).trans hX2368
          have ho2381 := hle2358 _ _ ho2369
          have hlon2353 := hS2370.lo
          have lt2382 := hS2370.lt ho2371
          have lt2383 := hS2370.lt ho2372
          have lt2384 := hS2370.lt ho2381
          have lt2385 := hS2370.lt ho2373
          refine WL.fieldAddr .nil rfl rfl rfl Try.underlying50 rfl info3 rfl rfl ?_
          refine GL.store hS2370 .nil (vc := [.int .i64 x2352.2]) (c' := [str x2302.2, .int .i64 x2352.2, str ([] : List UInt8)]) rfl rfl rfl info3 rfl rfl rfl rfl ho2373 fo2378 (Nat.le_of_ble_eq_true rfl) (by omega) (by repeat' (first | exact List.forall_mem_nil _ | refine List.forall_mem_cons.2 ⟨?_, ?_⟩ | rfl)) rfl (fun H2386 hS2387 ho2388 hk2389 => ?_)
          have ho2390 := (hk2389 _ (by omega)).trans ho2371
          have ho2391 := (hk2389 _ (by omega)).trans ho2372
          have ho2392 := (hk2389 _ (by omega)).trans ho2381
          have h2393 := OW.keep h2379 (Nat.le_refl _) (fun i hi => hk2389 i (fun hj => ap2339 (hj ▸ hi)))
          with_reducible refine WL.nil ?_
          with_reducible refine Ex.thn_norm ?_
          with_reducible refine W.seq ?_
          with_reducible refine W.region ?_
          refine WL.move .nil rfl rfl rfl rfl ?_
          obtain ⟨x2394, hx2394, hr⟩ := bnd_some hr
          have hb2404 := fun b hb => (OW.id_lt (i := b) h2393 hb).2
          refine GL.callIO g .nil (fun i => (F2367 i).isSome = true ∨ i = n12) rfl rfl rfl rfl rfl rfl Try.func23 rfl rfl (Nat.le_refl _) hS2387.lo (f_impl_byteReader_text_k (x1 := ({ b := x2352.1.b, bad := x2352.1.bad } : GbyteReader)) g (St.vis hS2387 (fun i hi => .inl hi)) (vis_get ho2392 (.inr (rfl))) fo2377 (by omega) h2365 hx2394) (fun v n2395 H2396 H2397 hn2398 hp2399 hle2400 hnew2401 hk2402 hd2403 => ?_)
          obtain ⟨F2409, a2405, cap2406, hX2410, hS2408, ho2411, rfl, h2407⟩ := hp2399
          have hS2412 : St n0 n2395 H2396 _ := ⟨hS2408.lo, fun i hi => (hnew2401 i (by omega)).trans (hS2408.hb i hi), hS2408.fh.trans hle2400⟩
          have ho2413 := (hk2402 _ (by have := lt2382; omega) (fun hs => by
      rcases hs with h | h
      · rw [fo2375] at h; cases h
      · omega)).trans ho2390
          have ho2414 := (hk2402 _ (by have := lt2383; omega) (fun hs => by
      rcases hs with h | h
      · rw [fo2376] at h; cases h
      · omega)).trans ho2391
          have ho2415 := (hk2402 _ (by have := lt2385; omega) (fun hs => by
      rcases hs with h | h
      · rw [fo2378] at h; cases h
      · omega)).trans ho2388
          have h2416 := OW.keep (n' := n2395) h2393 (by omega) (fun i hi => hk2402 i (OW.id_lt h2393 hi).2 (fun hs => by
      rcases hs with h | h
      · rw [(OW.fnone h2393 hi)] at h; cases h
      · exact ap2113 (h ▸ hi)))
          have fo2417 := (hX2410.eq _ (by have := lt2382; omega)).trans fo2375
          have fo2418 := (hX2410.eq _ (by have := lt2383; omega)).trans fo2376
          have fo2419 := (hX2410.eq _ (by have := lt2384; omega)).trans fo2377
          have fo2420 := (hX2410.eq _ (by have := lt2385; omega)).trans fo2378
          have h2421 := OW.keepF h2416 hX2410.sub (fun i hi => (hX2410.eq i (by have := hb2404 i hi; omega)).trans (OW.fnone h2416 hi))
          have hE2422 := (hE2380.up (n' := n2353) (by omega)).trans hX2410
          have ho2423 := hle2400 _ _ ho2411
          have hlon2395 := hS2412.lo
          have lt2424 := hS2412.lt ho2413
          have lt2425 := hS2412.lt ho2414
          have lt2426 := hS2412.lt ho2423
          have lt2427 := hS2412.lt ho2415
          refine WL.fieldAddr .nil rfl rfl rfl Try.underlying50 rfl info9 rfl rfl ?_
          refine GL.store hS2412 .nil (vc := [str x2394.2]) (c' := [str x2302.2, .int .i64 x2352.2, str x2394.2]) rfl rfl rfl info9 rfl rfl rfl rfl ho2415 fo2420 (Nat.le_of_ble_eq_true rfl) (by omega) (by repeat' (first | exact List.forall_mem_nil _ | refine List.forall_mem_cons.2 ⟨?_, ?_⟩ | rfl)) rfl (fun H2428 hS2429 ho2430 hk2431 => ?_)
          have ho2432 := (hk2431 _ (by omega)).trans ho2413
          have ho2433 := (hk2431 _ (by omega)).trans ho2414
          have ho2434 := (hk2431 _ (by omega)).trans ho2423
          have h2435 := OW.keep h2421 (Nat.le_refl _) (fun i hi => hk2431 i (fun hj => ap2339 (hj ▸ hi)))
          with_reducible refine WL.nil ?_
          with_reducible refine Ex.thn_norm ?_
          with_reducible refine W.region ?_
          refine WL.fieldAddr .nil rfl rfl rfl Try.underlying26 rfl info23 rfl rfl ?_
          refine WL.load1 .nil rfl rfl rfl Try.underlying23 rfl rfl ho2432 rfl ?_
          refine WL.loadN .nil (l' := [str x2302.2, .int .i64 x2352.2, str x2394.2]) rfl rfl rfl Try.underlying50 rfl info50 rfl ho2430 rfl rfl ?_
          have hb2440 := fun b hb => (OW.id_lt (i := b) h2435 hb).2
          refine GL.lit (cs := [str x2302.2, .int .i64 x2352.2, str x2394.2]) (xs := ([({ Name := x2302.2, Version := x2352.2, Text := x2394.2 } : GFile)] : List GFile)) hS2429 .nil rfl rfl rfl Try.underlying23 info50 rfl rfl rfl (by decide) (by decide) rfl rfl rfl rfl rfl (RA.cons (cs := [str x2302.2, .int .i64 x2352.2, str x2394.2]) (a := (({ Name := x2302.2, Version := x2352.2, Text := x2394.2 } : GFile) : GFile)) (GFile.toR (x := ({ Name := x2302.2, Version := x2352.2, Text := x2394.2 } : GFile))) RA.nil) rfl (fun H2436 hS2437 hO2438 hk2439 => ?_)
          have ho2441 := (hk2439 _ (by have := lt2424; omega)).trans ho2432
          have ho2442 := (hk2439 _ (by have := lt2425; omega)).trans ho2433
          have ho2443 := (hk2439 _ (by have := lt2426; omega)).trans ho2434
          have ho2444 := (hk2439 _ (by have := lt2427; omega)).trans ho2430
          have h2445 := OW.keep (n' := (n2395 + 1)) h2435 (by omega) (fun i hi => hk2439 i (OW.id_lt h2435 hi).2)
          have h2446 := OW.lower (lo' := n0) hO2438 (by omega)
          have hlon23951 := hS2437.lo
          have ap2448 : idOf (.slice (some ⟨n2395, 0, none⟩) ([({ Name := x2302.2, Version := x2352.2, Text := x2394.2 } : GFile)] : List GFile).length 1) ≠ some (n12 + 1) := fun hj => by have := (OW.id_lt hO2438 hj).1; have := lt2424; omega
          have ap2449 : idOf (.slice (some ⟨n2395, 0, none⟩) ([({ Name := x2302.2, Version := x2352.2, Text := x2394.2 } : GFile)] : List GFile).length 1) ≠ some n0 := fun hj => by have := (OW.id_lt hO2438 hj).1; have := lt2425; omega
          have ap2450 : idOf (.slice (some ⟨n2395, 0, none⟩) ([({ Name := x2302.2, Version := x2352.2, Text := x2394.2 } : GFile)] : List GFile).length 1) ≠ some n12 := fun hj => by have := (OW.id_lt hO2438 hj).1; have := lt2426; omega
          have ap2451 : idOf (.slice (some ⟨n2395, 0, none⟩) ([({ Name := x2302.2, Version := x2352.2, Text := x2394.2 } : GFile)] : List GFile).length 1) ≠ some n2303 := fun hj => by have := (OW.id_lt hO2438 hj).1; have := lt2427; omega
          have ap2452 : ∀ b, idOf (.slice (some ⟨n2395, 0, none⟩) ([({ Name := x2302.2, Version := x2352.2, Text := x2394.2 } : GFile)] : List GFile).length 1) = some b → idOf (.slice a2074 xs2076.length cap2075) ≠ some b := fun b hj hi => by have := (OW.id_lt hO2438 hj).1; have := hb2440 b hi; omega
          obtain ⟨hc2453, hr⟩ := chk_some hr
          have hb2463 := fun b hb => (OW.id_lt (i := b) h2445 hb).2
          have hb2464 := fun b hb => (OW.id_lt (i := b) h2446 hb).2
          refine GL.append (α := GFile) hS2437 .nil rfl rfl rfl Try.underlying23 Try.underlying23 rfl info50 rfl rfl rfl (by decide) rfl rfl h2445 (by omega) (by omega) (OW.src h2446) hc2453 (fun a2454 cap2455 n2456 H2457 hS2458 hn2459 hO2460 hk2461 hid2462 => ?_)
          have ho2465 := (hk2461 _ (by have := lt2424; omega) ap2111).trans ho2441
          have ho2466 := (hk2461 _ (by have := lt2425; omega) ap2112).trans ho2442
          have ho2467 := (hk2461 _ (by have := lt2426; omega) ap2113).trans ho2443
          have ho2468 := (hk2461 _ (by have := lt2427; omega) ap2339).trans ho2444
          have h2469 := OW.keep h2446 hn2459 (fun i hi => hk2461 i (OW.id_lt h2446 hi).2 (fun hj => (fun b h1 h2 => ap2452 b h2 h1) _ hj hi))
          have ap2471 : idOf (.slice a2454 (xs2076 ++ ([({ Name := x2302.2, Version := x2352.2, Text := x2394.2 } : GFile)] : List GFile)).length cap2455) ≠ some (n12 + 1) := fun hj => (hid2462 _ hj).elim (fun h => by have := lt2424; omega) ap2111
          have ap2472 : idOf (.slice a2454 (xs2076 ++ ([({ Name := x2302.2, Version := x2352.2, Text := x2394.2 } : GFile)] : List GFile)).length cap2455) ≠ some n0 := fun hj => (hid2462 _ hj).elim (fun h => by have := lt2425; omega) ap2112
          have ap2473 : idOf (.slice a2454 (xs2076 ++ ([({ Name := x2302.2, Version := x2352.2, Text := x2394.2 } : GFile)] : List GFile)).length cap2455) ≠ some n12 := fun hj => (hid2462 _ hj).elim (fun h => by have := lt2426; omega) ap2113
          have ap2474 : idOf (.slice a2454 (xs2076 ++ ([({ Name := x2302.2, Version := x2352.2, Text := x2394.2 } : GFile)] : List GFile)).length cap2455) ≠ some n2303 := fun hj => (hid2462 _ hj).elim (fun h => by have := lt2427; omega) ap2339
          have ap2475 : ∀ b, idOf (.slice a2454 (xs2076 ++ ([({ Name := x2302.2, Version := x2352.2, Text := x2394.2 } : GFile)] : List GFile)).length cap2455) = some b → idOf (.slice (some ⟨n2395, 0, none⟩) ([({ Name := x2302.2, Version := x2352.2, Text := x2394.2 } : GFile)] : List GFile).length 1) ≠ some b := fun b hj hi => (hid2462 _ hj).elim (fun h => by have := hb2464 b hi; omega) (fun h => (fun b h1 h2 => ap2452 b h2 h1) _ h hi)
          have hlon2456 := hS2458.lo
          refine WL.fieldAddr .nil rfl rfl rfl Try.underlying26 rfl info23 rfl rfl ?_
          refine GL.store hS2458 .nil (vc := [.slice a2454 (xs2076 ++ ([({ Name := x2302.2, Version := x2352.2, Text := x2394.2 } : GFile)] : List GFile)).length cap2455]) (c' := [.slice a2454 (xs2076 ++ ([({ Name := x2302.2, Version := x2352.2, Text := x2394.2 } : GFile)] : List GFile)).length cap2455, .slice none 0 0]) rfl rfl rfl info23 rfl rfl rfl rfl ho2465 fo2417 (Nat.le_of_ble_eq_true rfl) (by omega) (by repeat' (first | exact List.forall_mem_nil _ | refine List.forall_mem_cons.2 ⟨?_, ?_⟩ | rfl)) rfl (fun H2476 hS2477 ho2478 hk2479 => ?_)
          have ho2480 := (hk2479 _ (by omega)).trans ho2466
          have ho2481 := (hk2479 _ (by omega)).trans ho2467
          have ho2482 := (hk2479 _ (by omega)).trans ho2468
          have h2483 := OW.keep h2469 (Nat.le_refl _) (fun i hi => hk2479 i (fun hj => ap2448 (hj ▸ hi)))
          have h2484 := OW.keep hO2460 (Nat.le_refl _) (fun i hi => hk2479 i (fun hj => ap2471 (hj ▸ hi)))
          with_reducible refine WL.nil ?_
          with_reducible refine Ex.blk_norm ?_
          with_reducible refine Ex.thn_norm ?_
          with_reducible refine W.region ?_
          refine WL.move .nil rfl rfl rfl rfl ?_
          obtain ⟨hc2485, hr⟩ := chk_some hr
          refine WL.subI .nil rfl rfl rfl rfl rfl hc2485.1 hc2485.2 ?_
          refine WL.assign .nil rfl rfl rfl rfl ?_
          with_reducible refine WL.nil ?_
          with_reducible refine Ex.thn_norm ?_
          exact ⟨[(2, .pointer (some ⟨n0, 0, none⟩)), (5, .pointer (some ⟨n12, 0, none⟩)), (6, .pointer (some ⟨(n12 + 1), 0, none⟩)), (7, .int .i64 (x2073 - 1))], (Fr.le_cons rfl (Fr.le_cons rfl (Fr.le_cons rfl (Fr.le_cons rfl Fr.le_nil)))), (x2073 - 1), a2454, cap2455, (xs2076 ++ ([({ Name := x2302.2, Version := x2352.2, Text := x2394.2 } : GFile)] : List GFile)), a2405, cap2406, x2394.1.b, x2394.1.bad, F2409, rfl, hS2477, (hE2422.up (by omega)), ho2478, fo2417, ho2480, fo2418, ho2481, fo2419, h2484, h2407, ap2471, ap2472, ap2473, hr⟩
        · replace hr := iteB_neg hr hc2118
          with_reducible refine W.exit ?_
          with_reducible refine Ex.thn_ex ?_
          with_reducible refine Ex.thn_ex ?_
          with_reducible refine Ex.blk_here ?_
          with_reducible refine Ex.thn_norm ?_
          with_reducible refine W.seq ?_
          with_reducible refine W.seq ?_
          with_reducible refine W.region ?_
          refine WL.move .nil rfl rfl rfl rfl ?_
          obtain ⟨x2486, hx2486, hr⟩ := bnd_some hr
          have hb2496 := fun b hb => (OW.id_lt (i := b) h2103 hb).2
          refine GL.callIO g .nil (fun i => (F2099 i).isSome = true ∨ i = n12) rfl rfl rfl rfl rfl rfl Try.func22 rfl rfl (Nat.le_refl _) hS2100.lo (f_impl_byteReader_number_k (x1 := ({ b := xs2085, bad := x2087 } : GbyteReader)) g (St.vis hS2100 (fun i hi => .inl hi)) (vis_get ho2109 (.inr (rfl))) fo2110 (by omega) h2108 hx2486) (fun v n2487 H2488 H2489 hn2490 hp2491 hle2492 hnew2493 hk2494 hd2495 => ?_)
          obtain ⟨F2501, a2497, cap2498, hX2502, hS2500, ho2503, rfl, h2499⟩ := hp2491
          have hS2504 : St n0 n2487 H2488 _ := ⟨hS2500.lo, fun i hi => (hnew2493 i (by omega)).trans (hS2500.hb i hi), hS2500.fh.trans hle2492⟩
          have ho2505 := (hk2494 _ (by have := lt2114; omega) (fun hs => by
      rcases hs with h | h
      · rw [fo2105] at h; cases h
      · omega)).trans ho2104
          have ho2506 := (hk2494 _ (by have := lt2115; omega) (fun hs => by
      rcases hs with h | h
      · rw [fo2107] at h; cases h
      · omega)).trans ho2106
          have h2507 := OW.keep (n' := n2487) h2103 (by omega) (fun i hi => hk2494 i (OW.id_lt h2103 hi).2 (fun hs => by
      rcases hs with h | h
      · rw [(OW.fnone h2103 hi)] at h; cases h
      · exact ap2113 (h ▸ hi)))
          have fo2508 := (hX2502.eq _ (by have := lt2114; omega)).trans fo2105
          have fo2509 := (hX2502.eq _ (by have := lt2115; omega)).trans fo2107
          have fo2510 := (hX2502.eq _ (by have := lt2116; omega)).trans fo2110
          have h2511 := OW.keepF h2507 hX2502.sub (fun i hi => (hX2502.eq i (by have := hb2496 i hi; omega)).trans (OW.fnone h2507 hi))
          have hE2512 := (hE2101.up (n' := n2097) (by omega)).trans hX2502
          have ho2513 := hle2492 _ _ ho2503
          have hlon2487 := hS2504.lo
          have lt2514 := hS2504.lt ho2505
          have lt2515 := hS2504.lt ho2506
          have lt2516 := hS2504.lt ho2513
          refine WL.assign .nil rfl rfl rfl rfl ?_
          with_reducible refine WL.nil ?_
          with_reducible refine Ex.thn_norm ?_
          with_reducible refine W.block ?_
          refine W.loopF (fun k2 fr n H => ∃ (x5655 : Int) (a5657 : Option Addr) (cap5658 : Nat) (xs5659 : (List GSession)) (a5666 : Option Addr) (cap5667 : Nat) (xs5668 : (List UInt8)) (x5670 : Bool) (F : Heap), fr = [(2, .pointer (some ⟨n0, 0, none⟩)), (5, .pointer (some ⟨n12, 0, none⟩)), (6, .pointer (some ⟨(n12 + 1), 0, none⟩)), (9, .int .i64 x5655)] ∧ St n0 n H F ∧ Ext n0 F0 n F ∧ H (n12 + 1) = some (.row 1 [.slice a2074 xs2076.length cap2075, .slice a5657 xs5659.length cap5658]) ∧ F (n12 + 1) = none ∧ H n0 = some (.row 1 [.slice none 0 0, .slice none 0 0]) ∧ F n0 = none ∧ H n12 = some (.row 1 [.slice a5666 xs5668.length cap5667, .bool x5670]) ∧ F n12 = none ∧ OW n0 n H F (.slice a2074 xs2076.length cap2075) xs2076 ∧ OW n0 n H F (.slice a5657 xs5659.length cap5658) xs5659 ∧ SR F (.slice a5666 xs5668.length cap5667) xs5668 ∧ idOf (.slice a2074 xs2076.length cap2075) ≠ some (n12 + 1) ∧ idOf (.slice a2074 xs2076.length cap2075) ≠ some n0 ∧ idOf (.slice a2074 xs2076.length cap2075) ≠ some n12 ∧ idOf (.slice a5657 xs5659.length cap5658) ≠ some (n12 + 1) ∧ idOf (.slice a5657 xs5659.length cap5658) ≠ some n0 ∧ idOf (.slice a5657 xs5659.length cap5658) ≠ some n12 ∧ (∀ b, idOf (.slice a5657 xs5659.length cap5658) = some b → idOf (.slice a2074 xs2076.length cap2075) ≠ some b) ∧ f_impl_ReadState_L2 xs2076 k2 x5655 xs5659 xs5668 x5670 = some res) BIG (fr0 := [(2, .pointer (some ⟨n0, 0, none⟩)), (5, .pointer (some ⟨n12, 0, none⟩)), (6, .pointer (some ⟨(n12 + 1), 0, none⟩)), (9, .int .i64 x2486.2)]) (Fr.le_cons rfl (Fr.le_cons rfl (Fr.le_cons rfl (Fr.le_cons rfl Fr.le_nil)))) ?_ ?_ ?_
          · exact ⟨x2486.2, none, 0, [], a2497, cap2498, x2486.1.b, x2486.1.bad, F2501, rfl, hS2504, hE2512, ho2505, fo2508, ho2506, fo2509, ho2513, fo2510, h2511, OW.nil, h2499, ap2111, ap2112, ap2113, (fun h => by cases h), (fun h => by cases h), (fun h => by cases h), (fun b h => by cases h), hr⟩
          · intro fr n H hI
            obtain ⟨x5655, a5657, cap5658, xs5659, a5666, cap5667, xs5668, x5670, F5652, hfr, hS5653, hE5654, ho5662, fo5663, ho5664, fo5665, ho5671, fo5672, h5656, h5660, h5669, ap5673, ap5674, ap5675, ap5676, ap5677, ap5678, ap5679, hr⟩ := hI
            rw [f_impl_ReadState_L2] at hr
            cases hr
          · intro k2 _ n5650 H5651 hI
            obtain ⟨x5655, a5657, cap5658, xs5659, a5666, cap5667, xs5668, x5670, F5652, rfl, hS5653, hE5654, ho5662, fo5663, ho5664, fo5665, ho5671, fo5672, h5656, h5660, h5669, ap5673, ap5674, ap5675, ap5676, ap5677, ap5678, ap5679, hr⟩ := hI
            have lt5680 := hS5653.lt ho5662
            have lt5681 := hS5653.lt ho5664
            have lt5682 := hS5653.lt ho5671
            have hlen5650 := hE5654.le
            have hlon5650 := hS5653.lo
            rw [f_impl_ReadState_L2] at hr
            with_reducible refine W.seq ?_
            with_reducible refine W.seq ?_
            refine W.cut (fun fr n H => ∃ (x5689 : Bool) (F : Heap), fr = [(2, .pointer (some ⟨n0, 0, none⟩)), (5, .pointer (some ⟨n12, 0, none⟩)), (6, .pointer (some ⟨(n12 + 1), 0, none⟩)), (9, .int .i64 x5655), (59, .bool x5689)] ∧ St n0 n H F ∧ Ext n0 F0 n F ∧ H (n12 + 1) = some (.row 1 [.slice a2074 xs2076.length cap2075, .slice a5657 xs5659.length cap5658]) ∧ F (n12 + 1) = none ∧ H n0 = some (.row 1 [.slice none 0 0, .slice none 0 0]) ∧ F n0 = none ∧ H n12 = some (.row 1 [.slice a5666 xs5668.length cap5667, .bool x5670]) ∧ F n12 = none ∧ OW n0 n H F (.slice a2074 xs2076.length cap2075) xs2076 ∧ OW n0 n H F (.slice a5657 xs5659.length cap5658) xs5659 ∧ SR F (.slice a5666 xs5668.length cap5667) xs5668 ∧ idOf (.slice a2074 xs2076.length cap2075) ≠ some (n12 + 1) ∧ idOf (.slice a2074 xs2076.length cap2075) ≠ some n0 ∧ idOf (.slice a2074 xs2076.length cap2075) ≠ some n12 ∧ idOf (.slice a5657 xs5659.length cap5658) ≠ some (n12 + 1) ∧ idOf (.slice a5657 xs5659.length cap5658) ≠ some n0 ∧ idOf (.slice a5657 xs5659.length cap5658) ≠ some n12 ∧ (∀ b, idOf (.slice a5657 xs5659.length cap5658) = some b → idOf (.slice a2074 xs2076.length cap2075) ≠ some b) ∧ f_impl_ReadState_J3 xs5668 x5670 xs5659 x5655 (f_impl_ReadState_L2 xs2076 k2) xs2076 x5689 = some res) ?_ ?_
            · with_reducible refine W.region ?_
              refine WL.move .nil rfl rfl rfl rfl ?_
              refine WL.bin .nil rfl rfl rfl rfl rfl rfl ?_
              refine WL.move .nil rfl rfl rfl rfl ?_
              refine WL.guardD rfl rfl rfl (fun hg6395 => ?_) (fun hg6395 => ?_)
              · replace hr := ite_pos hr hg6395
                refine WL.move .nil rfl rfl rfl rfl ?_
                refine WL.nilCheck .nil rfl rfl rfl rfl ?_
                refine WL.fieldAddr .nil rfl rfl rfl Try.underlying59 rfl info4 rfl rfl ?_
                refine WL.load1 .nil rfl rfl rfl Try.underlying4 rfl rfl ho5671 rfl ?_
                refine WL.not .nil rfl rfl rfl rfl ?_
                refine WL.pick .nil rfl rfl rfl rfl rfl ?_
                with_reducible refine WL.nil ?_
                with_reducible refine Ex.thn_norm ?_
                exact ⟨[(2, .pointer (some ⟨n0, 0, none⟩)), (5, .pointer (some ⟨n12, 0, none⟩)), (6, .pointer (some ⟨(n12 + 1), 0, none⟩)), (9, .int .i64 x5655), (59, .bool (!x5670))], (Fr.le_cons rfl (Fr.le_cons rfl (Fr.le_cons rfl (Fr.le_cons rfl (Fr.le_cons rfl Fr.le_nil))))), (!x5670), F5652, rfl, hS5653, hE5654, ho5662, fo5663, ho5664, fo5665, ho5671, fo5672, h5656, h5660, h5669, ap5673, ap5674, ap5675, ap5676, ap5677, ap5678, ap5679, hr⟩
              · replace hr := ite_neg hr hg6395
                refine WL.skip .nil rfl rfl ?_
                refine WL.skip .nil rfl rfl ?_
                refine WL.skip .nil rfl rfl ?_
                refine WL.skip .nil rfl rfl ?_
                refine WL.skip .nil rfl rfl ?_
                refine WL.pick .nil rfl rfl rfl rfl rfl ?_
                with_reducible refine WL.nil ?_
                with_reducible refine Ex.thn_norm ?_
                exact ⟨[(2, .pointer (some ⟨n0, 0, none⟩)), (5, .pointer (some ⟨n12, 0, none⟩)), (6, .pointer (some ⟨(n12 + 1), 0, none⟩)), (9, .int .i64 x5655), (59, .bool false)], (Fr.le_cons rfl (Fr.le_cons rfl (Fr.le_cons rfl (Fr.le_cons rfl (Fr.le_cons rfl Fr.le_nil))))), false, F5652, rfl, hS5653, hE5654, ho5662, fo5663, ho5664, fo5665, ho5671, fo5672, h5656, h5660, h5669, ap5673, ap5674, ap5675, ap5676, ap5677, ap5678, ap5679, hr⟩
            · intro _ n5684 H5685 hI
              obtain ⟨x5689, F5686, rfl, hS5687, hE5688, ho5692, fo5693, ho5694, fo5695, ho5697, fo5698, h5690, h5691, h5696, ap5699, ap5700, ap5701, ap5702, ap5703, ap5704, ap5705, hr⟩ := hI
              have lt5706 := hS5687.lt ho5692
              have lt5707 := hS5687.lt ho5694
              have lt5708 := hS5687.lt ho5697
              have hlen5684 := hE5688.le
              have hlon5684 := hS5687.lo
              unfold f_impl_ReadState_J3 at hr
              refine W.cond rfl (fun hc5710 => ?_) (fun hc5710 => ?_)
              · replace hr := iteB_pos hr hc5710
                with_reducible refine W.skip ?_
                with_reducible refine Ex.thn_norm ?_
                with_reducible refine W.seq ?_
                with_reducible refine W.block ?_
                with_reducible refine W.seq ?_
                with_reducible refine W.region ?_
                refine WL.move .nil rfl rfl rfl rfl ?_
                obtain ⟨x6007, hx6007, hr⟩ := bnd_some hr
                have hb6017 := fun b hb => (OW.id_lt (i := b) h5690 hb).2
                have hb6018 := fun b hb => (OW.id_lt (i := b) h5691 hb).2
                refine GL.callIO g .nil (fun i => (F5686 i).isSome = true ∨ i = n12) rfl rfl rfl rfl rfl rfl Try.func22 rfl rfl (Nat.le_refl _) hS5687.lo (f_impl_byteReader_number_k (x1 := ({ b := xs5668, bad := x5670 } : GbyteReader)) g (St.vis hS5687 (fun i hi => .inl hi)) (vis_get ho5697 (.inr (rfl))) fo5698 (by omega) h5696 hx6007) (fun v n6008 H6009 H6010 hn6011 hp6012 hle6013 hnew6014 hk6015 hd6016 => ?_)
                obtain ⟨F6023, a6019, cap6020, hX6024, hS6022, ho6025, rfl, h6021⟩ := hp6012
                have hS6026 : St n0 n6008 H6009 _ := ⟨hS6022.lo, fun i hi => (hnew6014 i (by omega)).trans (hS6022.hb i hi), hS6022.fh.trans hle6013⟩
                have ho6027 := (hk6015 _ (by have := lt5706; omega) (fun hs => by
      rcases hs with h | h
      · rw [fo5693] at h; cases h
      · omega)).trans ho5692
                have ho6028 := (hk6015 _ (by have := lt5707; omega) (fun hs => by
      rcases hs with h | h
      · rw [fo5695] at h; cases h
      · omega)).trans ho5694
                have h6029 := OW.keep (n' := n6008) h5690 (by omega) (fun i hi => hk6015 i (OW.id_lt h5690 hi).2 (fun hs => by
      rcases hs with h | h
      · rw [(OW.fnone h5690 hi)] at h; cases h
      · exact ap5701 (h ▸ hi)))
                have h6030 := OW.keep (n' := n6008) h5691 (by omega) (fun i hi => hk6015 i (OW.id_lt h5691 hi).2 (fun hs => by
      rcases hs with h | h
      · rw [(OW.fnone h5691 hi)] at h; cases h
      · exact ap5704 (h ▸ hi)))
                have fo6031 := (hX6024.eq _ (by have := lt5706; omega)).trans fo5693
                have fo6032 := (hX6024.eq _ (by have := lt5707; omega)).trans fo5695
                have fo6033 := (hX6024.eq _ (by have := lt5708; omega)).trans fo5698
                have h6034 := OW.keepF h6029 hX6024.sub (fun i hi => (hX6024.eq i (by have := hb6017 i hi; omega)).trans (OW.fnone h6029 hi))
                have h6035 := OW.keepF h6030 hX6024.sub (fun i hi => (hX6024.eq i (by have := hb6018 i hi; omega)).trans (OW.fnone h6030 hi))
                have hE6036 := (hE5688.up (n' := n5684) (by omega)).trans hX6024
                have ho6037 := hle6013 _ _ ho6025
                have hlon6008 := hS6026.lo
                have lt6038 := hS6026.lt ho6027
                have lt6039 := hS6026.lt ho6028
                have lt6040 := hS6026.lt ho6037
                refine WL.buildL .nil (cells := [.int .i64 x6007.2, .int .i64 0, .int .i64 0, .int .i64 0, str ([] : List UInt8)]) rfl rfl rfl Try.underlying54 info54 rfl rfl rfl (by simp only [List.mapM_cons, List.mapM_nil, info3, info3, info52]; rfl) rfl (by first | rfl | ((conv => lhs; simp [splice, fillL, cells_int, cells_bool, cells_string, cells_str, cells_slice, cells_ptr, cells_map, cells_func, cells_nilFunc, cells_nilIface, cells_iface, cells_agg, cells_u8]) <;> rfl)) ?_
                refine GL.alloc hS6026 .nil (zc := [.int .i64 0, .int .i64 0, .int .i64 0, .int .i64 0, str ([] : List UInt8)]) rfl rfl rfl info54 rfl rfl rfl (fun H6041 hS6042 ho6043 hk6044 => ?_)
                have fo6045 := hS6026.fnone (Nat.le_refl _)
                have ap6047 : idOf (.slice a2074 xs2076.length cap2075) ≠ some n6008 := fun hj => by have := OW.id_lt h6034 hj; omega
                have ap6048 : idOf (.slice a5657 xs5659.length cap5658) ≠ some n6008 := fun hj => by have := OW.id_lt h6035 hj; omega
                have ho6049 := (hk6044 _ (by have := lt6038; omega)).trans ho6027
                have ho6050 := (hk6044 _ (by have := lt6039; omega)).trans ho6028
                have ho6051 := (hk6044 _ (by have := lt6040; omega)).trans ho6037
                have h6052 := OW.keep (n' := (n6008 + 1)) h6034 (by omega) (fun i hi => hk6044 i (OW.id_lt h6034 hi).2)
                have h6053 := OW.keep (n' := (n6008 + 1)) h6035 (by omega) (fun i hi => hk6044 i (OW.id_lt h6035 hi).2)
                have hlon60081 := hS6042.lo
                have lt6046 : n6008 < (n6008 + 1) := by omega
                refine GL.store hS6042 .nil (vc := [.int .i64 x6007.2, .int .i64 0, .int .i64 0, .int .i64 0, str ([] : List UInt8)]) (c' := [.int .i64 x6007.2, .int .i64 0, .int .i64 0, .int .i64 0, str ([] : List UInt8)]) rfl rfl rfl info54 rfl rfl rfl rfl ho6043 fo6045 (Nat.le_of_ble_eq_true rfl) (by omega) (by repeat' (first | exact List.forall_mem_nil _ | refine List.forall_mem_cons.2 ⟨?_, ?_⟩ | rfl)) rfl (fun H6054 hS6055 ho6056 hk6057 => ?_)
                have ho6058 := (hk6057 _ (by omega)).trans ho6049
                have ho6059 := (hk6057 _ (by omega)).trans ho6050
                have ho6060 := (hk6057 _ (by omega)).trans ho6051
                have h6061 := OW.keep h6052 (Nat.le_refl _) (fun i hi => hk6057 i (fun hj => ap6047 (hj ▸ hi)))
                have h6062 := OW.keep h6053 (Nat.le_refl _) (fun i hi => hk6057 i (fun hj => ap6048 (hj ▸ hi)))
                with_reducible refine WL.nil ?_
                with_reducible refine Ex.thn_norm ?_
                with_reducible refine W.seq ?_
                with_reducible refine W.region ?_
                refine WL.move .nil rfl rfl rfl rfl ?_
                obtain ⟨x6063, hx6063, hr⟩ := bnd_some hr
                have hb6073 := fun b hb => (OW.id_lt (i := b) h6061 hb).2
                have hb6074 := fun b hb => (OW.id_lt (i := b) h6062 hb).2
                refine GL.callIO g .nil (fun i => (F6023 i).isSome = true ∨ i = n12) rfl rfl rfl rfl rfl rfl Try.func22 rfl rfl (Nat.le_refl _) hS6055.lo (f_impl_byteReader_number_k (x1 := ({ b := x6007.1.b, bad := x6007.1.bad } : GbyteReader)) g (St.vis hS6055 (fun i hi => .inl hi)) (vis_get ho6060 (.inr (rfl))) fo6033 (by omega) h6021 hx6063) (fun v n6064 H6065 H6066 hn6067 hp6068 hle6069 hnew6070 hk6071 hd6072 => ?_)
                obtain ⟨F6079, a6075, cap6076, hX6080, hS6078, ho6081, rfl, h6077⟩ := hp6068
                have hS6082 : St n0 n6064 H6065 _ := ⟨hS6078.lo, fun i hi => (hnew6070 i (by omega)).trans (hS6078.hb i hi), hS6078.fh.trans hle6069⟩
                have ho6083 := (hk6071 _ (by have := lt6038; omega) (fun hs => by
      rcases hs with h | h
      · rw [fo6031] at h; cases h
      · omega)).trans ho6058
                have ho6084 := (hk6071 _ (by have := lt6039; omega) (fun hs => by
      rcases hs with h | h
      · rw [fo6032] at h; cases h
      · omega)).trans ho6059
                have ho6085 := (hk6071 _ (by have := lt6046; omega) (fun hs => by
      rcases hs with h | h
      · rw [fo6045] at h; cases h
      · omega)).trans ho6056
                have h6086 := OW.keep (n' := n6064) h6061 (by omega) (fun i hi => hk6071 i (OW.id_lt h6061 hi).2 (fun hs => by
      rcases hs with h | h
      · rw [(OW.fnone h6061 hi)] at h; cases h
      · exact ap5701 (h ▸ hi)))
                have h6087 := OW.keep (n' := n6064) h6062 (by omega) (fun i hi => hk6071 i (OW.id_lt h6062 hi).2 (fun hs => by
      rcases hs with h | h
      · rw [(OW.fnone h6062 hi)] at h; cases h
      · exact ap5704 (h ▸ hi)))
                have fo6088 := (hX6080.eq _ (by have := lt6038; omega)).trans fo6031
                have fo6089 := (hX6080.eq _ (by have := lt6039; omega)).trans fo6032
                have fo6090 := (hX6080.eq _ (by have := lt6040; omega)).trans fo6033
                have fo6091 := (hX6080.eq _ (by have := lt6046; omega)).trans fo6045
                have h6092 := OW.keepF h6086 hX6080.sub (fun i hi => (hX6080.eq i (by have := hb6073 i hi; omega)).trans (OW.fnone h6086 hi))
                have h6093 := OW.keepF h6087 hX6080.sub (fun i hi => (hX6080.eq i (by have := hb6074 i hi; omega)).trans (OW.fnone h6087 hi))
                have hE6094 := (hE6036.up (n' := (n6008 + 1)) (by omega)).trans hX6080
                have ho6095 := hle6069 _ _ ho6081
                have hlon6064 := hS6082.lo
                have lt6096 := hS6082.lt ho6083
                have lt6097 := hS6082.lt ho6084
                have lt6098 := hS6082.lt ho6095
                have lt6099 := hS6082.lt ho6085
                refine WL.fieldAddr .nil rfl rfl rfl Try.underlying54 rfl info3 rfl rfl ?_
                refine GL.store hS6082 .nil (vc := [.int .i64 x6063.2]) (c' := [.int .i64 x6007.2, .int .i64 x6063.2, .int .i64 0, .int .i64 0, str ([] : List UInt8)]) rfl rfl rfl info3 rfl rfl rfl rfl ho6085 fo6091 (Nat.le_of_ble_eq_true rfl) (by omega) (by repeat' (first | exact List.forall_mem_nil _ | refine List.forall_mem_cons.2 ⟨?_, ?_⟩ | rfl)) rfl (fun H6100 hS6101 ho6102 hk6103 => ?_)
                have ho6104 := (hk6103 _ (by omega)).trans ho6083
                have ho6105 := (hk6103 _ (by omega)).trans ho6084
                have ho6106 := (hk6103 _ (by omega)).trans ho6095
                have h6107 := OW.keep h6092 (Nat.le_refl _) (fun i hi => hk6103 i (fun hj => ap6047 (hj ▸ hi)))
                have h6108 := OW.keep h6093 (Nat.le_refl _) (fun i hi => hk6103 i (fun hj => ap6048 (hj ▸ hi)))
                with_reducible refine WL.nil ?_
                with_reducible refine Ex.thn_norm ?_
                with_reducible refine W.seq ?_
                with_reducible refine W.region ?_
                refine WL.move .nil rfl rfl rfl rfl ?_
                obtain ⟨x6109, hx6109, hr⟩ := bnd_some hr
                have hb6119 := fun b hb => (OW.id_lt (i := b) h6107 hb).2
                have hb6120 := fun b hb => (OW.id_lt (i := b) h6108 hb).2
                refine GL.callIO g .nil (fun i => (F6079 i).isSome = true ∨ i = n12) rfl rfl rfl rfl rfl rfl Try.func22 rfl rfl (Nat.le_refl _) hS6101.lo (f_impl_byteReader_number_k (x1 := ({ b := x6063.1.b, bad := x6063.1.bad } : GbyteReader)) g (St.vis hS6101 (fun i hi => .inl hi)) (vis_get ho6106 (.inr (rfl))) fo6090 (by omega) h6077 hx6109) (fun v n6110 H6111 H6112 hn6113 hp6114 hle6115 hnew6116 hk6117 hd6118 => ?_)
                obtain ⟨F6125, a6121, cap6122, hX6126, hS6124, ho6127, rfl, h6123⟩ := hp6114
                have hS6128 : St n0 n6110 H6111 _ := ⟨hS6124.lo, fun i hi => (hnew6116 i (by omega)).trans (hS6124.hb i hi), hS6124.fh.trans hle6115⟩
                have ho6129 := (hk6117 _ (by have := lt6096; omega) (fun hs => by
      rcases hs with h | h
      · rw [fo6088] at h; cases h
      · omega)).trans ho6104
                have ho6130 := (hk6117 _ (by have := lt6097; omega) (fun hs => by
      rcases hs with h | h
      · rw [fo6089] at h; cases h
      · omega)).trans ho6105
                have ho6131 := (hk6117 _ (by have := lt6099; omega) (fun hs => by
      rcases hs with h | h
      · rw [fo6091] at h; cases h
      · omega)).trans ho6102
                have h6132 := OW.keep (n' := n6110) h6107 (by omega) (fun i hi => hk6117 i (OW.id_lt h6107 hi).2 (fun hs => by
      rcases hs with h | h
      · rw [(OW.fnone h6107 hi)] at h; cases h
      · exact ap5701 (h ▸ hi)))
                have h6133 := OW.keep (n' := n6110) h6108 (by omega) (fun i hi => hk6117 i (OW.id_lt h6108 hi).2 (fun hs => by
      rcases hs with h | h
      · rw [(OW.fnone h6108 hi)] at h; cases h
      · exact ap5704 (h ▸ hi)))
                have fo6134 := (hX6126.eq _ (by have := lt6096; omega)).trans fo6088
                have fo6135 := (hX6126.eq _ (by have := lt6097; omega)).trans fo6089
                have fo6136 := (hX6126.eq _ (by have := lt6098; omega)).trans fo6090
                have fo6137 := (hX6126.eq _ (by have := lt6099; omega)).trans fo6091
                have h6138 := OW.keepF h6132 hX6126.sub (fun i hi => (hX6126.eq i (by have := hb6119 i hi; omega)).trans (OW.fnone h6132 hi))
                have h6139 := OW.keepF h6133 hX6126.sub (fun i hi => (hX6126.eq i (by have := hb6120 i hi; omega)).trans (OW.fnone h6133 hi))
                have hE6140 := (hE6094.up (n' := n6064) (by omega)).trans hX6126
                have ho6141 := hle6115 _ _ ho6127
                have hlon6110 := hS6128.lo
                have lt6142 := hS6128.lt ho6129
                have lt6143 := hS6128.lt ho6130
                have lt6144 := hS6128.lt ho6141
                have lt6145 := hS6128.lt ho6131
                refine WL.fieldAddr .nil rfl rfl rfl Try.underlying54 rfl info52 rfl rfl ?_
                refine WL.fieldAddr .nil rfl rfl rfl Try.underlying52 rfl info3 rfl rfl ?_
                refine GL.store hS6128 .nil (vc := [.int .i64 x6109.2]) (c' := [.int .i64 x6007.2, .int .i64 x6063.2, .int .i64 x6109.2, .int .i64 0, str ([] : List UInt8)]) rfl rfl rfl info3 rfl rfl rfl rfl ho6131 fo6137 (Nat.le_of_ble_eq_true rfl) (by omega) (by repeat' (first | exact List.forall_mem_nil _ | refine List.forall_mem_cons.2 ⟨?_, ?_⟩ | rfl)) rfl (fun H6146 hS6147 ho6148 hk6149 => ?_)
                have ho6150 := (hk6149 _ (by omega)).trans ho6129
                have ho6151 := (hk6149 _ (by omega)).trans ho6130
                have ho6152 := (hk6149 _ (by omega)).trans ho6141
                have h6153 := OW.keep h6138 (Nat.le_refl _) (fun i hi => hk6149 i (fun hj => ap6047 (hj ▸ hi)))
                have h6154 := OW.keep h6139 (Nat.le_refl _) (fun i hi => hk6149 i (fun hj => ap6048 (hj ▸ hi)))
                with_reducible refine WL.nil ?_
                with_reducible refine Ex.thn_norm ?_
                with_reducible refine W.seq ?_
                with_reducible refine W.region ?_
                refine WL.move .nil rfl rfl rfl rfl ?_
                obtain ⟨x6155, hx6155, hr⟩ := bnd_some hr
                have hb6165 := fun b hb => (OW.id_lt (i := b) h6153 hb).2
                have hb6166 := fun b hb => (OW.id_lt (i := b) h6154 hb).2
                refine GL.callIO g .nil (fun i => (F6125 i).isSome = true ∨ i = n12) rfl rfl rfl rfl rfl rfl Try.func22 rfl rfl (Nat.le_refl _) hS6147.lo (f_impl_byteReader_number_k (x1 := ({ b := x6109.1.b, bad := x6109.1.bad } : GbyteReader)) g (St.vis hS6147 (fun i hi => .inl hi)) (vis_get ho6152 (.inr (rfl))) fo6136 (by omega) h6123 hx6155) (fun v n6156 H6157 H6158 hn6159 hp6160 hle6161 hnew6162 hk6163 hd6164 => ?_)
                obtain ⟨F6171, a6167, cap6168, hX6172, hS6170, ho6173, rfl, h6169⟩ := hp6160
                have hS6174 : St n0 n6156 H6157 _ := ⟨hS6170.lo, fun i hi => (hnew6162 i (by omega)).trans (hS6170.hb i hi), hS6170.fh.trans hle6161⟩
                have ho6175 := (hk6163 _ (by have := lt6142; omega) (fun hs => by
      rcases hs with h | h
      · rw [fo6134] at h; cases h
      · omega)).trans ho6150
                have ho6176 := (hk6163 _ (by have := lt6143; omega) (fun hs => by
      rcases hs with h | h
      · rw [fo6135] at h; cases h
      · omega)).trans ho6151
                have ho6177 := (hk6163 _ (by have := lt6145; omega) (fun hs => by
      rcases hs with h | h
      · rw [fo6137] at h; cases h
      · omega)).trans ho6148
                have h6178 := OW.keep (n' := n6156) h6153 (by omega) (fun i hi => hk6163 i (OW.id_lt h6153 hi).2 (fun hs => by
      rcases hs with h | h
      · rw [(OW.fnone h6153 hi)] at h; cases h
      · exact ap5701 (h ▸ hi)))
                have h6179 := OW.keep (n' := n6156) h6154 (by omega) (fun i hi => hk6163 i (OW.id_lt h6154 hi).2 (fun hs => by
      rcases hs with h | h
      · rw [(OW.fnone h6154 hi)] at h; cases h
      · exact ap5704 (h ▸ hi)))
                have fo6180 := (hX6172.eq _ (by have := lt6142; omega)).trans fo6134
                have fo6181 := (hX6172.eq _ (by have := lt6143; omega)).trans fo6135
                have fo6182 := (hX6172.eq _ (by have := lt6144; omega)).trans fo6136
                have fo6183 := (hX6172.eq _ (by have := lt6145; omega)).trans fo6137
                have h6184 := OW.keepF h6178 hX6172.sub (fun i hi => (hX6172.eq i (by have := hb6165 i hi; omega)).trans (OW.fnone h6178 hi))
                have h6185 := OW.keepF h6179 hX6172.sub (fun i hi => (hX6172.eq i (by have := hb6166 i hi; omega)).trans (OW.fnone h6179 hi))
                have hE6186 := (hE6140.up (n' := n6110) (by omega)).trans hX6172
                have ho6187 := hle6161 _ _ ho6173
                have hlon6156 := hS6174.lo
                have lt6188 := hS6174.lt ho6175
                have lt6189 := hS6174.lt ho6176
                have lt6190 := hS6174.lt ho6187
                have lt6191 := hS6174.lt ho6177
                refine WL.fieldAddr .nil rfl rfl rfl Try.underlying54 rfl info52 rfl rfl ?_
                refine WL.fieldAddr .nil rfl rfl rfl Try.underlying52 rfl info3 rfl rfl ?_
                refine GL.store hS6174 .nil (vc := [.int .i64 x6155.2]) (c' := [.int .i64 x6007.2, .int .i64 x6063.2, .int .i64 x6109.2, .int .i64 x6155.2, str ([] : List UInt8)]) rfl rfl rfl info3 rfl rfl rfl rfl ho6177 fo6183 (Nat.le_of_ble_eq_true rfl) (by omega) (by repeat' (first | exact List.forall_mem_nil _ | refine List.forall_mem_cons.2 ⟨?_, ?_⟩ | rfl)) rfl (fun H6192 hS6193 ho6194 hk6195 => ?_)
                have ho6196 := (hk6195 _ (by omega)).trans ho6175
                have ho6197 := (hk6195 _ (by omega)).trans ho6176
                have ho6198 := (hk6195 _ (by omega)).trans ho6187
                have h6199 := OW.keep h6184 (Nat.le_refl _) (fun i hi => hk6195 i (fun hj => ap6047 (hj ▸ hi)))
                have h6200 := OW.keep h6185 (Nat.le_refl _) (fun i hi => hk6195 i (fun hj => ap6048 (hj ▸ hi)))
                with_reducible refine WL.nil ?_
                with_reducible refine Ex.thn_norm ?_
                with_reducible refine W.seq ?_
                with_reducible refine W.region ?_
                refine WL.move .nil rfl rfl rfl rfl ?_
                obtain ⟨x6201, hx6201, hr⟩ := bnd_some hr
                have hb6211 := fun b hb => (OW.id_lt (i := b) h6199 hb).2
                have hb6212 := fun b hb => (OW.id_lt (i := b) h6200 hb).2
                refine GL.callIO g .nil (fun i => (F6171 i).isSome = true ∨ i = n12) rfl rfl rfl rfl rfl rfl Try.func23 rfl rfl (Nat.le_refl _) hS6193.lo (f_impl_byteReader_text_k (x1 := ({ b := x6155.1.b, bad := x6155.1.bad } : GbyteReader)) g (St.vis hS6193 (fun i hi => .inl hi)) (vis_get ho6198 (.inr (rfl))) fo6182 (by omega) h6169 hx6201) (fun v n6202 H6203 H6204 hn6205 hp6206 hle6207 hnew6208 hk6209 hd6210 => ?_)
                obtain ⟨F6217, a6213, cap6214, hX6218, hS6216, ho6219, rfl, h6215⟩ := hp6206
                have hS6220 : St n0 n6202 H6203 _ := ⟨hS6216.lo, fun i hi => (hnew6208 i (by omega)).trans (hS6216.hb i hi), hS6216.fh.trans hle6207⟩
                have ho6221 := (hk6209 _ (by have := lt6188; omega) (fun hs => by
      rcases hs with h | h
      · rw [fo6180] at h; cases h
      · omega)).trans ho6196
                have ho6222 := (hk6209 _ (by have := lt6189; omega) (fun hs => by
      rcases hs with h | h
      · rw [fo6181] at h; cases h
      · omega)).trans ho6197
                have ho6223 := (hk6209 _ (by have := lt6191; omega) (fun hs => by
      rcases hs with h | h
      · rw [fo6183] at h; cases h
      · omega)).trans ho6194
                have h6224 := OW.keep (n' := n6202) h6199 (by omega) (fun i hi => hk6209 i (OW.id_lt h6199 hi).2 (fun hs => by
      rcases hs with h | h
      · rw [(OW.fnone h6199 hi)] at h; cases h
      · exact ap5701 (h ▸ hi)))
                have h6225 := OW.keep (n' := n6202) h6200 (by omega) (fun i hi => hk6209 i (OW.id_lt h6200 hi).2 (fun hs => by
      rcases hs with h | h
      · rw [(OW.fnone h6200 hi)] at h; cases h
      · exact ap5704 (h ▸ hi)))
                have fo6226 := (hX6218.eq _ (by have := lt6188; omega)).trans fo6180
                have fo6227 := (hX6218.eq _ (by have := lt6189; omega)).trans fo6181
                have fo6228 := (hX6218.eq _ (by have := lt6190; omega)).trans fo6182
                have fo6229 := (hX6218.eq _ (by have := lt6191; omega)).trans fo6183
                have h6230 := OW.keepF h6224 hX6218.sub (fun i hi => (hX6218.eq i (by have := hb6211 i hi; omega)).trans (OW.fnone h6224 hi))
                have h6231 := OW.keepF h6225 hX6218.sub (fun i hi => (hX6218.eq i (by have := hb6212 i hi; omega)).trans (OW.fnone h6225 hi))
                have hE6232 := (hE6186.up (n' := n6156) (by omega)).trans hX6218
                have ho6233 := hle6207 _ _ ho6219
                have hlon6202 := hS6220.lo
                have lt6234 := hS6220.lt ho6221
                have lt6235 := hS6220.lt ho6222
                have lt6236 := hS6220.lt ho6233
                have lt6237 := hS6220.lt ho6223
                refine WL.fieldAddr .nil rfl rfl rfl Try.underlying54 rfl info52 rfl rfl ?_
                refine WL.fieldAddr .nil rfl rfl rfl Try.underlying52 rfl info9 rfl rfl ?_
                refine GL.store hS6220 .nil (vc := [str x6201.2]) (c' := [.int .i64 x6007.2, .int .i64 x6063.2, .int .i64 x6109.2, .int .i64 x6155.2, str x6201.2]) rfl rfl rfl info9 rfl rfl rfl rfl ho6223 fo6229 (Nat.le_of_ble_eq_true rfl) (by omega) (by repeat' (first | exact List.forall_mem_nil _ | refine List.forall_mem_cons.2 ⟨?_, ?_⟩ | rfl)) rfl (fun H6238 hS6239 ho6240 hk6241 => ?_)
                have ho6242 := (hk6241 _ (by omega)).trans ho6221
                have ho6243 := (hk6241 _ (by omega)).trans ho6222
                have ho6244 := (hk6241 _ (by omega)).trans ho6233
                have h6245 := OW.keep h6230 (Nat.le_refl _) (fun i hi => hk6241 i (fun hj => ap6047 (hj ▸ hi)))
                have h6246 := OW.keep h6231 (Nat.le_refl _) (fun i hi => hk6241 i (fun hj => ap6048 (hj ▸ hi)))
                with_reducible refine WL.nil ?_
                with_reducible refine Ex.thn_norm ?_
                with_reducible refine W.region ?_
                refine WL.fieldAddr .nil rfl rfl rfl Try.underlying26 rfl info24 rfl rfl ?_
                refine WL.load1 .nil rfl rfl rfl Try.underlying24 rfl rfl ho6242 rfl ?_
                refine WL.loadN .nil (l' := [.int .i64 x6007.2, .int .i64 x6063.2, .int .i64 x6109.2, .int .i64 x6155.2, str x6201.2]) rfl rfl rfl Try.underlying54 rfl info54 rfl ho6240 rfl rfl ?_
                have hb6251 := fun b hb => (OW.id_lt (i := b) h6245 hb).2
                have hb6252 := fun b hb => (OW.id_lt (i := b) h6246 hb).2
                refine GL.lit (cs := [.int .i64 x6007.2, .int .i64 x6063.2, .int .i64 x6109.2, .int .i64 x6155.2, str x6201.2]) (xs := ([({ Client := x6007.2, Seq := x6063.2, Reply := ({ Code := x6109.2, Version := x6155.2, Sha := x6201.2 } : GReply) } : GSession)] : List GSession)) hS6239 .nil rfl rfl rfl Try.underlying24 info54 rfl rfl rfl (by decide) (by decide) rfl rfl rfl rfl rfl (RA.cons (cs := [.int .i64 x6007.2, .int .i64 x6063.2, .int .i64 x6109.2, .int .i64 x6155.2, str x6201.2]) (a := (({ Client := x6007.2, Seq := x6063.2, Reply := ({ Code := x6109.2, Version := x6155.2, Sha := x6201.2 } : GReply) } : GSession) : GSession)) (GSession.toR (x := ({ Client := x6007.2, Seq := x6063.2, Reply := ({ Code := x6109.2, Version := x6155.2, Sha := x6201.2 } : GReply) } : GSession))) RA.nil) rfl (fun H6247 hS6248 hO6249 hk6250 => ?_)
                have ho6253 := (hk6250 _ (by have := lt6234; omega)).trans ho6242
                have ho6254 := (hk6250 _ (by have := lt6235; omega)).trans ho6243
                have ho6255 := (hk6250 _ (by have := lt6236; omega)).trans ho6244
                have ho6256 := (hk6250 _ (by have := lt6237; omega)).trans ho6240
                have h6257 := OW.keep (n' := (n6202 + 1)) h6245 (by omega) (fun i hi => hk6250 i (OW.id_lt h6245 hi).2)
                have h6258 := OW.keep (n' := (n6202 + 1)) h6246 (by omega) (fun i hi => hk6250 i (OW.id_lt h6246 hi).2)
                have h6259 := OW.lower (lo' := n0) hO6249 (by omega)
                have hlon62021 := hS6248.lo
                have ap6261 : idOf (.slice (some ⟨n6202, 0, none⟩) ([({ Client := x6007.2, Seq := x6063.2, Reply := ({ Code := x6109.2, Version := x6155.2, Sha := x6201.2 } : GReply) } : GSession)] : List GSession).length 1) ≠ some (n12 + 1) := fun hj => by have := (OW.id_lt hO6249 hj).1; have := lt6234; omega
                have ap6262 : idOf (.slice (some ⟨n6202, 0, none⟩) ([({ Client := x6007.2, Seq := x6063.2, Reply := ({ Code := x6109.2, Version := x6155.2, Sha := x6201.2 } : GReply) } : GSession)] : List GSession).length 1) ≠ some n0 := fun hj => by have := (OW.id_lt hO6249 hj).1; have := lt6235; omega
                have ap6263 : idOf (.slice (some ⟨n6202, 0, none⟩) ([({ Client := x6007.2, Seq := x6063.2, Reply := ({ Code := x6109.2, Version := x6155.2, Sha := x6201.2 } : GReply) } : GSession)] : List GSession).length 1) ≠ some n12 := fun hj => by have := (OW.id_lt hO6249 hj).1; have := lt6236; omega
                have ap6264 : idOf (.slice (some ⟨n6202, 0, none⟩) ([({ Client := x6007.2, Seq := x6063.2, Reply := ({ Code := x6109.2, Version := x6155.2, Sha := x6201.2 } : GReply) } : GSession)] : List GSession).length 1) ≠ some n6008 := fun hj => by have := (OW.id_lt hO6249 hj).1; have := lt6237; omega
                have ap6265 : ∀ b, idOf (.slice (some ⟨n6202, 0, none⟩) ([({ Client := x6007.2, Seq := x6063.2, Reply := ({ Code := x6109.2, Version := x6155.2, Sha := x6201.2 } : GReply) } : GSession)] : List GSession).length 1) = some b → idOf (.slice a2074 xs2076.length cap2075) ≠ some b := fun b hj hi => by have := (OW.id_lt hO6249 hj).1; have := hb6251 b hi; omega
                have ap6266 : ∀ b, idOf (.slice (some ⟨n6202, 0, none⟩) ([({ Client := x6007.2, Seq := x6063.2, Reply := ({ Code := x6109.2, Version := x6155.2, Sha := x6201.2 } : GReply) } : GSession)] : List GSession).length 1) = some b → idOf (.slice a5657 xs5659.length cap5658) ≠ some b := fun b hj hi => by have := (OW.id_lt hO6249 hj).1; have := hb6252 b hi; omega
                obtain ⟨hc6267, hr⟩ := chk_some hr
                have hb6277 := fun b hb => (OW.id_lt (i := b) h6257 hb).2
                have hb6278 := fun b hb => (OW.id_lt (i := b) h6258 hb).2
                have hb6279 := fun b hb => (OW.id_lt (i := b) h6259 hb).2
                refine GL.append (α := GSession) hS6248 .nil rfl rfl rfl Try.underlying24 Try.underlying24 rfl info54 rfl rfl rfl (by decide) rfl rfl h6258 (by omega) (by omega) (OW.src h6259) hc6267 (fun a6268 cap6269 n6270 H6271 hS6272 hn6273 hO6274 hk6275 hid6276 => ?_)
                have ho6280 := (hk6275 _ (by have := lt6234; omega) ap5702).trans ho6253
                have ho6281 := (hk6275 _ (by have := lt6235; omega) ap5703).trans ho6254
                have ho6282 := (hk6275 _ (by have := lt6236; omega) ap5704).trans ho6255
                have ho6283 := (hk6275 _ (by have := lt6237; omega) ap6048).trans ho6256
                have h6284 := OW.keep h6257 hn6273 (fun i hi => hk6275 i (OW.id_lt h6257 hi).2 (fun hj => ap5705 _ hj hi))
                have h6285 := OW.keep h6259 hn6273 (fun i hi => hk6275 i (OW.id_lt h6259 hi).2 (fun hj => (fun b h1 h2 => ap6266 b h2 h1) _ hj hi))
                have ap6287 : idOf (.slice a6268 (xs5659 ++ ([({ Client := x6007.2, Seq := x6063.2, Reply := ({ Code := x6109.2, Version := x6155.2, Sha := x6201.2 } : GReply) } : GSession)] : List GSession)).length cap6269) ≠ some (n12 + 1) := fun hj => (hid6276 _ hj).elim (fun h => by have := lt6234; omega) ap5702
                have ap6288 : idOf (.slice a6268 (xs5659 ++ ([({ Client := x6007.2, Seq := x6063.2, Reply := ({ Code := x6109.2, Version := x6155.2, Sha := x6201.2 } : GReply) } : GSession)] : List GSession)).length cap6269) ≠ some n0 := fun hj => (hid6276 _ hj).elim (fun h => by have := lt6235; omega) ap5703
                have ap6289 : idOf (.slice a6268 (xs5659 ++ ([({ Client := x6007.2, Seq := x6063.2, Reply := ({ Code := x6109.2, Version := x6155.2, Sha := x6201.2 } : GReply) } : GSession)] : List GSession)).length cap6269) ≠ some n12 := fun hj => (hid6276 _ hj).elim (fun h => by have := lt6236; omega) ap5704
                have ap6290 : idOf (.slice a6268 (xs5659 ++ ([({ Client := x6007.2, Seq := x6063.2, Reply := ({ Code := x6109.2, Version := x6155.2, Sha := x6201.2 } : GReply) } : GSession)] : List GSession)).length cap6269) ≠ some n6008 := fun hj => (hid6276 _ hj).elim (fun h => by have := lt6237; omega) ap6048
                have ap6291 : ∀ b, idOf (.slice a6268 (xs5659 ++ ([({ Client := x6007.2, Seq := x6063.2, Reply := ({ Code := x6109.2, Version := x6155.2, Sha := x6201.2 } : GReply) } : GSession)] : List GSession)).length cap6269) = some b → idOf (.slice a2074 xs2076.length cap2075) ≠ some b := fun b hj hi => (hid6276 _ hj).elim (fun h => by have := hb6277 b hi; omega) (fun h => ap5705 _ h hi)
                have ap6292 : ∀ b, idOf (.slice a6268 (xs5659 ++ ([({ Client := x6007.2, Seq := x6063.2, Reply := ({ Code := x6109.2, Version := x6155.2, Sha := x6201.2 } : GReply) } : GSession)] : List GSession)).length cap6269) = some b → idOf (.slice (some ⟨n6202, 0, none⟩) ([({ Client := x6007.2, Seq := x6063.2, Reply := ({ Code := x6109.2, Version := x6155.2, Sha := x6201.2 } : GReply) } : GSession)] : List GSession).length 1) ≠ some b := fun b hj hi => (hid6276 _ hj).elim (fun h => by have := hb6279 b hi; omega) (fun h => (fun b h1 h2 => ap6266 b h2 h1) _ h hi)
                have hlon6270 := hS6272.lo
                refine WL.fieldAddr .nil rfl rfl rfl Try.underlying26 rfl info24 rfl rfl ?_
                refine GL.store hS6272 .nil (vc := [.slice a6268 (xs5659 ++ ([({ Client := x6007.2, Seq := x6063.2, Reply := ({ Code := x6109.2, Version := x6155.2, Sha := x6201.2 } : GReply) } : GSession)] : List GSession)).length cap6269]) (c' := [.slice a2074 xs2076.length cap2075, .slice a6268 (xs5659 ++ ([({ Client := x6007.2, Seq := x6063.2, Reply := ({ Code := x6109.2, Version := x6155.2, Sha := x6201.2 } : GReply) } : GSession)] : List GSession)).length cap6269]) rfl rfl rfl info24 rfl rfl rfl rfl ho6280 fo6226 (Nat.le_of_ble_eq_true rfl) (by omega) (by repeat' (first | exact List.forall_mem_nil _ | refine List.forall_mem_cons.2 ⟨?_, ?_⟩ | rfl)) rfl (fun H6293 hS6294 ho6295 hk6296 => ?_)
                have ho6297 := (hk6296 _ (by omega)).trans ho6281
                have ho6298 := (hk6296 _ (by omega)).trans ho6282
                have ho6299 := (hk6296 _ (by omega)).trans ho6283
                have h6300 := OW.keep h6284 (Nat.le_refl _) (fun i hi => hk6296 i (fun hj => ap5699 (hj ▸ hi)))
                have h6301 := OW.keep h6285 (Nat.le_refl _) (fun i hi => hk6296 i (fun hj => ap6261 (hj ▸ hi)))
                have h6302 := OW.keep hO6274 (Nat.le_refl _) (fun i hi => hk6296 i (fun hj => ap6287 (hj ▸ hi)))
                with_reducible refine WL.nil ?_
                with_reducible refine Ex.blk_norm ?_
                with_reducible refine Ex.thn_norm ?_
                with_reducible refine W.region ?_
                refine WL.move .nil rfl rfl rfl rfl ?_
                obtain ⟨hc6303, hr⟩ := chk_some hr
                refine WL.subI .nil rfl rfl rfl rfl rfl hc6303.1 hc6303.2 ?_
                refine WL.assign .nil rfl rfl rfl rfl ?_
                with_reducible refine WL.nil ?_
                with_reducible refine Ex.thn_norm ?_
                exact ⟨[(2, .pointer (some ⟨n0, 0, none⟩)), (5, .pointer (some ⟨n12, 0, none⟩)), (6, .pointer (some ⟨(n12 + 1), 0, none⟩)), (9, .int .i64 (x5655 - 1))], (Fr.le_cons rfl (Fr.le_cons rfl (Fr.le_cons rfl (Fr.le_cons rfl Fr.le_nil)))), (x5655 - 1), a6268, cap6269, (xs5659 ++ ([({ Client := x6007.2, Seq := x6063.2, Reply := ({ Code := x6109.2, Version := x6155.2, Sha := x6201.2 } : GReply) } : GSession)] : List GSession)), a6213, cap6214, x6201.1.b, x6201.1.bad, F6217, rfl, hS6294, (hE6232.up (by omega)), ho6295, fo6226, ho6297, fo6227, ho6298, fo6228, h6300, h6302, h6215, ap5699, ap5700, ap5701, ap6287, ap6288, ap6289, ap6291, hr⟩
              · replace hr := iteB_neg hr hc5710
                with_reducible refine W.exit ?_
                with_reducible refine Ex.thn_ex ?_
                with_reducible refine Ex.thn_ex ?_
                with_reducible refine Ex.blk_here ?_
                with_reducible refine Ex.thn_norm ?_
                with_reducible refine W.seq ?_
                with_reducible refine W.seq ?_
                refine W.cut (fun fr n H => ∃ (x6310 : Bool) (F : Heap), fr = [(2, .pointer (some ⟨n0, 0, none⟩)), (6, .pointer (some ⟨(n12 + 1), 0, none⟩)), (97, .bool x6310)] ∧ St n0 n H F ∧ Ext n0 F0 n F ∧ H (n12 + 1) = some (.row 1 [.slice a2074 xs2076.length cap2075, .slice a5657 xs5659.length cap5658]) ∧ F (n12 + 1) = none ∧ H n0 = some (.row 1 [.slice none 0 0, .slice none 0 0]) ∧ F n0 = none ∧ OW n0 n H F (.slice a2074 xs2076.length cap2075) xs2076 ∧ OW n0 n H F (.slice a5657 xs5659.length cap5658) xs5659 ∧ idOf (.slice a2074 xs2076.length cap2075) ≠ some (n12 + 1) ∧ idOf (.slice a2074 xs2076.length cap2075) ≠ some n0 ∧ idOf (.slice a5657 xs5659.length cap5658) ≠ some (n12 + 1) ∧ idOf (.slice a5657 xs5659.length cap5658) ≠ some n0 ∧ (∀ b, idOf (.slice a5657 xs5659.length cap5658) = some b → idOf (.slice a2074 xs2076.length cap2075) ≠ some b) ∧ f_impl_ReadState_J4 xs2076 xs5659 x6310 = some res) ?_ ?_
                · with_reducible refine W.region ?_
                  refine WL.move .nil rfl rfl rfl rfl ?_
                  refine WL.nilCheck .nil rfl rfl rfl rfl ?_
                  refine WL.fieldAddr .nil rfl rfl rfl Try.underlying59 rfl info4 rfl rfl ?_
                  refine WL.load1 .nil rfl rfl rfl Try.underlying4 rfl rfl ho5697 rfl ?_
                  refine WL.move .nil rfl rfl rfl rfl ?_
                  refine WL.guard rfl rfl rfl (fun hg6394 => ?_) (fun hg6394 => ?_)
                  · replace hr := iteB_pos hr hg6394
                    refine WL.skip .nil rfl rfl ?_
                    refine WL.skip .nil rfl rfl ?_
                    refine WL.skip .nil rfl rfl ?_
                    refine WL.skip .nil rfl rfl ?_
                    refine WL.skip .nil rfl rfl ?_
                    refine WL.skip .nil rfl rfl ?_
                    refine WL.pick .nil rfl rfl rfl rfl rfl ?_
                    with_reducible refine WL.nil ?_
                    with_reducible refine Ex.thn_norm ?_
                    exact ⟨[(2, .pointer (some ⟨n0, 0, none⟩)), (6, .pointer (some ⟨(n12 + 1), 0, none⟩)), (97, .bool true)], (Fr.le_cons rfl (Fr.le_cons rfl (Fr.le_cons rfl Fr.le_nil))), true, F5686, rfl, hS5687, hE5688, ho5692, fo5693, ho5694, fo5695, h5690, h5691, ap5699, ap5700, ap5702, ap5703, ap5705, hr⟩
                  · replace hr := iteB_neg hr hg6394
                    refine WL.move .nil rfl rfl rfl rfl ?_
                    refine WL.nilCheck .nil rfl rfl rfl rfl ?_
                    refine WL.fieldAddr .nil rfl rfl rfl Try.underlying59 rfl info22 rfl rfl ?_
                    refine WL.load1 .nil rfl rfl rfl Try.underlying22 rfl rfl ho5697 rfl ?_
                    refine WL.len .nil rfl rfl rfl Try.underlying22 rfl ?_
                    refine WL.bin .nil rfl rfl rfl rfl rfl rfl ?_
                    refine WL.pick .nil rfl rfl rfl rfl rfl ?_
                    with_reducible refine WL.nil ?_
                    with_reducible refine Ex.thn_norm ?_
                    exact ⟨[(2, .pointer (some ⟨n0, 0, none⟩)), (6, .pointer (some ⟨(n12 + 1), 0, none⟩)), (97, .bool (decide ((0 : Int) < (xs5668.length : Int))))], (Fr.le_cons rfl (Fr.le_cons rfl (Fr.le_cons rfl Fr.le_nil))), (decide ((0 : Int) < (xs5668.length : Int))), F5686, rfl, hS5687, hE5688, ho5692, fo5693, ho5694, fo5695, h5690, h5691, ap5699, ap5700, ap5702, ap5703, ap5705, hr⟩
                · intro _ n6305 H6306 hI
                  obtain ⟨x6310, F6307, rfl, hS6308, hE6309, ho6313, fo6314, ho6315, fo6316, h6311, h6312, ap6317, ap6318, ap6319, ap6320, ap6321, hr⟩ := hI
                  have lt6322 := hS6308.lt ho6313
                  have lt6323 := hS6308.lt ho6315
                  have hlen6305 := hE6309.le
                  have hlon6305 := hS6308.lo
                  unfold f_impl_ReadState_J4 at hr
                  refine W.cond rfl (fun hc6332 => ?_) (fun hc6332 => ?_)
                  · replace hr := iteB_pos hr hc6332
                    with_reducible refine W.seq ?_
                    with_reducible refine W.region ?_
                    refine WL.buildL .nil (cells := [.slice none 0 0, .slice none 0 0]) rfl rfl rfl Try.underlying26 info26 rfl rfl rfl (by simp only [List.mapM_cons, List.mapM_nil, info23, info24]; rfl) rfl (by first | rfl | ((conv => lhs; simp [splice, fillL, cells_int, cells_bool, cells_string, cells_str, cells_slice, cells_ptr, cells_map, cells_func, cells_nilFunc, cells_nilIface, cells_iface, cells_agg, cells_u8]) <;> rfl)) ?_
                    refine GL.store hS6308 .nil (vc := [.slice none 0 0, .slice none 0 0]) (c' := [.slice none 0 0, .slice none 0 0]) rfl rfl rfl info26 rfl rfl rfl rfl ho6315 fo6316 (Nat.le_of_ble_eq_true rfl) (by omega) (by repeat' (first | exact List.forall_mem_nil _ | refine List.forall_mem_cons.2 ⟨?_, ?_⟩ | rfl)) rfl (fun H6333 hS6334 ho6335 hk6336 => ?_)
                    have ho6337 := (hk6336 _ (by omega)).trans ho6313
                    have h6338 := OW.keep h6311 (Nat.le_refl _) (fun i hi => hk6336 i (fun hj => ap6318 (hj ▸ hi)))
                    have h6339 := OW.keep h6312 (Nat.le_refl _) (fun i hi => hk6336 i (fun hj => ap6320 (hj ▸ hi)))
                    refine WL.assign .nil rfl rfl rfl rfl ?_
                    with_reducible refine WL.nil ?_
                    with_reducible refine Ex.thn_norm ?_
                    with_reducible refine W.ret ?_
                    with_reducible refine Ex.thn_ret ?_
                    obtain rfl := Option.some.inj hr
                    exact ⟨.inr rfl, _, (.cons (.cellN (l := [.slice none 0 0, .slice none 0 0]) rfl Try.underlying26 rfl info26 ho6335 rfl rfl) (.cons (.tmp rfl) .nil)), ⟨none, 0, none, 0, (Ext.st hE6309 hS6334), rfl, OW.nil, OW.nil, (fun b h => by cases h)⟩⟩
                  · replace hr := iteB_neg hr hc6332
                    with_reducible refine W.skip ?_
                    with_reducible refine Ex.thn_norm ?_
                    with_reducible refine W.seq ?_
                    with_reducible refine W.seq ?_
                    with_reducible refine W.region ?_
                    refine WL.loadN .nil (l' := [.slice a2074 xs2076.length cap2075, .slice a5657 xs5659.length cap5658]) rfl rfl rfl Try.underlying26 rfl info26 rfl ho6313 rfl rfl ?_
                    obtain ⟨F6340, hS6341, hle6342, h6343, hf6344⟩ := OW.freeze h6311 hS6308
                    have fo6345 := (hf6344 _ ap6317).trans fo6314
                    have fo6346 := (hf6344 _ ap6318).trans fo6316
                    have h6347 := OW.keepF h6312 hle6342 (fun i hi => (hf6344 i (fun hj => (fun b h1 h2 => ap6321 b h2 h1) i hj hi)).trans (OW.fnone h6312 hi))
                    obtain ⟨F6349, hS6350, hle6351, h6352, hf6353⟩ := OW.freeze h6347 hS6341
                    have fo6354 := (hf6353 _ ap6319).trans fo6345
                    have fo6355 := (hf6353 _ ap6320).trans fo6346
                    obtain ⟨x6357, hx6357, hr⟩ := bnd_some hr
                    have hb6363 := fun b hb => (OW.id_lt (i := b) h6311 hb).2
                    have hb6364 := fun b hb => (OW.id_lt (i := b) h6312 hb).2
                    refine GL.callP g.good .nil rfl rfl rfl rfl rfl rfl Try.func24 rfl rfl hS6308.lo (f_impl_StateOK_k  g hS6350 (h6343.mono hle6351) h6352 hx6357) (fun v n6358 H6359 hn6360 hk6361 hp6362 => ?_)
                    obtain ⟨hS6365, rfl⟩ := hp6362
                    have ho6366 := (hk6361 _ (by have := lt6322; omega)).trans ho6313
                    have ho6367 := (hk6361 _ (by have := lt6323; omega)).trans ho6315
                    have h6368 := OW.keep (n' := n6358) h6311 (by omega) (fun i hi => hk6361 i (OW.id_lt h6311 hi).2)
                    have h6369 := OW.keep (n' := n6358) h6312 (by omega) (fun i hi => hk6361 i (OW.id_lt h6312 hi).2)
                    have hS6370 : St n0 n6358 H6359 F6307 := ⟨by have := hS6308.lo; omega, hS6365.hb, fun i o hi => (hk6361 i (hS6308.lt (hS6308.fh i o hi))).trans (hS6308.fh i o hi)⟩
                    have hlon6358 := hS6370.lo
                    refine WL.not .nil rfl rfl rfl rfl ?_
                    with_reducible refine WL.nil ?_
                    with_reducible refine Ex.thn_norm ?_
                    refine W.cond rfl (fun hc6379 => ?_) (fun hc6379 => ?_)
                    · replace hr := iteB_pos hr hc6379
                      with_reducible refine W.seq ?_
                      with_reducible refine W.region ?_
                      refine WL.buildL .nil (cells := [.slice none 0 0, .slice none 0 0]) rfl rfl rfl Try.underlying26 info26 rfl rfl rfl (by simp only [List.mapM_cons, List.mapM_nil, info23, info24]; rfl) rfl (by first | rfl | ((conv => lhs; simp [splice, fillL, cells_int, cells_bool, cells_string, cells_str, cells_slice, cells_ptr, cells_map, cells_func, cells_nilFunc, cells_nilIface, cells_iface, cells_agg, cells_u8]) <;> rfl)) ?_
                      refine GL.store hS6370 .nil (vc := [.slice none 0 0, .slice none 0 0]) (c' := [.slice none 0 0, .slice none 0 0]) rfl rfl rfl info26 rfl rfl rfl rfl ho6367 fo6316 (Nat.le_of_ble_eq_true rfl) (by omega) (by repeat' (first | exact List.forall_mem_nil _ | refine List.forall_mem_cons.2 ⟨?_, ?_⟩ | rfl)) rfl (fun H6380 hS6381 ho6382 hk6383 => ?_)
                      have ho6384 := (hk6383 _ (by omega)).trans ho6366
                      have h6385 := OW.keep h6368 (Nat.le_refl _) (fun i hi => hk6383 i (fun hj => ap6318 (hj ▸ hi)))
                      have h6386 := OW.keep h6369 (Nat.le_refl _) (fun i hi => hk6383 i (fun hj => ap6320 (hj ▸ hi)))
                      refine WL.assign .nil rfl rfl rfl rfl ?_
                      with_reducible refine WL.nil ?_
                      with_reducible refine Ex.thn_norm ?_
                      with_reducible refine W.ret ?_
                      with_reducible refine Ex.thn_ret ?_
                      obtain rfl := Option.some.inj hr
                      exact ⟨.inr rfl, _, (.cons (.cellN (l := [.slice none 0 0, .slice none 0 0]) rfl Try.underlying26 rfl info26 ho6382 rfl rfl) (.cons (.tmp rfl) .nil)), ⟨none, 0, none, 0, (Ext.st hE6309 hS6381), rfl, OW.nil, OW.nil, (fun b h => by cases h)⟩⟩
                    · replace hr := iteB_neg hr hc6379
                      with_reducible refine W.skip ?_
                      with_reducible refine Ex.thn_norm ?_
                      with_reducible refine W.seq ?_
                      with_reducible refine W.region ?_
                      refine WL.loadN .nil (l' := [.slice a2074 xs2076.length cap2075, .slice a5657 xs5659.length cap5658]) rfl rfl rfl Try.underlying26 rfl info26 rfl ho6366 rfl rfl ?_
                      refine GL.store hS6370 .nil (vc := [.slice a2074 xs2076.length cap2075, .slice a5657 xs5659.length cap5658]) (c' := [.slice a2074 xs2076.length cap2075, .slice a5657 xs5659.length cap5658]) rfl rfl rfl info26 rfl rfl rfl rfl ho6367 fo6316 (Nat.le_of_ble_eq_true rfl) (by omega) (by repeat' (first | exact List.forall_mem_nil _ | refine List.forall_mem_cons.2 ⟨?_, ?_⟩ | rfl)) rfl (fun H6387 hS6388 ho6389 hk6390 => ?_)
                      have ho6391 := (hk6390 _ (by omega)).trans ho6366
                      have h6392 := OW.keep h6368 (Nat.le_refl _) (fun i hi => hk6390 i (fun hj => ap6318 (hj ▸ hi)))
                      have h6393 := OW.keep h6369 (Nat.le_refl _) (fun i hi => hk6390 i (fun hj => ap6320 (hj ▸ hi)))
                      refine WL.assign .nil rfl rfl rfl rfl ?_
                      with_reducible refine WL.nil ?_
                      with_reducible refine Ex.thn_norm ?_
                      with_reducible refine W.ret ?_
                      obtain rfl := Option.some.inj hr
                      exact ⟨.inr rfl, _, (.cons (.cellN (l := [.slice a2074 xs2076.length cap2075, .slice a5657 xs5659.length cap5658]) rfl Try.underlying26 rfl info26 ho6389 rfl rfl) (.cons (.tmp rfl) .nil)), ⟨a2074, cap2075, a5657, cap5658, (Ext.st hE6309 hS6388), rfl, (OW.downFl hE6309.sub h6392), (OW.downFl hE6309.sub h6393), ap6321⟩⟩
theorem f_laws_eqFile_k {Δ : Prims} (g : Env Try.prog Δ) {lo n0 : Nat} {H0 F0 : Heap} (hS : St lo n0 H0 F0) {x1 : GFile} {x2 : GFile} {res : (Bool)} (hr : f_laws_eqFile x1 x2 = some res) :
    C Try.prog Δ n0 51 [.agg [str x1.Name, .int .i64 x1.Version, str x1.Text].toArray, .agg [str x2.Name, .int .i64 x2.Version, str x2.Text].toArray] n0 H0 (fun v n H => St n0 n H F0 ∧ v = .bool res) := by
  refine C.body Try.func51 rfl rfl ?_
  unfold f_laws_eqFile at hr
  have hS0 : St n0 n0 H0 F0 := hS.low (Nat.le_refl _)
  have hE0 := Ext.refl n0 F0
  have hlo0 := hS0.lo
  with_reducible refine W.seq ?_
  with_reducible refine W.region ?_
  refine GL.box hS0 .nil (vc := [str x1.Name, .int .i64 x1.Version, str x1.Text]) rfl rfl rfl rfl rfl (by repeat' (first | exact List.forall_mem_nil _ | refine List.forall_mem_cons.2 ⟨?_, ?_⟩ | rfl)) (fun H3 hS4 ho5 hk6 => ?_)
  have fo7 := hS0.fnone (Nat.le_refl _)
  have hlon01 := hS4.lo
  have lt8 : n0 < (n0 + 1) := by omega
  refine GL.box hS4 .nil (vc := [str x2.Name, .int .i64 x2.Version, str x2.Text]) rfl rfl rfl rfl rfl (by repeat' (first | exact List.forall_mem_nil _ | refine List.forall_mem_cons.2 ⟨?_, ?_⟩ | rfl)) (fun H9 hS10 ho11 hk12 => ?_)
  have fo13 := hS4.fnone (Nat.le_refl _)
  have ho15 := (hk12 _ (by have := lt8; omega)).trans ho5
  have hlon011 := hS10.lo
  have lt14 : (n0 + 1) < ((n0 + 1) + 1) := by omega
  refine WL.assign .nil rfl rfl rfl rfl ?_
  with_reducible refine WL.nil ?_
  with_reducible refine Ex.thn_norm ?_
  with_reducible refine W.seq ?_
  with_reducible refine W.seq ?_
  with_reducible refine W.region ?_
  refine WL.fieldAddr .nil rfl rfl rfl Try.underlying50 rfl info9 rfl rfl ?_
  refine WL.load1 .nil rfl rfl rfl Try.underlying9 rfl rfl ho15 rfl ?_
  refine WL.fieldAddr .nil rfl rfl rfl Try.underlying50 rfl info9 rfl rfl ?_
  refine WL.load1 .nil rfl rfl rfl Try.underlying9 rfl rfl ho11 rfl ?_
  refine GL.strCmp .nil rfl rfl rfl rfl rfl (by decide) rfl ?_
  with_reducible refine WL.nil ?_
  with_reducible refine Ex.thn_norm ?_
  refine W.condN (p := lst x1.Name = lst x2.Name) rfl (fun hc17 => ?_) (fun hc17 => ?_)
  · replace hr := ite_neg hr hc17
    with_reducible refine W.seq ?_
    with_reducible refine W.region ?_
    refine WL.assign .nil rfl rfl rfl rfl ?_
    with_reducible refine WL.nil ?_
    with_reducible refine Ex.thn_norm ?_
    with_reducible refine W.ret ?_
    with_reducible refine Ex.thn_ret ?_
    obtain rfl := Option.some.inj hr
    exact ⟨.inr rfl, _, (.cons (.tmp rfl) .nil), ⟨(Ext.st hE0 hS10), rfl⟩⟩
  · replace hr := ite_pos hr hc17
    with_reducible refine W.skip ?_
    with_reducible refine Ex.thn_norm ?_
    with_reducible refine W.seq ?_
    with_reducible refine W.seq ?_
    with_reducible refine W.region ?_
    refine WL.fieldAddr .nil rfl rfl rfl Try.underlying50 rfl info3 rfl rfl ?_
    refine WL.load1 .nil rfl rfl rfl Try.underlying3 rfl rfl ho15 rfl ?_
    refine WL.fieldAddr .nil rfl rfl rfl Try.underlying50 rfl info3 rfl rfl ?_
    refine WL.load1 .nil rfl rfl rfl Try.underlying3 rfl rfl ho11 rfl ?_
    refine WL.bin .nil rfl rfl rfl rfl rfl rfl ?_
    with_reducible refine WL.nil ?_
    with_reducible refine Ex.thn_norm ?_
    refine W.condN rfl (fun hc19 => ?_) (fun hc19 => ?_)
    · replace hr := ite_neg hr hc19
      with_reducible refine W.seq ?_
      with_reducible refine W.region ?_
      refine WL.assign .nil rfl rfl rfl rfl ?_
      with_reducible refine WL.nil ?_
      with_reducible refine Ex.thn_norm ?_
      with_reducible refine W.ret ?_
      with_reducible refine Ex.thn_ret ?_
      obtain rfl := Option.some.inj hr
      exact ⟨.inr rfl, _, (.cons (.tmp rfl) .nil), ⟨(Ext.st hE0 hS10), rfl⟩⟩
    · replace hr := ite_pos hr hc19
      with_reducible refine W.skip ?_
      with_reducible refine Ex.thn_norm ?_
      with_reducible refine W.seq ?_
      with_reducible refine W.seq ?_
      with_reducible refine W.region ?_
      refine WL.fieldAddr .nil rfl rfl rfl Try.underlying50 rfl info9 rfl rfl ?_
      refine WL.load1 .nil rfl rfl rfl Try.underlying9 rfl rfl ho15 rfl ?_
      refine WL.fieldAddr .nil rfl rfl rfl Try.underlying50 rfl info9 rfl rfl ?_
      refine WL.load1 .nil rfl rfl rfl Try.underlying9 rfl rfl ho11 rfl ?_
      refine GL.strCmp .nil rfl rfl rfl rfl rfl (by decide) rfl ?_
      with_reducible refine WL.nil ?_
      with_reducible refine Ex.thn_norm ?_
      refine W.condN (p := lst x1.Text = lst x2.Text) rfl (fun hc20 => ?_) (fun hc20 => ?_)
      · replace hr := ite_neg hr hc20
        with_reducible refine W.seq ?_
        with_reducible refine W.region ?_
        refine WL.assign .nil rfl rfl rfl rfl ?_
        with_reducible refine WL.nil ?_
        with_reducible refine Ex.thn_norm ?_
        with_reducible refine W.ret ?_
        with_reducible refine Ex.thn_ret ?_
        obtain rfl := Option.some.inj hr
        exact ⟨.inr rfl, _, (.cons (.tmp rfl) .nil), ⟨(Ext.st hE0 hS10), rfl⟩⟩
      · replace hr := ite_pos hr hc20
        with_reducible refine W.skip ?_
        with_reducible refine Ex.thn_norm ?_
        with_reducible refine W.seq ?_
        with_reducible refine W.region ?_
        refine WL.assign .nil rfl rfl rfl rfl ?_
        with_reducible refine WL.nil ?_
        with_reducible refine Ex.thn_norm ?_
        with_reducible refine W.ret ?_
        obtain rfl := Option.some.inj hr
        exact ⟨.inr rfl, _, (.cons (.tmp rfl) .nil), ⟨(Ext.st hE0 hS10), rfl⟩⟩
theorem f_laws_eqFileS_k {Δ : Prims} (g : Env Try.prog Δ) {lo n0 : Nat} {H0 F0 : Heap} (hS : St lo n0 H0 F0) {a2 : Option Addr} {cap3 : Nat} {xs1 : (List GFile)} {a6 : Option Addr} {cap7 : Nat} {xs5 : (List GFile)} (h4 : SR F0 (.slice a2 xs1.length cap3) xs1) (h8 : SR F0 (.slice a6 xs5.length cap7) xs5) {res : (Bool)} (hr : f_laws_eqFileS xs1 xs5 = some res) :
    C Try.prog Δ n0 25 [.slice a2 xs1.length cap3, .slice a6 xs5.length cap7] n0 H0 (fun v n H => St n0 n H F0 ∧ v = .bool res) := by
  refine C.body Try.func25 rfl rfl ?_
  unfold f_laws_eqFileS at hr
  have hS0 : St n0 n0 H0 F0 := hS.low (Nat.le_refl _)
  have hE0 := Ext.refl n0 F0
  have hlo0 := hS0.lo
  with_reducible refine W.seq ?_
  with_reducible refine W.region ?_
  refine WL.assign .nil rfl rfl rfl rfl ?_
  with_reducible refine WL.nil ?_
  with_reducible refine Ex.thn_norm ?_
  with_reducible refine W.seq ?_
  with_reducible refine W.seq ?_
  with_reducible refine W.region ?_
  refine WL.move .nil rfl rfl rfl rfl ?_
  refine WL.len .nil rfl rfl rfl Try.underlying23 rfl ?_
  refine WL.move .nil rfl rfl rfl rfl ?_
  refine WL.len .nil rfl rfl rfl Try.underlying23 rfl ?_
  refine WL.bin .nil rfl rfl rfl rfl rfl rfl ?_
  with_reducible refine WL.nil ?_
  with_reducible refine Ex.thn_norm ?_
  refine W.condN rfl (fun hc10 => ?_) (fun hc10 => ?_)
  · replace hr := ite_neg hr hc10
    with_reducible refine W.seq ?_
    with_reducible refine W.region ?_
    refine WL.assign .nil rfl rfl rfl rfl ?_
    with_reducible refine WL.nil ?_
    with_reducible refine Ex.thn_norm ?_
    with_reducible refine W.ret ?_
    with_reducible refine Ex.thn_ret ?_
    obtain rfl := Option.some.inj hr
    exact ⟨.inr rfl, _, (.cons (.tmp rfl) .nil), ⟨(Ext.st hE0 hS0), rfl⟩⟩
  · replace hr := ite_pos hr hc10
    with_reducible refine W.skip ?_
    with_reducible refine Ex.thn_norm ?_
    with_reducible refine W.seq ?_
    with_reducible refine W.seq ?_
    with_reducible refine W.region ?_
    refine WL.assign .nil rfl rfl rfl rfl ?_
    with_reducible refine WL.nil ?_
    with_reducible refine Ex.thn_norm ?_
    with_reducible refine W.block ?_
    refine W.loopF (fun k0 fr n H => ∃ (x139 : Int) (F : Heap), fr = [(0, .slice a2 xs1.length cap3), (1, .slice a6 xs5.length cap7), (5, .int .i64 x139)] ∧ St n0 n H F ∧ Ext n0 F0 n F ∧ SR F (.slice a2 xs1.length cap3) xs1 ∧ SR F (.slice a6 xs5.length cap7) xs5 ∧ f_laws_eqFileS_L0 xs1 xs5 k0 x139 = some res) BIG (fr0 := [(0, .slice a2 xs1.length cap3), (1, .slice a6 xs5.length cap7), (5, .int .i64 0)]) (Fr.le_cons rfl (Fr.le_cons rfl (Fr.le_cons rfl Fr.le_nil))) ?_ ?_ ?_
    · exact ⟨0, F0, rfl, hS0, hE0, h4, h8, hr⟩
    · intro fr n H hI
      obtain ⟨x139, F134, hfr, hS135, hE136, h137, h138, hr⟩ := hI
      rw [f_laws_eqFileS_L0] at hr
      cases hr
    · intro k0 _ n132 H133 hI
      obtain ⟨x139, F134, rfl, hS135, hE136, h137, h138, hr⟩ := hI
      have hlen132 := hE136.le
      have hlon132 := hS135.lo
      rw [f_laws_eqFileS_L0] at hr
      with_reducible refine W.seq ?_
      with_reducible refine W.seq ?_
      with_reducible refine W.region ?_
      refine WL.move .nil rfl rfl rfl rfl ?_
      refine WL.move .nil rfl rfl rfl rfl ?_
      refine WL.len .nil rfl rfl rfl Try.underlying23 rfl ?_
      refine WL.bin .nil rfl rfl rfl rfl rfl rfl ?_
      with_reducible refine WL.nil ?_
      with_reducible refine Ex.thn_norm ?_
      refine W.condD rfl (fun hc141 => ?_) (fun hc141 => ?_)
      · replace hr := ite_pos hr hc141
        with_reducible refine W.skip ?_
        with_reducible refine Ex.thn_norm ?_
        with_reducible refine W.seq ?_
        with_reducible refine W.block ?_
        with_reducible refine W.seq ?_
        refine W.regionD [0, 1, 2, 3, 4, 5, 6, 7, 8, 9] [false, false, false, false, false, false, false, false, false, false] rfl rfl (by kernel_rfl) (by kernel_rfl) (by (conv => lhs; simp only [List.map_cons, List.map_nil, List.getD_cons_zero, List.getD_cons_succ]) <;> rfl) ?_
        refine WL.move .r rfl rfl rfl rfl ?_
        refine WL.move .r rfl rfl rfl rfl ?_
        obtain ⟨x167, hx167, hr⟩ := bnd_some hr
        refine GL.index .r rfl rfl rfl Try.underlying23 info50 rfl rfl h137 hS135.fh rfl hx167 (fun b168 kp169 c170 ecs171 hrow172 hwin173 hR174 => ?_)
        obtain ⟨rfl⟩ := GFile.ofR hR174
        refine WL.loadN .r (l' := [str x167.Name, .int .i64 x167.Version, str x167.Text]) rfl rfl rfl Try.underlying50 rfl info50 rfl hrow172 hwin173 rfl ?_
        refine WL.move .r rfl rfl rfl rfl ?_
        refine WL.move .r rfl rfl rfl rfl ?_
        obtain ⟨x175, hx175, hr⟩ := bnd_some hr
        refine GL.index .r rfl rfl rfl Try.underlying23 info50 rfl rfl h138 hS135.fh rfl hx175 (fun b176 kp177 c178 ecs179 hrow180 hwin181 hR182 => ?_)
        obtain ⟨rfl⟩ := GFile.ofR hR182
        refine WL.loadN .r (l' := [str x175.Name, .int .i64 x175.Version, str x175.Text]) rfl rfl rfl Try.underlying50 rfl info50 rfl hrow180 hwin181 rfl ?_
        obtain ⟨x183, hx183, hr⟩ := bnd_some hr
        refine GL.callP g.good .r rfl rfl rfl rfl rfl rfl Try.func51 rfl rfl (Nat.le_refl _) (f_laws_eqFile_k  g hS135 hx183) (fun v n184 H185 hn186 hk187 hp188 => ?_)
        obtain ⟨hS189, rfl⟩ := hp188
        have hS190 : St n0 n184 H185 F134 := ⟨by have := hS135.lo; omega, hS189.hb, hS189.fh⟩
        have hlon184 := hS190.lo
        refine WL.not .r rfl rfl rfl rfl ?_
        with_reducible refine WL.nil ?_
        with_reducible refine Ex.thn_norm ?_
        refine W.cond rfl (fun hc191 => ?_) (fun hc191 => ?_)
        · replace hr := iteB_pos hr hc191
          with_reducible refine W.seq ?_
          with_reducible refine W.region ?_
          refine WL.assign .nil rfl rfl rfl rfl ?_
          with_reducible refine WL.nil ?_
          with_reducible refine Ex.thn_norm ?_
          with_reducible refine W.ret ?_
          with_reducible refine Ex.blk_ret ?_
          with_reducible refine Ex.thn_ret ?_
          with_reducible refine Ex.thn_ret ?_
          with_reducible refine Ex.blk_ret ?_
          with_reducible refine Ex.thn_ret ?_
          obtain rfl := Option.some.inj hr
          exact ⟨.inr rfl, _, (.cons (.tmp rfl) .nil), ⟨(Ext.st hE136 hS190), rfl⟩⟩
        · replace hr := iteB_neg hr hc191
          with_reducible refine W.skip ?_
          with_reducible refine Ex.blk_norm ?_
          with_reducible refine Ex.thn_norm ?_
          with_reducible refine W.region ?_
          refine WL.move .nil rfl rfl rfl rfl ?_
          obtain ⟨hc192, hr⟩ := chk_some hr
          refine WL.addI .nil rfl rfl rfl rfl rfl hc192.1 hc192.2 ?_
          refine WL.assign .nil rfl rfl rfl rfl ?_
          with_reducible refine WL.nil ?_
          with_reducible refine Ex.thn_norm ?_
          exact ⟨[(0, .slice a2 xs1.length cap3), (1, .slice a6 xs5.length cap7), (5, .int .i64 (x139 + 1))], (Fr.le_cons rfl (Fr.le_cons rfl (Fr.le_cons rfl Fr.le_nil))), (x139 + 1), F134, rfl, hS190, (hE136.up (by omega)), h137, h138, hr⟩
      · replace hr := ite_neg hr hc141
        with_reducible refine W.exit ?_
        with_reducible refine Ex.thn_ex ?_
        with_reducible refine Ex.thn_ex ?_
        with_reducible refine Ex.blk_here ?_
        with_reducible refine Ex.thn_norm ?_
        with_reducible refine W.seq ?_
        with_reducible refine W.region ?_
        refine WL.assign .nil rfl rfl rfl rfl ?_
        with_reducible refine WL.nil ?_
        with_reducible refine Ex.thn_norm ?_
        with_reducible refine W.ret ?_
        obtain rfl := Option.some.inj hr
        exact ⟨.inr rfl, _, (.cons (.tmp rfl) .nil), ⟨(Ext.st hE136 hS135), rfl⟩⟩
theorem f_laws_eqReply_k {Δ : Prims} (g : Env Try.prog Δ) {lo n0 : Nat} {H0 F0 : Heap} (hS : St lo n0 H0 F0) {x1 : GReply} {x2 : GReply} {res : (Bool)} (hr : f_laws_eqReply x1 x2 = some res) :
    C Try.prog Δ n0 69 [.agg [.int .i64 x1.Code, .int .i64 x1.Version, str x1.Sha].toArray, .agg [.int .i64 x2.Code, .int .i64 x2.Version, str x2.Sha].toArray] n0 H0 (fun v n H => St n0 n H F0 ∧ v = .bool res) := by
  refine C.body Try.func69 rfl rfl ?_
  unfold f_laws_eqReply at hr
  have hS0 : St n0 n0 H0 F0 := hS.low (Nat.le_refl _)
  have hE0 := Ext.refl n0 F0
  have hlo0 := hS0.lo
  with_reducible refine W.seq ?_
  with_reducible refine W.region ?_
  refine GL.box hS0 .nil (vc := [.int .i64 x1.Code, .int .i64 x1.Version, str x1.Sha]) rfl rfl rfl rfl rfl (by repeat' (first | exact List.forall_mem_nil _ | refine List.forall_mem_cons.2 ⟨?_, ?_⟩ | rfl)) (fun H3 hS4 ho5 hk6 => ?_)
  have fo7 := hS0.fnone (Nat.le_refl _)
  have hlon01 := hS4.lo
  have lt8 : n0 < (n0 + 1) := by omega
  refine GL.box hS4 .nil (vc := [.int .i64 x2.Code, .int .i64 x2.Version, str x2.Sha]) rfl rfl rfl rfl rfl (by repeat' (first | exact List.forall_mem_nil _ | refine List.forall_mem_cons.2 ⟨?_, ?_⟩ | rfl)) (fun H9 hS10 ho11 hk12 => ?_)
  have fo13 := hS4.fnone (Nat.le_refl _)
  have ho15 := (hk12 _ (by have := lt8; omega)).trans ho5
  have hlon011 := hS10.lo
  have lt14 : (n0 + 1) < ((n0 + 1) + 1) := by omega
  refine WL.assign .nil rfl rfl rfl rfl ?_
  with_reducible refine WL.nil ?_
  with_reducible refine Ex.thn_norm ?_
  with_reducible refine W.seq ?_
  with_reducible refine W.seq ?_
  with_reducible refine W.region ?_
  refine WL.fieldAddr .nil rfl rfl rfl Try.underlying52 rfl info3 rfl rfl ?_
  refine WL.load1 .nil rfl rfl rfl Try.underlying3 rfl rfl ho15 rfl ?_
  refine WL.fieldAddr .nil rfl rfl rfl Try.underlying52 rfl info3 rfl rfl ?_
  refine WL.load1 .nil rfl rfl rfl Try.underlying3 rfl rfl ho11 rfl ?_
  refine WL.bin .nil rfl rfl rfl rfl rfl rfl ?_
  with_reducible refine WL.nil ?_
  with_reducible refine Ex.thn_norm ?_
  refine W.condN rfl (fun hc17 => ?_) (fun hc17 => ?_)
  · replace hr := ite_neg hr hc17
    with_reducible refine W.seq ?_
    with_reducible refine W.region ?_
    refine WL.assign .nil rfl rfl rfl rfl ?_
    with_reducible refine WL.nil ?_
    with_reducible refine Ex.thn_norm ?_
    with_reducible refine W.ret ?_
    with_reducible refine Ex.thn_ret ?_
    obtain rfl := Option.some.inj hr
    exact ⟨.inr rfl, _, (.cons (.tmp rfl) .nil), ⟨(Ext.st hE0 hS10), rfl⟩⟩
  · replace hr := ite_pos hr hc17
    with_reducible refine W.skip ?_
    with_reducible refine Ex.thn_norm ?_
    with_reducible refine W.seq ?_
    with_reducible refine W.seq ?_
    with_reducible refine W.region ?_
    refine WL.fieldAddr .nil rfl rfl rfl Try.underlying52 rfl info3 rfl rfl ?_
    refine WL.load1 .nil rfl rfl rfl Try.underlying3 rfl rfl ho15 rfl ?_
    refine WL.fieldAddr .nil rfl rfl rfl Try.underlying52 rfl info3 rfl rfl ?_
    refine WL.load1 .nil rfl rfl rfl Try.underlying3 rfl rfl ho11 rfl ?_
    refine WL.bin .nil rfl rfl rfl rfl rfl rfl ?_
    with_reducible refine WL.nil ?_
    with_reducible refine Ex.thn_norm ?_
    refine W.condN rfl (fun hc19 => ?_) (fun hc19 => ?_)
    · replace hr := ite_neg hr hc19
      with_reducible refine W.seq ?_
      with_reducible refine W.region ?_
      refine WL.assign .nil rfl rfl rfl rfl ?_
      with_reducible refine WL.nil ?_
      with_reducible refine Ex.thn_norm ?_
      with_reducible refine W.ret ?_
      with_reducible refine Ex.thn_ret ?_
      obtain rfl := Option.some.inj hr
      exact ⟨.inr rfl, _, (.cons (.tmp rfl) .nil), ⟨(Ext.st hE0 hS10), rfl⟩⟩
    · replace hr := ite_pos hr hc19
      with_reducible refine W.skip ?_
      with_reducible refine Ex.thn_norm ?_
      with_reducible refine W.seq ?_
      with_reducible refine W.seq ?_
      with_reducible refine W.region ?_
      refine WL.fieldAddr .nil rfl rfl rfl Try.underlying52 rfl info9 rfl rfl ?_
      refine WL.load1 .nil rfl rfl rfl Try.underlying9 rfl rfl ho15 rfl ?_
      refine WL.fieldAddr .nil rfl rfl rfl Try.underlying52 rfl info9 rfl rfl ?_
      refine WL.load1 .nil rfl rfl rfl Try.underlying9 rfl rfl ho11 rfl ?_
      refine GL.strCmp .nil rfl rfl rfl rfl rfl (by decide) rfl ?_
      with_reducible refine WL.nil ?_
      with_reducible refine Ex.thn_norm ?_
      refine W.condN (p := lst x1.Sha = lst x2.Sha) rfl (fun hc20 => ?_) (fun hc20 => ?_)
      · replace hr := ite_neg hr hc20
        with_reducible refine W.seq ?_
        with_reducible refine W.region ?_
        refine WL.assign .nil rfl rfl rfl rfl ?_
        with_reducible refine WL.nil ?_
        with_reducible refine Ex.thn_norm ?_
        with_reducible refine W.ret ?_
        with_reducible refine Ex.thn_ret ?_
        obtain rfl := Option.some.inj hr
        exact ⟨.inr rfl, _, (.cons (.tmp rfl) .nil), ⟨(Ext.st hE0 hS10), rfl⟩⟩
      · replace hr := ite_pos hr hc20
        with_reducible refine W.skip ?_
        with_reducible refine Ex.thn_norm ?_
        with_reducible refine W.seq ?_
        with_reducible refine W.region ?_
        refine WL.assign .nil rfl rfl rfl rfl ?_
        with_reducible refine WL.nil ?_
        with_reducible refine Ex.thn_norm ?_
        with_reducible refine W.ret ?_
        obtain rfl := Option.some.inj hr
        exact ⟨.inr rfl, _, (.cons (.tmp rfl) .nil), ⟨(Ext.st hE0 hS10), rfl⟩⟩
theorem f_laws_eqSession_k {Δ : Prims} (g : Env Try.prog Δ) {lo n0 : Nat} {H0 F0 : Heap} (hS : St lo n0 H0 F0) {x1 : GSession} {x2 : GSession} {res : (Bool)} (hr : f_laws_eqSession x1 x2 = some res) :
    C Try.prog Δ n0 52 [.agg [.int .i64 x1.Client, .int .i64 x1.Seq, .int .i64 x1.Reply.Code, .int .i64 x1.Reply.Version, str x1.Reply.Sha].toArray, .agg [.int .i64 x2.Client, .int .i64 x2.Seq, .int .i64 x2.Reply.Code, .int .i64 x2.Reply.Version, str x2.Reply.Sha].toArray] n0 H0 (fun v n H => St n0 n H F0 ∧ v = .bool res) := by
  refine C.body Try.func52 rfl rfl ?_
  unfold f_laws_eqSession at hr
  have hS0 : St n0 n0 H0 F0 := hS.low (Nat.le_refl _)
  have hE0 := Ext.refl n0 F0
  have hlo0 := hS0.lo
  with_reducible refine W.seq ?_
  with_reducible refine W.region ?_
  refine GL.box hS0 .nil (vc := [.int .i64 x1.Client, .int .i64 x1.Seq, .int .i64 x1.Reply.Code, .int .i64 x1.Reply.Version, str x1.Reply.Sha]) rfl rfl rfl rfl rfl (by repeat' (first | exact List.forall_mem_nil _ | refine List.forall_mem_cons.2 ⟨?_, ?_⟩ | rfl)) (fun H3 hS4 ho5 hk6 => ?_)
  have fo7 := hS0.fnone (Nat.le_refl _)
  have hlon01 := hS4.lo
  have lt8 : n0 < (n0 + 1) := by omega
  refine GL.box hS4 .nil (vc := [.int .i64 x2.Client, .int .i64 x2.Seq, .int .i64 x2.Reply.Code, .int .i64 x2.Reply.Version, str x2.Reply.Sha]) rfl rfl rfl rfl rfl (by repeat' (first | exact List.forall_mem_nil _ | refine List.forall_mem_cons.2 ⟨?_, ?_⟩ | rfl)) (fun H9 hS10 ho11 hk12 => ?_)
  have fo13 := hS4.fnone (Nat.le_refl _)
  have ho15 := (hk12 _ (by have := lt8; omega)).trans ho5
  have hlon011 := hS10.lo
  have lt14 : (n0 + 1) < ((n0 + 1) + 1) := by omega
  refine WL.assign .nil rfl rfl rfl rfl ?_
  with_reducible refine WL.nil ?_
  with_reducible refine Ex.thn_norm ?_
  with_reducible refine W.seq ?_
  with_reducible refine W.seq ?_
  with_reducible refine W.region ?_
  refine WL.fieldAddr .nil rfl rfl rfl Try.underlying54 rfl info3 rfl rfl ?_
  refine WL.load1 .nil rfl rfl rfl Try.underlying3 rfl rfl ho15 rfl ?_
  refine WL.fieldAddr .nil rfl rfl rfl Try.underlying54 rfl info3 rfl rfl ?_
  refine WL.load1 .nil rfl rfl rfl Try.underlying3 rfl rfl ho11 rfl ?_
  refine WL.bin .nil rfl rfl rfl rfl rfl rfl ?_
  with_reducible refine WL.nil ?_
  with_reducible refine Ex.thn_norm ?_
  refine W.condN rfl (fun hc17 => ?_) (fun hc17 => ?_)
  · replace hr := ite_neg hr hc17
    with_reducible refine W.seq ?_
    with_reducible refine W.region ?_
    refine WL.assign .nil rfl rfl rfl rfl ?_
    with_reducible refine WL.nil ?_
    with_reducible refine Ex.thn_norm ?_
    with_reducible refine W.ret ?_
    with_reducible refine Ex.thn_ret ?_
    obtain rfl := Option.some.inj hr
    exact ⟨.inr rfl, _, (.cons (.tmp rfl) .nil), ⟨(Ext.st hE0 hS10), rfl⟩⟩
  · replace hr := ite_pos hr hc17
    with_reducible refine W.skip ?_
    with_reducible refine Ex.thn_norm ?_
    with_reducible refine W.seq ?_
    with_reducible refine W.seq ?_
    with_reducible refine W.region ?_
    refine WL.fieldAddr .nil rfl rfl rfl Try.underlying54 rfl info3 rfl rfl ?_
    refine WL.load1 .nil rfl rfl rfl Try.underlying3 rfl rfl ho15 rfl ?_
    refine WL.fieldAddr .nil rfl rfl rfl Try.underlying54 rfl info3 rfl rfl ?_
    refine WL.load1 .nil rfl rfl rfl Try.underlying3 rfl rfl ho11 rfl ?_
    refine WL.bin .nil rfl rfl rfl rfl rfl rfl ?_
    with_reducible refine WL.nil ?_
    with_reducible refine Ex.thn_norm ?_
    refine W.condN rfl (fun hc19 => ?_) (fun hc19 => ?_)
    · replace hr := ite_neg hr hc19
      with_reducible refine W.seq ?_
      with_reducible refine W.region ?_
      refine WL.assign .nil rfl rfl rfl rfl ?_
      with_reducible refine WL.nil ?_
      with_reducible refine Ex.thn_norm ?_
      with_reducible refine W.ret ?_
      with_reducible refine Ex.thn_ret ?_
      obtain rfl := Option.some.inj hr
      exact ⟨.inr rfl, _, (.cons (.tmp rfl) .nil), ⟨(Ext.st hE0 hS10), rfl⟩⟩
    · replace hr := ite_pos hr hc19
      with_reducible refine W.skip ?_
      with_reducible refine Ex.thn_norm ?_
      with_reducible refine W.seq ?_
      with_reducible refine W.seq ?_
      with_reducible refine W.region ?_
      refine WL.fieldAddr .nil rfl rfl rfl Try.underlying54 rfl info52 rfl rfl ?_
      refine WL.loadN .nil (l' := [.int .i64 x1.Reply.Code, .int .i64 x1.Reply.Version, str x1.Reply.Sha]) rfl rfl rfl Try.underlying52 rfl info52 rfl ho15 rfl rfl ?_
      refine WL.fieldAddr .nil rfl rfl rfl Try.underlying54 rfl info52 rfl rfl ?_
      refine WL.loadN .nil (l' := [.int .i64 x2.Reply.Code, .int .i64 x2.Reply.Version, str x2.Reply.Sha]) rfl rfl rfl Try.underlying52 rfl info52 rfl ho11 rfl rfl ?_
      obtain ⟨x20, hx20, hr⟩ := bnd_some hr
      refine GL.callP g.good .nil rfl rfl rfl rfl rfl rfl Try.func69 rfl rfl hS10.lo (f_laws_eqReply_k  g hS10 hx20) (fun v n21 H22 hn23 hk24 hp25 => ?_)
      obtain ⟨hS26, rfl⟩ := hp25
      have ho27 := (hk24 _ (by have := lt8; omega)).trans ho15
      have ho28 := (hk24 _ (by have := lt14; omega)).trans ho11
      have hS29 : St n0 n21 H22 F0 := ⟨by have := hS10.lo; omega, hS26.hb, hS26.fh⟩
      have hlon21 := hS29.lo
      refine WL.not .nil rfl rfl rfl rfl ?_
      with_reducible refine WL.nil ?_
      with_reducible refine Ex.thn_norm ?_
      refine W.cond rfl (fun hc30 => ?_) (fun hc30 => ?_)
      · replace hr := iteB_pos hr hc30
        with_reducible refine W.seq ?_
        with_reducible refine W.region ?_
        refine WL.assign .nil rfl rfl rfl rfl ?_
        with_reducible refine WL.nil ?_
        with_reducible refine Ex.thn_norm ?_
        with_reducible refine W.ret ?_
        with_reducible refine Ex.thn_ret ?_
        obtain rfl := Option.some.inj hr
        exact ⟨.inr rfl, _, (.cons (.tmp rfl) .nil), ⟨(Ext.st hE0 hS29), rfl⟩⟩
      · replace hr := iteB_neg hr hc30
        with_reducible refine W.skip ?_
        with_reducible refine Ex.thn_norm ?_
        with_reducible refine W.seq ?_
        with_reducible refine W.region ?_
        refine WL.assign .nil rfl rfl rfl rfl ?_
        with_reducible refine WL.nil ?_
        with_reducible refine Ex.thn_norm ?_
        with_reducible refine W.ret ?_
        obtain rfl := Option.some.inj hr
        exact ⟨.inr rfl, _, (.cons (.tmp rfl) .nil), ⟨(Ext.st hE0 hS29), rfl⟩⟩
theorem f_laws_eqSessionS_k {Δ : Prims} (g : Env Try.prog Δ) {lo n0 : Nat} {H0 F0 : Heap} (hS : St lo n0 H0 F0) {a2 : Option Addr} {cap3 : Nat} {xs1 : (List GSession)} {a6 : Option Addr} {cap7 : Nat} {xs5 : (List GSession)} (h4 : SR F0 (.slice a2 xs1.length cap3) xs1) (h8 : SR F0 (.slice a6 xs5.length cap7) xs5) {res : (Bool)} (hr : f_laws_eqSessionS xs1 xs5 = some res) :
    C Try.prog Δ n0 26 [.slice a2 xs1.length cap3, .slice a6 xs5.length cap7] n0 H0 (fun v n H => St n0 n H F0 ∧ v = .bool res) := by
  refine C.body Try.func26 rfl rfl ?_
  unfold f_laws_eqSessionS at hr
  have hS0 : St n0 n0 H0 F0 := hS.low (Nat.le_refl _)
  have hE0 := Ext.refl n0 F0
  have hlo0 := hS0.lo
  with_reducible refine W.seq ?_
  with_reducible refine W.region ?_
  refine WL.assign .nil rfl rfl rfl rfl ?_
  with_reducible refine WL.nil ?_
  with_reducible refine Ex.thn_norm ?_
  with_reducible refine W.seq ?_
  with_reducible refine W.seq ?_
  with_reducible refine W.region ?_
  refine WL.move .nil rfl rfl rfl rfl ?_
  refine WL.len .nil rfl rfl rfl Try.underlying24 rfl ?_
  refine WL.move .nil rfl rfl rfl rfl ?_
  refine WL.len .nil rfl rfl rfl Try.underlying24 rfl ?_
  refine WL.bin .nil rfl rfl rfl rfl rfl rfl ?_
  with_reducible refine WL.nil ?_
  with_reducible refine Ex.thn_norm ?_
  refine W.condN rfl (fun hc10 => ?_) (fun hc10 => ?_)
  · replace hr := ite_neg hr hc10
    with_reducible refine W.seq ?_
    with_reducible refine W.region ?_
    refine WL.assign .nil rfl rfl rfl rfl ?_
    with_reducible refine WL.nil ?_
    with_reducible refine Ex.thn_norm ?_
    with_reducible refine W.ret ?_
    with_reducible refine Ex.thn_ret ?_
    obtain rfl := Option.some.inj hr
    exact ⟨.inr rfl, _, (.cons (.tmp rfl) .nil), ⟨(Ext.st hE0 hS0), rfl⟩⟩
  · replace hr := ite_pos hr hc10
    with_reducible refine W.skip ?_
    with_reducible refine Ex.thn_norm ?_
    with_reducible refine W.seq ?_
    with_reducible refine W.seq ?_
    with_reducible refine W.region ?_
    refine WL.assign .nil rfl rfl rfl rfl ?_
    with_reducible refine WL.nil ?_
    with_reducible refine Ex.thn_norm ?_
    with_reducible refine W.block ?_
    refine W.loopF (fun k0 fr n H => ∃ (x139 : Int) (F : Heap), fr = [(0, .slice a2 xs1.length cap3), (1, .slice a6 xs5.length cap7), (5, .int .i64 x139)] ∧ St n0 n H F ∧ Ext n0 F0 n F ∧ SR F (.slice a2 xs1.length cap3) xs1 ∧ SR F (.slice a6 xs5.length cap7) xs5 ∧ f_laws_eqSessionS_L0 xs1 xs5 k0 x139 = some res) BIG (fr0 := [(0, .slice a2 xs1.length cap3), (1, .slice a6 xs5.length cap7), (5, .int .i64 0)]) (Fr.le_cons rfl (Fr.le_cons rfl (Fr.le_cons rfl Fr.le_nil))) ?_ ?_ ?_
    · exact ⟨0, F0, rfl, hS0, hE0, h4, h8, hr⟩
    · intro fr n H hI
      obtain ⟨x139, F134, hfr, hS135, hE136, h137, h138, hr⟩ := hI
      rw [f_laws_eqSessionS_L0] at hr
      cases hr
    · intro k0 _ n132 H133 hI
      obtain ⟨x139, F134, rfl, hS135, hE136, h137, h138, hr⟩ := hI
      have hlen132 := hE136.le
      have hlon132 := hS135.lo
      rw [f_laws_eqSessionS_L0] at hr
      with_reducible refine W.seq ?_
      with_reducible refine W.seq ?_
      with_reducible refine W.region ?_
      refine WL.move .nil rfl rfl rfl rfl ?_
      refine WL.move .nil rfl rfl rfl rfl ?_
      refine WL.len .nil rfl rfl rfl Try.underlying24 rfl ?_
      refine WL.bin .nil rfl rfl rfl rfl rfl rfl ?_
      with_reducible refine WL.nil ?_
      with_reducible refine Ex.thn_norm ?_
      refine W.condD rfl (fun hc141 => ?_) (fun hc141 => ?_)
      · replace hr := ite_pos hr hc141
        with_reducible refine W.skip ?_
        with_reducible refine Ex.thn_norm ?_
        with_reducible refine W.seq ?_
        with_reducible refine W.block ?_
        with_reducible refine W.seq ?_
        refine W.regionD [0, 1, 2, 3, 4, 5, 6, 7, 8, 9] [false, false, false, false, false, false, false, false, false, false] rfl rfl (by kernel_rfl) (by kernel_rfl) (by (conv => lhs; simp only [List.map_cons, List.map_nil, List.getD_cons_zero, List.getD_cons_succ]) <;> rfl) ?_
        refine WL.move .r rfl rfl rfl rfl ?_
        refine WL.move .r rfl rfl rfl rfl ?_
        obtain ⟨x167, hx167, hr⟩ := bnd_some hr
        refine GL.index .r rfl rfl rfl Try.underlying24 info54 rfl rfl h137 hS135.fh rfl hx167 (fun b168 kp169 c170 ecs171 hrow172 hwin173 hR174 => ?_)
        obtain ⟨rfl⟩ := GSession.ofR hR174
        refine WL.loadN .r (l' := [.int .i64 x167.Client, .int .i64 x167.Seq, .int .i64 x167.Reply.Code, .int .i64 x167.Reply.Version, str x167.Reply.Sha]) rfl rfl rfl Try.underlying54 rfl info54 rfl hrow172 hwin173 rfl ?_
        refine WL.move .r rfl rfl rfl rfl ?_
        refine WL.move .r rfl rfl rfl rfl ?_
        obtain ⟨x175, hx175, hr⟩ := bnd_some hr
        refine GL.index .r rfl rfl rfl Try.underlying24 info54 rfl rfl h138 hS135.fh rfl hx175 (fun b176 kp177 c178 ecs179 hrow180 hwin181 hR182 => ?_)
        obtain ⟨rfl⟩ := GSession.ofR hR182
        refine WL.loadN .r (l' := [.int .i64 x175.Client, .int .i64 x175.Seq, .int .i64 x175.Reply.Code, .int .i64 x175.Reply.Version, str x175.Reply.Sha]) rfl rfl rfl Try.underlying54 rfl info54 rfl hrow180 hwin181 rfl ?_
        obtain ⟨x183, hx183, hr⟩ := bnd_some hr
        refine GL.callP g.good .r rfl rfl rfl rfl rfl rfl Try.func52 rfl rfl (Nat.le_refl _) (f_laws_eqSession_k  g hS135 hx183) (fun v n184 H185 hn186 hk187 hp188 => ?_)
        obtain ⟨hS189, rfl⟩ := hp188
        have hS190 : St n0 n184 H185 F134 := ⟨by have := hS135.lo; omega, hS189.hb, hS189.fh⟩
        have hlon184 := hS190.lo
        refine WL.not .r rfl rfl rfl rfl ?_
        with_reducible refine WL.nil ?_
        with_reducible refine Ex.thn_norm ?_
        refine W.cond rfl (fun hc191 => ?_) (fun hc191 => ?_)
        · replace hr := iteB_pos hr hc191
          with_reducible refine W.seq ?_
          with_reducible refine W.region ?_
          refine WL.assign .nil rfl rfl rfl rfl ?_
          with_reducible refine WL.nil ?_
          with_reducible refine Ex.thn_norm ?_
          with_reducible refine W.ret ?_
          with_reducible refine Ex.blk_ret ?_
          with_reducible refine Ex.thn_ret ?_
          with_reducible refine Ex.thn_ret ?_
          with_reducible refine Ex.blk_ret ?_
          with_reducible refine Ex.thn_ret ?_
          obtain rfl := Option.some.inj hr
          exact ⟨.inr rfl, _, (.cons (.tmp rfl) .nil), ⟨(Ext.st hE136 hS190), rfl⟩⟩
        · replace hr := iteB_neg hr hc191
          with_reducible refine W.skip ?_
          with_reducible refine Ex.blk_norm ?_
          with_reducible refine Ex.thn_norm ?_
          with_reducible refine W.region ?_
          refine WL.move .nil rfl rfl rfl rfl ?_
          obtain ⟨hc192, hr⟩ := chk_some hr
          refine WL.addI .nil rfl rfl rfl rfl rfl hc192.1 hc192.2 ?_
          refine WL.assign .nil rfl rfl rfl rfl ?_
          with_reducible refine WL.nil ?_
          with_reducible refine Ex.thn_norm ?_
          exact ⟨[(0, .slice a2 xs1.length cap3), (1, .slice a6 xs5.length cap7), (5, .int .i64 (x139 + 1))], (Fr.le_cons rfl (Fr.le_cons rfl (Fr.le_cons rfl Fr.le_nil))), (x139 + 1), F134, rfl, hS190, (hE136.up (by omega)), h137, h138, hr⟩
      · replace hr := ite_neg hr hc141
        with_reducible refine W.exit ?_
        with_reducible refine Ex.thn_ex ?_
        with_reducible refine Ex.thn_ex ?_
        with_reducible refine Ex.blk_here ?_
        with_reducible refine Ex.thn_norm ?_
        with_reducible refine W.seq ?_
        with_reducible refine W.region ?_
        refine WL.assign .nil rfl rfl rfl rfl ?_
        with_reducible refine WL.nil ?_
        with_reducible refine Ex.thn_norm ?_
        with_reducible refine W.ret ?_
        obtain rfl := Option.some.inj hr
        exact ⟨.inr rfl, _, (.cons (.tmp rfl) .nil), ⟨(Ext.st hE136 hS135), rfl⟩⟩
theorem f_laws_eqState_k {Δ : Prims} (g : Env Try.prog Δ) {lo n0 : Nat} {H0 F0 : Heap} (hS : St lo n0 H0 F0) {x1 : GState} {a2 : Option Addr} {cap3 : Nat} {a5 : Option Addr} {cap6 : Nat} {x8 : GState} {a9 : Option Addr} {cap10 : Nat} {a12 : Option Addr} {cap13 : Nat} (h4 : SR F0 (.slice a2 x1.Files.length cap3) x1.Files) (h7 : SR F0 (.slice a5 x1.Sessions.length cap6) x1.Sessions) (h11 : SR F0 (.slice a9 x8.Files.length cap10) x8.Files) (h14 : SR F0 (.slice a12 x8.Sessions.length cap13) x8.Sessions) {res : (Bool)} (hr : f_laws_eqState x1 x8 = some res) :
    C Try.prog Δ n0 8 [.agg [.slice a2 x1.Files.length cap3, .slice a5 x1.Sessions.length cap6].toArray, .agg [.slice a9 x8.Files.length cap10, .slice a12 x8.Sessions.length cap13].toArray] n0 H0 (fun v n H => St n0 n H F0 ∧ v = .bool res) := by
  refine C.body Try.func8 rfl rfl ?_
  unfold f_laws_eqState at hr
  have hS0 : St n0 n0 H0 F0 := hS.low (Nat.le_refl _)
  have hE0 := Ext.refl n0 F0
  have hlo0 := hS0.lo
  with_reducible refine W.seq ?_
  with_reducible refine W.region ?_
  refine GL.box hS0 .nil (vc := [.slice a2 x1.Files.length cap3, .slice a5 x1.Sessions.length cap6]) rfl rfl rfl rfl rfl (by repeat' (first | exact List.forall_mem_nil _ | refine List.forall_mem_cons.2 ⟨?_, ?_⟩ | rfl)) (fun H15 hS16 ho17 hk18 => ?_)
  have fo19 := hS0.fnone (Nat.le_refl _)
  have hlon01 := hS16.lo
  have lt20 : n0 < (n0 + 1) := by omega
  refine GL.box hS16 .nil (vc := [.slice a9 x8.Files.length cap10, .slice a12 x8.Sessions.length cap13]) rfl rfl rfl rfl rfl (by repeat' (first | exact List.forall_mem_nil _ | refine List.forall_mem_cons.2 ⟨?_, ?_⟩ | rfl)) (fun H21 hS22 ho23 hk24 => ?_)
  have fo25 := hS16.fnone (Nat.le_refl _)
  have ho27 := (hk24 _ (by have := lt20; omega)).trans ho17
  have hlon011 := hS22.lo
  have lt26 : (n0 + 1) < ((n0 + 1) + 1) := by omega
  refine WL.assign .nil rfl rfl rfl rfl ?_
  with_reducible refine WL.nil ?_
  with_reducible refine Ex.thn_norm ?_
  with_reducible refine W.seq ?_
  with_reducible refine W.seq ?_
  with_reducible refine W.region ?_
  refine WL.fieldAddr .nil rfl rfl rfl Try.underlying26 rfl info23 rfl rfl ?_
  refine WL.load1 .nil rfl rfl rfl Try.underlying23 rfl rfl ho27 rfl ?_
  refine WL.fieldAddr .nil rfl rfl rfl Try.underlying26 rfl info23 rfl rfl ?_
  refine WL.load1 .nil rfl rfl rfl Try.underlying23 rfl rfl ho23 rfl ?_
  obtain ⟨x28, hx28, hr⟩ := bnd_some hr
  refine GL.callP g.good .nil rfl rfl rfl rfl rfl rfl Try.func25 rfl rfl hS22.lo (f_laws_eqFileS_k  g hS22 h4 h11 hx28) (fun v n29 H30 hn31 hk32 hp33 => ?_)
  obtain ⟨hS34, rfl⟩ := hp33
  have ho35 := (hk32 _ (by have := lt20; omega)).trans ho27
  have ho36 := (hk32 _ (by have := lt26; omega)).trans ho23
  have hS37 : St n0 n29 H30 F0 := ⟨by have := hS22.lo; omega, hS34.hb, hS34.fh⟩
  have hlon29 := hS37.lo
  refine WL.not .nil rfl rfl rfl rfl ?_
  with_reducible refine WL.nil ?_
  with_reducible refine Ex.thn_norm ?_
  refine W.cond rfl (fun hc39 => ?_) (fun hc39 => ?_)
  · replace hr := iteB_pos hr hc39
    with_reducible refine W.seq ?_
    with_reducible refine W.region ?_
    refine WL.assign .nil rfl rfl rfl rfl ?_
    with_reducible refine WL.nil ?_
    with_reducible refine Ex.thn_norm ?_
    with_reducible refine W.ret ?_
    with_reducible refine Ex.thn_ret ?_
    obtain rfl := Option.some.inj hr
    exact ⟨.inr rfl, _, (.cons (.tmp rfl) .nil), ⟨(Ext.st hE0 hS37), rfl⟩⟩
  · replace hr := iteB_neg hr hc39
    with_reducible refine W.skip ?_
    with_reducible refine Ex.thn_norm ?_
    with_reducible refine W.seq ?_
    with_reducible refine W.seq ?_
    with_reducible refine W.region ?_
    refine WL.fieldAddr .nil rfl rfl rfl Try.underlying26 rfl info24 rfl rfl ?_
    refine WL.load1 .nil rfl rfl rfl Try.underlying24 rfl rfl ho35 rfl ?_
    refine WL.fieldAddr .nil rfl rfl rfl Try.underlying26 rfl info24 rfl rfl ?_
    refine WL.load1 .nil rfl rfl rfl Try.underlying24 rfl rfl ho36 rfl ?_
    obtain ⟨x40, hx40, hr⟩ := bnd_some hr
    refine GL.callP g.good .nil rfl rfl rfl rfl rfl rfl Try.func26 rfl rfl hS37.lo (f_laws_eqSessionS_k  g hS37 h7 h14 hx40) (fun v n41 H42 hn43 hk44 hp45 => ?_)
    obtain ⟨hS46, rfl⟩ := hp45
    have ho47 := (hk44 _ (by have := lt20; omega)).trans ho35
    have ho48 := (hk44 _ (by have := lt26; omega)).trans ho36
    have hS49 : St n0 n41 H42 F0 := ⟨by have := hS37.lo; omega, hS46.hb, hS46.fh⟩
    have hlon41 := hS49.lo
    refine WL.not .nil rfl rfl rfl rfl ?_
    with_reducible refine WL.nil ?_
    with_reducible refine Ex.thn_norm ?_
    refine W.cond rfl (fun hc50 => ?_) (fun hc50 => ?_)
    · replace hr := iteB_pos hr hc50
      with_reducible refine W.seq ?_
      with_reducible refine W.region ?_
      refine WL.assign .nil rfl rfl rfl rfl ?_
      with_reducible refine WL.nil ?_
      with_reducible refine Ex.thn_norm ?_
      with_reducible refine W.ret ?_
      with_reducible refine Ex.thn_ret ?_
      obtain rfl := Option.some.inj hr
      exact ⟨.inr rfl, _, (.cons (.tmp rfl) .nil), ⟨(Ext.st hE0 hS49), rfl⟩⟩
    · replace hr := iteB_neg hr hc50
      with_reducible refine W.skip ?_
      with_reducible refine Ex.thn_norm ?_
      with_reducible refine W.seq ?_
      with_reducible refine W.region ?_
      refine WL.assign .nil rfl rfl rfl rfl ?_
      with_reducible refine WL.nil ?_
      with_reducible refine Ex.thn_norm ?_
      with_reducible refine W.ret ?_
      obtain rfl := Option.some.inj hr
      exact ⟨.inr rfl, _, (.cons (.tmp rfl) .nil), ⟨(Ext.st hE0 hS49), rfl⟩⟩
theorem f_laws_eqByteS_k {Δ : Prims} (g : Env Try.prog Δ) {lo n0 : Nat} {H0 F0 : Heap} (hS : St lo n0 H0 F0) {a2 : Option Addr} {cap3 : Nat} {xs1 : (List UInt8)} {a6 : Option Addr} {cap7 : Nat} {xs5 : (List UInt8)} (h4 : SR F0 (.slice a2 xs1.length cap3) xs1) (h8 : SR F0 (.slice a6 xs5.length cap7) xs5) {res : (Bool)} (hr : f_laws_eqByteS xs1 xs5 = some res) :
    C Try.prog Δ n0 9 [.slice a2 xs1.length cap3, .slice a6 xs5.length cap7] n0 H0 (fun v n H => St n0 n H F0 ∧ v = .bool res) := by
  refine C.body Try.func9 rfl rfl ?_
  unfold f_laws_eqByteS at hr
  have hS0 : St n0 n0 H0 F0 := hS.low (Nat.le_refl _)
  have hE0 := Ext.refl n0 F0
  have hlo0 := hS0.lo
  with_reducible refine W.seq ?_
  with_reducible refine W.region ?_
  refine WL.assign .nil rfl rfl rfl rfl ?_
  with_reducible refine WL.nil ?_
  with_reducible refine Ex.thn_norm ?_
  with_reducible refine W.seq ?_
  with_reducible refine W.seq ?_
  with_reducible refine W.region ?_
  refine WL.move .nil rfl rfl rfl rfl ?_
  refine WL.len .nil rfl rfl rfl Try.underlying22 rfl ?_
  refine WL.move .nil rfl rfl rfl rfl ?_
  refine WL.len .nil rfl rfl rfl Try.underlying22 rfl ?_
  refine WL.bin .nil rfl rfl rfl rfl rfl rfl ?_
  with_reducible refine WL.nil ?_
  with_reducible refine Ex.thn_norm ?_
  refine W.condN rfl (fun hc10 => ?_) (fun hc10 => ?_)
  · replace hr := ite_neg hr hc10
    with_reducible refine W.seq ?_
    with_reducible refine W.region ?_
    refine WL.assign .nil rfl rfl rfl rfl ?_
    with_reducible refine WL.nil ?_
    with_reducible refine Ex.thn_norm ?_
    with_reducible refine W.ret ?_
    with_reducible refine Ex.thn_ret ?_
    obtain rfl := Option.some.inj hr
    exact ⟨.inr rfl, _, (.cons (.tmp rfl) .nil), ⟨(Ext.st hE0 hS0), rfl⟩⟩
  · replace hr := ite_pos hr hc10
    with_reducible refine W.skip ?_
    with_reducible refine Ex.thn_norm ?_
    with_reducible refine W.seq ?_
    with_reducible refine W.seq ?_
    with_reducible refine W.region ?_
    refine WL.assign .nil rfl rfl rfl rfl ?_
    with_reducible refine WL.nil ?_
    with_reducible refine Ex.thn_norm ?_
    with_reducible refine W.block ?_
    refine W.loopF (fun k0 fr n H => ∃ (x107 : Int) (F : Heap), fr = [(0, .slice a2 xs1.length cap3), (1, .slice a6 xs5.length cap7), (5, .int .i64 x107)] ∧ St n0 n H F ∧ Ext n0 F0 n F ∧ SR F (.slice a2 xs1.length cap3) xs1 ∧ SR F (.slice a6 xs5.length cap7) xs5 ∧ f_laws_eqByteS_L0 xs1 xs5 k0 x107 = some res) BIG (fr0 := [(0, .slice a2 xs1.length cap3), (1, .slice a6 xs5.length cap7), (5, .int .i64 0)]) (Fr.le_cons rfl (Fr.le_cons rfl (Fr.le_cons rfl Fr.le_nil))) ?_ ?_ ?_
    · exact ⟨0, F0, rfl, hS0, hE0, h4, h8, hr⟩
    · intro fr n H hI
      obtain ⟨x107, F102, hfr, hS103, hE104, h105, h106, hr⟩ := hI
      rw [f_laws_eqByteS_L0] at hr
      cases hr
    · intro k0 _ n100 H101 hI
      obtain ⟨x107, F102, rfl, hS103, hE104, h105, h106, hr⟩ := hI
      have hlen100 := hE104.le
      have hlon100 := hS103.lo
      rw [f_laws_eqByteS_L0] at hr
      with_reducible refine W.seq ?_
      with_reducible refine W.seq ?_
      with_reducible refine W.region ?_
      refine WL.move .nil rfl rfl rfl rfl ?_
      refine WL.move .nil rfl rfl rfl rfl ?_
      refine WL.len .nil rfl rfl rfl Try.underlying22 rfl ?_
      refine WL.bin .nil rfl rfl rfl rfl rfl rfl ?_
      with_reducible refine WL.nil ?_
      with_reducible refine Ex.thn_norm ?_
      refine W.condD rfl (fun hc109 => ?_) (fun hc109 => ?_)
      · replace hr := ite_pos hr hc109
        with_reducible refine W.skip ?_
        with_reducible refine Ex.thn_norm ?_
        with_reducible refine W.seq ?_
        with_reducible refine W.block ?_
        with_reducible refine W.seq ?_
        refine W.regionD [0, 1, 2, 3, 4, 5, 6, 7, 8] [false, false, false, false, false, false, false, false, false] rfl rfl (by kernel_rfl) (by kernel_rfl) (by (conv => lhs; simp only [List.map_cons, List.map_nil, List.getD_cons_zero, List.getD_cons_succ]) <;> rfl) ?_
        refine WL.move .r rfl rfl rfl rfl ?_
        refine WL.move .r rfl rfl rfl rfl ?_
        obtain ⟨x127, hx127, hr⟩ := bnd_some hr
        refine GL.index .r rfl rfl rfl Try.underlying22 info5 rfl rfl h105 hS103.fh rfl hx127 (fun b128 kp129 c130 ecs131 hrow132 hwin133 hR134 => ?_)
        have hcs : _ = ([u8 x127] : List Value) := hR134
        subst hcs
        refine WL.load1 .r rfl rfl rfl Try.underlying5 rfl rfl hrow132 ((win_get0 hwin133 (show (0 : Nat) < 1 by decide)).trans rfl) ?_
        refine WL.move .r rfl rfl rfl rfl ?_
        refine WL.move .r rfl rfl rfl rfl ?_
        obtain ⟨x135, hx135, hr⟩ := bnd_some hr
        refine GL.index .r rfl rfl rfl Try.underlying22 info5 rfl rfl h106 hS103.fh rfl hx135 (fun b136 kp137 c138 ecs139 hrow140 hwin141 hR142 => ?_)
        have hcs : _ = ([u8 x135] : List Value) := hR142
        subst hcs
        refine WL.load1 .r rfl rfl rfl Try.underlying5 rfl rfl hrow140 ((win_get0 hwin141 (show (0 : Nat) < 1 by decide)).trans rfl) ?_
        refine WL.bin .r rfl rfl rfl rfl rfl rfl ?_
        with_reducible refine WL.nil ?_
        with_reducible refine Ex.thn_norm ?_
        refine W.condN rfl (fun hc143 => ?_) (fun hc143 => ?_)
        · replace hr := ite_neg hr hc143
          with_reducible refine W.seq ?_
          with_reducible refine W.region ?_
          refine WL.assign .nil rfl rfl rfl rfl ?_
          with_reducible refine WL.nil ?_
          with_reducible refine Ex.thn_norm ?_
          with_reducible refine W.ret ?_
          with_reducible refine Ex.blk_ret ?_
          with_reducible refine Ex.thn_ret ?_
          with_reducible refine Ex.thn_ret ?_
          with_reducible refine Ex.blk_ret ?_
          with_reducible refine Ex.thn_ret ?_
          obtain rfl := Option.some.inj hr
          exact ⟨.inr rfl, _, (.cons (.tmp rfl) .nil), ⟨(Ext.st hE104 hS103), rfl⟩⟩
        · replace hr := ite_pos hr hc143
          with_reducible refine W.skip ?_
          with_reducible refine Ex.blk_norm ?_
          with_reducible refine Ex.thn_norm ?_
          with_reducible refine W.region ?_
          refine WL.move .nil rfl rfl rfl rfl ?_
          obtain ⟨hc144, hr⟩ := chk_some hr
          refine WL.addI .nil rfl rfl rfl rfl rfl hc144.1 hc144.2 ?_
          refine WL.assign .nil rfl rfl rfl rfl ?_
          with_reducible refine WL.nil ?_
          with_reducible refine Ex.thn_norm ?_
          exact ⟨[(0, .slice a2 xs1.length cap3), (1, .slice a6 xs5.length cap7), (5, .int .i64 (x107 + 1))], (Fr.le_cons rfl (Fr.le_cons rfl (Fr.le_cons rfl Fr.le_nil))), (x107 + 1), F102, rfl, hS103, hE104, h105, h106, hr⟩
      · replace hr := ite_neg hr hc109
        with_reducible refine W.exit ?_
        with_reducible refine Ex.thn_ex ?_
        with_reducible refine Ex.thn_ex ?_
        with_reducible refine Ex.blk_here ?_
        with_reducible refine Ex.thn_norm ?_
        with_reducible refine W.seq ?_
        with_reducible refine W.region ?_
        refine WL.assign .nil rfl rfl rfl rfl ?_
        with_reducible refine WL.nil ?_
        with_reducible refine Ex.thn_norm ?_
        with_reducible refine W.ret ?_
        obtain rfl := Option.some.inj hr
        exact ⟨.inr rfl, _, (.cons (.tmp rfl) .nil), ⟨(Ext.st hE104 hS103), rfl⟩⟩
theorem f_laws_markByteS_k {Δ : Prims} (g : Env Try.prog Δ) {lo n0 : Nat} {H0 F0 : Heap} (hS : St lo n0 H0 F0) {a2 : Option Addr} {cap3 : Nat} {xs1 : (List UInt8)} {x6 : Int} (h4 : OW lo n0 H0 F0 (.slice a2 xs1.length cap3) xs1) {res : ((List UInt8) × Int)} (hr : f_laws_markByteS xs1 x6 = some res) :
    C Try.prog Δ lo 10 [.slice a2 xs1.length cap3, .int .i64 x6] n0 H0 (fun v n H => ∃ (F : Heap), Ext n0 F0 n F ∧ St lo n H F ∧ OW lo n H F (.slice a2 xs1.length cap3) res.1 ∧ xs1.length = res.1.length ∧ v = .int .i64 res.2) := by
  refine C.body Try.func10 rfl rfl ?_
  unfold f_laws_markByteS at hr
  have hS0 : St lo n0 H0 F0 := hS
  have hE0 := Ext.refl n0 F0
  have hlo0 := hS0.lo
  with_reducible refine W.seq ?_
  with_reducible refine W.region ?_
  refine WL.assign .nil rfl rfl rfl rfl ?_
  with_reducible refine WL.nil ?_
  with_reducible refine Ex.thn_norm ?_
  with_reducible refine W.seq ?_
  with_reducible refine W.seq ?_
  with_reducible refine W.region ?_
  refine WL.assign .nil rfl rfl rfl rfl ?_
  with_reducible refine WL.nil ?_
  with_reducible refine Ex.thn_norm ?_
  with_reducible refine W.block ?_
  refine W.loopF (fun k0 fr n H => ∃ (xs102 : (List UInt8)) (x105 : Int) (x106 : Int) (F : Heap), fr = [(0, .slice a2 xs1.length cap3), (1, .int .i64 x105), (5, .int .i64 x106)] ∧ St lo n H F ∧ Ext n0 F0 n F ∧ OW lo n H F (.slice a2 xs1.length cap3) xs102 ∧ xs1.length = xs102.length ∧ f_laws_markByteS_L0 xs1 k0 xs102 x105 x106 = some res) BIG (fr0 := [(0, .slice a2 xs1.length cap3), (1, .int .i64 x6), (5, .int .i64 0)]) (Fr.le_cons rfl (Fr.le_cons rfl (Fr.le_cons rfl Fr.le_nil))) ?_ ?_ ?_
  · exact ⟨xs1, x6, 0, F0, rfl, hS0, hE0, h4, rfl, hr⟩
  · intro fr n H hI
    obtain ⟨xs102, x105, x106, F99, hfr, hS100, hE101, h103, hl104, hr⟩ := hI
    rw [f_laws_markByteS_L0] at hr
    cases hr
  · intro k0 _ n97 H98 hI
    obtain ⟨xs102, x105, x106, F99, rfl, hS100, hE101, h103, hl104, hr⟩ := hI
    have hlen97 := hE101.le
    have hlon97 := hS100.lo
    rw [f_laws_markByteS_L0] at hr
    with_reducible refine W.seq ?_
    with_reducible refine W.seq ?_
    with_reducible refine W.region ?_
    refine WL.move .nil rfl rfl rfl rfl ?_
    refine WL.move .nil rfl rfl rfl rfl ?_
    refine WL.len .nil rfl rfl rfl Try.underlying22 rfl ?_
    refine WL.bin .nil rfl rfl rfl rfl rfl rfl ?_
    with_reducible refine WL.nil ?_
    with_reducible refine Ex.thn_norm ?_
    refine W.condD rfl (fun hc108 => ?_) (fun hc108 => ?_)
    · replace hr := ite_pos hr hc108
      with_reducible refine W.skip ?_
      with_reducible refine Ex.thn_norm ?_
      with_reducible refine W.seq ?_
      with_reducible refine W.block ?_
      with_reducible refine W.seq ?_
      with_reducible refine W.region ?_
      refine WL.move .nil rfl rfl rfl rfl ?_
      refine WL.move .nil rfl rfl rfl rfl ?_
      refine WL.move .nil rfl rfl rfl rfl ?_
      refine WL.convB .nil rfl rfl rfl Try.underlying3 Try.underlying5 rfl ?_
      obtain ⟨x126, hx126, hr⟩ := bnd_some hr
      refine GL.indexO .nil rfl rfl rfl Try.underlying22 info5 rfl rfl h103 rfl hx126 (fun b127 kp128 c129 ecs130 hid134 hrow131 hwin132 hR133 hup135 => ?_)
      have hcs : _ = ([u8 x126] : List Value) := hR133
      subst hcs
      refine GL.store hS100 .nil (vc := [u8 (byteOf x105)]) rfl rfl rfl info5 rfl rfl rfl rfl hrow131 (OW.fnone h103 hid134) (by first | exact win_fit hwin132 (Nat.le_of_ble_eq_true rfl) rfl (Nat.le_of_ble_eq_true rfl) | exact win_fit2 hwin132 (Nat.le_of_ble_eq_true rfl) rfl (Nat.le_of_ble_eq_true rfl) | exact win_fit3 hwin132 (Nat.le_of_ble_eq_true rfl) rfl (Nat.le_of_ble_eq_true rfl)) (OW.id_lt h103 hid134).1 (by repeat' (first | exact List.forall_mem_nil _ | refine List.forall_mem_cons.2 ⟨?_, ?_⟩ | rfl)) rfl (fun H136 hS137 ho138 hk139 => ?_)
      have h140 := hup135 0 [u8 (byteOf x105)] ((byteOf x105) : UInt8) H136 (Nat.le_of_ble_eq_true rfl) rfl ho138
      have hl141 : xs1.length = (setI xs102 x106 (byteOf x105)).length := hl104.trans (setI_length _ _ _).symm
      with_reducible refine WL.nil ?_
      with_reducible refine Ex.thn_norm ?_
      with_reducible refine W.region ?_
      refine WL.move .nil rfl rfl rfl rfl ?_
      obtain ⟨hc142, hr⟩ := chk_some hr
      refine WL.addI .nil rfl rfl rfl rfl rfl hc142.1 hc142.2 ?_
      refine WL.assign .nil rfl rfl rfl rfl ?_
      with_reducible refine WL.nil ?_
      with_reducible refine Ex.blk_norm ?_
      with_reducible refine Ex.thn_norm ?_
      with_reducible refine W.region ?_
      refine WL.move .nil rfl rfl rfl rfl ?_
      obtain ⟨hc143, hr⟩ := chk_some hr
      refine WL.addI .nil rfl rfl rfl rfl rfl hc143.1 hc143.2 ?_
      refine WL.assign .nil rfl rfl rfl rfl ?_
      with_reducible refine WL.nil ?_
      with_reducible refine Ex.thn_norm ?_
      exact ⟨[(0, .slice a2 xs1.length cap3), (1, .int .i64 (x105 + 1)), (5, .int .i64 (x106 + 1))], (Fr.le_cons rfl (Fr.le_cons rfl (Fr.le_cons rfl Fr.le_nil))), (setI xs102 x106 (byteOf x105)), (x105 + 1), (x106 + 1), F99, rfl, hS137, hE101, h140, hl141, hr⟩
    · replace hr := ite_neg hr hc108
      with_reducible refine W.exit ?_
      with_reducible refine Ex.thn_ex ?_
      with_reducible refine Ex.thn_ex ?_
      with_reducible refine Ex.blk_here ?_
      with_reducible refine Ex.thn_norm ?_
      with_reducible refine W.seq ?_
      with_reducible refine W.region ?_
      refine WL.move .nil rfl rfl rfl rfl ?_
      refine WL.assign .nil rfl rfl rfl rfl ?_
      with_reducible refine WL.nil ?_
      with_reducible refine Ex.thn_norm ?_
      with_reducible refine W.ret ?_
      obtain rfl := Option.some.inj hr
      exact ⟨.inr rfl, _, (.cons (.tmp rfl) .nil), ⟨F99, (hE101.up (by omega)), hS100, h103, hl104, rfl⟩⟩
theorem f_laws_markText_k {Δ : Prims} (g : Env Try.prog Δ) {lo n0 : Nat} {H0 F0 : Heap} (hS : St lo n0 H0 F0) {x1 : Int} {res : (Str)} (hr : f_laws_markText x1 = some res) :
    C Try.prog Δ n0 53 [.int .i64 x1] n0 H0 (fun v n H => St n0 n H F0 ∧ v = str res) := by
  refine C.body Try.func53 rfl rfl ?_
  unfold f_laws_markText at hr
  have hS0 : St n0 n0 H0 F0 := hS.low (Nat.le_refl _)
  have hE0 := Ext.refl n0 F0
  have hlo0 := hS0.lo
  with_reducible refine W.seq ?_
  with_reducible refine W.region ?_
  refine WL.assign .nil rfl rfl rfl rfl ?_
  with_reducible refine WL.nil ?_
  with_reducible refine Ex.thn_norm ?_
  with_reducible refine W.seq ?_
  with_reducible refine W.seq ?_
  with_reducible refine W.region ?_
  refine WL.move .nil rfl rfl rfl rfl ?_
  refine WL.bin .nil rfl rfl rfl rfl rfl rfl ?_
  with_reducible refine WL.nil ?_
  with_reducible refine Ex.thn_norm ?_
  refine W.condD rfl (fun hc3 => ?_) (fun hc3 => ?_)
  · replace hr := ite_pos hr hc3
    with_reducible refine W.seq ?_
    with_reducible refine W.region ?_
    refine WL.assign .nil rfl rfl rfl rfl ?_
    with_reducible refine WL.nil ?_
    with_reducible refine Ex.thn_norm ?_
    with_reducible refine W.ret ?_
    with_reducible refine Ex.thn_ret ?_
    obtain rfl := Option.some.inj hr
    exact ⟨.inr rfl, _, (.cons (.tmp rfl) .nil), ⟨(Ext.st hE0 hS0), rfl⟩⟩
  · replace hr := ite_neg hr hc3
    with_reducible refine W.skip ?_
    with_reducible refine Ex.thn_norm ?_
    with_reducible refine W.seq ?_
    with_reducible refine W.region ?_
    refine WL.assign .nil rfl rfl rfl rfl ?_
    with_reducible refine WL.nil ?_
    with_reducible refine Ex.thn_norm ?_
    with_reducible refine W.seq ?_
    with_reducible refine W.block ?_
    refine W.loopF (fun k0 fr n H => ∃ (x100 : Int) (x101 : Str) (F : Heap), fr = [(0, .int .i64 x100), (3, str x101)] ∧ St n0 n H F ∧ Ext n0 F0 n F ∧ f_laws_markText_L0 k0 x100 x101 = some res) BIG (fr0 := [(0, .int .i64 x1), (3, str ([] : List UInt8))]) (Fr.le_cons rfl (Fr.le_cons rfl Fr.le_nil)) ?_ ?_ ?_
    · exact ⟨x1, ([] : List UInt8), F0, rfl, hS0, hE0, hr⟩
    · intro fr n H hI
      obtain ⟨x100, x101, F97, hfr, hS98, hE99, hr⟩ := hI
      rw [f_laws_markText_L0] at hr
      cases hr
    · intro k0 _ n95 H96 hI
      obtain ⟨x100, x101, F97, rfl, hS98, hE99, hr⟩ := hI
      have hlen95 := hE99.le
      have hlon95 := hS98.lo
      rw [f_laws_markText_L0] at hr
      with_reducible refine W.seq ?_
      with_reducible refine W.seq ?_
      with_reducible refine W.region ?_
      refine WL.move .nil rfl rfl rfl rfl ?_
      refine WL.bin .nil rfl rfl rfl rfl rfl rfl ?_
      with_reducible refine WL.nil ?_
      with_reducible refine Ex.thn_norm ?_
      refine W.condD rfl (fun hc103 => ?_) (fun hc103 => ?_)
      · replace hr := ite_pos hr hc103
        with_reducible refine W.skip ?_
        with_reducible refine Ex.thn_norm ?_
        with_reducible refine W.block ?_
        with_reducible refine W.seq ?_
        with_reducible refine W.region ?_
        refine WL.move .nil rfl rfl rfl rfl ?_
        obtain ⟨hc104, hr⟩ := chk_some hr
        refine WL.remI .nil rfl rfl rfl rfl rfl hc104.1 hc104.2 ?_
        obtain ⟨hc105, hr⟩ := chk_some hr
        refine WL.addI .nil rfl rfl rfl rfl rfl hc105.1 hc105.2 ?_
        refine WL.convB .nil rfl rfl rfl Try.underlying3 Try.underlying5 rfl ?_
        refine GL.lit (cs := [u8 (byteOf ((48 : Int) + (x100 % 10)))]) (xs := ([(byteOf ((48 : Int) + (x100 % 10)))] : List UInt8)) hS98 .nil rfl rfl rfl Try.underlying22 info5 rfl rfl rfl (by decide) (by decide) rfl rfl rfl rfl rfl (RA.cons (cs := [u8 (byteOf ((48 : Int) + (x100 % 10)))]) (a := ((byteOf ((48 : Int) + (x100 % 10))) : UInt8)) rfl RA.nil) rfl (fun H106 hS107 hO108 hk109 => ?_)
        have h110 := OW.lower (lo' := n0) hO108 (by omega)
        have hlon951 := hS107.lo
        refine GL.toStr .nil rfl rfl rfl Try.underlying22 Try.underlying9 Try.underlying5 rfl (OW.sr h110 hS107.fh) (Heap.Le.refl _) ?_
        refine WL.move .nil rfl rfl rfl rfl ?_
        obtain ⟨hc112, hr⟩ := chk_some hr
        refine GL.strAdd .nil rfl rfl rfl rfl rfl hc112 ?_
        refine WL.assign .nil rfl rfl rfl rfl ?_
        with_reducible refine WL.nil ?_
        with_reducible refine Ex.thn_norm ?_
        with_reducible refine W.region ?_
        refine WL.move .nil rfl rfl rfl rfl ?_
        obtain ⟨hc113, hr⟩ := chk_some hr
        refine WL.quoI .nil rfl rfl rfl rfl rfl hc113.1 hc113.2.1 hc113.2.2 ?_
        refine WL.assign .nil rfl rfl rfl rfl ?_
        with_reducible refine WL.nil ?_
        with_reducible refine Ex.blk_norm ?_
        with_reducible refine Ex.thn_norm ?_
        exact ⟨[(0, .int .i64 (x100 / 10)), (3, str (lst ([(byteOf ((48 : Int) + (x100 % 10)))] : List UInt8) ++ lst x101))], (Fr.le_cons rfl (Fr.le_cons rfl Fr.le_nil)), (x100 / 10), (lst ([(byteOf ((48 : Int) + (x100 % 10)))] : List UInt8) ++ lst x101), F97, rfl, hS107, (hE99.up (by omega)), hr⟩
      · replace hr := ite_neg hr hc103
        with_reducible refine W.exit ?_
        with_reducible refine Ex.thn_ex ?_
        with_reducible refine Ex.thn_ex ?_
        with_reducible refine Ex.blk_here ?_
        with_reducible refine Ex.thn_norm ?_
        with_reducible refine W.seq ?_
        with_reducible refine W.region ?_
        refine WL.move .nil rfl rfl rfl rfl ?_
        obtain ⟨hc114, hr⟩ := chk_some hr
        refine GL.strAdd .nil rfl rfl rfl rfl rfl hc114 ?_
        refine WL.assign .nil rfl rfl rfl rfl ?_
        with_reducible refine WL.nil ?_
        with_reducible refine Ex.thn_norm ?_
        with_reducible refine W.ret ?_
        obtain rfl := Option.some.inj hr
        exact ⟨.inr rfl, _, (.cons (.tmp rfl) .nil), ⟨(Ext.st hE99 hS98), rfl⟩⟩
theorem f_laws_markFileS_k {Δ : Prims} (g : Env Try.prog Δ) {lo n0 : Nat} {H0 F0 : Heap} (hS : St lo n0 H0 F0) {a2 : Option Addr} {cap3 : Nat} {xs1 : (List GFile)} {x6 : Int} (h4 : OW lo n0 H0 F0 (.slice a2 xs1.length cap3) xs1) {res : ((List GFile) × Int)} (hr : f_laws_markFileS xs1 x6 = some res) :
    C Try.prog Δ lo 27 [.slice a2 xs1.length cap3, .int .i64 x6] n0 H0 (fun v n H => ∃ (F : Heap), Ext n0 F0 n F ∧ St lo n H F ∧ OW lo n H F (.slice a2 xs1.length cap3) res.1 ∧ xs1.length = res.1.length ∧ v = .int .i64 res.2) := by
  refine C.body Try.func27 rfl rfl ?_
  unfold f_laws_markFileS at hr
  have hS0 : St lo n0 H0 F0 := hS
  have hE0 := Ext.refl n0 F0
  have hlo0 := hS0.lo
  with_reducible refine W.seq ?_
  with_reducible refine W.region ?_
  refine WL.assign .nil rfl rfl rfl rfl ?_
  with_reducible refine WL.nil ?_
  with_reducible refine Ex.thn_norm ?_
  with_reducible refine W.seq ?_
  with_reducible refine W.seq ?_
  with_reducible refine W.region ?_
  refine WL.assign .nil rfl rfl rfl rfl ?_
  with_reducible refine WL.nil ?_
  with_reducible refine Ex.thn_norm ?_
  with_reducible refine W.block ?_
  refine W.loopF (fun k0 fr n H => ∃ (xs318 : (List GFile)) (x321 : Int) (x322 : Int) (F : Heap), fr = [(0, .slice a2 xs1.length cap3), (1, .int .i64 x321), (5, .int .i64 x322)] ∧ St lo n H F ∧ Ext n0 F0 n F ∧ OW lo n H F (.slice a2 xs1.length cap3) xs318 ∧ xs1.length = xs318.length ∧ f_laws_markFileS_L0 xs1 k0 xs318 x321 x322 = some res) BIG (fr0 := [(0, .slice a2 xs1.length cap3), (1, .int .i64 x6), (5, .int .i64 0)]) (Fr.le_cons rfl (Fr.le_cons rfl (Fr.le_cons rfl Fr.le_nil))) ?_ ?_ ?_
  · exact ⟨xs1, x6, 0, F0, rfl, hS0, hE0, h4, rfl, hr⟩
  · intro fr n H hI
    obtain ⟨xs318, x321, x322, F315, hfr, hS316, hE317, h319, hl320, hr⟩ := hI
    rw [f_laws_markFileS_L0] at hr
    cases hr
  · intro k0 _ n313 H314 hI
    obtain ⟨xs318, x321, x322, F315, rfl, hS316, hE317, h319, hl320, hr⟩ := hI
    have hlen313 := hE317.le
    have hlon313 := hS316.lo
    rw [f_laws_markFileS_L0] at hr
    with_reducible refine W.seq ?_
    with_reducible refine W.seq ?_
    with_reducible refine W.region ?_
    refine WL.move .nil rfl rfl rfl rfl ?_
    refine WL.move .nil rfl rfl rfl rfl ?_
    refine WL.len .nil rfl rfl rfl Try.underlying23 rfl ?_
    refine WL.bin .nil rfl rfl rfl rfl rfl rfl ?_
    with_reducible refine WL.nil ?_
    with_reducible refine Ex.thn_norm ?_
    refine W.condD rfl (fun hc324 => ?_) (fun hc324 => ?_)
    · replace hr := ite_pos hr hc324
      with_reducible refine W.skip ?_
      with_reducible refine Ex.thn_norm ?_
      with_reducible refine W.seq ?_
      with_reducible refine W.block ?_
      with_reducible refine W.seq ?_
      with_reducible refine W.region ?_
      refine WL.move .nil rfl rfl rfl rfl ?_
      refine WL.move .nil rfl rfl rfl rfl ?_
      refine WL.move .nil rfl rfl rfl rfl ?_
      obtain ⟨x396, hx396, hr⟩ := bnd_some hr
      have hb402 := fun b hb => (OW.id_lt (i := b) h319 hb).2
      refine GL.callP g.good .nil rfl rfl rfl rfl rfl rfl Try.func53 rfl rfl hS316.lo (f_laws_markText_k  g hS316 hx396) (fun v n397 H398 hn399 hk400 hp401 => ?_)
      obtain ⟨hS403, rfl⟩ := hp401
      have h404 := OW.keep (n' := n397) h319 (by omega) (fun i hi => hk400 i (OW.id_lt h319 hi).2)
      have hS405 : St lo n397 H398 F315 := ⟨by have := hS316.lo; omega, hS403.hb, hS403.fh⟩
      have hlon397 := hS405.lo
      obtain ⟨x406, hx406, hr⟩ := bnd_some hr
      refine GL.indexO .nil rfl rfl rfl Try.underlying23 info50 rfl rfl h404 rfl hx406 (fun b407 kp408 c409 ecs410 hid414 hrow411 hwin412 hR413 hup415 => ?_)
      obtain ⟨rfl⟩ := GFile.ofR hR413
      refine WL.fieldAddr .nil rfl rfl rfl Try.underlying50 rfl info9 rfl rfl ?_
      refine GL.store hS405 .nil (vc := [str x396]) rfl rfl rfl info9 rfl rfl rfl rfl hrow411 (OW.fnone h404 hid414) (by first | exact win_fit hwin412 (Nat.le_of_ble_eq_true rfl) rfl (Nat.le_of_ble_eq_true rfl) | exact win_fit2 hwin412 (Nat.le_of_ble_eq_true rfl) rfl (Nat.le_of_ble_eq_true rfl) | exact win_fit3 hwin412 (Nat.le_of_ble_eq_true rfl) rfl (Nat.le_of_ble_eq_true rfl)) (OW.id_lt h404 hid414).1 (by repeat' (first | exact List.forall_mem_nil _ | refine List.forall_mem_cons.2 ⟨?_, ?_⟩ | rfl)) rfl (fun H416 hS417 ho418 hk419 => ?_)
      have h420 := hup415 0 [str x396] (({ Name := x396, Version := x406.Version, Text := x406.Text } : GFile) : GFile) H416 (Nat.le_of_ble_eq_true rfl) (GFile.toR (x := ({ Name := x396, Version := x406.Version, Text := x406.Text } : GFile))) ho418
      have hl421 : xs1.length = (setI xs318 x322 ({ Name := x396, Version := x406.Version, Text := x406.Text } : GFile)).length := hl320.trans (setI_length _ _ _).symm
      with_reducible refine WL.nil ?_
      with_reducible refine Ex.thn_norm ?_
      with_reducible refine W.seq ?_
      with_reducible refine W.region ?_
      refine WL.move .nil rfl rfl rfl rfl ?_
      obtain ⟨hc422, hr⟩ := chk_some hr
      refine WL.addI .nil rfl rfl rfl rfl rfl hc422.1 hc422.2 ?_
      refine WL.assign .nil rfl rfl rfl rfl ?_
      with_reducible refine WL.nil ?_
      with_reducible refine Ex.thn_norm ?_
      with_reducible refine W.seq ?_
      with_reducible refine W.region ?_
      refine WL.move .nil rfl rfl rfl rfl ?_
      refine WL.move .nil rfl rfl rfl rfl ?_
      refine WL.move .nil rfl rfl rfl rfl ?_
      obtain ⟨x423, hx423, hr⟩ := bnd_some hr
      refine GL.indexO .nil rfl rfl rfl Try.underlying23 info50 rfl rfl h420 rfl hx423 (fun b424 kp425 c426 ecs427 hid431 hrow428 hwin429 hR430 hup432 => ?_)
      obtain ⟨rfl⟩ := GFile.ofR hR430
      refine WL.fieldAddr .nil rfl rfl rfl Try.underlying50 rfl info3 rfl rfl ?_
      refine GL.store hS417 .nil (vc := [.int .i64 (x321 + 1)]) rfl rfl rfl info3 rfl rfl rfl rfl hrow428 (OW.fnone h420 hid431) (by first | exact win_fit hwin429 (Nat.le_of_ble_eq_true rfl) rfl (Nat.le_of_ble_eq_true rfl) | exact win_fit2 hwin429 (Nat.le_of_ble_eq_true rfl) rfl (Nat.le_of_ble_eq_true rfl) | exact win_fit3 hwin429 (Nat.le_of_ble_eq_true rfl) rfl (Nat.le_of_ble_eq_true rfl)) (OW.id_lt h420 hid431).1 (by repeat' (first | exact List.forall_mem_nil _ | refine List.forall_mem_cons.2 ⟨?_, ?_⟩ | rfl)) rfl (fun H433 hS434 ho435 hk436 => ?_)
      have h437 := hup432 1 [.int .i64 (x321 + 1)] (({ Name := x423.Name, Version := (x321 + 1), Text := x423.Text } : GFile) : GFile) H433 (Nat.le_of_ble_eq_true rfl) (GFile.toR (x := ({ Name := x423.Name, Version := (x321 + 1), Text := x423.Text } : GFile))) ho435
      have hl438 : xs1.length = (setI (setI xs318 x322 ({ Name := x396, Version := x406.Version, Text := x406.Text } : GFile)) x322 ({ Name := x423.Name, Version := (x321 + 1), Text := x423.Text } : GFile)).length := hl421.trans (setI_length _ _ _).symm
      with_reducible refine WL.nil ?_
      with_reducible refine Ex.thn_norm ?_
      with_reducible refine W.seq ?_
      with_reducible refine W.region ?_
      refine WL.move .nil rfl rfl rfl rfl ?_
      obtain ⟨hc439, hr⟩ := chk_some hr
      refine WL.addI .nil rfl rfl rfl rfl rfl hc439.1 hc439.2 ?_
      refine WL.assign .nil rfl rfl rfl rfl ?_
      with_reducible refine WL.nil ?_
      with_reducible refine Ex.thn_norm ?_
      with_reducible refine W.seq ?_
      with_reducible refine W.region ?_
      refine WL.move .nil rfl rfl rfl rfl ?_
      refine WL.move .nil rfl rfl rfl rfl ?_
      refine WL.move .nil rfl rfl rfl rfl ?_
      obtain ⟨x440, hx440, hr⟩ := bnd_some hr
      have hb446 := fun b hb => (OW.id_lt (i := b) h437 hb).2
      refine GL.callP g.good .nil rfl rfl rfl rfl rfl rfl Try.func53 rfl rfl hS434.lo (f_laws_markText_k  g hS434 hx440) (fun v n441 H442 hn443 hk444 hp445 => ?_)
      obtain ⟨hS447, rfl⟩ := hp445
      have h448 := OW.keep (n' := n441) h437 (by omega) (fun i hi => hk444 i (OW.id_lt h437 hi).2)
      have hS449 : St lo n441 H442 F315 := ⟨by have := hS434.lo; omega, hS447.hb, hS447.fh⟩
      have hlon441 := hS449.lo
      obtain ⟨x450, hx450, hr⟩ := bnd_some hr
      refine GL.indexO .nil rfl rfl rfl Try.underlying23 info50 rfl rfl h448 rfl hx450 (fun b451 kp452 c453 ecs454 hid458 hrow455 hwin456 hR457 hup459 => ?_)
      obtain ⟨rfl⟩ := GFile.ofR hR457
      refine WL.fieldAddr .nil rfl rfl rfl Try.underlying50 rfl info9 rfl rfl ?_
      refine GL.store hS449 .nil (vc := [str x440]) rfl rfl rfl info9 rfl rfl rfl rfl hrow455 (OW.fnone h448 hid458) (by first | exact win_fit hwin456 (Nat.le_of_ble_eq_true rfl) rfl (Nat.le_of_ble_eq_true rfl) | exact win_fit2 hwin456 (Nat.le_of_ble_eq_true rfl) rfl (Nat.le_of_ble_eq_true rfl) | exact win_fit3 hwin456 (Nat.le_of_ble_eq_true rfl) rfl (Nat.le_of_ble_eq_true rfl)) (OW.id_lt h448 hid458).1 (by repeat' (first | exact List.forall_mem_nil _ | refine List.forall_mem_cons.2 ⟨?_, ?_⟩ | rfl)) rfl (fun H460 hS461 ho462 hk463 => ?_)
      have h464 := hup459 2 [str x440] (({ Name := x450.Name, Version := x450.Version, Text := x440 } : GFile) : GFile) H460 (Nat.le_of_ble_eq_true rfl) (GFile.toR (x := ({ Name := x450.Name, Version := x450.Version, Text := x440 } : GFile))) ho462
      have hl465 : xs1.length = (setI (setI (setI xs318 x322 ({ Name := x396, Version := x406.Version, Text := x406.Text } : GFile)) x322 ({ Name := x423.Name, Version := (x321 + 1), Text := x423.Text } : GFile)) x322 ({ Name := x450.Name, Version := x450.Version, Text := x440 } : GFile)).length := hl438.trans (setI_length _ _ _).symm
      with_reducible refine WL.nil ?_
      with_reducible refine Ex.thn_norm ?_
      with_reducible refine W.region ?_
      refine WL.move .nil rfl rfl rfl rfl ?_
      obtain ⟨hc466, hr⟩ := chk_some hr
      refine WL.addI .nil rfl rfl rfl rfl rfl hc466.1 hc466.2 ?_
      refine WL.assign .nil rfl rfl rfl rfl ?_
      with_reducible refine WL.nil ?_
      with_reducible refine Ex.blk_norm ?_
      with_reducible refine Ex.thn_norm ?_
      with_reducible refine W.region ?_
      refine WL.move .nil rfl rfl rfl rfl ?_
      obtain ⟨hc467, hr⟩ := chk_some hr
      refine WL.addI .nil rfl rfl rfl rfl rfl hc467.1 hc467.2 ?_
      refine WL.assign .nil rfl rfl rfl rfl ?_
      with_reducible refine WL.nil ?_
      with_reducible refine Ex.thn_norm ?_
      exact ⟨[(0, .slice a2 xs1.length cap3), (1, .int .i64 (((x321 + 1) + 1) + 1)), (5, .int .i64 (x322 + 1))], (Fr.le_cons rfl (Fr.le_cons rfl (Fr.le_cons rfl Fr.le_nil))), (setI (setI (setI xs318 x322 ({ Name := x396, Version := x406.Version, Text := x406.Text } : GFile)) x322 ({ Name := x423.Name, Version := (x321 + 1), Text := x423.Text } : GFile)) x322 ({ Name := x450.Name, Version := x450.Version, Text := x440 } : GFile)), (((x321 + 1) + 1) + 1), (x322 + 1), F315, rfl, hS461, (hE317.up (by omega)), h464, hl465, hr⟩
    · replace hr := ite_neg hr hc324
      with_reducible refine W.exit ?_
      with_reducible refine Ex.thn_ex ?_
      with_reducible refine Ex.thn_ex ?_
      with_reducible refine Ex.blk_here ?_
      with_reducible refine Ex.thn_norm ?_
      with_reducible refine W.seq ?_
      with_reducible refine W.region ?_
      refine WL.move .nil rfl rfl rfl rfl ?_
      refine WL.assign .nil rfl rfl rfl rfl ?_
      with_reducible refine WL.nil ?_
      with_reducible refine Ex.thn_norm ?_
      with_reducible refine W.ret ?_
      obtain rfl := Option.some.inj hr
      exact ⟨.inr rfl, _, (.cons (.tmp rfl) .nil), ⟨F315, (hE317.up (by omega)), hS316, h319, hl320, rfl⟩⟩
theorem f_laws_markSessionS_k {Δ : Prims} (g : Env Try.prog Δ) {lo n0 : Nat} {H0 F0 : Heap} (hS : St lo n0 H0 F0) {a2 : Option Addr} {cap3 : Nat} {xs1 : (List GSession)} {x6 : Int} (h4 : OW lo n0 H0 F0 (.slice a2 xs1.length cap3) xs1) {res : ((List GSession) × Int)} (hr : f_laws_markSessionS xs1 x6 = some res) :
    C Try.prog Δ lo 28 [.slice a2 xs1.length cap3, .int .i64 x6] n0 H0 (fun v n H => ∃ (F : Heap), Ext n0 F0 n F ∧ St lo n H F ∧ OW lo n H F (.slice a2 xs1.length cap3) res.1 ∧ xs1.length = res.1.length ∧ v = .int .i64 res.2) := by
  refine C.body Try.func28 rfl rfl ?_
  unfold f_laws_markSessionS at hr
  have hS0 : St lo n0 H0 F0 := hS
  have hE0 := Ext.refl n0 F0
  have hlo0 := hS0.lo
  with_reducible refine W.seq ?_
  with_reducible refine W.region ?_
  refine WL.assign .nil rfl rfl rfl rfl ?_
  with_reducible refine WL.nil ?_
  with_reducible refine Ex.thn_norm ?_
  with_reducible refine W.seq ?_
  with_reducible refine W.seq ?_
  with_reducible refine W.region ?_
  refine WL.assign .nil rfl rfl rfl rfl ?_
  with_reducible refine WL.nil ?_
  with_reducible refine Ex.thn_norm ?_
  with_reducible refine W.block ?_
  refine W.loopF (fun k0 fr n H => ∃ (xs414 : (List GSession)) (x417 : Int) (x418 : Int) (F : Heap), fr = [(0, .slice a2 xs1.length cap3), (1, .int .i64 x417), (5, .int .i64 x418)] ∧ St lo n H F ∧ Ext n0 F0 n F ∧ OW lo n H F (.slice a2 xs1.length cap3) xs414 ∧ xs1.length = xs414.length ∧ f_laws_markSessionS_L0 xs1 k0 xs414 x417 x418 = some res) BIG (fr0 := [(0, .slice a2 xs1.length cap3), (1, .int .i64 x6), (5, .int .i64 0)]) (Fr.le_cons rfl (Fr.le_cons rfl (Fr.le_cons rfl Fr.le_nil))) ?_ ?_ ?_
  · exact ⟨xs1, x6, 0, F0, rfl, hS0, hE0, h4, rfl, hr⟩
  · intro fr n H hI
    obtain ⟨xs414, x417, x418, F411, hfr, hS412, hE413, h415, hl416, hr⟩ := hI
    rw [f_laws_markSessionS_L0] at hr
    cases hr
  · intro k0 _ n409 H410 hI
    obtain ⟨xs414, x417, x418, F411, rfl, hS412, hE413, h415, hl416, hr⟩ := hI
    have hlen409 := hE413.le
    have hlon409 := hS412.lo
    rw [f_laws_markSessionS_L0] at hr
    with_reducible refine W.seq ?_
    with_reducible refine W.seq ?_
    with_reducible refine W.region ?_
    refine WL.move .nil rfl rfl rfl rfl ?_
    refine WL.move .nil rfl rfl rfl rfl ?_
    refine WL.len .nil rfl rfl rfl Try.underlying24 rfl ?_
    refine WL.bin .nil rfl rfl rfl rfl rfl rfl ?_
    with_reducible refine WL.nil ?_
    with_reducible refine Ex.thn_norm ?_
    refine W.condD rfl (fun hc420 => ?_) (fun hc420 => ?_)
    · replace hr := ite_pos hr hc420
      with_reducible refine W.skip ?_
      with_reducible refine Ex.thn_norm ?_
      with_reducible refine W.seq ?_
      with_reducible refine W.block ?_
      with_reducible refine W.seq ?_
      with_reducible refine W.region ?_
      refine WL.move .nil rfl rfl rfl rfl ?_
      refine WL.move .nil rfl rfl rfl rfl ?_
      refine WL.move .nil rfl rfl rfl rfl ?_
      obtain ⟨x516, hx516, hr⟩ := bnd_some hr
      refine GL.indexO .nil rfl rfl rfl Try.underlying24 info54 rfl rfl h415 rfl hx516 (fun b517 kp518 c519 ecs520 hid524 hrow521 hwin522 hR523 hup525 => ?_)
      obtain ⟨rfl⟩ := GSession.ofR hR523
      refine WL.fieldAddr .nil rfl rfl rfl Try.underlying54 rfl info3 rfl rfl ?_
      refine GL.store hS412 .nil (vc := [.int .i64 x417]) rfl rfl rfl info3 rfl rfl rfl rfl hrow521 (OW.fnone h415 hid524) (by first | exact win_fit hwin522 (Nat.le_of_ble_eq_true rfl) rfl (Nat.le_of_ble_eq_true rfl) | exact win_fit2 hwin522 (Nat.le_of_ble_eq_true rfl) rfl (Nat.le_of_ble_eq_true rfl) | exact win_fit3 hwin522 (Nat.le_of_ble_eq_true rfl) rfl (Nat.le_of_ble_eq_true rfl)) (OW.id_lt h415 hid524).1 (by repeat' (first | exact List.forall_mem_nil _ | refine List.forall_mem_cons.2 ⟨?_, ?_⟩ | rfl)) rfl (fun H526 hS527 ho528 hk529 => ?_)
      have h530 := hup525 0 [.int .i64 x417] (({ Client := x417, Seq := x516.Seq, Reply := ({ Code := x516.Reply.Code, Version := x516.Reply.Version, Sha := x516.Reply.Sha } : GReply) } : GSession) : GSession) H526 (Nat.le_of_ble_eq_true rfl) (GSession.toR (x := ({ Client := x417, Seq := x516.Seq, Reply := ({ Code := x516.Reply.Code, Version := x516.Reply.Version, Sha := x516.Reply.Sha } : GReply) } : GSession))) ho528
      have hl531 : xs1.length = (setI xs414 x418 ({ Client := x417, Seq := x516.Seq, Reply := ({ Code := x516.Reply.Code, Version := x516.Reply.Version, Sha := x516.Reply.Sha } : GReply) } : GSession)).length := hl416.trans (setI_length _ _ _).symm
      with_reducible refine WL.nil ?_
      with_reducible refine Ex.thn_norm ?_
      with_reducible refine W.seq ?_
      with_reducible refine W.region ?_
      refine WL.move .nil rfl rfl rfl rfl ?_
      obtain ⟨hc532, hr⟩ := chk_some hr
      refine WL.addI .nil rfl rfl rfl rfl rfl hc532.1 hc532.2 ?_
      refine WL.assign .nil rfl rfl rfl rfl ?_
      with_reducible refine WL.nil ?_
      with_reducible refine Ex.thn_norm ?_
      with_reducible refine W.seq ?_
      with_reducible refine W.region ?_
      refine WL.move .nil rfl rfl rfl rfl ?_
      refine WL.move .nil rfl rfl rfl rfl ?_
      refine WL.move .nil rfl rfl rfl rfl ?_
      obtain ⟨x533, hx533, hr⟩ := bnd_some hr
      refine GL.indexO .nil rfl rfl rfl Try.underlying24 info54 rfl rfl h530 rfl hx533 (fun b534 kp535 c536 ecs537 hid541 hrow538 hwin539 hR540 hup542 => ?_)
      obtain ⟨rfl⟩ := GSession.ofR hR540
      refine WL.fieldAddr .nil rfl rfl rfl Try.underlying54 rfl info3 rfl rfl ?_
      refine GL.store hS527 .nil (vc := [.int .i64 (x417 + 1)]) rfl rfl rfl info3 rfl rfl rfl rfl hrow538 (OW.fnone h530 hid541) (by first | exact win_fit hwin539 (Nat.le_of_ble_eq_true rfl) rfl (Nat.le_of_ble_eq_true rfl) | exact win_fit2 hwin539 (Nat.le_of_ble_eq_true rfl) rfl (Nat.le_of_ble_eq_true rfl) | exact win_fit3 hwin539 (Nat.le_of_ble_eq_true rfl) rfl (Nat.le_of_ble_eq_true rfl)) (OW.id_lt h530 hid541).1 (by repeat' (first | exact List.forall_mem_nil _ | refine List.forall_mem_cons.2 ⟨?_, ?_⟩ | rfl)) rfl (fun H543 hS544 ho545 hk546 => ?_)
      have h547 := hup542 1 [.int .i64 (x417 + 1)] (({ Client := x533.Client, Seq := (x417 + 1), Reply := ({ Code := x533.Reply.Code, Version := x533.Reply.Version, Sha := x533.Reply.Sha } : GReply) } : GSession) : GSession) H543 (Nat.le_of_ble_eq_true rfl) (GSession.toR (x := ({ Client := x533.Client, Seq := (x417 + 1), Reply := ({ Code := x533.Reply.Code, Version := x533.Reply.Version, Sha := x533.Reply.Sha } : GReply) } : GSession))) ho545
      have hl548 : xs1.length = (setI (setI xs414 x418 ({ Client := x417, Seq := x516.Seq, Reply := ({ Code := x516.Reply.Code, Version := x516.Reply.Version, Sha := x516.Reply.Sha } : GReply) } : GSession)) x418 ({ Client := x533.Client, Seq := (x417 + 1), Reply := ({ Code := x533.Reply.Code, Version := x533.Reply.Version, Sha := x533.Reply.Sha } : GReply) } : GSession)).length := hl531.trans (setI_length _ _ _).symm
      with_reducible refine WL.nil ?_
      with_reducible refine Ex.thn_norm ?_
      with_reducible refine W.seq ?_
      with_reducible refine W.region ?_
      refine WL.move .nil rfl rfl rfl rfl ?_
      obtain ⟨hc549, hr⟩ := chk_some hr
      refine WL.addI .nil rfl rfl rfl rfl rfl hc549.1 hc549.2 ?_
      refine WL.assign .nil rfl rfl rfl rfl ?_
      with_reducible refine WL.nil ?_
      with_reducible refine Ex.thn_norm ?_
      with_reducible refine W.seq ?_
      with_reducible refine W.region ?_
      refine WL.move .nil rfl rfl rfl rfl ?_
      refine WL.move .nil rfl rfl rfl rfl ?_
      refine WL.move .nil rfl rfl rfl rfl ?_
      obtain ⟨x550, hx550, hr⟩ := bnd_some hr
      refine GL.indexO .nil rfl rfl rfl Try.underlying24 info54 rfl rfl h547 rfl hx550 (fun b551 kp552 c553 ecs554 hid558 hrow555 hwin556 hR557 hup559 => ?_)
      obtain ⟨rfl⟩ := GSession.ofR hR557
      refine WL.fieldAddr .nil rfl rfl rfl Try.underlying54 rfl info52 rfl rfl ?_
      refine WL.fieldAddr .nil rfl rfl rfl Try.underlying52 rfl info3 rfl rfl ?_
      refine GL.store hS544 .nil (vc := [.int .i64 ((x417 + 1) + 1)]) rfl rfl rfl info3 rfl rfl rfl rfl hrow555 (OW.fnone h547 hid558) (by first | exact win_fit hwin556 (Nat.le_of_ble_eq_true rfl) rfl (Nat.le_of_ble_eq_true rfl) | exact win_fit2 hwin556 (Nat.le_of_ble_eq_true rfl) rfl (Nat.le_of_ble_eq_true rfl) | exact win_fit3 hwin556 (Nat.le_of_ble_eq_true rfl) rfl (Nat.le_of_ble_eq_true rfl)) (OW.id_lt h547 hid558).1 (by repeat' (first | exact List.forall_mem_nil _ | refine List.forall_mem_cons.2 ⟨?_, ?_⟩ | rfl)) rfl (fun H560 hS561 ho562 hk563 => ?_)
      have h564 := hup559 2 [.int .i64 ((x417 + 1) + 1)] (({ Client := x550.Client, Seq := x550.Seq, Reply := ({ Code := ((x417 + 1) + 1), Version := x550.Reply.Version, Sha := x550.Reply.Sha } : GReply) } : GSession) : GSession) H560 (Nat.le_of_ble_eq_true rfl) (GSession.toR (x := ({ Client := x550.Client, Seq := x550.Seq, Reply := ({ Code := ((x417 + 1) + 1), Version := x550.Reply.Version, Sha := x550.Reply.Sha } : GReply) } : GSession))) ho562
      have hl565 : xs1.length = (setI (setI (setI xs414 x418 ({ Client := x417, Seq := x516.Seq, Reply := ({ Code := x516.Reply.Code, Version := x516.Reply.Version, Sha := x516.Reply.Sha } : GReply) } : GSession)) x418 ({ Client := x533.Client, Seq := (x417 + 1), Reply := ({ Code := x533.Reply.Code, Version := x533.Reply.Version, Sha := x533.Reply.Sha } : GReply) } : GSession)) x418 ({ Client := x550.Client, Seq := x550.Seq, Reply := ({ Code := ((x417 + 1) + 1), Version := x550.Reply.Version, Sha := x550.Reply.Sha } : GReply) } : GSession)).length := hl548.trans (setI_length _ _ _).symm
      with_reducible refine WL.nil ?_
      with_reducible refine Ex.thn_norm ?_
      with_reducible refine W.seq ?_
      with_reducible refine W.region ?_
      refine WL.move .nil rfl rfl rfl rfl ?_
      obtain ⟨hc566, hr⟩ := chk_some hr
      refine WL.addI .nil rfl rfl rfl rfl rfl hc566.1 hc566.2 ?_
      refine WL.assign .nil rfl rfl rfl rfl ?_
      with_reducible refine WL.nil ?_
      with_reducible refine Ex.thn_norm ?_
      with_reducible refine W.seq ?_
      with_reducible refine W.region ?_
      refine WL.move .nil rfl rfl rfl rfl ?_
      refine WL.move .nil rfl rfl rfl rfl ?_
      refine WL.move .nil rfl rfl rfl rfl ?_
      obtain ⟨x567, hx567, hr⟩ := bnd_some hr
      refine GL.indexO .nil rfl rfl rfl Try.underlying24 info54 rfl rfl h564 rfl hx567 (fun b568 kp569 c570 ecs571 hid575 hrow572 hwin573 hR574 hup576 => ?_)
      obtain ⟨rfl⟩ := GSession.ofR hR574
      refine WL.fieldAddr .nil rfl rfl rfl Try.underlying54 rfl info52 rfl rfl ?_
      refine WL.fieldAddr .nil rfl rfl rfl Try.underlying52 rfl info3 rfl rfl ?_
      refine GL.store hS561 .nil (vc := [.int .i64 (((x417 + 1) + 1) + 1)]) rfl rfl rfl info3 rfl rfl rfl rfl hrow572 (OW.fnone h564 hid575) (by first | exact win_fit hwin573 (Nat.le_of_ble_eq_true rfl) rfl (Nat.le_of_ble_eq_true rfl) | exact win_fit2 hwin573 (Nat.le_of_ble_eq_true rfl) rfl (Nat.le_of_ble_eq_true rfl) | exact win_fit3 hwin573 (Nat.le_of_ble_eq_true rfl) rfl (Nat.le_of_ble_eq_true rfl)) (OW.id_lt h564 hid575).1 (by repeat' (first | exact List.forall_mem_nil _ | refine List.forall_mem_cons.2 ⟨?_, ?_⟩ | rfl)) rfl (fun H577 hS578 ho579 hk580 => ?_)
      have h581 := hup576 3 [.int .i64 (((x417 + 1) + 1) + 1)] (({ Client := x567.Client, Seq := x567.Seq, Reply := ({ Code := x567.Reply.Code, Version := (((x417 + 1) + 1) + 1), Sha := x567.Reply.Sha } : GReply) } : GSession) : GSession) H577 (Nat.le_of_ble_eq_true rfl) (GSession.toR (x := ({ Client := x567.Client, Seq := x567.Seq, Reply := ({ Code := x567.Reply.Code, Version := (((x417 + 1) + 1) + 1), Sha := x567.Reply.Sha } : GReply) } : GSession))) ho579
      have hl582 : xs1.length = (setI (setI (setI (setI xs414 x418 ({ Client := x417, Seq := x516.Seq, Reply := ({ Code := x516.Reply.Code, Version := x516.Reply.Version, Sha := x516.Reply.Sha } : GReply) } : GSession)) x418 ({ Client := x533.Client, Seq := (x417 + 1), Reply := ({ Code := x533.Reply.Code, Version := x533.Reply.Version, Sha := x533.Reply.Sha } : GReply) } : GSession)) x418 ({ Client := x550.Client, Seq := x550.Seq, Reply := ({ Code := ((x417 + 1) + 1), Version := x550.Reply.Version, Sha := x550.Reply.Sha } : GReply) } : GSession)) x418 ({ Client := x567.Client, Seq := x567.Seq, Reply := ({ Code := x567.Reply.Code, Version := (((x417 + 1) + 1) + 1), Sha := x567.Reply.Sha } : GReply) } : GSession)).length := hl565.trans (setI_length _ _ _).symm
      with_reducible refine WL.nil ?_
      with_reducible refine Ex.thn_norm ?_
      with_reducible refine W.seq ?_
      with_reducible refine W.region ?_
      refine WL.move .nil rfl rfl rfl rfl ?_
      obtain ⟨hc583, hr⟩ := chk_some hr
      refine WL.addI .nil rfl rfl rfl rfl rfl hc583.1 hc583.2 ?_
      refine WL.assign .nil rfl rfl rfl rfl ?_
      with_reducible refine WL.nil ?_
      with_reducible refine Ex.thn_norm ?_
      with_reducible refine W.seq ?_
      with_reducible refine W.region ?_
      refine WL.move .nil rfl rfl rfl rfl ?_
      refine WL.move .nil rfl rfl rfl rfl ?_
      refine WL.move .nil rfl rfl rfl rfl ?_
      obtain ⟨x584, hx584, hr⟩ := bnd_some hr
      have hb590 := fun b hb => (OW.id_lt (i := b) h581 hb).2
      refine GL.callP g.good .nil rfl rfl rfl rfl rfl rfl Try.func53 rfl rfl hS578.lo (f_laws_markText_k  g hS578 hx584) (fun v n585 H586 hn587 hk588 hp589 => ?_)
      obtain ⟨hS591, rfl⟩ := hp589
      have h592 := OW.keep (n' := n585) h581 (by omega) (fun i hi => hk588 i (OW.id_lt h581 hi).2)
      have hS593 : St lo n585 H586 F411 := ⟨by have := hS578.lo; omega, hS591.hb, hS591.fh⟩
      have hlon585 := hS593.lo
      obtain ⟨x594, hx594, hr⟩ := bnd_some hr
      refine GL.indexO .nil rfl rfl rfl Try.underlying24 info54 rfl rfl h592 rfl hx594 (fun b595 kp596 c597 ecs598 hid602 hrow599 hwin600 hR601 hup603 => ?_)
      obtain ⟨rfl⟩ := GSession.ofR hR601
      refine WL.fieldAddr .nil rfl rfl rfl Try.underlying54 rfl info52 rfl rfl ?_
      refine WL.fieldAddr .nil rfl rfl rfl Try.underlying52 rfl info9 rfl rfl ?_
      refine GL.store hS593 .nil (vc := [str x584]) rfl rfl rfl info9 rfl rfl rfl rfl hrow599 (OW.fnone h592 hid602) (by first | exact win_fit hwin600 (Nat.le_of_ble_eq_true rfl) rfl (Nat.le_of_ble_eq_true rfl) | exact win_fit2 hwin600 (Nat.le_of_ble_eq_true rfl) rfl (Nat.le_of_ble_eq_true rfl) | exact win_fit3 hwin600 (Nat.le_of_ble_eq_true rfl) rfl (Nat.le_of_ble_eq_true rfl)) (OW.id_lt h592 hid602).1 (by repeat' (first | exact List.forall_mem_nil _ | refine List.forall_mem_cons.2 ⟨?_, ?_⟩ | rfl)) rfl (fun H604 hS605 ho606 hk607 => ?_)
      have h608 := hup603 4 [str x584] (({ Client := x594.Client, Seq := x594.Seq, Reply := ({ Code := x594.Reply.Code, Version := x594.Reply.Version, Sha := x584 } : GReply) } : GSession) : GSession) H604 (Nat.le_of_ble_eq_true rfl) (GSession.toR (x := ({ Client := x594.Client, Seq := x594.Seq, Reply := ({ Code := x594.Reply.Code, Version := x594.Reply.Version, Sha := x584 } : GReply) } : GSession))) ho606
      have hl609 : xs1.length = (setI (setI (setI (setI (setI xs414 x418 ({ Client := x417, Seq := x516.Seq, Reply := ({ Code := x516.Reply.Code, Version := x516.Reply.Version, Sha := x516.Reply.Sha } : GReply) } : GSession)) x418 ({ Client := x533.Client, Seq := (x417 + 1), Reply := ({ Code := x533.Reply.Code, Version := x533.Reply.Version, Sha := x533.Reply.Sha } : GReply) } : GSession)) x418 ({ Client := x550.Client, Seq := x550.Seq, Reply := ({ Code := ((x417 + 1) + 1), Version := x550.Reply.Version, Sha := x550.Reply.Sha } : GReply) } : GSession)) x418 ({ Client := x567.Client, Seq := x567.Seq, Reply := ({ Code := x567.Reply.Code, Version := (((x417 + 1) + 1) + 1), Sha := x567.Reply.Sha } : GReply) } : GSession)) x418 ({ Client := x594.Client, Seq := x594.Seq, Reply := ({ Code := x594.Reply.Code, Version := x594.Reply.Version, Sha := x584 } : GReply) } : GSession)).length := hl582.trans (setI_length _ _ _).symm
      with_reducible refine WL.nil ?_
      with_reducible refine Ex.thn_norm ?_
      with_reducible refine W.region ?_
      refine WL.move .nil rfl rfl rfl rfl ?_
      obtain ⟨hc610, hr⟩ := chk_some hr
      refine WL.addI .nil rfl rfl rfl rfl rfl hc610.1 hc610.2 ?_
      refine WL.assign .nil rfl rfl rfl rfl ?_
      with_reducible refine WL.nil ?_
      with_reducible refine Ex.blk_norm ?_
      with_reducible refine Ex.thn_norm ?_
      with_reducible refine W.region ?_
      refine WL.move .nil rfl rfl rfl rfl ?_
      obtain ⟨hc611, hr⟩ := chk_some hr
      refine WL.addI .nil rfl rfl rfl rfl rfl hc611.1 hc611.2 ?_
      refine WL.assign .nil rfl rfl rfl rfl ?_
      with_reducible refine WL.nil ?_
      with_reducible refine Ex.thn_norm ?_
      exact ⟨[(0, .slice a2 xs1.length cap3), (1, .int .i64 (((((x417 + 1) + 1) + 1) + 1) + 1)), (5, .int .i64 (x418 + 1))], (Fr.le_cons rfl (Fr.le_cons rfl (Fr.le_cons rfl Fr.le_nil))), (setI (setI (setI (setI (setI xs414 x418 ({ Client := x417, Seq := x516.Seq, Reply := ({ Code := x516.Reply.Code, Version := x516.Reply.Version, Sha := x516.Reply.Sha } : GReply) } : GSession)) x418 ({ Client := x533.Client, Seq := (x417 + 1), Reply := ({ Code := x533.Reply.Code, Version := x533.Reply.Version, Sha := x533.Reply.Sha } : GReply) } : GSession)) x418 ({ Client := x550.Client, Seq := x550.Seq, Reply := ({ Code := ((x417 + 1) + 1), Version := x550.Reply.Version, Sha := x550.Reply.Sha } : GReply) } : GSession)) x418 ({ Client := x567.Client, Seq := x567.Seq, Reply := ({ Code := x567.Reply.Code, Version := (((x417 + 1) + 1) + 1), Sha := x567.Reply.Sha } : GReply) } : GSession)) x418 ({ Client := x594.Client, Seq := x594.Seq, Reply := ({ Code := x594.Reply.Code, Version := x594.Reply.Version, Sha := x584 } : GReply) } : GSession)), (((((x417 + 1) + 1) + 1) + 1) + 1), (x418 + 1), F411, rfl, hS605, (hE413.up (by omega)), h608, hl609, hr⟩
    · replace hr := ite_neg hr hc420
      with_reducible refine W.exit ?_
      with_reducible refine Ex.thn_ex ?_
      with_reducible refine Ex.thn_ex ?_
      with_reducible refine Ex.blk_here ?_
      with_reducible refine Ex.thn_norm ?_
      with_reducible refine W.seq ?_
      with_reducible refine W.region ?_
      refine WL.move .nil rfl rfl rfl rfl ?_
      refine WL.assign .nil rfl rfl rfl rfl ?_
      with_reducible refine WL.nil ?_
      with_reducible refine Ex.thn_norm ?_
      with_reducible refine W.ret ?_
      obtain rfl := Option.some.inj hr
      exact ⟨.inr rfl, _, (.cons (.tmp rfl) .nil), ⟨F411, (hE413.up (by omega)), hS412, h415, hl416, rfl⟩⟩
theorem f_laws_heldFileS_k {Δ : Prims} (g : Env Try.prog Δ) {lo n0 : Nat} {H0 F0 : Heap} (hS : St lo n0 H0 F0) {a2 : Option Addr} {cap3 : Nat} {xs1 : (List GFile)} {x5 : Int} (h4 : SR F0 (.slice a2 xs1.length cap3) xs1) {res : (Int)} (hr : f_laws_heldFileS xs1 x5 = some res) :
    C Try.prog Δ n0 29 [.slice a2 xs1.length cap3, .int .i64 x5] n0 H0 (fun v n H => St n0 n H F0 ∧ v = .int .i64 res) := by
  refine C.body Try.func29 rfl rfl ?_
  unfold f_laws_heldFileS at hr
  have hS0 : St n0 n0 H0 F0 := hS.low (Nat.le_refl _)
  have hE0 := Ext.refl n0 F0
  have hlo0 := hS0.lo
  with_reducible refine W.seq ?_
  with_reducible refine W.region ?_
  refine WL.assign .nil rfl rfl rfl rfl ?_
  with_reducible refine WL.nil ?_
  with_reducible refine Ex.thn_norm ?_
  with_reducible refine W.seq ?_
  with_reducible refine W.seq ?_
  with_reducible refine W.region ?_
  refine WL.assign .nil rfl rfl rfl rfl ?_
  with_reducible refine WL.nil ?_
  with_reducible refine Ex.thn_norm ?_
  with_reducible refine W.block ?_
  refine W.loopF (fun k0 fr n H => ∃ (x228 : Int) (x229 : Int) (F : Heap), fr = [(0, .slice a2 xs1.length cap3), (1, .int .i64 x228), (5, .int .i64 x229)] ∧ St n0 n H F ∧ Ext n0 F0 n F ∧ SR F (.slice a2 xs1.length cap3) xs1 ∧ f_laws_heldFileS_L0 xs1 k0 x228 x229 = some res) BIG (fr0 := [(0, .slice a2 xs1.length cap3), (1, .int .i64 x5), (5, .int .i64 0)]) (Fr.le_cons rfl (Fr.le_cons rfl (Fr.le_cons rfl Fr.le_nil))) ?_ ?_ ?_
  · exact ⟨x5, 0, F0, rfl, hS0, hE0, h4, hr⟩
  · intro fr n H hI
    obtain ⟨x228, x229, F224, hfr, hS225, hE226, h227, hr⟩ := hI
    rw [f_laws_heldFileS_L0] at hr
    cases hr
  · intro k0 _ n222 H223 hI
    obtain ⟨x228, x229, F224, rfl, hS225, hE226, h227, hr⟩ := hI
    have hlen222 := hE226.le
    have hlon222 := hS225.lo
    rw [f_laws_heldFileS_L0] at hr
    with_reducible refine W.seq ?_
    with_reducible refine W.seq ?_
    with_reducible refine W.region ?_
    refine WL.move .nil rfl rfl rfl rfl ?_
    refine WL.move .nil rfl rfl rfl rfl ?_
    refine WL.len .nil rfl rfl rfl Try.underlying23 rfl ?_
    refine WL.bin .nil rfl rfl rfl rfl rfl rfl ?_
    with_reducible refine WL.nil ?_
    with_reducible refine Ex.thn_norm ?_
    refine W.condD rfl (fun hc231 => ?_) (fun hc231 => ?_)
    · replace hr := ite_pos hr hc231
      with_reducible refine W.skip ?_
      with_reducible refine Ex.thn_norm ?_
      with_reducible refine W.seq ?_
      with_reducible refine W.block ?_
      with_reducible refine W.seq ?_
      with_reducible refine W.seq ?_
      refine W.regionD [0, 1, 2, 3, 4, 5, 6, 7] [false, false, false, false, false, false, false, false] rfl rfl (by kernel_rfl) (by kernel_rfl) (by (conv => lhs; simp only [List.map_cons, List.map_nil, List.getD_cons_zero, List.getD_cons_succ]) <;> rfl) ?_
      refine WL.move .r rfl rfl rfl rfl ?_
      refine WL.move .r rfl rfl rfl rfl ?_
      obtain ⟨x281, hx281, hr⟩ := bnd_some hr
      refine GL.index .r rfl rfl rfl Try.underlying23 info50 rfl rfl h227 hS225.fh rfl hx281 (fun b282 kp283 c284 ecs285 hrow286 hwin287 hR288 => ?_)
      obtain ⟨rfl⟩ := GFile.ofR hR288
      refine WL.fieldAddr .r rfl rfl rfl Try.underlying50 rfl info9 rfl rfl ?_
      refine WL.load1 .r rfl rfl rfl Try.underlying9 rfl rfl hrow286 ((win_get0 hwin287 (show (0 : Nat) < 3 by decide)).trans rfl) ?_
      refine WL.move .r rfl rfl rfl rfl ?_
      obtain ⟨x289, hx289, hr⟩ := bnd_some hr
      refine GL.callP g.good .r rfl rfl rfl rfl rfl rfl Try.func53 rfl rfl (Nat.le_refl _) (f_laws_markText_k  g hS225 hx289) (fun v n290 H291 hn292 hk293 hp294 => ?_)
      obtain ⟨hS295, rfl⟩ := hp294
      have hS296 : St n0 n290 H291 F224 := ⟨by have := hS225.lo; omega, hS295.hb, hS295.fh⟩
      have hlon290 := hS296.lo
      refine GL.strCmp .r rfl rfl rfl rfl rfl (by decide) rfl ?_
      with_reducible refine WL.nil ?_
      with_reducible refine Ex.thn_norm ?_
      refine W.condN (p := lst x281.Name = lst x289) rfl (fun hc298 => ?_) (fun hc298 => ?_)
      · replace hr := ite_neg hr hc298
        with_reducible refine W.seq ?_
        with_reducible refine W.region ?_
        refine WL.assign .nil rfl rfl rfl rfl ?_
        with_reducible refine WL.nil ?_
        with_reducible refine Ex.thn_norm ?_
        with_reducible refine W.ret ?_
        with_reducible refine Ex.thn_ret ?_
        with_reducible refine Ex.blk_ret ?_
        with_reducible refine Ex.thn_ret ?_
        with_reducible refine Ex.thn_ret ?_
        with_reducible refine Ex.blk_ret ?_
        with_reducible refine Ex.thn_ret ?_
        obtain rfl := Option.some.inj hr
        exact ⟨.inr rfl, _, (.cons (.tmp rfl) .nil), ⟨(Ext.st hE226 hS296), rfl⟩⟩
      · replace hr := ite_pos hr hc298
        with_reducible refine W.skip ?_
        with_reducible refine Ex.thn_norm ?_
        with_reducible refine W.seq ?_
        with_reducible refine W.region ?_
        refine WL.move .nil rfl rfl rfl rfl ?_
        obtain ⟨hc299, hr⟩ := chk_some hr
        refine WL.addI .nil rfl rfl rfl rfl rfl hc299.1 hc299.2 ?_
        refine WL.assign .nil rfl rfl rfl rfl ?_
        with_reducible refine WL.nil ?_
        with_reducible refine Ex.thn_norm ?_
        with_reducible refine W.seq ?_
        with_reducible refine W.seq ?_
        with_reducible refine W.region ?_
        refine WL.move .nil rfl rfl rfl rfl ?_
        refine WL.move .nil rfl rfl rfl rfl ?_
        obtain ⟨x300, hx300, hr⟩ := bnd_some hr
        refine GL.index .nil rfl rfl rfl Try.underlying23 info50 rfl rfl h227 hS296.fh rfl hx300 (fun b301 kp302 c303 ecs304 hrow305 hwin306 hR307 => ?_)
        obtain ⟨rfl⟩ := GFile.ofR hR307
        refine WL.fieldAddr .nil rfl rfl rfl Try.underlying50 rfl info3 rfl rfl ?_
        refine WL.load1 .nil rfl rfl rfl Try.underlying3 rfl rfl hrow305 ((win_get (m := 1) hwin306 (show (1 : Nat) < 3 by decide)).trans rfl) ?_
        refine WL.move .nil rfl rfl rfl rfl ?_
        refine WL.bin .nil rfl rfl rfl rfl rfl rfl ?_
        with_reducible refine WL.nil ?_
        with_reducible refine Ex.thn_norm ?_
        refine W.condN rfl (fun hc309 => ?_) (fun hc309 => ?_)
        · replace hr := ite_neg hr hc309
          with_reducible refine W.seq ?_
          with_reducible refine W.region ?_
          refine WL.assign .nil rfl rfl rfl rfl ?_
          with_reducible refine WL.nil ?_
          with_reducible refine Ex.thn_norm ?_
          with_reducible refine W.ret ?_
          with_reducible refine Ex.thn_ret ?_
          with_reducible refine Ex.blk_ret ?_
          with_reducible refine Ex.thn_ret ?_
          with_reducible refine Ex.thn_ret ?_
          with_reducible refine Ex.blk_ret ?_
          with_reducible refine Ex.thn_ret ?_
          obtain rfl := Option.some.inj hr
          exact ⟨.inr rfl, _, (.cons (.tmp rfl) .nil), ⟨(Ext.st hE226 hS296), rfl⟩⟩
        · replace hr := ite_pos hr hc309
          with_reducible refine W.skip ?_
          with_reducible refine Ex.thn_norm ?_
          with_reducible refine W.seq ?_
          with_reducible refine W.region ?_
          refine WL.move .nil rfl rfl rfl rfl ?_
          obtain ⟨hc310, hr⟩ := chk_some hr
          refine WL.addI .nil rfl rfl rfl rfl rfl hc310.1 hc310.2 ?_
          refine WL.assign .nil rfl rfl rfl rfl ?_
          with_reducible refine WL.nil ?_
          with_reducible refine Ex.thn_norm ?_
          with_reducible refine W.seq ?_
          with_reducible refine W.seq ?_
          refine W.regionD [0, 1, 2, 3, 4, 5, 6, 7] [false, false, false, false, false, false, false, false] rfl rfl (by kernel_rfl) (by kernel_rfl) (by (conv => lhs; simp only [List.map_cons, List.map_nil, List.getD_cons_zero, List.getD_cons_succ]) <;> rfl) ?_
          refine WL.move .r rfl rfl rfl rfl ?_
          refine WL.move .r rfl rfl rfl rfl ?_
          obtain ⟨x311, hx311, hr⟩ := bnd_some hr
          refine GL.index .r rfl rfl rfl Try.underlying23 info50 rfl rfl h227 hS296.fh rfl hx311 (fun b312 kp313 c314 ecs315 hrow316 hwin317 hR318 => ?_)
          obtain ⟨rfl⟩ := GFile.ofR hR318
          refine WL.fieldAddr .r rfl rfl rfl Try.underlying50 rfl info9 rfl rfl ?_
          refine WL.load1 .r rfl rfl rfl Try.underlying9 rfl rfl hrow316 ((win_get (m := 2) hwin317 (show (2 : Nat) < 3 by decide)).trans rfl) ?_
          refine WL.move .r rfl rfl rfl rfl ?_
          obtain ⟨x319, hx319, hr⟩ := bnd_some hr
          refine GL.callP g.good .r rfl rfl rfl rfl rfl rfl Try.func53 rfl rfl (Nat.le_refl _) (f_laws_markText_k  g hS296 hx319) (fun v n320 H321 hn322 hk323 hp324 => ?_)
          obtain ⟨hS325, rfl⟩ := hp324
          have hS326 : St n0 n320 H321 F224 := ⟨by have := hS296.lo; omega, hS325.hb, hS325.fh⟩
          have hlon320 := hS326.lo
          refine GL.strCmp .r rfl rfl rfl rfl rfl (by decide) rfl ?_
          with_reducible refine WL.nil ?_
          with_reducible refine Ex.thn_norm ?_
          refine W.condN (p := lst x311.Text = lst x319) rfl (fun hc328 => ?_) (fun hc328 => ?_)
          · replace hr := ite_neg hr hc328
            with_reducible refine W.seq ?_
            with_reducible refine W.region ?_
            refine WL.assign .nil rfl rfl rfl rfl ?_
            with_reducible refine WL.nil ?_
            with_reducible refine Ex.thn_norm ?_
            with_reducible refine W.ret ?_
            with_reducible refine Ex.thn_ret ?_
            with_reducible refine Ex.blk_ret ?_
            with_reducible refine Ex.thn_ret ?_
            with_reducible refine Ex.thn_ret ?_
            with_reducible refine Ex.blk_ret ?_
            with_reducible refine Ex.thn_ret ?_
            obtain rfl := Option.some.inj hr
            exact ⟨.inr rfl, _, (.cons (.tmp rfl) .nil), ⟨(Ext.st hE226 hS326), rfl⟩⟩
          · replace hr := ite_pos hr hc328
            with_reducible refine W.skip ?_
            with_reducible refine Ex.thn_norm ?_
            with_reducible refine W.region ?_
            refine WL.move .nil rfl rfl rfl rfl ?_
            obtain ⟨hc329, hr⟩ := chk_some hr
            refine WL.addI .nil rfl rfl rfl rfl rfl hc329.1 hc329.2 ?_
            refine WL.assign .nil rfl rfl rfl rfl ?_
            with_reducible refine WL.nil ?_
            with_reducible refine Ex.blk_norm ?_
            with_reducible refine Ex.thn_norm ?_
            with_reducible refine W.region ?_
            refine WL.move .nil rfl rfl rfl rfl ?_
            obtain ⟨hc330, hr⟩ := chk_some hr
            refine WL.addI .nil rfl rfl rfl rfl rfl hc330.1 hc330.2 ?_
            refine WL.assign .nil rfl rfl rfl rfl ?_
            with_reducible refine WL.nil ?_
            with_reducible refine Ex.thn_norm ?_
            exact ⟨[(0, .slice a2 xs1.length cap3), (1, .int .i64 (((x228 + 1) + 1) + 1)), (5, .int .i64 (x229 + 1))], (Fr.le_cons rfl (Fr.le_cons rfl (Fr.le_cons rfl Fr.le_nil))), (((x228 + 1) + 1) + 1), (x229 + 1), F224, rfl, hS326, (hE226.up (by omega)), h227, hr⟩
    · replace hr := ite_neg hr hc231
      with_reducible refine W.exit ?_
      with_reducible refine Ex.thn_ex ?_
      with_reducible refine Ex.thn_ex ?_
      with_reducible refine Ex.blk_here ?_
      with_reducible refine Ex.thn_norm ?_
      with_reducible refine W.seq ?_
      with_reducible refine W.region ?_
      refine WL.move .nil rfl rfl rfl rfl ?_
      refine WL.assign .nil rfl rfl rfl rfl ?_
      with_reducible refine WL.nil ?_
      with_reducible refine Ex.thn_norm ?_
      with_reducible refine W.ret ?_
      obtain rfl := Option.some.inj hr
      exact ⟨.inr rfl, _, (.cons (.tmp rfl) .nil), ⟨(Ext.st hE226 hS225), rfl⟩⟩
theorem f_laws_heldSessionS_k {Δ : Prims} (g : Env Try.prog Δ) {lo n0 : Nat} {H0 F0 : Heap} (hS : St lo n0 H0 F0) {a2 : Option Addr} {cap3 : Nat} {xs1 : (List GSession)} {x5 : Int} (h4 : SR F0 (.slice a2 xs1.length cap3) xs1) {res : (Int)} (hr : f_laws_heldSessionS xs1 x5 = some res) :
    C Try.prog Δ n0 30 [.slice a2 xs1.length cap3, .int .i64 x5] n0 H0 (fun v n H => St n0 n H F0 ∧ v = .int .i64 res) := by
  refine C.body Try.func30 rfl rfl ?_
  unfold f_laws_heldSessionS at hr
  have hS0 : St n0 n0 H0 F0 := hS.low (Nat.le_refl _)
  have hE0 := Ext.refl n0 F0
  have hlo0 := hS0.lo
  with_reducible refine W.seq ?_
  with_reducible refine W.region ?_
  refine WL.assign .nil rfl rfl rfl rfl ?_
  with_reducible refine WL.nil ?_
  with_reducible refine Ex.thn_norm ?_
  with_reducible refine W.seq ?_
  with_reducible refine W.seq ?_
  with_reducible refine W.region ?_
  refine WL.assign .nil rfl rfl rfl rfl ?_
  with_reducible refine WL.nil ?_
  with_reducible refine Ex.thn_norm ?_
  with_reducible refine W.block ?_
  refine W.loopF (fun k0 fr n H => ∃ (x284 : Int) (x285 : Int) (F : Heap), fr = [(0, .slice a2 xs1.length cap3), (1, .int .i64 x284), (5, .int .i64 x285)] ∧ St n0 n H F ∧ Ext n0 F0 n F ∧ SR F (.slice a2 xs1.length cap3) xs1 ∧ f_laws_heldSessionS_L0 xs1 k0 x284 x285 = some res) BIG (fr0 := [(0, .slice a2 xs1.length cap3), (1, .int .i64 x5), (5, .int .i64 0)]) (Fr.le_cons rfl (Fr.le_cons rfl (Fr.le_cons rfl Fr.le_nil))) ?_ ?_ ?_
  · exact ⟨x5, 0, F0, rfl, hS0, hE0, h4, hr⟩
  · intro fr n H hI
    obtain ⟨x284, x285, F280, hfr, hS281, hE282, h283, hr⟩ := hI
    rw [f_laws_heldSessionS_L0] at hr
    cases hr
  · intro k0 _ n278 H279 hI
    obtain ⟨x284, x285, F280, rfl, hS281, hE282, h283, hr⟩ := hI
    have hlen278 := hE282.le
    have hlon278 := hS281.lo
    rw [f_laws_heldSessionS_L0] at hr
    with_reducible refine W.seq ?_
    with_reducible refine W.seq ?_
    with_reducible refine W.region ?_
    refine WL.move .nil rfl rfl rfl rfl ?_
    refine WL.move .nil rfl rfl rfl rfl ?_
    refine WL.len .nil rfl rfl rfl Try.underlying24 rfl ?_
    refine WL.bin .nil rfl rfl rfl rfl rfl rfl ?_
    with_reducible refine WL.nil ?_
    with_reducible refine Ex.thn_norm ?_
    refine W.condD rfl (fun hc287 => ?_) (fun hc287 => ?_)
    · replace hr := ite_pos hr hc287
      with_reducible refine W.skip ?_
      with_reducible refine Ex.thn_norm ?_
      with_reducible refine W.seq ?_
      with_reducible refine W.block ?_
      with_reducible refine W.seq ?_
      with_reducible refine W.seq ?_
      with_reducible refine W.region ?_
      refine WL.move .nil rfl rfl rfl rfl ?_
      refine WL.move .nil rfl rfl rfl rfl ?_
      obtain ⟨x351, hx351, hr⟩ := bnd_some hr
      refine GL.index .nil rfl rfl rfl Try.underlying24 info54 rfl rfl h283 hS281.fh rfl hx351 (fun b352 kp353 c354 ecs355 hrow356 hwin357 hR358 => ?_)
      obtain ⟨rfl⟩ := GSession.ofR hR358
      refine WL.fieldAddr .nil rfl rfl rfl Try.underlying54 rfl info3 rfl rfl ?_
      refine WL.load1 .nil rfl rfl rfl Try.underlying3 rfl rfl hrow356 ((win_get0 hwin357 (show (0 : Nat) < 5 by decide)).trans rfl) ?_
      refine WL.move .nil rfl rfl rfl rfl ?_
      refine WL.bin .nil rfl rfl rfl rfl rfl rfl ?_
      with_reducible refine WL.nil ?_
      with_reducible refine Ex.thn_norm ?_
      refine W.condN rfl (fun hc360 => ?_) (fun hc360 => ?_)
      · replace hr := ite_neg hr hc360
        with_reducible refine W.seq ?_
        with_reducible refine W.region ?_
        refine WL.assign .nil rfl rfl rfl rfl ?_
        with_reducible refine WL.nil ?_
        with_reducible refine Ex.thn_norm ?_
        with_reducible refine W.ret ?_
        with_reducible refine Ex.thn_ret ?_
        with_reducible refine Ex.blk_ret ?_
        with_reducible refine Ex.thn_ret ?_
        with_reducible refine Ex.thn_ret ?_
        with_reducible refine Ex.blk_ret ?_
        with_reducible refine Ex.thn_ret ?_
        obtain rfl := Option.some.inj hr
        exact ⟨.inr rfl, _, (.cons (.tmp rfl) .nil), ⟨(Ext.st hE282 hS281), rfl⟩⟩
      · replace hr := ite_pos hr hc360
        with_reducible refine W.skip ?_
        with_reducible refine Ex.thn_norm ?_
        with_reducible refine W.seq ?_
        with_reducible refine W.region ?_
        refine WL.move .nil rfl rfl rfl rfl ?_
        obtain ⟨hc361, hr⟩ := chk_some hr
        refine WL.addI .nil rfl rfl rfl rfl rfl hc361.1 hc361.2 ?_
        refine WL.assign .nil rfl rfl rfl rfl ?_
        with_reducible refine WL.nil ?_
        with_reducible refine Ex.thn_norm ?_
        with_reducible refine W.seq ?_
        with_reducible refine W.seq ?_
        with_reducible refine W.region ?_
        refine WL.move .nil rfl rfl rfl rfl ?_
        refine WL.move .nil rfl rfl rfl rfl ?_
        obtain ⟨x362, hx362, hr⟩ := bnd_some hr
        refine GL.index .nil rfl rfl rfl Try.underlying24 info54 rfl rfl h283 hS281.fh rfl hx362 (fun b363 kp364 c365 ecs366 hrow367 hwin368 hR369 => ?_)
        obtain ⟨rfl⟩ := GSession.ofR hR369
        refine WL.fieldAddr .nil rfl rfl rfl Try.underlying54 rfl info3 rfl rfl ?_
        refine WL.load1 .nil rfl rfl rfl Try.underlying3 rfl rfl hrow367 ((win_get (m := 1) hwin368 (show (1 : Nat) < 5 by decide)).trans rfl) ?_
        refine WL.move .nil rfl rfl rfl rfl ?_
        refine WL.bin .nil rfl rfl rfl rfl rfl rfl ?_
        with_reducible refine WL.nil ?_
        with_reducible refine Ex.thn_norm ?_
        refine W.condN rfl (fun hc371 => ?_) (fun hc371 => ?_)
        · replace hr := ite_neg hr hc371
          with_reducible refine W.seq ?_
          with_reducible refine W.region ?_
          refine WL.assign .nil rfl rfl rfl rfl ?_
          with_reducible refine WL.nil ?_
          with_reducible refine Ex.thn_norm ?_
          with_reducible refine W.ret ?_
          with_reducible refine Ex.thn_ret ?_
          with_reducible refine Ex.blk_ret ?_
          with_reducible refine Ex.thn_ret ?_
          with_reducible refine Ex.thn_ret ?_
          with_reducible refine Ex.blk_ret ?_
          with_reducible refine Ex.thn_ret ?_
          obtain rfl := Option.some.inj hr
          exact ⟨.inr rfl, _, (.cons (.tmp rfl) .nil), ⟨(Ext.st hE282 hS281), rfl⟩⟩
        · replace hr := ite_pos hr hc371
          with_reducible refine W.skip ?_
          with_reducible refine Ex.thn_norm ?_
          with_reducible refine W.seq ?_
          with_reducible refine W.region ?_
          refine WL.move .nil rfl rfl rfl rfl ?_
          obtain ⟨hc372, hr⟩ := chk_some hr
          refine WL.addI .nil rfl rfl rfl rfl rfl hc372.1 hc372.2 ?_
          refine WL.assign .nil rfl rfl rfl rfl ?_
          with_reducible refine WL.nil ?_
          with_reducible refine Ex.thn_norm ?_
          with_reducible refine W.seq ?_
          with_reducible refine W.seq ?_
          with_reducible refine W.region ?_
          refine WL.move .nil rfl rfl rfl rfl ?_
          refine WL.move .nil rfl rfl rfl rfl ?_
          obtain ⟨x373, hx373, hr⟩ := bnd_some hr
          refine GL.index .nil rfl rfl rfl Try.underlying24 info54 rfl rfl h283 hS281.fh rfl hx373 (fun b374 kp375 c376 ecs377 hrow378 hwin379 hR380 => ?_)
          obtain ⟨rfl⟩ := GSession.ofR hR380
          refine WL.fieldAddr .nil rfl rfl rfl Try.underlying54 rfl info52 rfl rfl ?_
          refine WL.fieldAddr .nil rfl rfl rfl Try.underlying52 rfl info3 rfl rfl ?_
          refine WL.load1 .nil rfl rfl rfl Try.underlying3 rfl rfl hrow378 ((win_get (m := 2) hwin379 (show (2 : Nat) < 5 by decide)).trans rfl) ?_
          refine WL.move .nil rfl rfl rfl rfl ?_
          refine WL.bin .nil rfl rfl rfl rfl rfl rfl ?_
          with_reducible refine WL.nil ?_
          with_reducible refine Ex.thn_norm ?_
          refine W.condN rfl (fun hc382 => ?_) (fun hc382 => ?_)
          · replace hr := ite_neg hr hc382
            with_reducible refine W.seq ?_
            with_reducible refine W.region ?_
            refine WL.assign .nil rfl rfl rfl rfl ?_
            with_reducible refine WL.nil ?_
            with_reducible refine Ex.thn_norm ?_
            with_reducible refine W.ret ?_
            with_reducible refine Ex.thn_ret ?_
            with_reducible refine Ex.blk_ret ?_
            with_reducible refine Ex.thn_ret ?_
            with_reducible refine Ex.thn_ret ?_
            with_reducible refine Ex.blk_ret ?_
            with_reducible refine Ex.thn_ret ?_
            obtain rfl := Option.some.inj hr
            exact ⟨.inr rfl, _, (.cons (.tmp rfl) .nil), ⟨(Ext.st hE282 hS281), rfl⟩⟩
          · replace hr := ite_pos hr hc382
            with_reducible refine W.skip ?_
            with_reducible refine Ex.thn_norm ?_
            with_reducible refine W.seq ?_
            with_reducible refine W.region ?_
            refine WL.move .nil rfl rfl rfl rfl ?_
            obtain ⟨hc383, hr⟩ := chk_some hr
            refine WL.addI .nil rfl rfl rfl rfl rfl hc383.1 hc383.2 ?_
            refine WL.assign .nil rfl rfl rfl rfl ?_
            with_reducible refine WL.nil ?_
            with_reducible refine Ex.thn_norm ?_
            with_reducible refine W.seq ?_
            with_reducible refine W.seq ?_
            with_reducible refine W.region ?_
            refine WL.move .nil rfl rfl rfl rfl ?_
            refine WL.move .nil rfl rfl rfl rfl ?_
            obtain ⟨x384, hx384, hr⟩ := bnd_some hr
            refine GL.index .nil rfl rfl rfl Try.underlying24 info54 rfl rfl h283 hS281.fh rfl hx384 (fun b385 kp386 c387 ecs388 hrow389 hwin390 hR391 => ?_)
            obtain ⟨rfl⟩ := GSession.ofR hR391
            refine WL.fieldAddr .nil rfl rfl rfl Try.underlying54 rfl info52 rfl rfl ?_
            refine WL.fieldAddr .nil rfl rfl rfl Try.underlying52 rfl info3 rfl rfl ?_
            refine WL.load1 .nil rfl rfl rfl Try.underlying3 rfl rfl hrow389 ((win_get (m := 3) hwin390 (show (3 : Nat) < 5 by decide)).trans rfl) ?_
            refine WL.move .nil rfl rfl rfl rfl ?_
            refine WL.bin .nil rfl rfl rfl rfl rfl rfl ?_
            with_reducible refine WL.nil ?_
            with_reducible refine Ex.thn_norm ?_
            refine W.condN rfl (fun hc393 => ?_) (fun hc393 => ?_)
            · replace hr := ite_neg hr hc393
              with_reducible refine W.seq ?_
              with_reducible refine W.region ?_
              refine WL.assign .nil rfl rfl rfl rfl ?_
              with_reducible refine WL.nil ?_
              with_reducible refine Ex.thn_norm ?_
              with_reducible refine W.ret ?_
              with_reducible refine Ex.thn_ret ?_
              with_reducible refine Ex.blk_ret ?_
              with_reducible refine Ex.thn_ret ?_
              with_reducible refine Ex.thn_ret ?_
              with_reducible refine Ex.blk_ret ?_
              with_reducible refine Ex.thn_ret ?_
              obtain rfl := Option.some.inj hr
              exact ⟨.inr rfl, _, (.cons (.tmp rfl) .nil), ⟨(Ext.st hE282 hS281), rfl⟩⟩
            · replace hr := ite_pos hr hc393
              with_reducible refine W.skip ?_
              with_reducible refine Ex.thn_norm ?_
              with_reducible refine W.seq ?_
              with_reducible refine W.region ?_
              refine WL.move .nil rfl rfl rfl rfl ?_
              obtain ⟨hc394, hr⟩ := chk_some hr
              refine WL.addI .nil rfl rfl rfl rfl rfl hc394.1 hc394.2 ?_
              refine WL.assign .nil rfl rfl rfl rfl ?_
              with_reducible refine WL.nil ?_
              with_reducible refine Ex.thn_norm ?_
              with_reducible refine W.seq ?_
              with_reducible refine W.seq ?_
              refine W.regionD [0, 1, 2, 3, 4, 5, 6, 7, 8] [false, false, false, false, false, false, false, false, false] rfl rfl (by kernel_rfl) (by kernel_rfl) (by (conv => lhs; simp only [List.map_cons, List.map_nil, List.getD_cons_zero, List.getD_cons_succ]) <;> rfl) ?_
              refine WL.move .r rfl rfl rfl rfl ?_
              refine WL.move .r rfl rfl rfl rfl ?_
              obtain ⟨x395, hx395, hr⟩ := bnd_some hr
              refine GL.index .r rfl rfl rfl Try.underlying24 info54 rfl rfl h283 hS281.fh rfl hx395 (fun b396 kp397 c398 ecs399 hrow400 hwin401 hR402 => ?_)
              obtain ⟨rfl⟩ := GSession.ofR hR402
              refine WL.fieldAddr .r rfl rfl rfl Try.underlying54 rfl info52 rfl rfl ?_
              refine WL.fieldAddr .r rfl rfl rfl Try.underlying52 rfl info9 rfl rfl ?_
              refine WL.load1 .r rfl rfl rfl Try.underlying9 rfl rfl hrow400 ((win_get (m := 4) hwin401 (show (4 : Nat) < 5 by decide)).trans rfl) ?_
              refine WL.move .r rfl rfl rfl rfl ?_
              obtain ⟨x403, hx403, hr⟩ := bnd_some hr
              refine GL.callP g.good .r rfl rfl rfl rfl rfl rfl Try.func53 rfl rfl (Nat.le_refl _) (f_laws_markText_k  g hS281 hx403) (fun v n404 H405 hn406 hk407 hp408 => ?_)
              obtain ⟨hS409, rfl⟩ := hp408
              have hS410 : St n0 n404 H405 F280 := ⟨by have := hS281.lo; omega, hS409.hb, hS409.fh⟩
              have hlon404 := hS410.lo
              refine GL.strCmp .r rfl rfl rfl rfl rfl (by decide) rfl ?_
              with_reducible refine WL.nil ?_
              with_reducible refine Ex.thn_norm ?_
              refine W.condN (p := lst x395.Reply.Sha = lst x403) rfl (fun hc412 => ?_) (fun hc412 => ?_)
              · replace hr := ite_neg hr hc412
                with_reducible refine W.seq ?_
                with_reducible refine W.region ?_
                refine WL.assign .nil rfl rfl rfl rfl ?_
                with_reducible refine WL.nil ?_
                with_reducible refine Ex.thn_norm ?_
                with_reducible refine W.ret ?_
                with_reducible refine Ex.thn_ret ?_
                with_reducible refine Ex.blk_ret ?_
                with_reducible refine Ex.thn_ret ?_
                with_reducible refine Ex.thn_ret ?_
                with_reducible refine Ex.blk_ret ?_
                with_reducible refine Ex.thn_ret ?_
                obtain rfl := Option.some.inj hr
                exact ⟨.inr rfl, _, (.cons (.tmp rfl) .nil), ⟨(Ext.st hE282 hS410), rfl⟩⟩
              · replace hr := ite_pos hr hc412
                with_reducible refine W.skip ?_
                with_reducible refine Ex.thn_norm ?_
                with_reducible refine W.region ?_
                refine WL.move .nil rfl rfl rfl rfl ?_
                obtain ⟨hc413, hr⟩ := chk_some hr
                refine WL.addI .nil rfl rfl rfl rfl rfl hc413.1 hc413.2 ?_
                refine WL.assign .nil rfl rfl rfl rfl ?_
                with_reducible refine WL.nil ?_
                with_reducible refine Ex.blk_norm ?_
                with_reducible refine Ex.thn_norm ?_
                with_reducible refine W.region ?_
                refine WL.move .nil rfl rfl rfl rfl ?_
                obtain ⟨hc414, hr⟩ := chk_some hr
                refine WL.addI .nil rfl rfl rfl rfl rfl hc414.1 hc414.2 ?_
                refine WL.assign .nil rfl rfl rfl rfl ?_
                with_reducible refine WL.nil ?_
                with_reducible refine Ex.thn_norm ?_
                exact ⟨[(0, .slice a2 xs1.length cap3), (1, .int .i64 (((((x284 + 1) + 1) + 1) + 1) + 1)), (5, .int .i64 (x285 + 1))], (Fr.le_cons rfl (Fr.le_cons rfl (Fr.le_cons rfl Fr.le_nil))), (((((x284 + 1) + 1) + 1) + 1) + 1), (x285 + 1), F280, rfl, hS410, (hE282.up (by omega)), h283, hr⟩
    · replace hr := ite_neg hr hc287
      with_reducible refine W.exit ?_
      with_reducible refine Ex.thn_ex ?_
      with_reducible refine Ex.thn_ex ?_
      with_reducible refine Ex.blk_here ?_
      with_reducible refine Ex.thn_norm ?_
      with_reducible refine W.seq ?_
      with_reducible refine W.region ?_
      refine WL.move .nil rfl rfl rfl rfl ?_
      refine WL.assign .nil rfl rfl rfl rfl ?_
      with_reducible refine WL.nil ?_
      with_reducible refine Ex.thn_norm ?_
      with_reducible refine W.ret ?_
      obtain rfl := Option.some.inj hr
      exact ⟨.inr rfl, _, (.cons (.tmp rfl) .nil), ⟨(Ext.st hE282 hS281), rfl⟩⟩
theorem f_laws_heldState_k {Δ : Prims} (g : Env Try.prog Δ) {lo n0 : Nat} {H0 F0 : Heap} (hS : St lo n0 H0 F0) {x1 : GState} {a2 : Option Addr} {cap3 : Nat} {a5 : Option Addr} {cap6 : Nat} {x8 : Int} (h4 : SR F0 (.slice a2 x1.Files.length cap3) x1.Files) (h7 : SR F0 (.slice a5 x1.Sessions.length cap6) x1.Sessions) {res : (Int)} (hr : f_laws_heldState x1 x8 = some res) :
    C Try.prog Δ n0 12 [.agg [.slice a2 x1.Files.length cap3, .slice a5 x1.Sessions.length cap6].toArray, .int .i64 x8] n0 H0 (fun v n H => St n0 n H F0 ∧ v = .int .i64 res) := by
  refine C.body Try.func12 rfl rfl ?_
  unfold f_laws_heldState at hr
  have hS0 : St n0 n0 H0 F0 := hS.low (Nat.le_refl _)
  have hE0 := Ext.refl n0 F0
  have hlo0 := hS0.lo
  with_reducible refine W.seq ?_
  with_reducible refine W.region ?_
  refine GL.box hS0 .nil (vc := [.slice a2 x1.Files.length cap3, .slice a5 x1.Sessions.length cap6]) rfl rfl rfl rfl rfl (by repeat' (first | exact List.forall_mem_nil _ | refine List.forall_mem_cons.2 ⟨?_, ?_⟩ | rfl)) (fun H9 hS10 ho11 hk12 => ?_)
  have fo13 := hS0.fnone (Nat.le_refl _)
  have hlon01 := hS10.lo
  have lt14 : n0 < (n0 + 1) := by omega
  refine WL.assign .nil rfl rfl rfl rfl ?_
  with_reducible refine WL.nil ?_
  with_reducible refine Ex.thn_norm ?_
  with_reducible refine W.seq ?_
  with_reducible refine W.region ?_
  refine WL.fieldAddr .nil rfl rfl rfl Try.underlying26 rfl info23 rfl rfl ?_
  refine WL.load1 .nil rfl rfl rfl Try.underlying23 rfl rfl ho11 rfl ?_
  refine WL.move .nil rfl rfl rfl rfl ?_
  obtain ⟨x15, hx15, hr⟩ := bnd_some hr
  refine GL.callP g.good .nil rfl rfl rfl rfl rfl rfl Try.func29 rfl rfl hS10.lo (f_laws_heldFileS_k  g hS10 h4 hx15) (fun v n16 H17 hn18 hk19 hp20 => ?_)
  obtain ⟨hS21, rfl⟩ := hp20
  have ho22 := (hk19 _ (by have := lt14; omega)).trans ho11
  have hS23 : St n0 n16 H17 F0 := ⟨by have := hS10.lo; omega, hS21.hb, hS21.fh⟩
  have hlon16 := hS23.lo
  refine WL.assign .nil rfl rfl rfl rfl ?_
  with_reducible refine WL.nil ?_
  with_reducible refine Ex.thn_norm ?_
  with_reducible refine W.seq ?_
  with_reducible refine W.seq ?_
  with_reducible refine W.region ?_
  refine WL.move .nil rfl rfl rfl rfl ?_
  refine WL.bin .nil rfl rfl rfl rfl rfl rfl ?_
  with_reducible refine WL.nil ?_
  with_reducible refine Ex.thn_norm ?_
  refine W.condD rfl (fun hc25 => ?_) (fun hc25 => ?_)
  · replace hr := ite_pos hr hc25
    with_reducible refine W.seq ?_
    with_reducible refine W.region ?_
    refine WL.assign .nil rfl rfl rfl rfl ?_
    with_reducible refine WL.nil ?_
    with_reducible refine Ex.thn_norm ?_
    with_reducible refine W.ret ?_
    with_reducible refine Ex.thn_ret ?_
    obtain rfl := Option.some.inj hr
    exact ⟨.inr rfl, _, (.cons (.tmp rfl) .nil), ⟨(Ext.st hE0 hS23), rfl⟩⟩
  · replace hr := ite_neg hr hc25
    with_reducible refine W.skip ?_
    with_reducible refine Ex.thn_norm ?_
    with_reducible refine W.seq ?_
    with_reducible refine W.region ?_
    refine WL.fieldAddr .nil rfl rfl rfl Try.underlying26 rfl info24 rfl rfl ?_
    refine WL.load1 .nil rfl rfl rfl Try.underlying24 rfl rfl ho22 rfl ?_
    refine WL.move .nil rfl rfl rfl rfl ?_
    obtain ⟨x26, hx26, hr⟩ := bnd_some hr
    refine GL.callP g.good .nil rfl rfl rfl rfl rfl rfl Try.func30 rfl rfl hS23.lo (f_laws_heldSessionS_k  g hS23 h7 hx26) (fun v n27 H28 hn29 hk30 hp31 => ?_)
    obtain ⟨hS32, rfl⟩ := hp31
    have ho33 := (hk30 _ (by have := lt14; omega)).trans ho22
    have hS34 : St n0 n27 H28 F0 := ⟨by have := hS23.lo; omega, hS32.hb, hS32.fh⟩
    have hlon27 := hS34.lo
    refine WL.assign .nil rfl rfl rfl rfl ?_
    with_reducible refine WL.nil ?_
    with_reducible refine Ex.thn_norm ?_
    with_reducible refine W.seq ?_
    with_reducible refine W.seq ?_
    with_reducible refine W.region ?_
    refine WL.move .nil rfl rfl rfl rfl ?_
    refine WL.bin .nil rfl rfl rfl rfl rfl rfl ?_
    with_reducible refine WL.nil ?_
    with_reducible refine Ex.thn_norm ?_
    refine W.condD rfl (fun hc35 => ?_) (fun hc35 => ?_)
    · replace hr := ite_pos hr hc35
      with_reducible refine W.seq ?_
      with_reducible refine W.region ?_
      refine WL.assign .nil rfl rfl rfl rfl ?_
      with_reducible refine WL.nil ?_
      with_reducible refine Ex.thn_norm ?_
      with_reducible refine W.ret ?_
      with_reducible refine Ex.thn_ret ?_
      obtain rfl := Option.some.inj hr
      exact ⟨.inr rfl, _, (.cons (.tmp rfl) .nil), ⟨(Ext.st hE0 hS34), rfl⟩⟩
    · replace hr := ite_neg hr hc35
      with_reducible refine W.skip ?_
      with_reducible refine Ex.thn_norm ?_
      with_reducible refine W.seq ?_
      with_reducible refine W.region ?_
      refine WL.move .nil rfl rfl rfl rfl ?_
      refine WL.assign .nil rfl rfl rfl rfl ?_
      with_reducible refine WL.nil ?_
      with_reducible refine Ex.thn_norm ?_
      with_reducible refine W.ret ?_
      obtain rfl := Option.some.inj hr
      exact ⟨.inr rfl, _, (.cons (.tmp rfl) .nil), ⟨(Ext.st hE0 hS34), rfl⟩⟩
end Go.Proofs.YtmodhnkjimpkbaaAb
