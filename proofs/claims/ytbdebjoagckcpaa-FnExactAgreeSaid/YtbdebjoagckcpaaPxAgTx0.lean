import Derived.Test.YtbdebjoagckcpaaPxAgD
import Derived.Test.YtbdebjoagckcpaaAbInfo
import Derived.KernelRfl
set_option linter.all false
set_option maxRecDepth 20000
namespace Go.Proofs.YtbdebjoagckcpaaAb
open Go Go.Proofs
theorem f_laws_szByteS_k {Δ : Prims} (g : Env Try.prog Δ) {lo n0 : Nat} {H0 F0 : Heap} (hS : St lo n0 H0 F0) {a2 : Option Addr} {cap3 : Nat} {xs1 : (List UInt8)} {x5 : Int} (h4 : SR F0 (.slice a2 xs1.length cap3) xs1) {res : (Int)} (hr : f_laws_szByteS xs1 x5 = some res) :
    C Try.prog Δ n0 123 [.slice a2 xs1.length cap3, .int .i64 x5] n0 H0 (fun v n H => St n0 n H F0 ∧ v = .int .i64 res) := by
  refine C.body Try.func123 rfl rfl ?_
  unfold f_laws_szByteS at hr
  have hS0 : St n0 n0 H0 F0 := hS.low (Nat.le_refl _)
  have hE0 := Ext.refl n0 F0
  have hlo0 := hS0.lo
  with_reducible refine W.seq ?_
  with_reducible refine W.region ?_
  refine WL.assign .nil rfl rfl rfl rfl ?_
  with_reducible refine WL.nil ?_
  with_reducible refine Ex.thn_norm ?_
  with_reducible refine W.seq ?_
  with_reducible refine W.region ?_
  refine WL.move .nil rfl rfl rfl rfl ?_
  refine WL.move .nil rfl rfl rfl rfl ?_
  refine WL.len .nil rfl rfl rfl Try.underlying24 rfl ?_
  obtain ⟨hc6, hr⟩ := chk_some hr
  refine WL.subI .nil rfl rfl rfl rfl rfl hc6.1 hc6.2 ?_
  refine WL.assign .nil rfl rfl rfl rfl ?_
  with_reducible refine WL.nil ?_
  with_reducible refine Ex.thn_norm ?_
  with_reducible refine W.seq ?_
  with_reducible refine W.seq ?_
  with_reducible refine W.region ?_
  refine WL.move .nil rfl rfl rfl rfl ?_
  refine WL.bin .nil rfl rfl rfl rfl rfl rfl ?_
  with_reducible refine WL.nil ?_
  with_reducible refine Ex.thn_norm ?_
  refine W.condD rfl (fun hc7 => ?_) (fun hc7 => ?_)
  · replace hr := ite_pos hr hc7
    with_reducible refine W.seq ?_
    with_reducible refine W.region ?_
    refine WL.assign .nil rfl rfl rfl rfl ?_
    with_reducible refine WL.nil ?_
    with_reducible refine Ex.thn_norm ?_
    with_reducible refine W.ret ?_
    with_reducible refine Ex.thn_ret ?_
    obtain rfl := Option.some.inj hr
    exact ⟨.inr rfl, _, (.cons (.tmp rfl) .nil), ⟨(Ext.st hE0 hS0), rfl⟩⟩
  · replace hr := ite_neg hr hc7
    with_reducible refine W.skip ?_
    with_reducible refine Ex.thn_norm ?_
    with_reducible refine W.seq ?_
    with_reducible refine W.region ?_
    refine WL.move .nil rfl rfl rfl rfl ?_
    refine WL.assign .nil rfl rfl rfl rfl ?_
    with_reducible refine WL.nil ?_
    with_reducible refine Ex.thn_norm ?_
    with_reducible refine W.ret ?_
    obtain rfl := Option.some.inj hr
    exact ⟨.inr rfl, _, (.cons (.tmp rfl) .nil), ⟨(Ext.st hE0 hS0), rfl⟩⟩
theorem f_laws_szRec_k {Δ : Prims} (g : Env Try.prog Δ) {lo n0 : Nat} {H0 F0 : Heap} (hS : St lo n0 H0 F0) {x1 : GRec} {a2 : Option Addr} {cap3 : Nat} {x5 : Int} (h4 : SR F0 (.slice a2 x1.Data.length cap3) x1.Data) {res : (Int)} (hr : f_laws_szRec x1 x5 = some res) :
    C Try.prog Δ n0 96 [.agg [.int .i64 x1.Term, .int .i64 x1.Index, .slice a2 x1.Data.length cap3].toArray, .int .i64 x5] n0 H0 (fun v n H => St n0 n H F0 ∧ v = .int .i64 res) := by
  refine C.body Try.func96 rfl rfl ?_
  unfold f_laws_szRec at hr
  have hS0 : St n0 n0 H0 F0 := hS.low (Nat.le_refl _)
  have hE0 := Ext.refl n0 F0
  have hlo0 := hS0.lo
  with_reducible refine W.seq ?_
  with_reducible refine W.region ?_
  refine GL.box hS0 .nil (vc := [.int .i64 x1.Term, .int .i64 x1.Index, .slice a2 x1.Data.length cap3]) rfl rfl rfl rfl rfl (by repeat' (first | exact List.forall_mem_nil _ | refine List.forall_mem_cons.2 ⟨?_, ?_⟩ | rfl)) (fun H6 hS7 ho8 hk9 => ?_)
  have fo10 := hS0.fnone (Nat.le_refl _)
  have hlon01 := hS7.lo
  have lt11 : n0 < (n0 + 1) := by omega
  refine WL.assign .nil rfl rfl rfl rfl ?_
  with_reducible refine WL.nil ?_
  with_reducible refine Ex.thn_norm ?_
  with_reducible refine W.seq ?_
  with_reducible refine W.region ?_
  refine WL.fieldAddr .nil rfl rfl rfl Try.underlying125 rfl info24 rfl rfl ?_
  refine WL.load1 .nil rfl rfl rfl Try.underlying24 rfl rfl ho8 rfl ?_
  refine WL.move .nil rfl rfl rfl rfl ?_
  obtain ⟨x12, hx12, hr⟩ := bnd_some hr
  refine GL.callP g.good .nil rfl rfl rfl rfl rfl rfl Try.func123 rfl rfl hS7.lo (f_laws_szByteS_k  g hS7 h4 hx12) (fun v n13 H14 hn15 hk16 hp17 => ?_)
  obtain ⟨hS18, rfl⟩ := hp17
  have ho19 := (hk16 _ (by have := lt11; omega)).trans ho8
  have hS20 : St n0 n13 H14 F0 := ⟨by have := hS7.lo; omega, hS18.hb, hS18.fh⟩
  have hlon13 := hS20.lo
  refine WL.assign .nil rfl rfl rfl rfl ?_
  with_reducible refine WL.nil ?_
  with_reducible refine Ex.thn_norm ?_
  with_reducible refine W.seq ?_
  with_reducible refine W.seq ?_
  with_reducible refine W.region ?_
  refine WL.move .nil rfl rfl rfl rfl ?_
  refine WL.bin .nil rfl rfl rfl rfl rfl rfl ?_
  with_reducible refine WL.nil ?_
  with_reducible refine Ex.thn_norm ?_
  refine W.condD rfl (fun hc21 => ?_) (fun hc21 => ?_)
  · replace hr := ite_pos hr hc21
    with_reducible refine W.seq ?_
    with_reducible refine W.region ?_
    refine WL.assign .nil rfl rfl rfl rfl ?_
    with_reducible refine WL.nil ?_
    with_reducible refine Ex.thn_norm ?_
    with_reducible refine W.ret ?_
    with_reducible refine Ex.thn_ret ?_
    obtain rfl := Option.some.inj hr
    exact ⟨.inr rfl, _, (.cons (.tmp rfl) .nil), ⟨(Ext.st hE0 hS20), rfl⟩⟩
  · replace hr := ite_neg hr hc21
    with_reducible refine W.skip ?_
    with_reducible refine Ex.thn_norm ?_
    with_reducible refine W.seq ?_
    with_reducible refine W.region ?_
    refine WL.move .nil rfl rfl rfl rfl ?_
    refine WL.assign .nil rfl rfl rfl rfl ?_
    with_reducible refine WL.nil ?_
    with_reducible refine Ex.thn_norm ?_
    with_reducible refine W.ret ?_
    obtain rfl := Option.some.inj hr
    exact ⟨.inr rfl, _, (.cons (.tmp rfl) .nil), ⟨(Ext.st hE0 hS20), rfl⟩⟩
theorem f_laws_szRecS_k {Δ : Prims} (g : Env Try.prog Δ) {lo n0 : Nat} {H0 F0 : Heap} (hS : St lo n0 H0 F0) {a2 : Option Addr} {cap3 : Nat} {xs1 : (List GRec)} {x5 : Int} (h4 : SR F0 (.slice a2 xs1.length cap3) xs1) {res : (Int)} (hr : f_laws_szRecS xs1 x5 = some res) :
    C Try.prog Δ n0 55 [.slice a2 xs1.length cap3, .int .i64 x5] n0 H0 (fun v n H => St n0 n H F0 ∧ v = .int .i64 res) := by
  refine C.body Try.func55 rfl rfl ?_
  unfold f_laws_szRecS at hr
  have hS0 : St n0 n0 H0 F0 := hS.low (Nat.le_refl _)
  have hE0 := Ext.refl n0 F0
  have hlo0 := hS0.lo
  with_reducible refine W.seq ?_
  with_reducible refine W.region ?_
  refine WL.assign .nil rfl rfl rfl rfl ?_
  with_reducible refine WL.nil ?_
  with_reducible refine Ex.thn_norm ?_
  with_reducible refine W.seq ?_
  with_reducible refine W.region ?_
  refine WL.move .nil rfl rfl rfl rfl ?_
  refine WL.move .nil rfl rfl rfl rfl ?_
  refine WL.len .nil rfl rfl rfl Try.underlying57 rfl ?_
  obtain ⟨hc6, hr⟩ := chk_some hr
  refine WL.subI .nil rfl rfl rfl rfl rfl hc6.1 hc6.2 ?_
  refine WL.assign .nil rfl rfl rfl rfl ?_
  with_reducible refine WL.nil ?_
  with_reducible refine Ex.thn_norm ?_
  with_reducible refine W.seq ?_
  with_reducible refine W.seq ?_
  with_reducible refine W.region ?_
  refine WL.move .nil rfl rfl rfl rfl ?_
  refine WL.bin .nil rfl rfl rfl rfl rfl rfl ?_
  with_reducible refine WL.nil ?_
  with_reducible refine Ex.thn_norm ?_
  refine W.condD rfl (fun hc8 => ?_) (fun hc8 => ?_)
  · replace hr := ite_pos hr hc8
    with_reducible refine W.seq ?_
    with_reducible refine W.region ?_
    refine WL.assign .nil rfl rfl rfl rfl ?_
    with_reducible refine WL.nil ?_
    with_reducible refine Ex.thn_norm ?_
    with_reducible refine W.ret ?_
    with_reducible refine Ex.thn_ret ?_
    obtain rfl := Option.some.inj hr
    exact ⟨.inr rfl, _, (.cons (.tmp rfl) .nil), ⟨(Ext.st hE0 hS0), rfl⟩⟩
  · replace hr := ite_neg hr hc8
    with_reducible refine W.skip ?_
    with_reducible refine Ex.thn_norm ?_
    with_reducible refine W.seq ?_
    with_reducible refine W.seq ?_
    with_reducible refine W.region ?_
    refine WL.assign .nil rfl rfl rfl rfl ?_
    with_reducible refine WL.nil ?_
    with_reducible refine Ex.thn_norm ?_
    with_reducible refine W.block ?_
    refine W.loopF (fun k0 fr n H => ∃ (x115 : Int) (x116 : Int) (F : Heap), fr = [(0, .slice a2 xs1.length cap3), (1, .int .i64 x115), (5, .int .i64 x116)] ∧ St n0 n H F ∧ Ext n0 F0 n F ∧ SR F (.slice a2 xs1.length cap3) xs1 ∧ f_laws_szRecS_L0 xs1 k0 x115 x116 = some res) BIG (fr0 := [(0, .slice a2 xs1.length cap3), (1, .int .i64 (x5 - (xs1.length : Int))), (5, .int .i64 0)]) (Fr.le_cons rfl (Fr.le_cons rfl (Fr.le_cons rfl Fr.le_nil))) ?_ ?_ ?_
    · exact ⟨(x5 - (xs1.length : Int)), 0, F0, rfl, hS0, hE0, h4, hr⟩
    · intro fr n H hI
      obtain ⟨x115, x116, F111, hfr, hS112, hE113, h114, hr⟩ := hI
      rw [f_laws_szRecS_L0] at hr
      cases hr
    · intro k0 _ n109 H110 hI
      obtain ⟨x115, x116, F111, rfl, hS112, hE113, h114, hr⟩ := hI
      have hlen109 := hE113.le
      have hlon109 := hS112.lo
      rw [f_laws_szRecS_L0] at hr
      with_reducible refine W.seq ?_
      with_reducible refine W.seq ?_
      with_reducible refine W.region ?_
      refine WL.move .nil rfl rfl rfl rfl ?_
      refine WL.move .nil rfl rfl rfl rfl ?_
      refine WL.len .nil rfl rfl rfl Try.underlying57 rfl ?_
      refine WL.bin .nil rfl rfl rfl rfl rfl rfl ?_
      with_reducible refine WL.nil ?_
      with_reducible refine Ex.thn_norm ?_
      refine W.condD rfl (fun hc118 => ?_) (fun hc118 => ?_)
      · replace hr := ite_pos hr hc118
        with_reducible refine W.skip ?_
        with_reducible refine Ex.thn_norm ?_
        with_reducible refine W.seq ?_
        with_reducible refine W.block ?_
        with_reducible refine W.seq ?_
        with_reducible refine W.region ?_
        refine WL.move .nil rfl rfl rfl rfl ?_
        refine WL.move .nil rfl rfl rfl rfl ?_
        obtain ⟨x139, hx139, hr⟩ := bnd_some hr
        refine GL.index .nil rfl rfl rfl Try.underlying57 info125 rfl rfl h114 hS112.fh rfl hx139 (fun b140 kp141 c142 ecs143 hrow144 hwin145 hR146 => ?_)
        obtain ⟨a147, cap148, rfl, h149⟩ := GRec.ofR hR146
        refine WL.loadN .nil (l' := [.int .i64 x139.Term, .int .i64 x139.Index, .slice a147 x139.Data.length cap148]) rfl rfl rfl Try.underlying125 rfl info125 rfl hrow144 hwin145 rfl ?_
        refine WL.move .nil rfl rfl rfl rfl ?_
        obtain ⟨x150, hx150, hr⟩ := bnd_some hr
        refine GL.callP g.good .nil rfl rfl rfl rfl rfl rfl Try.func96 rfl rfl hS112.lo (f_laws_szRec_k  g hS112 h149 hx150) (fun v n151 H152 hn153 hk154 hp155 => ?_)
        obtain ⟨hS156, rfl⟩ := hp155
        have hS157 : St n0 n151 H152 F111 := ⟨by have := hS112.lo; omega, hS156.hb, hS156.fh⟩
        have hlon151 := hS157.lo
        refine WL.assign .nil rfl rfl rfl rfl ?_
        with_reducible refine WL.nil ?_
        with_reducible refine Ex.thn_norm ?_
        with_reducible refine W.seq ?_
        with_reducible refine W.region ?_
        refine WL.move .nil rfl rfl rfl rfl ?_
        refine WL.bin .nil rfl rfl rfl rfl rfl rfl ?_
        with_reducible refine WL.nil ?_
        with_reducible refine Ex.thn_norm ?_
        refine W.condD rfl (fun hc158 => ?_) (fun hc158 => ?_)
        · replace hr := ite_pos hr hc158
          with_reducible refine W.seq ?_
          with_reducible refine W.region ?_
          refine WL.assign .nil rfl rfl rfl rfl ?_
          with_reducible refine WL.nil ?_
          with_reducible refine Ex.thn_norm ?_
          with_reducible refine W.ret ?_
          with_reducible refine Ex.blk_ret ?_
          with_reducible refine Ex.thn_ret ?_
          with_reducible refine Ex.thn_ret ?_
          with_reducible refine Ex.blk_ret ?_
          with_reducible refine Ex.thn_ret ?_
          obtain rfl := Option.some.inj hr
          exact ⟨.inr rfl, _, (.cons (.tmp rfl) .nil), ⟨(Ext.st hE113 hS157), rfl⟩⟩
        · replace hr := ite_neg hr hc158
          with_reducible refine W.skip ?_
          with_reducible refine Ex.blk_norm ?_
          with_reducible refine Ex.thn_norm ?_
          with_reducible refine W.region ?_
          refine WL.move .nil rfl rfl rfl rfl ?_
          obtain ⟨hc159, hr⟩ := chk_some hr
          refine WL.addI .nil rfl rfl rfl rfl rfl hc159.1 hc159.2 ?_
          refine WL.assign .nil rfl rfl rfl rfl ?_
          with_reducible refine WL.nil ?_
          with_reducible refine Ex.thn_norm ?_
          exact ⟨[(0, .slice a2 xs1.length cap3), (1, .int .i64 x150), (5, .int .i64 (x116 + 1))], (Fr.le_cons rfl (Fr.le_cons rfl (Fr.le_cons rfl Fr.le_nil))), x150, (x116 + 1), F111, rfl, hS157, (hE113.up (by omega)), h114, hr⟩
      · replace hr := ite_neg hr hc118
        with_reducible refine W.exit ?_
        with_reducible refine Ex.thn_ex ?_
        with_reducible refine Ex.thn_ex ?_
        with_reducible refine Ex.blk_here ?_
        with_reducible refine Ex.thn_norm ?_
        with_reducible refine W.seq ?_
        with_reducible refine W.region ?_
        refine WL.move .nil rfl rfl rfl rfl ?_
        refine WL.assign .nil rfl rfl rfl rfl ?_
        with_reducible refine WL.nil ?_
        with_reducible refine Ex.thn_norm ?_
        with_reducible refine W.ret ?_
        obtain rfl := Option.some.inj hr
        exact ⟨.inr rfl, _, (.cons (.tmp rfl) .nil), ⟨(Ext.st hE113 hS112), rfl⟩⟩
theorem f_laws_szBoolS_k {Δ : Prims} (g : Env Try.prog Δ) {lo n0 : Nat} {H0 F0 : Heap} (hS : St lo n0 H0 F0) {a2 : Option Addr} {cap3 : Nat} {xs1 : (List Bool)} {x5 : Int} (h4 : SR F0 (.slice a2 xs1.length cap3) xs1) {res : (Int)} (hr : f_laws_szBoolS xs1 x5 = some res) :
    C Try.prog Δ n0 121 [.slice a2 xs1.length cap3, .int .i64 x5] n0 H0 (fun v n H => St n0 n H F0 ∧ v = .int .i64 res) := by
  refine C.body Try.func121 rfl rfl ?_
  unfold f_laws_szBoolS at hr
  have hS0 : St n0 n0 H0 F0 := hS.low (Nat.le_refl _)
  have hE0 := Ext.refl n0 F0
  have hlo0 := hS0.lo
  with_reducible refine W.seq ?_
  with_reducible refine W.region ?_
  refine WL.assign .nil rfl rfl rfl rfl ?_
  with_reducible refine WL.nil ?_
  with_reducible refine Ex.thn_norm ?_
  with_reducible refine W.seq ?_
  with_reducible refine W.region ?_
  refine WL.move .nil rfl rfl rfl rfl ?_
  refine WL.move .nil rfl rfl rfl rfl ?_
  refine WL.len .nil rfl rfl rfl Try.underlying86 rfl ?_
  obtain ⟨hc6, hr⟩ := chk_some hr
  refine WL.subI .nil rfl rfl rfl rfl rfl hc6.1 hc6.2 ?_
  refine WL.assign .nil rfl rfl rfl rfl ?_
  with_reducible refine WL.nil ?_
  with_reducible refine Ex.thn_norm ?_
  with_reducible refine W.seq ?_
  with_reducible refine W.seq ?_
  with_reducible refine W.region ?_
  refine WL.move .nil rfl rfl rfl rfl ?_
  refine WL.bin .nil rfl rfl rfl rfl rfl rfl ?_
  with_reducible refine WL.nil ?_
  with_reducible refine Ex.thn_norm ?_
  refine W.condD rfl (fun hc7 => ?_) (fun hc7 => ?_)
  · replace hr := ite_pos hr hc7
    with_reducible refine W.seq ?_
    with_reducible refine W.region ?_
    refine WL.assign .nil rfl rfl rfl rfl ?_
    with_reducible refine WL.nil ?_
    with_reducible refine Ex.thn_norm ?_
    with_reducible refine W.ret ?_
    with_reducible refine Ex.thn_ret ?_
    obtain rfl := Option.some.inj hr
    exact ⟨.inr rfl, _, (.cons (.tmp rfl) .nil), ⟨(Ext.st hE0 hS0), rfl⟩⟩
  · replace hr := ite_neg hr hc7
    with_reducible refine W.skip ?_
    with_reducible refine Ex.thn_norm ?_
    with_reducible refine W.seq ?_
    with_reducible refine W.region ?_
    refine WL.move .nil rfl rfl rfl rfl ?_
    refine WL.assign .nil rfl rfl rfl rfl ?_
    with_reducible refine WL.nil ?_
    with_reducible refine Ex.thn_norm ?_
    with_reducible refine W.ret ?_
    obtain rfl := Option.some.inj hr
    exact ⟨.inr rfl, _, (.cons (.tmp rfl) .nil), ⟨(Ext.st hE0 hS0), rfl⟩⟩
theorem f_laws_szIntS_k {Δ : Prims} (g : Env Try.prog Δ) {lo n0 : Nat} {H0 F0 : Heap} (hS : St lo n0 H0 F0) {a2 : Option Addr} {cap3 : Nat} {xs1 : (List Int)} {x5 : Int} (h4 : SR F0 (.slice a2 xs1.length cap3) xs1) {res : (Int)} (hr : f_laws_szIntS xs1 x5 = some res) :
    C Try.prog Δ n0 122 [.slice a2 xs1.length cap3, .int .i64 x5] n0 H0 (fun v n H => St n0 n H F0 ∧ v = .int .i64 res) := by
  refine C.body Try.func122 rfl rfl ?_
  unfold f_laws_szIntS at hr
  have hS0 : St n0 n0 H0 F0 := hS.low (Nat.le_refl _)
  have hE0 := Ext.refl n0 F0
  have hlo0 := hS0.lo
  with_reducible refine W.seq ?_
  with_reducible refine W.region ?_
  refine WL.assign .nil rfl rfl rfl rfl ?_
  with_reducible refine WL.nil ?_
  with_reducible refine Ex.thn_norm ?_
  with_reducible refine W.seq ?_
  with_reducible refine W.region ?_
  refine WL.move .nil rfl rfl rfl rfl ?_
  refine WL.move .nil rfl rfl rfl rfl ?_
  refine WL.len .nil rfl rfl rfl Try.underlying33 rfl ?_
  obtain ⟨hc6, hr⟩ := chk_some hr
  refine WL.subI .nil rfl rfl rfl rfl rfl hc6.1 hc6.2 ?_
  refine WL.assign .nil rfl rfl rfl rfl ?_
  with_reducible refine WL.nil ?_
  with_reducible refine Ex.thn_norm ?_
  with_reducible refine W.seq ?_
  with_reducible refine W.seq ?_
  with_reducible refine W.region ?_
  refine WL.move .nil rfl rfl rfl rfl ?_
  refine WL.bin .nil rfl rfl rfl rfl rfl rfl ?_
  with_reducible refine WL.nil ?_
  with_reducible refine Ex.thn_norm ?_
  refine W.condD rfl (fun hc7 => ?_) (fun hc7 => ?_)
  · replace hr := ite_pos hr hc7
    with_reducible refine W.seq ?_
    with_reducible refine W.region ?_
    refine WL.assign .nil rfl rfl rfl rfl ?_
    with_reducible refine WL.nil ?_
    with_reducible refine Ex.thn_norm ?_
    with_reducible refine W.ret ?_
    with_reducible refine Ex.thn_ret ?_
    obtain rfl := Option.some.inj hr
    exact ⟨.inr rfl, _, (.cons (.tmp rfl) .nil), ⟨(Ext.st hE0 hS0), rfl⟩⟩
  · replace hr := ite_neg hr hc7
    with_reducible refine W.skip ?_
    with_reducible refine Ex.thn_norm ?_
    with_reducible refine W.seq ?_
    with_reducible refine W.region ?_
    refine WL.move .nil rfl rfl rfl rfl ?_
    refine WL.assign .nil rfl rfl rfl rfl ?_
    with_reducible refine WL.nil ?_
    with_reducible refine Ex.thn_norm ?_
    with_reducible refine W.ret ?_
    obtain rfl := Option.some.inj hr
    exact ⟨.inr rfl, _, (.cons (.tmp rfl) .nil), ⟨(Ext.st hE0 hS0), rfl⟩⟩
theorem f_laws_szPeer_k {Δ : Prims} (g : Env Try.prog Δ) {lo n0 : Nat} {H0 F0 : Heap} (hS : St lo n0 H0 F0) {x1 : GPeer} {a2 : Option Addr} {cap3 : Nat} {a5 : Option Addr} {cap6 : Nat} {a8 : Option Addr} {cap9 : Nat} {a11 : Option Addr} {cap12 : Nat} {x14 : Int} (h4 : SR F0 (.slice a2 x1.Log.length cap3) x1.Log) (h7 : SR F0 (.slice a5 x1.Votes.length cap6) x1.Votes) (h10 : SR F0 (.slice a8 x1.Next.length cap9) x1.Next) (h13 : SR F0 (.slice a11 x1.Match.length cap12) x1.Match) {res : (Int)} (hr : f_laws_szPeer x1 x14 = some res) :
    C Try.prog Δ n0 94 [.agg [.bool x1.Up, .int .i64 x1.Term, .int .i64 x1.Vote, .int .i64 x1.Commit, .int .i64 x1.Role, .slice a2 x1.Log.length cap3, .slice a5 x1.Votes.length cap6, .slice a8 x1.Next.length cap9, .slice a11 x1.Match.length cap12].toArray, .int .i64 x14] n0 H0 (fun v n H => St n0 n H F0 ∧ v = .int .i64 res) := by
  refine C.body Try.func94 rfl rfl ?_
  unfold f_laws_szPeer at hr
  have hS0 : St n0 n0 H0 F0 := hS.low (Nat.le_refl _)
  have hE0 := Ext.refl n0 F0
  have hlo0 := hS0.lo
  with_reducible refine W.seq ?_
  with_reducible refine W.region ?_
  refine GL.box hS0 .nil (vc := [.bool x1.Up, .int .i64 x1.Term, .int .i64 x1.Vote, .int .i64 x1.Commit, .int .i64 x1.Role, .slice a2 x1.Log.length cap3, .slice a5 x1.Votes.length cap6, .slice a8 x1.Next.length cap9, .slice a11 x1.Match.length cap12]) rfl rfl rfl rfl rfl (by repeat' (first | exact List.forall_mem_nil _ | refine List.forall_mem_cons.2 ⟨?_, ?_⟩ | rfl)) (fun H15 hS16 ho17 hk18 => ?_)
  have fo19 := hS0.fnone (Nat.le_refl _)
  have hlon01 := hS16.lo
  have lt20 : n0 < (n0 + 1) := by omega
  refine WL.assign .nil rfl rfl rfl rfl ?_
  with_reducible refine WL.nil ?_
  with_reducible refine Ex.thn_norm ?_
  with_reducible refine W.seq ?_
  with_reducible refine W.region ?_
  refine WL.fieldAddr .nil rfl rfl rfl Try.underlying120 rfl info57 rfl rfl ?_
  refine WL.load1 .nil rfl rfl rfl Try.underlying57 rfl rfl ho17 rfl ?_
  refine WL.move .nil rfl rfl rfl rfl ?_
  obtain ⟨x21, hx21, hr⟩ := bnd_some hr
  refine GL.callP g.good .nil rfl rfl rfl rfl rfl rfl Try.func55 rfl rfl hS16.lo (f_laws_szRecS_k  g hS16 h4 hx21) (fun v n22 H23 hn24 hk25 hp26 => ?_)
  obtain ⟨hS27, rfl⟩ := hp26
  have ho28 := (hk25 _ (by have := lt20; omega)).trans ho17
  have hS29 : St n0 n22 H23 F0 := ⟨by have := hS16.lo; omega, hS27.hb, hS27.fh⟩
  have hlon22 := hS29.lo
  refine WL.assign .nil rfl rfl rfl rfl ?_
  with_reducible refine WL.nil ?_
  with_reducible refine Ex.thn_norm ?_
  with_reducible refine W.seq ?_
  with_reducible refine W.seq ?_
  with_reducible refine W.region ?_
  refine WL.move .nil rfl rfl rfl rfl ?_
  refine WL.bin .nil rfl rfl rfl rfl rfl rfl ?_
  with_reducible refine WL.nil ?_
  with_reducible refine Ex.thn_norm ?_
  refine W.condD rfl (fun hc31 => ?_) (fun hc31 => ?_)
  · replace hr := ite_pos hr hc31
    with_reducible refine W.seq ?_
    with_reducible refine W.region ?_
    refine WL.assign .nil rfl rfl rfl rfl ?_
    with_reducible refine WL.nil ?_
    with_reducible refine Ex.thn_norm ?_
    with_reducible refine W.ret ?_
    with_reducible refine Ex.thn_ret ?_
    obtain rfl := Option.some.inj hr
    exact ⟨.inr rfl, _, (.cons (.tmp rfl) .nil), ⟨(Ext.st hE0 hS29), rfl⟩⟩
  · replace hr := ite_neg hr hc31
    with_reducible refine W.skip ?_
    with_reducible refine Ex.thn_norm ?_
    with_reducible refine W.seq ?_
    with_reducible refine W.region ?_
    refine WL.fieldAddr .nil rfl rfl rfl Try.underlying120 rfl info86 rfl rfl ?_
    refine WL.load1 .nil rfl rfl rfl Try.underlying86 rfl rfl ho28 rfl ?_
    refine WL.move .nil rfl rfl rfl rfl ?_
    obtain ⟨x32, hx32, hr⟩ := bnd_some hr
    refine GL.callP g.good .nil rfl rfl rfl rfl rfl rfl Try.func121 rfl rfl hS29.lo (f_laws_szBoolS_k  g hS29 h7 hx32) (fun v n33 H34 hn35 hk36 hp37 => ?_)
    obtain ⟨hS38, rfl⟩ := hp37
    have ho39 := (hk36 _ (by have := lt20; omega)).trans ho28
    have hS40 : St n0 n33 H34 F0 := ⟨by have := hS29.lo; omega, hS38.hb, hS38.fh⟩
    have hlon33 := hS40.lo
    refine WL.assign .nil rfl rfl rfl rfl ?_
    with_reducible refine WL.nil ?_
    with_reducible refine Ex.thn_norm ?_
    with_reducible refine W.seq ?_
    with_reducible refine W.seq ?_
    with_reducible refine W.region ?_
    refine WL.move .nil rfl rfl rfl rfl ?_
    refine WL.bin .nil rfl rfl rfl rfl rfl rfl ?_
    with_reducible refine WL.nil ?_
    with_reducible refine Ex.thn_norm ?_
    refine W.condD rfl (fun hc42 => ?_) (fun hc42 => ?_)
    · replace hr := ite_pos hr hc42
      with_reducible refine W.seq ?_
      with_reducible refine W.region ?_
      refine WL.assign .nil rfl rfl rfl rfl ?_
      with_reducible refine WL.nil ?_
      with_reducible refine Ex.thn_norm ?_
      with_reducible refine W.ret ?_
      with_reducible refine Ex.thn_ret ?_
      obtain rfl := Option.some.inj hr
      exact ⟨.inr rfl, _, (.cons (.tmp rfl) .nil), ⟨(Ext.st hE0 hS40), rfl⟩⟩
    · replace hr := ite_neg hr hc42
      with_reducible refine W.skip ?_
      with_reducible refine Ex.thn_norm ?_
      with_reducible refine W.seq ?_
      with_reducible refine W.region ?_
      refine WL.fieldAddr .nil rfl rfl rfl Try.underlying120 rfl info33 rfl rfl ?_
      refine WL.load1 .nil rfl rfl rfl Try.underlying33 rfl rfl ho39 rfl ?_
      refine WL.move .nil rfl rfl rfl rfl ?_
      obtain ⟨x43, hx43, hr⟩ := bnd_some hr
      refine GL.callP g.good .nil rfl rfl rfl rfl rfl rfl Try.func122 rfl rfl hS40.lo (f_laws_szIntS_k  g hS40 h10 hx43) (fun v n44 H45 hn46 hk47 hp48 => ?_)
      obtain ⟨hS49, rfl⟩ := hp48
      have ho50 := (hk47 _ (by have := lt20; omega)).trans ho39
      have hS51 : St n0 n44 H45 F0 := ⟨by have := hS40.lo; omega, hS49.hb, hS49.fh⟩
      have hlon44 := hS51.lo
      refine WL.assign .nil rfl rfl rfl rfl ?_
      with_reducible refine WL.nil ?_
      with_reducible refine Ex.thn_norm ?_
      with_reducible refine W.seq ?_
      with_reducible refine W.seq ?_
      with_reducible refine W.region ?_
      refine WL.move .nil rfl rfl rfl rfl ?_
      refine WL.bin .nil rfl rfl rfl rfl rfl rfl ?_
      with_reducible refine WL.nil ?_
      with_reducible refine Ex.thn_norm ?_
      refine W.condD rfl (fun hc53 => ?_) (fun hc53 => ?_)
      · replace hr := ite_pos hr hc53
        with_reducible refine W.seq ?_
        with_reducible refine W.region ?_
        refine WL.assign .nil rfl rfl rfl rfl ?_
        with_reducible refine WL.nil ?_
        with_reducible refine Ex.thn_norm ?_
        with_reducible refine W.ret ?_
        with_reducible refine Ex.thn_ret ?_
        obtain rfl := Option.some.inj hr
        exact ⟨.inr rfl, _, (.cons (.tmp rfl) .nil), ⟨(Ext.st hE0 hS51), rfl⟩⟩
      · replace hr := ite_neg hr hc53
        with_reducible refine W.skip ?_
        with_reducible refine Ex.thn_norm ?_
        with_reducible refine W.seq ?_
        with_reducible refine W.region ?_
        refine WL.fieldAddr .nil rfl rfl rfl Try.underlying120 rfl info33 rfl rfl ?_
        refine WL.load1 .nil rfl rfl rfl Try.underlying33 rfl rfl ho50 rfl ?_
        refine WL.move .nil rfl rfl rfl rfl ?_
        obtain ⟨x54, hx54, hr⟩ := bnd_some hr
        refine GL.callP g.good .nil rfl rfl rfl rfl rfl rfl Try.func122 rfl rfl hS51.lo (f_laws_szIntS_k  g hS51 h13 hx54) (fun v n55 H56 hn57 hk58 hp59 => ?_)
        obtain ⟨hS60, rfl⟩ := hp59
        have ho61 := (hk58 _ (by have := lt20; omega)).trans ho50
        have hS62 : St n0 n55 H56 F0 := ⟨by have := hS51.lo; omega, hS60.hb, hS60.fh⟩
        have hlon55 := hS62.lo
        refine WL.assign .nil rfl rfl rfl rfl ?_
        with_reducible refine WL.nil ?_
        with_reducible refine Ex.thn_norm ?_
        with_reducible refine W.seq ?_
        with_reducible refine W.seq ?_
        with_reducible refine W.region ?_
        refine WL.move .nil rfl rfl rfl rfl ?_
        refine WL.bin .nil rfl rfl rfl rfl rfl rfl ?_
        with_reducible refine WL.nil ?_
        with_reducible refine Ex.thn_norm ?_
        refine W.condD rfl (fun hc63 => ?_) (fun hc63 => ?_)
        · replace hr := ite_pos hr hc63
          with_reducible refine W.seq ?_
          with_reducible refine W.region ?_
          refine WL.assign .nil rfl rfl rfl rfl ?_
          with_reducible refine WL.nil ?_
          with_reducible refine Ex.thn_norm ?_
          with_reducible refine W.ret ?_
          with_reducible refine Ex.thn_ret ?_
          obtain rfl := Option.some.inj hr
          exact ⟨.inr rfl, _, (.cons (.tmp rfl) .nil), ⟨(Ext.st hE0 hS62), rfl⟩⟩
        · replace hr := ite_neg hr hc63
          with_reducible refine W.skip ?_
          with_reducible refine Ex.thn_norm ?_
          with_reducible refine W.seq ?_
          with_reducible refine W.region ?_
          refine WL.move .nil rfl rfl rfl rfl ?_
          refine WL.assign .nil rfl rfl rfl rfl ?_
          with_reducible refine WL.nil ?_
          with_reducible refine Ex.thn_norm ?_
          with_reducible refine W.ret ?_
          obtain rfl := Option.some.inj hr
          exact ⟨.inr rfl, _, (.cons (.tmp rfl) .nil), ⟨(Ext.st hE0 hS62), rfl⟩⟩
theorem f_laws_szPeerS_k {Δ : Prims} (g : Env Try.prog Δ) {lo n0 : Nat} {H0 F0 : Heap} (hS : St lo n0 H0 F0) {a2 : Option Addr} {cap3 : Nat} {xs1 : (List GPeer)} {x5 : Int} (h4 : SR F0 (.slice a2 xs1.length cap3) xs1) {res : (Int)} (hr : f_laws_szPeerS xs1 x5 = some res) :
    C Try.prog Δ n0 53 [.slice a2 xs1.length cap3, .int .i64 x5] n0 H0 (fun v n H => St n0 n H F0 ∧ v = .int .i64 res) := by
  refine C.body Try.func53 rfl rfl ?_
  unfold f_laws_szPeerS at hr
  have hS0 : St n0 n0 H0 F0 := hS.low (Nat.le_refl _)
  have hE0 := Ext.refl n0 F0
  have hlo0 := hS0.lo
  with_reducible refine W.seq ?_
  with_reducible refine W.region ?_
  refine WL.assign .nil rfl rfl rfl rfl ?_
  with_reducible refine WL.nil ?_
  with_reducible refine Ex.thn_norm ?_
  with_reducible refine W.seq ?_
  with_reducible refine W.region ?_
  refine WL.move .nil rfl rfl rfl rfl ?_
  refine WL.move .nil rfl rfl rfl rfl ?_
  refine WL.len .nil rfl rfl rfl Try.underlying55 rfl ?_
  obtain ⟨hc6, hr⟩ := chk_some hr
  refine WL.subI .nil rfl rfl rfl rfl rfl hc6.1 hc6.2 ?_
  refine WL.assign .nil rfl rfl rfl rfl ?_
  with_reducible refine WL.nil ?_
  with_reducible refine Ex.thn_norm ?_
  with_reducible refine W.seq ?_
  with_reducible refine W.seq ?_
  with_reducible refine W.region ?_
  refine WL.move .nil rfl rfl rfl rfl ?_
  refine WL.bin .nil rfl rfl rfl rfl rfl rfl ?_
  with_reducible refine WL.nil ?_
  with_reducible refine Ex.thn_norm ?_
  refine W.condD rfl (fun hc8 => ?_) (fun hc8 => ?_)
  · replace hr := ite_pos hr hc8
    with_reducible refine W.seq ?_
    with_reducible refine W.region ?_
    refine WL.assign .nil rfl rfl rfl rfl ?_
    with_reducible refine WL.nil ?_
    with_reducible refine Ex.thn_norm ?_
    with_reducible refine W.ret ?_
    with_reducible refine Ex.thn_ret ?_
    obtain rfl := Option.some.inj hr
    exact ⟨.inr rfl, _, (.cons (.tmp rfl) .nil), ⟨(Ext.st hE0 hS0), rfl⟩⟩
  · replace hr := ite_neg hr hc8
    with_reducible refine W.skip ?_
    with_reducible refine Ex.thn_norm ?_
    with_reducible refine W.seq ?_
    with_reducible refine W.seq ?_
    with_reducible refine W.region ?_
    refine WL.assign .nil rfl rfl rfl rfl ?_
    with_reducible refine WL.nil ?_
    with_reducible refine Ex.thn_norm ?_
    with_reducible refine W.block ?_
    refine W.loopF (fun k0 fr n H => ∃ (x151 : Int) (x152 : Int) (F : Heap), fr = [(0, .slice a2 xs1.length cap3), (1, .int .i64 x151), (5, .int .i64 x152)] ∧ St n0 n H F ∧ Ext n0 F0 n F ∧ SR F (.slice a2 xs1.length cap3) xs1 ∧ f_laws_szPeerS_L0 xs1 k0 x151 x152 = some res) BIG (fr0 := [(0, .slice a2 xs1.length cap3), (1, .int .i64 (x5 - (xs1.length : Int))), (5, .int .i64 0)]) (Fr.le_cons rfl (Fr.le_cons rfl (Fr.le_cons rfl Fr.le_nil))) ?_ ?_ ?_
    · exact ⟨(x5 - (xs1.length : Int)), 0, F0, rfl, hS0, hE0, h4, hr⟩
    · intro fr n H hI
      obtain ⟨x151, x152, F147, hfr, hS148, hE149, h150, hr⟩ := hI
      rw [f_laws_szPeerS_L0] at hr
      cases hr
    · intro k0 _ n145 H146 hI
      obtain ⟨x151, x152, F147, rfl, hS148, hE149, h150, hr⟩ := hI
      have hlen145 := hE149.le
      have hlon145 := hS148.lo
      rw [f_laws_szPeerS_L0] at hr
      with_reducible refine W.seq ?_
      with_reducible refine W.seq ?_
      with_reducible refine W.region ?_
      refine WL.move .nil rfl rfl rfl rfl ?_
      refine WL.move .nil rfl rfl rfl rfl ?_
      refine WL.len .nil rfl rfl rfl Try.underlying55 rfl ?_
      refine WL.bin .nil rfl rfl rfl rfl rfl rfl ?_
      with_reducible refine WL.nil ?_
      with_reducible refine Ex.thn_norm ?_
      refine W.condD rfl (fun hc154 => ?_) (fun hc154 => ?_)
      · replace hr := ite_pos hr hc154
        with_reducible refine W.skip ?_
        with_reducible refine Ex.thn_norm ?_
        with_reducible refine W.seq ?_
        with_reducible refine W.block ?_
        with_reducible refine W.seq ?_
        with_reducible refine W.region ?_
        refine WL.move .nil rfl rfl rfl rfl ?_
        refine WL.move .nil rfl rfl rfl rfl ?_
        obtain ⟨x184, hx184, hr⟩ := bnd_some hr
        refine GL.index .nil rfl rfl rfl Try.underlying55 info120 rfl rfl h150 hS148.fh rfl hx184 (fun b185 kp186 c187 ecs188 hrow189 hwin190 hR191 => ?_)
        obtain ⟨a192, cap193, a195, cap196, a198, cap199, a201, cap202, rfl, h194, h197, h200, h203⟩ := GPeer.ofR hR191
        refine WL.loadN .nil (l' := [.bool x184.Up, .int .i64 x184.Term, .int .i64 x184.Vote, .int .i64 x184.Commit, .int .i64 x184.Role, .slice a192 x184.Log.length cap193, .slice a195 x184.Votes.length cap196, .slice a198 x184.Next.length cap199, .slice a201 x184.Match.length cap202]) rfl rfl rfl Try.underlying120 rfl info120 rfl hrow189 hwin190 rfl ?_
        refine WL.move .nil rfl rfl rfl rfl ?_
        obtain ⟨x204, hx204, hr⟩ := bnd_some hr
        refine GL.callP g.good .nil rfl rfl rfl rfl rfl rfl Try.func94 rfl rfl hS148.lo (f_laws_szPeer_k  g hS148 h194 h197 h200 h203 hx204) (fun v n205 H206 hn207 hk208 hp209 => ?_)
        obtain ⟨hS210, rfl⟩ := hp209
        have hS211 : St n0 n205 H206 F147 := ⟨by have := hS148.lo; omega, hS210.hb, hS210.fh⟩
        have hlon205 := hS211.lo
        refine WL.assign .nil rfl rfl rfl rfl ?_
        with_reducible refine WL.nil ?_
        with_reducible refine Ex.thn_norm ?_
        with_reducible refine W.seq ?_
        with_reducible refine W.region ?_
        refine WL.move .nil rfl rfl rfl rfl ?_
        refine WL.bin .nil rfl rfl rfl rfl rfl rfl ?_
        with_reducible refine WL.nil ?_
        with_reducible refine Ex.thn_norm ?_
        refine W.condD rfl (fun hc212 => ?_) (fun hc212 => ?_)
        · replace hr := ite_pos hr hc212
          with_reducible refine W.seq ?_
          with_reducible refine W.region ?_
          refine WL.assign .nil rfl rfl rfl rfl ?_
          with_reducible refine WL.nil ?_
          with_reducible refine Ex.thn_norm ?_
          with_reducible refine W.ret ?_
          with_reducible refine Ex.blk_ret ?_
          with_reducible refine Ex.thn_ret ?_
          with_reducible refine Ex.thn_ret ?_
          with_reducible refine Ex.blk_ret ?_
          with_reducible refine Ex.thn_ret ?_
          obtain rfl := Option.some.inj hr
          exact ⟨.inr rfl, _, (.cons (.tmp rfl) .nil), ⟨(Ext.st hE149 hS211), rfl⟩⟩
        · replace hr := ite_neg hr hc212
          with_reducible refine W.skip ?_
          with_reducible refine Ex.blk_norm ?_
          with_reducible refine Ex.thn_norm ?_
          with_reducible refine W.region ?_
          refine WL.move .nil rfl rfl rfl rfl ?_
          obtain ⟨hc213, hr⟩ := chk_some hr
          refine WL.addI .nil rfl rfl rfl rfl rfl hc213.1 hc213.2 ?_
          refine WL.assign .nil rfl rfl rfl rfl ?_
          with_reducible refine WL.nil ?_
          with_reducible refine Ex.thn_norm ?_
          exact ⟨[(0, .slice a2 xs1.length cap3), (1, .int .i64 x204), (5, .int .i64 (x152 + 1))], (Fr.le_cons rfl (Fr.le_cons rfl (Fr.le_cons rfl Fr.le_nil))), x204, (x152 + 1), F147, rfl, hS211, (hE149.up (by omega)), h150, hr⟩
      · replace hr := ite_neg hr hc154
        with_reducible refine W.exit ?_
        with_reducible refine Ex.thn_ex ?_
        with_reducible refine Ex.thn_ex ?_
        with_reducible refine Ex.blk_here ?_
        with_reducible refine Ex.thn_norm ?_
        with_reducible refine W.seq ?_
        with_reducible refine W.region ?_
        refine WL.move .nil rfl rfl rfl rfl ?_
        refine WL.assign .nil rfl rfl rfl rfl ?_
        with_reducible refine WL.nil ?_
        with_reducible refine Ex.thn_norm ?_
        with_reducible refine W.ret ?_
        obtain rfl := Option.some.inj hr
        exact ⟨.inr rfl, _, (.cons (.tmp rfl) .nil), ⟨(Ext.st hE149 hS148), rfl⟩⟩
theorem f_laws_szMsg_k {Δ : Prims} (g : Env Try.prog Δ) {lo n0 : Nat} {H0 F0 : Heap} (hS : St lo n0 H0 F0) {x1 : GMsg} {a2 : Option Addr} {cap3 : Nat} {x5 : Int} (h4 : SR F0 (.slice a2 x1.Log.length cap3) x1.Log) {res : (Int)} (hr : f_laws_szMsg x1 x5 = some res) :
    C Try.prog Δ n0 95 [.agg [.int .i64 x1.Kind, .int .i64 x1.From, .int .i64 x1.To, .int .i64 x1.Term, .int .i64 x1.A, .int .i64 x1.B, .int .i64 x1.C, .bool x1.Ok, .slice a2 x1.Log.length cap3].toArray, .int .i64 x5] n0 H0 (fun v n H => St n0 n H F0 ∧ v = .int .i64 res) := by
  refine C.body Try.func95 rfl rfl ?_
  unfold f_laws_szMsg at hr
  have hS0 : St n0 n0 H0 F0 := hS.low (Nat.le_refl _)
  have hE0 := Ext.refl n0 F0
  have hlo0 := hS0.lo
  with_reducible refine W.seq ?_
  with_reducible refine W.region ?_
  refine GL.box hS0 .nil (vc := [.int .i64 x1.Kind, .int .i64 x1.From, .int .i64 x1.To, .int .i64 x1.Term, .int .i64 x1.A, .int .i64 x1.B, .int .i64 x1.C, .bool x1.Ok, .slice a2 x1.Log.length cap3]) rfl rfl rfl rfl rfl (by repeat' (first | exact List.forall_mem_nil _ | refine List.forall_mem_cons.2 ⟨?_, ?_⟩ | rfl)) (fun H6 hS7 ho8 hk9 => ?_)
  have fo10 := hS0.fnone (Nat.le_refl _)
  have hlon01 := hS7.lo
  have lt11 : n0 < (n0 + 1) := by omega
  refine WL.assign .nil rfl rfl rfl rfl ?_
  with_reducible refine WL.nil ?_
  with_reducible refine Ex.thn_norm ?_
  with_reducible refine W.seq ?_
  with_reducible refine W.region ?_
  refine WL.fieldAddr .nil rfl rfl rfl Try.underlying123 rfl info57 rfl rfl ?_
  refine WL.load1 .nil rfl rfl rfl Try.underlying57 rfl rfl ho8 rfl ?_
  refine WL.move .nil rfl rfl rfl rfl ?_
  obtain ⟨x12, hx12, hr⟩ := bnd_some hr
  refine GL.callP g.good .nil rfl rfl rfl rfl rfl rfl Try.func55 rfl rfl hS7.lo (f_laws_szRecS_k  g hS7 h4 hx12) (fun v n13 H14 hn15 hk16 hp17 => ?_)
  obtain ⟨hS18, rfl⟩ := hp17
  have ho19 := (hk16 _ (by have := lt11; omega)).trans ho8
  have hS20 : St n0 n13 H14 F0 := ⟨by have := hS7.lo; omega, hS18.hb, hS18.fh⟩
  have hlon13 := hS20.lo
  refine WL.assign .nil rfl rfl rfl rfl ?_
  with_reducible refine WL.nil ?_
  with_reducible refine Ex.thn_norm ?_
  with_reducible refine W.seq ?_
  with_reducible refine W.seq ?_
  with_reducible refine W.region ?_
  refine WL.move .nil rfl rfl rfl rfl ?_
  refine WL.bin .nil rfl rfl rfl rfl rfl rfl ?_
  with_reducible refine WL.nil ?_
  with_reducible refine Ex.thn_norm ?_
  refine W.condD rfl (fun hc21 => ?_) (fun hc21 => ?_)
  · replace hr := ite_pos hr hc21
    with_reducible refine W.seq ?_
    with_reducible refine W.region ?_
    refine WL.assign .nil rfl rfl rfl rfl ?_
    with_reducible refine WL.nil ?_
    with_reducible refine Ex.thn_norm ?_
    with_reducible refine W.ret ?_
    with_reducible refine Ex.thn_ret ?_
    obtain rfl := Option.some.inj hr
    exact ⟨.inr rfl, _, (.cons (.tmp rfl) .nil), ⟨(Ext.st hE0 hS20), rfl⟩⟩
  · replace hr := ite_neg hr hc21
    with_reducible refine W.skip ?_
    with_reducible refine Ex.thn_norm ?_
    with_reducible refine W.seq ?_
    with_reducible refine W.region ?_
    refine WL.move .nil rfl rfl rfl rfl ?_
    refine WL.assign .nil rfl rfl rfl rfl ?_
    with_reducible refine WL.nil ?_
    with_reducible refine Ex.thn_norm ?_
    with_reducible refine W.ret ?_
    obtain rfl := Option.some.inj hr
    exact ⟨.inr rfl, _, (.cons (.tmp rfl) .nil), ⟨(Ext.st hE0 hS20), rfl⟩⟩
theorem f_laws_szMsgS_k {Δ : Prims} (g : Env Try.prog Δ) {lo n0 : Nat} {H0 F0 : Heap} (hS : St lo n0 H0 F0) {a2 : Option Addr} {cap3 : Nat} {xs1 : (List GMsg)} {x5 : Int} (h4 : SR F0 (.slice a2 xs1.length cap3) xs1) {res : (Int)} (hr : f_laws_szMsgS xs1 x5 = some res) :
    C Try.prog Δ n0 54 [.slice a2 xs1.length cap3, .int .i64 x5] n0 H0 (fun v n H => St n0 n H F0 ∧ v = .int .i64 res) := by
  refine C.body Try.func54 rfl rfl ?_
  unfold f_laws_szMsgS at hr
  have hS0 : St n0 n0 H0 F0 := hS.low (Nat.le_refl _)
  have hE0 := Ext.refl n0 F0
  have hlo0 := hS0.lo
  with_reducible refine W.seq ?_
  with_reducible refine W.region ?_
  refine WL.assign .nil rfl rfl rfl rfl ?_
  with_reducible refine WL.nil ?_
  with_reducible refine Ex.thn_norm ?_
  with_reducible refine W.seq ?_
  with_reducible refine W.region ?_
  refine WL.move .nil rfl rfl rfl rfl ?_
  refine WL.move .nil rfl rfl rfl rfl ?_
  refine WL.len .nil rfl rfl rfl Try.underlying56 rfl ?_
  obtain ⟨hc6, hr⟩ := chk_some hr
  refine WL.subI .nil rfl rfl rfl rfl rfl hc6.1 hc6.2 ?_
  refine WL.assign .nil rfl rfl rfl rfl ?_
  with_reducible refine WL.nil ?_
  with_reducible refine Ex.thn_norm ?_
  with_reducible refine W.seq ?_
  with_reducible refine W.seq ?_
  with_reducible refine W.region ?_
  refine WL.move .nil rfl rfl rfl rfl ?_
  refine WL.bin .nil rfl rfl rfl rfl rfl rfl ?_
  with_reducible refine WL.nil ?_
  with_reducible refine Ex.thn_norm ?_
  refine W.condD rfl (fun hc8 => ?_) (fun hc8 => ?_)
  · replace hr := ite_pos hr hc8
    with_reducible refine W.seq ?_
    with_reducible refine W.region ?_
    refine WL.assign .nil rfl rfl rfl rfl ?_
    with_reducible refine WL.nil ?_
    with_reducible refine Ex.thn_norm ?_
    with_reducible refine W.ret ?_
    with_reducible refine Ex.thn_ret ?_
    obtain rfl := Option.some.inj hr
    exact ⟨.inr rfl, _, (.cons (.tmp rfl) .nil), ⟨(Ext.st hE0 hS0), rfl⟩⟩
  · replace hr := ite_neg hr hc8
    with_reducible refine W.skip ?_
    with_reducible refine Ex.thn_norm ?_
    with_reducible refine W.seq ?_
    with_reducible refine W.seq ?_
    with_reducible refine W.region ?_
    refine WL.assign .nil rfl rfl rfl rfl ?_
    with_reducible refine WL.nil ?_
    with_reducible refine Ex.thn_norm ?_
    with_reducible refine W.block ?_
    refine W.loopF (fun k0 fr n H => ∃ (x115 : Int) (x116 : Int) (F : Heap), fr = [(0, .slice a2 xs1.length cap3), (1, .int .i64 x115), (5, .int .i64 x116)] ∧ St n0 n H F ∧ Ext n0 F0 n F ∧ SR F (.slice a2 xs1.length cap3) xs1 ∧ f_laws_szMsgS_L0 xs1 k0 x115 x116 = some res) BIG (fr0 := [(0, .slice a2 xs1.length cap3), (1, .int .i64 (x5 - (xs1.length : Int))), (5, .int .i64 0)]) (Fr.le_cons rfl (Fr.le_cons rfl (Fr.le_cons rfl Fr.le_nil))) ?_ ?_ ?_
    · exact ⟨(x5 - (xs1.length : Int)), 0, F0, rfl, hS0, hE0, h4, hr⟩
    · intro fr n H hI
      obtain ⟨x115, x116, F111, hfr, hS112, hE113, h114, hr⟩ := hI
      rw [f_laws_szMsgS_L0] at hr
      cases hr
    · intro k0 _ n109 H110 hI
      obtain ⟨x115, x116, F111, rfl, hS112, hE113, h114, hr⟩ := hI
      have hlen109 := hE113.le
      have hlon109 := hS112.lo
      rw [f_laws_szMsgS_L0] at hr
      with_reducible refine W.seq ?_
      with_reducible refine W.seq ?_
      with_reducible refine W.region ?_
      refine WL.move .nil rfl rfl rfl rfl ?_
      refine WL.move .nil rfl rfl rfl rfl ?_
      refine WL.len .nil rfl rfl rfl Try.underlying56 rfl ?_
      refine WL.bin .nil rfl rfl rfl rfl rfl rfl ?_
      with_reducible refine WL.nil ?_
      with_reducible refine Ex.thn_norm ?_
      refine W.condD rfl (fun hc118 => ?_) (fun hc118 => ?_)
      · replace hr := ite_pos hr hc118
        with_reducible refine W.skip ?_
        with_reducible refine Ex.thn_norm ?_
        with_reducible refine W.seq ?_
        with_reducible refine W.block ?_
        with_reducible refine W.seq ?_
        with_reducible refine W.region ?_
        refine WL.move .nil rfl rfl rfl rfl ?_
        refine WL.move .nil rfl rfl rfl rfl ?_
        obtain ⟨x139, hx139, hr⟩ := bnd_some hr
        refine GL.index .nil rfl rfl rfl Try.underlying56 info123 rfl rfl h114 hS112.fh rfl hx139 (fun b140 kp141 c142 ecs143 hrow144 hwin145 hR146 => ?_)
        obtain ⟨a147, cap148, rfl, h149⟩ := GMsg.ofR hR146
        refine WL.loadN .nil (l' := [.int .i64 x139.Kind, .int .i64 x139.From, .int .i64 x139.To, .int .i64 x139.Term, .int .i64 x139.A, .int .i64 x139.B, .int .i64 x139.C, .bool x139.Ok, .slice a147 x139.Log.length cap148]) rfl rfl rfl Try.underlying123 rfl info123 rfl hrow144 hwin145 rfl ?_
        refine WL.move .nil rfl rfl rfl rfl ?_
        obtain ⟨x150, hx150, hr⟩ := bnd_some hr
        refine GL.callP g.good .nil rfl rfl rfl rfl rfl rfl Try.func95 rfl rfl hS112.lo (f_laws_szMsg_k  g hS112 h149 hx150) (fun v n151 H152 hn153 hk154 hp155 => ?_)
        obtain ⟨hS156, rfl⟩ := hp155
        have hS157 : St n0 n151 H152 F111 := ⟨by have := hS112.lo; omega, hS156.hb, hS156.fh⟩
        have hlon151 := hS157.lo
        refine WL.assign .nil rfl rfl rfl rfl ?_
        with_reducible refine WL.nil ?_
        with_reducible refine Ex.thn_norm ?_
        with_reducible refine W.seq ?_
        with_reducible refine W.region ?_
        refine WL.move .nil rfl rfl rfl rfl ?_
        refine WL.bin .nil rfl rfl rfl rfl rfl rfl ?_
        with_reducible refine WL.nil ?_
        with_reducible refine Ex.thn_norm ?_
        refine W.condD rfl (fun hc158 => ?_) (fun hc158 => ?_)
        · replace hr := ite_pos hr hc158
          with_reducible refine W.seq ?_
          with_reducible refine W.region ?_
          refine WL.assign .nil rfl rfl rfl rfl ?_
          with_reducible refine WL.nil ?_
          with_reducible refine Ex.thn_norm ?_
          with_reducible refine W.ret ?_
          with_reducible refine Ex.blk_ret ?_
          with_reducible refine Ex.thn_ret ?_
          with_reducible refine Ex.thn_ret ?_
          with_reducible refine Ex.blk_ret ?_
          with_reducible refine Ex.thn_ret ?_
          obtain rfl := Option.some.inj hr
          exact ⟨.inr rfl, _, (.cons (.tmp rfl) .nil), ⟨(Ext.st hE113 hS157), rfl⟩⟩
        · replace hr := ite_neg hr hc158
          with_reducible refine W.skip ?_
          with_reducible refine Ex.blk_norm ?_
          with_reducible refine Ex.thn_norm ?_
          with_reducible refine W.region ?_
          refine WL.move .nil rfl rfl rfl rfl ?_
          obtain ⟨hc159, hr⟩ := chk_some hr
          refine WL.addI .nil rfl rfl rfl rfl rfl hc159.1 hc159.2 ?_
          refine WL.assign .nil rfl rfl rfl rfl ?_
          with_reducible refine WL.nil ?_
          with_reducible refine Ex.thn_norm ?_
          exact ⟨[(0, .slice a2 xs1.length cap3), (1, .int .i64 x150), (5, .int .i64 (x116 + 1))], (Fr.le_cons rfl (Fr.le_cons rfl (Fr.le_cons rfl Fr.le_nil))), x150, (x116 + 1), F111, rfl, hS157, (hE113.up (by omega)), h114, hr⟩
      · replace hr := ite_neg hr hc118
        with_reducible refine W.exit ?_
        with_reducible refine Ex.thn_ex ?_
        with_reducible refine Ex.thn_ex ?_
        with_reducible refine Ex.blk_here ?_
        with_reducible refine Ex.thn_norm ?_
        with_reducible refine W.seq ?_
        with_reducible refine W.region ?_
        refine WL.move .nil rfl rfl rfl rfl ?_
        refine WL.assign .nil rfl rfl rfl rfl ?_
        with_reducible refine WL.nil ?_
        with_reducible refine Ex.thn_norm ?_
        with_reducible refine W.ret ?_
        obtain rfl := Option.some.inj hr
        exact ⟨.inr rfl, _, (.cons (.tmp rfl) .nil), ⟨(Ext.st hE113 hS112), rfl⟩⟩
theorem f_laws_szCluster_k {Δ : Prims} (g : Env Try.prog Δ) {lo n0 : Nat} {H0 F0 : Heap} (hS : St lo n0 H0 F0) {x1 : GCluster} {a2 : Option Addr} {cap3 : Nat} {a5 : Option Addr} {cap6 : Nat} {a8 : Option Addr} {cap9 : Nat} {x11 : Int} (h4 : SR F0 (.slice a2 x1.Peers.length cap3) x1.Peers) (h7 : SR F0 (.slice a5 x1.Net.length cap6) x1.Net) (h10 : SR F0 (.slice a8 x1.Chosen.length cap9) x1.Chosen) {res : (Int)} (hr : f_laws_szCluster x1 x11 = some res) :
    C Try.prog Δ n0 26 [.agg [.slice a2 x1.Peers.length cap3, .slice a5 x1.Net.length cap6, .slice a8 x1.Chosen.length cap9, .bool x1.Conflict].toArray, .int .i64 x11] n0 H0 (fun v n H => St n0 n H F0 ∧ v = .int .i64 res) := by
  refine C.body Try.func26 rfl rfl ?_
  unfold f_laws_szCluster at hr
  have hS0 : St n0 n0 H0 F0 := hS.low (Nat.le_refl _)
  have hE0 := Ext.refl n0 F0
  have hlo0 := hS0.lo
  with_reducible refine W.seq ?_
  with_reducible refine W.region ?_
  refine GL.box hS0 .nil (vc := [.slice a2 x1.Peers.length cap3, .slice a5 x1.Net.length cap6, .slice a8 x1.Chosen.length cap9, .bool x1.Conflict]) rfl rfl rfl rfl rfl (by repeat' (first | exact List.forall_mem_nil _ | refine List.forall_mem_cons.2 ⟨?_, ?_⟩ | rfl)) (fun H12 hS13 ho14 hk15 => ?_)
  have fo16 := hS0.fnone (Nat.le_refl _)
  have hlon01 := hS13.lo
  have lt17 : n0 < (n0 + 1) := by omega
  refine WL.assign .nil rfl rfl rfl rfl ?_
  with_reducible refine WL.nil ?_
  with_reducible refine Ex.thn_norm ?_
  with_reducible refine W.seq ?_
  with_reducible refine W.region ?_
  refine WL.fieldAddr .nil rfl rfl rfl Try.underlying59 rfl info55 rfl rfl ?_
  refine WL.load1 .nil rfl rfl rfl Try.underlying55 rfl rfl ho14 rfl ?_
  refine WL.move .nil rfl rfl rfl rfl ?_
  obtain ⟨x18, hx18, hr⟩ := bnd_some hr
  refine GL.callP g.good .nil rfl rfl rfl rfl rfl rfl Try.func53 rfl rfl hS13.lo (f_laws_szPeerS_k  g hS13 h4 hx18) (fun v n19 H20 hn21 hk22 hp23 => ?_)
  obtain ⟨hS24, rfl⟩ := hp23
  have ho25 := (hk22 _ (by have := lt17; omega)).trans ho14
  have hS26 : St n0 n19 H20 F0 := ⟨by have := hS13.lo; omega, hS24.hb, hS24.fh⟩
  have hlon19 := hS26.lo
  refine WL.assign .nil rfl rfl rfl rfl ?_
  with_reducible refine WL.nil ?_
  with_reducible refine Ex.thn_norm ?_
  with_reducible refine W.seq ?_
  with_reducible refine W.seq ?_
  with_reducible refine W.region ?_
  refine WL.move .nil rfl rfl rfl rfl ?_
  refine WL.bin .nil rfl rfl rfl rfl rfl rfl ?_
  with_reducible refine WL.nil ?_
  with_reducible refine Ex.thn_norm ?_
  refine W.condD rfl (fun hc28 => ?_) (fun hc28 => ?_)
  · replace hr := ite_pos hr hc28
    with_reducible refine W.seq ?_
    with_reducible refine W.region ?_
    refine WL.assign .nil rfl rfl rfl rfl ?_
    with_reducible refine WL.nil ?_
    with_reducible refine Ex.thn_norm ?_
    with_reducible refine W.ret ?_
    with_reducible refine Ex.thn_ret ?_
    obtain rfl := Option.some.inj hr
    exact ⟨.inr rfl, _, (.cons (.tmp rfl) .nil), ⟨(Ext.st hE0 hS26), rfl⟩⟩
  · replace hr := ite_neg hr hc28
    with_reducible refine W.skip ?_
    with_reducible refine Ex.thn_norm ?_
    with_reducible refine W.seq ?_
    with_reducible refine W.region ?_
    refine WL.fieldAddr .nil rfl rfl rfl Try.underlying59 rfl info56 rfl rfl ?_
    refine WL.load1 .nil rfl rfl rfl Try.underlying56 rfl rfl ho25 rfl ?_
    refine WL.move .nil rfl rfl rfl rfl ?_
    obtain ⟨x29, hx29, hr⟩ := bnd_some hr
    refine GL.callP g.good .nil rfl rfl rfl rfl rfl rfl Try.func54 rfl rfl hS26.lo (f_laws_szMsgS_k  g hS26 h7 hx29) (fun v n30 H31 hn32 hk33 hp34 => ?_)
    obtain ⟨hS35, rfl⟩ := hp34
    have ho36 := (hk33 _ (by have := lt17; omega)).trans ho25
    have hS37 : St n0 n30 H31 F0 := ⟨by have := hS26.lo; omega, hS35.hb, hS35.fh⟩
    have hlon30 := hS37.lo
    refine WL.assign .nil rfl rfl rfl rfl ?_
    with_reducible refine WL.nil ?_
    with_reducible refine Ex.thn_norm ?_
    with_reducible refine W.seq ?_
    with_reducible refine W.seq ?_
    with_reducible refine W.region ?_
    refine WL.move .nil rfl rfl rfl rfl ?_
    refine WL.bin .nil rfl rfl rfl rfl rfl rfl ?_
    with_reducible refine WL.nil ?_
    with_reducible refine Ex.thn_norm ?_
    refine W.condD rfl (fun hc39 => ?_) (fun hc39 => ?_)
    · replace hr := ite_pos hr hc39
      with_reducible refine W.seq ?_
      with_reducible refine W.region ?_
      refine WL.assign .nil rfl rfl rfl rfl ?_
      with_reducible refine WL.nil ?_
      with_reducible refine Ex.thn_norm ?_
      with_reducible refine W.ret ?_
      with_reducible refine Ex.thn_ret ?_
      obtain rfl := Option.some.inj hr
      exact ⟨.inr rfl, _, (.cons (.tmp rfl) .nil), ⟨(Ext.st hE0 hS37), rfl⟩⟩
    · replace hr := ite_neg hr hc39
      with_reducible refine W.skip ?_
      with_reducible refine Ex.thn_norm ?_
      with_reducible refine W.seq ?_
      with_reducible refine W.region ?_
      refine WL.fieldAddr .nil rfl rfl rfl Try.underlying59 rfl info57 rfl rfl ?_
      refine WL.load1 .nil rfl rfl rfl Try.underlying57 rfl rfl ho36 rfl ?_
      refine WL.move .nil rfl rfl rfl rfl ?_
      obtain ⟨x40, hx40, hr⟩ := bnd_some hr
      refine GL.callP g.good .nil rfl rfl rfl rfl rfl rfl Try.func55 rfl rfl hS37.lo (f_laws_szRecS_k  g hS37 h10 hx40) (fun v n41 H42 hn43 hk44 hp45 => ?_)
      obtain ⟨hS46, rfl⟩ := hp45
      have ho47 := (hk44 _ (by have := lt17; omega)).trans ho36
      have hS48 : St n0 n41 H42 F0 := ⟨by have := hS37.lo; omega, hS46.hb, hS46.fh⟩
      have hlon41 := hS48.lo
      refine WL.assign .nil rfl rfl rfl rfl ?_
      with_reducible refine WL.nil ?_
      with_reducible refine Ex.thn_norm ?_
      with_reducible refine W.seq ?_
      with_reducible refine W.seq ?_
      with_reducible refine W.region ?_
      refine WL.move .nil rfl rfl rfl rfl ?_
      refine WL.bin .nil rfl rfl rfl rfl rfl rfl ?_
      with_reducible refine WL.nil ?_
      with_reducible refine Ex.thn_norm ?_
      refine W.condD rfl (fun hc49 => ?_) (fun hc49 => ?_)
      · replace hr := ite_pos hr hc49
        with_reducible refine W.seq ?_
        with_reducible refine W.region ?_
        refine WL.assign .nil rfl rfl rfl rfl ?_
        with_reducible refine WL.nil ?_
        with_reducible refine Ex.thn_norm ?_
        with_reducible refine W.ret ?_
        with_reducible refine Ex.thn_ret ?_
        obtain rfl := Option.some.inj hr
        exact ⟨.inr rfl, _, (.cons (.tmp rfl) .nil), ⟨(Ext.st hE0 hS48), rfl⟩⟩
      · replace hr := ite_neg hr hc49
        with_reducible refine W.skip ?_
        with_reducible refine Ex.thn_norm ?_
        with_reducible refine W.seq ?_
        with_reducible refine W.region ?_
        refine WL.move .nil rfl rfl rfl rfl ?_
        refine WL.assign .nil rfl rfl rfl rfl ?_
        with_reducible refine WL.nil ?_
        with_reducible refine Ex.thn_norm ?_
        with_reducible refine W.ret ?_
        obtain rfl := Option.some.inj hr
        exact ⟨.inr rfl, _, (.cons (.tmp rfl) .nil), ⟨(Ext.st hE0 hS48), rfl⟩⟩
theorem f_laws_toByteS_k {Δ : Prims} (g : Env Try.prog Δ) {lo n0 : Nat} {H0 F0 : Heap} (hS : St lo n0 H0 F0) {a2 : Option Addr} {cap3 : Nat} {xs1 : (List UInt8)} (h4 : SR F0 (.slice a2 xs1.length cap3) xs1) {res : ((List UInt8))} (hr : f_laws_toByteS xs1 = some res) :
    C Try.prog Δ n0 20 [.slice a2 xs1.length cap3] n0 H0 (fun v n H => ∃ (ra1 : Option Addr) (rcap2 : Nat), St n0 n H F0 ∧ v = .slice ra1 res.length rcap2 ∧ OW n0 n H F0 (.slice ra1 res.length rcap2) res) := by
  refine C.body Try.func20 rfl rfl ?_
  unfold f_laws_toByteS at hr
  have hS0 : St n0 n0 H0 F0 := hS.low (Nat.le_refl _)
  have hE0 := Ext.refl n0 F0
  have hlo0 := hS0.lo
  with_reducible refine W.seq ?_
  with_reducible refine W.region ?_
  refine WL.assign .nil rfl rfl rfl rfl ?_
  with_reducible refine WL.nil ?_
  with_reducible refine Ex.thn_norm ?_
  with_reducible refine W.seq ?_
  with_reducible refine W.region ?_
  refine WL.move .nil rfl rfl rfl rfl ?_
  refine WL.len .nil rfl rfl rfl Try.underlying24 rfl ?_
  obtain ⟨hc5, hr⟩ := chk_some hr
  refine GL.make (α := UInt8) (u := (0 : UInt8)) hS0 .nil rfl rfl rfl Try.underlying24 info5 rfl rfl (by decide) rfl (by decide) rfl rfl rfl rfl hc5.1 hc5.2 (fun H6 hS7 hO8 hk9 => ?_)
  have h10 := OW.lower (lo' := n0) hO8 (by omega)
  have hlon01 := hS7.lo
  refine WL.assign .nil rfl rfl rfl rfl ?_
  with_reducible refine WL.nil ?_
  with_reducible refine Ex.thn_norm ?_
  with_reducible refine W.seq ?_
  with_reducible refine W.seq ?_
  with_reducible refine W.region ?_
  refine WL.assign .nil rfl rfl rfl rfl ?_
  with_reducible refine WL.nil ?_
  with_reducible refine Ex.thn_norm ?_
  with_reducible refine W.block ?_
  refine W.loopF (fun k0 fr n H => ∃ (xs137 : (List UInt8)) (x140 : Int) (F : Heap), fr = [(0, .slice a2 xs1.length cap3), (3, .slice (some ⟨n0, 0, none⟩) (List.replicate (xs1.length : Int).toNat ((0 : UInt8) : UInt8)).length ((xs1.length : Int).toNat)), (4, .int .i64 x140)] ∧ St n0 n H F ∧ Ext n0 F0 n F ∧ SR F (.slice a2 xs1.length cap3) xs1 ∧ OW n0 n H F (.slice (some ⟨n0, 0, none⟩) (List.replicate (xs1.length : Int).toNat ((0 : UInt8) : UInt8)).length ((xs1.length : Int).toNat)) xs137 ∧ (List.replicate (xs1.length : Int).toNat ((0 : UInt8) : UInt8)).length = xs137.length ∧ f_laws_toByteS_L0 xs1 k0 xs137 x140 = some res) BIG (fr0 := [(0, .slice a2 xs1.length cap3), (3, .slice (some ⟨n0, 0, none⟩) (List.replicate (xs1.length : Int).toNat ((0 : UInt8) : UInt8)).length ((xs1.length : Int).toNat)), (4, .int .i64 0)]) (Fr.le_cons rfl (Fr.le_cons rfl (Fr.le_cons rfl Fr.le_nil))) ?_ ?_ ?_
  · exact ⟨(List.replicate (xs1.length : Int).toNat ((0 : UInt8) : UInt8)), 0, F0, rfl, hS7, (hE0.up (by omega)), h4, h10, rfl, hr⟩
  · intro fr n H hI
    obtain ⟨xs137, x140, F133, hfr, hS134, hE135, h136, h138, hl139, hr⟩ := hI
    rw [f_laws_toByteS_L0] at hr
    cases hr
  · intro k0 _ n131 H132 hI
    obtain ⟨xs137, x140, F133, rfl, hS134, hE135, h136, h138, hl139, hr⟩ := hI
    have hlen131 := hE135.le
    have hlon131 := hS134.lo
    rw [f_laws_toByteS_L0] at hr
    with_reducible refine W.seq ?_
    with_reducible refine W.seq ?_
    with_reducible refine W.region ?_
    refine WL.move .nil rfl rfl rfl rfl ?_
    refine WL.move .nil rfl rfl rfl rfl ?_
    refine WL.len .nil rfl rfl rfl Try.underlying24 rfl ?_
    refine WL.bin .nil rfl rfl rfl rfl rfl rfl ?_
    with_reducible refine WL.nil ?_
    with_reducible refine Ex.thn_norm ?_
    refine W.condD rfl (fun hc142 => ?_) (fun hc142 => ?_)
    · replace hr := ite_pos hr hc142
      with_reducible refine W.skip ?_
      with_reducible refine Ex.thn_norm ?_
      with_reducible refine W.seq ?_
      with_reducible refine W.block ?_
      with_reducible refine W.region ?_
      refine WL.move .nil rfl rfl rfl rfl ?_
      refine WL.move .nil rfl rfl rfl rfl ?_
      refine WL.move .nil rfl rfl rfl rfl ?_
      refine WL.move .nil rfl rfl rfl rfl ?_
      obtain ⟨x167, hx167, hr⟩ := bnd_some hr
      refine GL.index .nil rfl rfl rfl Try.underlying24 info5 rfl rfl h136 hS134.fh rfl hx167 (fun b168 kp169 c170 ecs171 hrow172 hwin173 hR174 => ?_)
      have hcs : _ = ([u8 x167] : List Value) := hR174
      subst hcs
      refine WL.load1 .nil rfl rfl rfl Try.underlying5 rfl rfl hrow172 ((win_get0 hwin173 (show (0 : Nat) < 1 by decide)).trans rfl) ?_
      obtain ⟨x175, hx175, hr⟩ := bnd_some hr
      refine GL.indexO .nil rfl rfl rfl Try.underlying24 info5 rfl rfl h138 rfl hx175 (fun b176 kp177 c178 ecs179 hid183 hrow180 hwin181 hR182 hup184 => ?_)
      have hcs : _ = ([u8 x175] : List Value) := hR182
      subst hcs
      refine GL.store hS134 .nil (vc := [u8 x167]) rfl rfl rfl info5 rfl rfl rfl rfl hrow180 (OW.fnone h138 hid183) (win_fit hwin181 (Nat.le_of_ble_eq_true rfl) rfl (Nat.le_of_ble_eq_true rfl)) (OW.id_lt h138 hid183).1 (by repeat' (first | exact List.forall_mem_nil _ | refine List.forall_mem_cons.2 ⟨?_, ?_⟩ | rfl)) rfl (fun H185 hS186 ho187 hk188 => ?_)
      have h189 := hup184 0 [u8 x167] (x167 : UInt8) H185 (Nat.le_of_ble_eq_true rfl) rfl ho187
      have hl190 : (List.replicate (xs1.length : Int).toNat ((0 : UInt8) : UInt8)).length = (setI xs137 x140 x167).length := hl139.trans (setI_length _ _ _).symm
      with_reducible refine WL.nil ?_
      with_reducible refine Ex.blk_norm ?_
      with_reducible refine Ex.thn_norm ?_
      with_reducible refine W.region ?_
      refine WL.move .nil rfl rfl rfl rfl ?_
      obtain ⟨hc191, hr⟩ := chk_some hr
      refine WL.addI .nil rfl rfl rfl rfl rfl hc191.1 hc191.2 ?_
      refine WL.assign .nil rfl rfl rfl rfl ?_
      with_reducible refine WL.nil ?_
      with_reducible refine Ex.thn_norm ?_
      exact ⟨[(0, .slice a2 xs1.length cap3), (3, .slice (some ⟨n0, 0, none⟩) (List.replicate (xs1.length : Int).toNat ((0 : UInt8) : UInt8)).length ((xs1.length : Int).toNat)), (4, .int .i64 (x140 + 1))], (Fr.le_cons rfl (Fr.le_cons rfl (Fr.le_cons rfl Fr.le_nil))), (setI xs137 x140 x167), (x140 + 1), F133, rfl, hS186, hE135, h136, h189, hl190, hr⟩
    · replace hr := ite_neg hr hc142
      with_reducible refine W.exit ?_
      with_reducible refine Ex.thn_ex ?_
      with_reducible refine Ex.thn_ex ?_
      with_reducible refine Ex.blk_here ?_
      with_reducible refine Ex.thn_norm ?_
      with_reducible refine W.seq ?_
      with_reducible refine W.region ?_
      refine WL.move .nil rfl rfl rfl rfl ?_
      refine WL.assign .nil rfl rfl rfl rfl ?_
      with_reducible refine WL.nil ?_
      with_reducible refine Ex.thn_norm ?_
      with_reducible refine W.ret ?_
      obtain rfl := Option.some.inj hr
      exact ⟨.inr rfl, _, (.cons (.tmp rfl) .nil), ⟨(some ⟨n0, 0, none⟩), (xs1.length : Int).toNat, (Ext.st hE135 hS134), (by rw [← hl139]; rfl), (OW.downSc hE135.sub (OW.head hl139 h138))⟩⟩
theorem f_laws_toRec_k {Δ : Prims} (g : Env Try.prog Δ) {lo n0 : Nat} {H0 F0 : Heap} (hS : St lo n0 H0 F0) {x1 : GRec} {a2 : Option Addr} {cap3 : Nat} (h4 : SR F0 (.slice a2 x1.Data.length cap3) x1.Data) {res : (GRec)} (hr : f_laws_toRec x1 = some res) :
    C Try.prog Δ n0 99 [.agg [.int .i64 x1.Term, .int .i64 x1.Index, .slice a2 x1.Data.length cap3].toArray] n0 H0 (fun v n H => ∃ (F : Heap) (ra1 : Option Addr) (rcap2 : Nat), Ext n0 F0 n F ∧ St n0 n H F ∧ v = .agg [.int .i64 res.Term, .int .i64 res.Index, .slice ra1 res.Data.length rcap2].toArray ∧ SR F (.slice ra1 res.Data.length rcap2) res.Data) := by
  refine C.body Try.func99 rfl rfl ?_
  unfold f_laws_toRec at hr
  have hS0 : St n0 n0 H0 F0 := hS.low (Nat.le_refl _)
  have hE0 := Ext.refl n0 F0
  have hlo0 := hS0.lo
  with_reducible refine W.seq ?_
  with_reducible refine W.region ?_
  refine GL.box hS0 .nil (vc := [.int .i64 x1.Term, .int .i64 x1.Index, .slice a2 x1.Data.length cap3]) rfl rfl rfl rfl rfl (by repeat' (first | exact List.forall_mem_nil _ | refine List.forall_mem_cons.2 ⟨?_, ?_⟩ | rfl)) (fun H5 hS6 ho7 hk8 => ?_)
  have fo9 := hS0.fnone (Nat.le_refl _)
  have hlon01 := hS6.lo
  have lt10 : n0 < (n0 + 1) := by omega
  refine GL.alloc hS6 .nil (zc := [.int .i64 0, .int .i64 0, .slice none 0 0]) rfl rfl rfl info37 rfl rfl rfl (fun H11 hS12 ho13 hk14 => ?_)
  have fo15 := hS6.fnone (Nat.le_refl _)
  have ho17 := (hk14 _ (by have := lt10; omega)).trans ho7
  have hlon011 := hS12.lo
  have lt16 : (n0 + 1) < ((n0 + 1) + 1) := by omega
  with_reducible refine WL.nil ?_
  with_reducible refine Ex.thn_norm ?_
  with_reducible refine W.seq ?_
  with_reducible refine W.region ?_
  refine GL.alloc hS12 .nil (zc := [.int .i64 0, .int .i64 0, .slice none 0 0]) rfl rfl rfl info37 rfl rfl rfl (fun H18 hS19 ho20 hk21 => ?_)
  have fo22 := hS12.fnone (Nat.le_refl _)
  have ho24 := (hk21 _ (by have := lt10; omega)).trans ho17
  have ho25 := (hk21 _ (by have := lt16; omega)).trans ho13
  have hlon0111 := hS19.lo
  have lt23 : ((n0 + 1) + 1) < (((n0 + 1) + 1) + 1) := by omega
  with_reducible refine WL.nil ?_
  with_reducible refine Ex.thn_norm ?_
  with_reducible refine W.seq ?_
  with_reducible refine W.region ?_
  refine WL.fieldAddr .nil rfl rfl rfl Try.underlying125 rfl info3 rfl rfl ?_
  refine WL.load1 .nil rfl rfl rfl Try.underlying3 rfl rfl ho24 rfl ?_
  refine WL.fieldAddr .nil rfl rfl rfl Try.underlying37 rfl info3 rfl rfl ?_
  refine GL.store hS19 .nil (vc := [.int .i64 x1.Term]) (c' := [.int .i64 x1.Term, .int .i64 0, .slice none 0 0]) rfl rfl rfl info3 rfl rfl rfl rfl ho20 fo22 (Nat.le_of_ble_eq_true rfl) (by omega) (by repeat' (first | exact List.forall_mem_nil _ | refine List.forall_mem_cons.2 ⟨?_, ?_⟩ | rfl)) rfl (fun H26 hS27 ho28 hk29 => ?_)
  have ho30 := (hk29 _ (by omega)).trans ho24
  have ho31 := (hk29 _ (by omega)).trans ho25
  with_reducible refine WL.nil ?_
  with_reducible refine Ex.thn_norm ?_
  with_reducible refine W.seq ?_
  with_reducible refine W.region ?_
  refine WL.fieldAddr .nil rfl rfl rfl Try.underlying125 rfl info3 rfl rfl ?_
  refine WL.load1 .nil rfl rfl rfl Try.underlying3 rfl rfl ho30 rfl ?_
  refine WL.fieldAddr .nil rfl rfl rfl Try.underlying37 rfl info3 rfl rfl ?_
  refine GL.store hS27 .nil (vc := [.int .i64 x1.Index]) (c' := [.int .i64 x1.Term, .int .i64 x1.Index, .slice none 0 0]) rfl rfl rfl info3 rfl rfl rfl rfl ho28 fo22 (Nat.le_of_ble_eq_true rfl) (by omega) (by repeat' (first | exact List.forall_mem_nil _ | refine List.forall_mem_cons.2 ⟨?_, ?_⟩ | rfl)) rfl (fun H32 hS33 ho34 hk35 => ?_)
  have ho36 := (hk35 _ (by omega)).trans ho30
  have ho37 := (hk35 _ (by omega)).trans ho31
  with_reducible refine WL.nil ?_
  with_reducible refine Ex.thn_norm ?_
  with_reducible refine W.seq ?_
  with_reducible refine W.region ?_
  refine WL.fieldAddr .nil rfl rfl rfl Try.underlying125 rfl info24 rfl rfl ?_
  refine WL.load1 .nil rfl rfl rfl Try.underlying24 rfl rfl ho36 rfl ?_
  obtain ⟨x38, hx38, hr⟩ := bnd_some hr
  refine GL.callP g.good .nil rfl rfl rfl rfl rfl rfl Try.func20 rfl rfl hS33.lo (f_laws_toByteS_k  g hS33 h4 hx38) (fun v n39 H40 hn41 hk42 hp43 => ?_)
  obtain ⟨a44, cap45, hS47, rfl, h46⟩ := hp43
  have ho48 := (hk42 _ (by have := lt10; omega)).trans ho36
  have ho49 := (hk42 _ (by have := lt16; omega)).trans ho37
  have ho50 := (hk42 _ (by have := lt23; omega)).trans ho34
  have hS51 : St n0 n39 H40 F0 := ⟨by have := hS33.lo; omega, hS47.hb, hS47.fh⟩
  have hlon39 := hS51.lo
  have h52 := OW.lower (lo' := n0) h46 (by omega)
  have ap54 : idOf (.slice a44 x38.length cap45) ≠ some n0 := fun hj => by have := (OW.id_lt h46 hj).1; have := lt10; omega
  have ap55 : idOf (.slice a44 x38.length cap45) ≠ some (n0 + 1) := fun hj => by have := (OW.id_lt h46 hj).1; have := lt16; omega
  have ap56 : idOf (.slice a44 x38.length cap45) ≠ some ((n0 + 1) + 1) := fun hj => by have := (OW.id_lt h46 hj).1; have := lt23; omega
  refine WL.fieldAddr .nil rfl rfl rfl Try.underlying37 rfl info24 rfl rfl ?_
  refine GL.store hS51 .nil (vc := [.slice a44 x38.length cap45]) (c' := [.int .i64 x1.Term, .int .i64 x1.Index, .slice a44 x38.length cap45]) rfl rfl rfl info24 rfl rfl rfl rfl ho50 fo22 (Nat.le_of_ble_eq_true rfl) (by omega) (by repeat' (first | exact List.forall_mem_nil _ | refine List.forall_mem_cons.2 ⟨?_, ?_⟩ | rfl)) rfl (fun H57 hS58 ho59 hk60 => ?_)
  have ho61 := (hk60 _ (by omega)).trans ho48
  have ho62 := (hk60 _ (by omega)).trans ho49
  have h63 := OW.keep h52 (Nat.le_refl _) (fun i hi => hk60 i (fun hj => ap56 (hj ▸ hi)))
  with_reducible refine WL.nil ?_
  with_reducible refine Ex.thn_norm ?_
  with_reducible refine W.seq ?_
  with_reducible refine W.region ?_
  refine WL.loadN .nil (l' := [.int .i64 x1.Term, .int .i64 x1.Index, .slice a44 x38.length cap45]) rfl rfl rfl Try.underlying37 rfl info37 rfl ho59 rfl rfl ?_
  refine GL.store hS58 .nil (vc := [.int .i64 x1.Term, .int .i64 x1.Index, .slice a44 x38.length cap45]) (c' := [.int .i64 x1.Term, .int .i64 x1.Index, .slice a44 x38.length cap45]) rfl rfl rfl info37 rfl rfl rfl rfl ho62 fo15 (Nat.le_of_ble_eq_true rfl) (by omega) (by repeat' (first | exact List.forall_mem_nil _ | refine List.forall_mem_cons.2 ⟨?_, ?_⟩ | rfl)) rfl (fun H64 hS65 ho66 hk67 => ?_)
  have ho68 := (hk67 _ (by omega)).trans ho61
  have ho69 := (hk67 _ (by omega)).trans ho59
  have h70 := OW.keep h63 (Nat.le_refl _) (fun i hi => hk67 i (fun hj => ap55 (hj ▸ hi)))
  with_reducible refine WL.nil ?_
  with_reducible refine Ex.thn_norm ?_
  with_reducible refine W.ret ?_
  obtain ⟨F71, hS72, hle73, h74, hf75⟩ := OW.freeze h70 hS65
  have fo76 := (hf75 _ ap54).trans fo9
  have fo77 := (hf75 _ ap55).trans fo15
  have fo78 := (hf75 _ ap56).trans fo22
  have hE79 : Ext n0 F0 n39 F71 := ⟨Nat.le_trans hE0.le (by omega), hE0.sub.trans hle73, fun i hi => (hf75 i (fun hj => by have := OW.id_lt h70 hj; omega)).trans (hE0.eq i hi)⟩
  obtain rfl := Option.some.inj hr
  exact ⟨.inr rfl, _, (.cons (.cellN (l := [.int .i64 x1.Term, .int .i64 x1.Index, .slice a44 x38.length cap45]) rfl Try.underlying37 rfl info37 ho66 rfl rfl) .nil), ⟨F71, a44, cap45, (hE79.up (by omega)), hS72, rfl, h74⟩⟩
theorem f_laws_toRecS_k {Δ : Prims} (g : Env Try.prog Δ) {lo n0 : Nat} {H0 F0 : Heap} (hS : St lo n0 H0 F0) {a2 : Option Addr} {cap3 : Nat} {xs1 : (List GRec)} (h4 : SR F0 (.slice a2 xs1.length cap3) xs1) {res : ((List GRec))} (hr : f_laws_toRecS xs1 = some res) :
    C Try.prog Δ n0 59 [.slice a2 xs1.length cap3] n0 H0 (fun v n H => ∃ (F : Heap) (ra1 : Option Addr) (rcap2 : Nat), Ext n0 F0 n F ∧ St n0 n H F ∧ v = .slice ra1 res.length rcap2 ∧ OW n0 n H F (.slice ra1 res.length rcap2) res) := by
  refine C.body Try.func59 rfl rfl ?_
  unfold f_laws_toRecS at hr
  have hS0 : St n0 n0 H0 F0 := hS.low (Nat.le_refl _)
  have hE0 := Ext.refl n0 F0
  have hlo0 := hS0.lo
  with_reducible refine W.seq ?_
  with_reducible refine W.region ?_
  refine WL.assign .nil rfl rfl rfl rfl ?_
  with_reducible refine WL.nil ?_
  with_reducible refine Ex.thn_norm ?_
  with_reducible refine W.seq ?_
  with_reducible refine W.region ?_
  refine WL.move .nil rfl rfl rfl rfl ?_
  refine WL.len .nil rfl rfl rfl Try.underlying57 rfl ?_
  obtain ⟨hc5, hr⟩ := chk_some hr
  refine GL.make (α := GRec) (u := ({ Term := 0, Index := 0, Data := [] } : GRec)) hS0 .nil rfl rfl rfl Try.underlying30 info37 rfl rfl (by decide) rfl (by decide) rfl rfl rfl (GRec.zeroR _) hc5.1 hc5.2 (fun H6 hS7 hO8 hk9 => ?_)
  have h10 := OW.lower (lo' := n0) hO8 (by omega)
  have hlon01 := hS7.lo
  refine WL.assign .nil rfl rfl rfl rfl ?_
  with_reducible refine WL.nil ?_
  with_reducible refine Ex.thn_norm ?_
  with_reducible refine W.seq ?_
  with_reducible refine W.seq ?_
  with_reducible refine W.region ?_
  refine WL.assign .nil rfl rfl rfl rfl ?_
  with_reducible refine WL.nil ?_
  with_reducible refine Ex.thn_norm ?_
  with_reducible refine W.block ?_
  refine W.loopF (fun k0 fr n H => ∃ (xs229 : (List GRec)) (x232 : Int) (F : Heap), fr = [(0, .slice a2 xs1.length cap3), (3, .slice (some ⟨n0, 0, none⟩) (List.replicate (xs1.length : Int).toNat (({ Term := 0, Index := 0, Data := [] } : GRec) : GRec)).length ((xs1.length : Int).toNat)), (4, .int .i64 x232)] ∧ St n0 n H F ∧ Ext n0 F0 n F ∧ SR F (.slice a2 xs1.length cap3) xs1 ∧ OW n0 n H F (.slice (some ⟨n0, 0, none⟩) (List.replicate (xs1.length : Int).toNat (({ Term := 0, Index := 0, Data := [] } : GRec) : GRec)).length ((xs1.length : Int).toNat)) xs229 ∧ (List.replicate (xs1.length : Int).toNat (({ Term := 0, Index := 0, Data := [] } : GRec) : GRec)).length = xs229.length ∧ f_laws_toRecS_L0 xs1 k0 xs229 x232 = some res) BIG (fr0 := [(0, .slice a2 xs1.length cap3), (3, .slice (some ⟨n0, 0, none⟩) (List.replicate (xs1.length : Int).toNat (({ Term := 0, Index := 0, Data := [] } : GRec) : GRec)).length ((xs1.length : Int).toNat)), (4, .int .i64 0)]) (Fr.le_cons rfl (Fr.le_cons rfl (Fr.le_cons rfl Fr.le_nil))) ?_ ?_ ?_
  · exact ⟨(List.replicate (xs1.length : Int).toNat (({ Term := 0, Index := 0, Data := [] } : GRec) : GRec)), 0, F0, rfl, hS7, (hE0.up (by omega)), h4, h10, rfl, hr⟩
  · intro fr n H hI
    obtain ⟨xs229, x232, F225, hfr, hS226, hE227, h228, h230, hl231, hr⟩ := hI
    rw [f_laws_toRecS_L0] at hr
    cases hr
  · intro k0 _ n223 H224 hI
    obtain ⟨xs229, x232, F225, rfl, hS226, hE227, h228, h230, hl231, hr⟩ := hI
    have hlen223 := hE227.le
    have hlon223 := hS226.lo
    rw [f_laws_toRecS_L0] at hr
    with_reducible refine W.seq ?_
    with_reducible refine W.seq ?_
    with_reducible refine W.region ?_
    refine WL.move .nil rfl rfl rfl rfl ?_
    refine WL.move .nil rfl rfl rfl rfl ?_
    refine WL.len .nil rfl rfl rfl Try.underlying57 rfl ?_
    refine WL.bin .nil rfl rfl rfl rfl rfl rfl ?_
    with_reducible refine WL.nil ?_
    with_reducible refine Ex.thn_norm ?_
    refine W.condD rfl (fun hc234 => ?_) (fun hc234 => ?_)
    · replace hr := ite_pos hr hc234
      with_reducible refine W.skip ?_
      with_reducible refine Ex.thn_norm ?_
      with_reducible refine W.seq ?_
      with_reducible refine W.block ?_
      with_reducible refine W.region ?_
      refine WL.move .nil rfl rfl rfl rfl ?_
      refine WL.move .nil rfl rfl rfl rfl ?_
      refine WL.move .nil rfl rfl rfl rfl ?_
      refine WL.move .nil rfl rfl rfl rfl ?_
      obtain ⟨x282, hx282, hr⟩ := bnd_some hr
      refine GL.index .nil rfl rfl rfl Try.underlying57 info125 rfl rfl h228 hS226.fh rfl hx282 (fun b283 kp284 c285 ecs286 hrow287 hwin288 hR289 => ?_)
      obtain ⟨a290, cap291, rfl, h292⟩ := GRec.ofR hR289
      refine WL.loadN .nil (l' := [.int .i64 x282.Term, .int .i64 x282.Index, .slice a290 x282.Data.length cap291]) rfl rfl rfl Try.underlying125 rfl info125 rfl hrow287 hwin288 rfl ?_
      obtain ⟨x293, hx293, hr⟩ := bnd_some hr
      have hb299 := fun b hb => (OW.id_lt (i := b) h230 hb).2
      refine GL.callP g.good .nil rfl rfl rfl rfl rfl rfl Try.func99 rfl rfl hS226.lo (f_laws_toRec_k  g hS226 h292 hx293) (fun v n294 H295 hn296 hk297 hp298 => ?_)
      obtain ⟨F304, a300, cap301, hX305, hS303, rfl, h302⟩ := hp298
      have h306 := OW.keep (n' := n294) h230 (by omega) (fun i hi => hk297 i (OW.id_lt h230 hi).2)
      have hS307 : St n0 n294 H295 F304 := ⟨by have := hS226.lo; omega, hS303.hb, hS303.fh⟩
      have h308 := OW.keepF h306 hX305.sub (fun i hi => (hX305.eq i (by have := OW.id_lt h230 hi; omega)).trans (OW.fnone h306 hi))
      have hE309 := (hE227.up (n' := n223) (by omega)).trans hX305
      have hlon294 := hS307.lo
      obtain ⟨x310, hx310, hr⟩ := bnd_some hr
      refine GL.indexO .nil rfl rfl rfl Try.underlying30 info37 rfl rfl h308 rfl hx310 (fun b311 kp312 c313 ecs314 hid318 hrow315 hwin316 hR317 hup319 => ?_)
      obtain ⟨a320, cap321, rfl, h322⟩ := GRec.ofR hR317
      refine GL.store hS307 .nil (vc := [.int .i64 x293.Term, .int .i64 x293.Index, .slice a300 x293.Data.length cap301]) rfl rfl rfl info37 rfl rfl rfl rfl hrow315 (OW.fnone h308 hid318) (win_fit hwin316 (Nat.le_of_ble_eq_true rfl) rfl (Nat.le_of_ble_eq_true rfl)) (OW.id_lt h308 hid318).1 (by repeat' (first | exact List.forall_mem_nil _ | refine List.forall_mem_cons.2 ⟨?_, ?_⟩ | rfl)) rfl (fun H323 hS324 ho325 hk326 => ?_)
      have h327 := hup319 0 [.int .i64 x293.Term, .int .i64 x293.Index, .slice a300 x293.Data.length cap301] (({ Term := x293.Term, Index := x293.Index, Data := x293.Data } : GRec) : GRec) H323 (Nat.le_of_ble_eq_true rfl) (GRec.toR (x := ({ Term := x293.Term, Index := x293.Index, Data := x293.Data } : GRec)) h302) ho325
      have hl328 : (List.replicate (xs1.length : Int).toNat (({ Term := 0, Index := 0, Data := [] } : GRec) : GRec)).length = (setI xs229 x232 ({ Term := x293.Term, Index := x293.Index, Data := x293.Data } : GRec)).length := hl231.trans (setI_length _ _ _).symm
      with_reducible refine WL.nil ?_
      with_reducible refine Ex.blk_norm ?_
      with_reducible refine Ex.thn_norm ?_
      with_reducible refine W.region ?_
      refine WL.move .nil rfl rfl rfl rfl ?_
      obtain ⟨hc329, hr⟩ := chk_some hr
      refine WL.addI .nil rfl rfl rfl rfl rfl hc329.1 hc329.2 ?_
      refine WL.assign .nil rfl rfl rfl rfl ?_
      with_reducible refine WL.nil ?_
      with_reducible refine Ex.thn_norm ?_
      exact ⟨[(0, .slice a2 xs1.length cap3), (3, .slice (some ⟨n0, 0, none⟩) (List.replicate (xs1.length : Int).toNat (({ Term := 0, Index := 0, Data := [] } : GRec) : GRec)).length ((xs1.length : Int).toNat)), (4, .int .i64 (x232 + 1))], (Fr.le_cons rfl (Fr.le_cons rfl (Fr.le_cons rfl Fr.le_nil))), (setI xs229 x232 ({ Term := x293.Term, Index := x293.Index, Data := x293.Data } : GRec)), (x232 + 1), F304, rfl, hS324, hE309, (h228.mono hX305.sub), h327, hl328, hr⟩
    · replace hr := ite_neg hr hc234
      with_reducible refine W.exit ?_
      with_reducible refine Ex.thn_ex ?_
      with_reducible refine Ex.thn_ex ?_
      with_reducible refine Ex.blk_here ?_
      with_reducible refine Ex.thn_norm ?_
      with_reducible refine W.seq ?_
      with_reducible refine W.region ?_
      refine WL.move .nil rfl rfl rfl rfl ?_
      refine WL.assign .nil rfl rfl rfl rfl ?_
      with_reducible refine WL.nil ?_
      with_reducible refine Ex.thn_norm ?_
      with_reducible refine W.ret ?_
      obtain rfl := Option.some.inj hr
      exact ⟨.inr rfl, _, (.cons (.tmp rfl) .nil), ⟨F225, (some ⟨n0, 0, none⟩), (xs1.length : Int).toNat, (hE227.up (by omega)), hS226, (by rw [← hl231]; rfl), (OW.head hl231 h230)⟩⟩
theorem f_laws_toBoolS_k {Δ : Prims} (g : Env Try.prog Δ) {lo n0 : Nat} {H0 F0 : Heap} (hS : St lo n0 H0 F0) {a2 : Option Addr} {cap3 : Nat} {xs1 : (List Bool)} (h4 : SR F0 (.slice a2 xs1.length cap3) xs1) {res : ((List Bool))} (hr : f_laws_toBoolS xs1 = some res) :
    C Try.prog Δ n0 124 [.slice a2 xs1.length cap3] n0 H0 (fun v n H => ∃ (ra1 : Option Addr) (rcap2 : Nat), St n0 n H F0 ∧ v = .slice ra1 res.length rcap2 ∧ OW n0 n H F0 (.slice ra1 res.length rcap2) res) := by
  refine C.body Try.func124 rfl rfl ?_
  unfold f_laws_toBoolS at hr
  have hS0 : St n0 n0 H0 F0 := hS.low (Nat.le_refl _)
  have hE0 := Ext.refl n0 F0
  have hlo0 := hS0.lo
  with_reducible refine W.seq ?_
  with_reducible refine W.region ?_
  refine WL.assign .nil rfl rfl rfl rfl ?_
  with_reducible refine WL.nil ?_
  with_reducible refine Ex.thn_norm ?_
  with_reducible refine W.seq ?_
  with_reducible refine W.region ?_
  refine WL.move .nil rfl rfl rfl rfl ?_
  refine WL.len .nil rfl rfl rfl Try.underlying86 rfl ?_
  obtain ⟨hc5, hr⟩ := chk_some hr
  refine GL.make (α := Bool) (u := false) hS0 .nil rfl rfl rfl Try.underlying86 info4 rfl rfl (by decide) rfl (by decide) rfl rfl rfl rfl hc5.1 hc5.2 (fun H6 hS7 hO8 hk9 => ?_)
  have h10 := OW.lower (lo' := n0) hO8 (by omega)
  have hlon01 := hS7.lo
  refine WL.assign .nil rfl rfl rfl rfl ?_
  with_reducible refine WL.nil ?_
  with_reducible refine Ex.thn_norm ?_
  with_reducible refine W.seq ?_
  with_reducible refine W.seq ?_
  with_reducible refine W.region ?_
  refine WL.assign .nil rfl rfl rfl rfl ?_
  with_reducible refine WL.nil ?_
  with_reducible refine Ex.thn_norm ?_
  with_reducible refine W.block ?_
  refine W.loopF (fun k0 fr n H => ∃ (xs137 : (List Bool)) (x140 : Int) (F : Heap), fr = [(0, .slice a2 xs1.length cap3), (3, .slice (some ⟨n0, 0, none⟩) (List.replicate (xs1.length : Int).toNat (false : Bool)).length ((xs1.length : Int).toNat)), (4, .int .i64 x140)] ∧ St n0 n H F ∧ Ext n0 F0 n F ∧ SR F (.slice a2 xs1.length cap3) xs1 ∧ OW n0 n H F (.slice (some ⟨n0, 0, none⟩) (List.replicate (xs1.length : Int).toNat (false : Bool)).length ((xs1.length : Int).toNat)) xs137 ∧ (List.replicate (xs1.length : Int).toNat (false : Bool)).length = xs137.length ∧ f_laws_toBoolS_L0 xs1 k0 xs137 x140 = some res) BIG (fr0 := [(0, .slice a2 xs1.length cap3), (3, .slice (some ⟨n0, 0, none⟩) (List.replicate (xs1.length : Int).toNat (false : Bool)).length ((xs1.length : Int).toNat)), (4, .int .i64 0)]) (Fr.le_cons rfl (Fr.le_cons rfl (Fr.le_cons rfl Fr.le_nil))) ?_ ?_ ?_
  · exact ⟨(List.replicate (xs1.length : Int).toNat (false : Bool)), 0, F0, rfl, hS7, (hE0.up (by omega)), h4, h10, rfl, hr⟩
  · intro fr n H hI
    obtain ⟨xs137, x140, F133, hfr, hS134, hE135, h136, h138, hl139, hr⟩ := hI
    rw [f_laws_toBoolS_L0] at hr
    cases hr
  · intro k0 _ n131 H132 hI
    obtain ⟨xs137, x140, F133, rfl, hS134, hE135, h136, h138, hl139, hr⟩ := hI
    have hlen131 := hE135.le
    have hlon131 := hS134.lo
    rw [f_laws_toBoolS_L0] at hr
    with_reducible refine W.seq ?_
    with_reducible refine W.seq ?_
    with_reducible refine W.region ?_
    refine WL.move .nil rfl rfl rfl rfl ?_
    refine WL.move .nil rfl rfl rfl rfl ?_
    refine WL.len .nil rfl rfl rfl Try.underlying86 rfl ?_
    refine WL.bin .nil rfl rfl rfl rfl rfl rfl ?_
    with_reducible refine WL.nil ?_
    with_reducible refine Ex.thn_norm ?_
    refine W.condD rfl (fun hc142 => ?_) (fun hc142 => ?_)
    · replace hr := ite_pos hr hc142
      with_reducible refine W.skip ?_
      with_reducible refine Ex.thn_norm ?_
      with_reducible refine W.seq ?_
      with_reducible refine W.block ?_
      with_reducible refine W.region ?_
      refine WL.move .nil rfl rfl rfl rfl ?_
      refine WL.move .nil rfl rfl rfl rfl ?_
      refine WL.move .nil rfl rfl rfl rfl ?_
      refine WL.move .nil rfl rfl rfl rfl ?_
      obtain ⟨x167, hx167, hr⟩ := bnd_some hr
      refine GL.index .nil rfl rfl rfl Try.underlying86 info4 rfl rfl h136 hS134.fh rfl hx167 (fun b168 kp169 c170 ecs171 hrow172 hwin173 hR174 => ?_)
      have hcs : _ = ([.bool x167] : List Value) := hR174
      subst hcs
      refine WL.load1 .nil rfl rfl rfl Try.underlying4 rfl rfl hrow172 ((win_get0 hwin173 (show (0 : Nat) < 1 by decide)).trans rfl) ?_
      obtain ⟨x175, hx175, hr⟩ := bnd_some hr
      refine GL.indexO .nil rfl rfl rfl Try.underlying86 info4 rfl rfl h138 rfl hx175 (fun b176 kp177 c178 ecs179 hid183 hrow180 hwin181 hR182 hup184 => ?_)
      have hcs : _ = ([.bool x175] : List Value) := hR182
      subst hcs
      refine GL.store hS134 .nil (vc := [.bool x167]) rfl rfl rfl info4 rfl rfl rfl rfl hrow180 (OW.fnone h138 hid183) (win_fit hwin181 (Nat.le_of_ble_eq_true rfl) rfl (Nat.le_of_ble_eq_true rfl)) (OW.id_lt h138 hid183).1 (by repeat' (first | exact List.forall_mem_nil _ | refine List.forall_mem_cons.2 ⟨?_, ?_⟩ | rfl)) rfl (fun H185 hS186 ho187 hk188 => ?_)
      have h189 := hup184 0 [.bool x167] (x167 : Bool) H185 (Nat.le_of_ble_eq_true rfl) rfl ho187
      have hl190 : (List.replicate (xs1.length : Int).toNat (false : Bool)).length = (setI xs137 x140 x167).length := hl139.trans (setI_length _ _ _).symm
      with_reducible refine WL.nil ?_
      with_reducible refine Ex.blk_norm ?_
      with_reducible refine Ex.thn_norm ?_
      with_reducible refine W.region ?_
      refine WL.move .nil rfl rfl rfl rfl ?_
      obtain ⟨hc191, hr⟩ := chk_some hr
      refine WL.addI .nil rfl rfl rfl rfl rfl hc191.1 hc191.2 ?_
      refine WL.assign .nil rfl rfl rfl rfl ?_
      with_reducible refine WL.nil ?_
      with_reducible refine Ex.thn_norm ?_
      exact ⟨[(0, .slice a2 xs1.length cap3), (3, .slice (some ⟨n0, 0, none⟩) (List.replicate (xs1.length : Int).toNat (false : Bool)).length ((xs1.length : Int).toNat)), (4, .int .i64 (x140 + 1))], (Fr.le_cons rfl (Fr.le_cons rfl (Fr.le_cons rfl Fr.le_nil))), (setI xs137 x140 x167), (x140 + 1), F133, rfl, hS186, hE135, h136, h189, hl190, hr⟩
    · replace hr := ite_neg hr hc142
      with_reducible refine W.exit ?_
      with_reducible refine Ex.thn_ex ?_
      with_reducible refine Ex.thn_ex ?_
      with_reducible refine Ex.blk_here ?_
      with_reducible refine Ex.thn_norm ?_
      with_reducible refine W.seq ?_
      with_reducible refine W.region ?_
      refine WL.move .nil rfl rfl rfl rfl ?_
      refine WL.assign .nil rfl rfl rfl rfl ?_
      with_reducible refine WL.nil ?_
      with_reducible refine Ex.thn_norm ?_
      with_reducible refine W.ret ?_
      obtain rfl := Option.some.inj hr
      exact ⟨.inr rfl, _, (.cons (.tmp rfl) .nil), ⟨(some ⟨n0, 0, none⟩), (xs1.length : Int).toNat, (Ext.st hE135 hS134), (by rw [← hl139]; rfl), (OW.downSc hE135.sub (OW.head hl139 h138))⟩⟩
theorem f_laws_toIntS_k {Δ : Prims} (g : Env Try.prog Δ) {lo n0 : Nat} {H0 F0 : Heap} (hS : St lo n0 H0 F0) {a2 : Option Addr} {cap3 : Nat} {xs1 : (List Int)} (h4 : SR F0 (.slice a2 xs1.length cap3) xs1) {res : ((List Int))} (hr : f_laws_toIntS xs1 = some res) :
    C Try.prog Δ n0 125 [.slice a2 xs1.length cap3] n0 H0 (fun v n H => ∃ (ra1 : Option Addr) (rcap2 : Nat), St n0 n H F0 ∧ v = .slice ra1 res.length rcap2 ∧ OW n0 n H F0 (.slice ra1 res.length rcap2) res) := by
  refine C.body Try.func125 rfl rfl ?_
  unfold f_laws_toIntS at hr
  have hS0 : St n0 n0 H0 F0 := hS.low (Nat.le_refl _)
  have hE0 := Ext.refl n0 F0
  have hlo0 := hS0.lo
  with_reducible refine W.seq ?_
  with_reducible refine W.region ?_
  refine WL.assign .nil rfl rfl rfl rfl ?_
  with_reducible refine WL.nil ?_
  with_reducible refine Ex.thn_norm ?_
  with_reducible refine W.seq ?_
  with_reducible refine W.region ?_
  refine WL.move .nil rfl rfl rfl rfl ?_
  refine WL.len .nil rfl rfl rfl Try.underlying33 rfl ?_
  obtain ⟨hc5, hr⟩ := chk_some hr
  refine GL.make (α := Int) (u := 0) hS0 .nil rfl rfl rfl Try.underlying33 info3 rfl rfl (by decide) rfl (by decide) rfl rfl rfl rfl hc5.1 hc5.2 (fun H6 hS7 hO8 hk9 => ?_)
  have h10 := OW.lower (lo' := n0) hO8 (by omega)
  have hlon01 := hS7.lo
  refine WL.assign .nil rfl rfl rfl rfl ?_
  with_reducible refine WL.nil ?_
  with_reducible refine Ex.thn_norm ?_
  with_reducible refine W.seq ?_
  with_reducible refine W.seq ?_
  with_reducible refine W.region ?_
  refine WL.assign .nil rfl rfl rfl rfl ?_
  with_reducible refine WL.nil ?_
  with_reducible refine Ex.thn_norm ?_
  with_reducible refine W.block ?_
  refine W.loopF (fun k0 fr n H => ∃ (xs137 : (List Int)) (x140 : Int) (F : Heap), fr = [(0, .slice a2 xs1.length cap3), (3, .slice (some ⟨n0, 0, none⟩) (List.replicate (xs1.length : Int).toNat (0 : Int)).length ((xs1.length : Int).toNat)), (4, .int .i64 x140)] ∧ St n0 n H F ∧ Ext n0 F0 n F ∧ SR F (.slice a2 xs1.length cap3) xs1 ∧ OW n0 n H F (.slice (some ⟨n0, 0, none⟩) (List.replicate (xs1.length : Int).toNat (0 : Int)).length ((xs1.length : Int).toNat)) xs137 ∧ (List.replicate (xs1.length : Int).toNat (0 : Int)).length = xs137.length ∧ f_laws_toIntS_L0 xs1 k0 xs137 x140 = some res) BIG (fr0 := [(0, .slice a2 xs1.length cap3), (3, .slice (some ⟨n0, 0, none⟩) (List.replicate (xs1.length : Int).toNat (0 : Int)).length ((xs1.length : Int).toNat)), (4, .int .i64 0)]) (Fr.le_cons rfl (Fr.le_cons rfl (Fr.le_cons rfl Fr.le_nil))) ?_ ?_ ?_
  · exact ⟨(List.replicate (xs1.length : Int).toNat (0 : Int)), 0, F0, rfl, hS7, (hE0.up (by omega)), h4, h10, rfl, hr⟩
  · intro fr n H hI
    obtain ⟨xs137, x140, F133, hfr, hS134, hE135, h136, h138, hl139, hr⟩ := hI
    rw [f_laws_toIntS_L0] at hr
    cases hr
  · intro k0 _ n131 H132 hI
    obtain ⟨xs137, x140, F133, rfl, hS134, hE135, h136, h138, hl139, hr⟩ := hI
    have hlen131 := hE135.le
    have hlon131 := hS134.lo
    rw [f_laws_toIntS_L0] at hr
    with_reducible refine W.seq ?_
    with_reducible refine W.seq ?_
    with_reducible refine W.region ?_
    refine WL.move .nil rfl rfl rfl rfl ?_
    refine WL.move .nil rfl rfl rfl rfl ?_
    refine WL.len .nil rfl rfl rfl Try.underlying33 rfl ?_
    refine WL.bin .nil rfl rfl rfl rfl rfl rfl ?_
    with_reducible refine WL.nil ?_
    with_reducible refine Ex.thn_norm ?_
    refine W.condD rfl (fun hc142 => ?_) (fun hc142 => ?_)
    · replace hr := ite_pos hr hc142
      with_reducible refine W.skip ?_
      with_reducible refine Ex.thn_norm ?_
      with_reducible refine W.seq ?_
      with_reducible refine W.block ?_
      with_reducible refine W.region ?_
      refine WL.move .nil rfl rfl rfl rfl ?_
      refine WL.move .nil rfl rfl rfl rfl ?_
      refine WL.move .nil rfl rfl rfl rfl ?_
      refine WL.move .nil rfl rfl rfl rfl ?_
      obtain ⟨x167, hx167, hr⟩ := bnd_some hr
      refine GL.index .nil rfl rfl rfl Try.underlying33 info3 rfl rfl h136 hS134.fh rfl hx167 (fun b168 kp169 c170 ecs171 hrow172 hwin173 hR174 => ?_)
      have hcs : _ = ([.int .i64 x167] : List Value) := hR174
      subst hcs
      refine WL.load1 .nil rfl rfl rfl Try.underlying3 rfl rfl hrow172 ((win_get0 hwin173 (show (0 : Nat) < 1 by decide)).trans rfl) ?_
      obtain ⟨x175, hx175, hr⟩ := bnd_some hr
      refine GL.indexO .nil rfl rfl rfl Try.underlying33 info3 rfl rfl h138 rfl hx175 (fun b176 kp177 c178 ecs179 hid183 hrow180 hwin181 hR182 hup184 => ?_)
      have hcs : _ = ([.int .i64 x175] : List Value) := hR182
      subst hcs
      refine GL.store hS134 .nil (vc := [.int .i64 x167]) rfl rfl rfl info3 rfl rfl rfl rfl hrow180 (OW.fnone h138 hid183) (win_fit hwin181 (Nat.le_of_ble_eq_true rfl) rfl (Nat.le_of_ble_eq_true rfl)) (OW.id_lt h138 hid183).1 (by repeat' (first | exact List.forall_mem_nil _ | refine List.forall_mem_cons.2 ⟨?_, ?_⟩ | rfl)) rfl (fun H185 hS186 ho187 hk188 => ?_)
      have h189 := hup184 0 [.int .i64 x167] (x167 : Int) H185 (Nat.le_of_ble_eq_true rfl) rfl ho187
      have hl190 : (List.replicate (xs1.length : Int).toNat (0 : Int)).length = (setI xs137 x140 x167).length := hl139.trans (setI_length _ _ _).symm
      with_reducible refine WL.nil ?_
      with_reducible refine Ex.blk_norm ?_
      with_reducible refine Ex.thn_norm ?_
      with_reducible refine W.region ?_
      refine WL.move .nil rfl rfl rfl rfl ?_
      obtain ⟨hc191, hr⟩ := chk_some hr
      refine WL.addI .nil rfl rfl rfl rfl rfl hc191.1 hc191.2 ?_
      refine WL.assign .nil rfl rfl rfl rfl ?_
      with_reducible refine WL.nil ?_
      with_reducible refine Ex.thn_norm ?_
      exact ⟨[(0, .slice a2 xs1.length cap3), (3, .slice (some ⟨n0, 0, none⟩) (List.replicate (xs1.length : Int).toNat (0 : Int)).length ((xs1.length : Int).toNat)), (4, .int .i64 (x140 + 1))], (Fr.le_cons rfl (Fr.le_cons rfl (Fr.le_cons rfl Fr.le_nil))), (setI xs137 x140 x167), (x140 + 1), F133, rfl, hS186, hE135, h136, h189, hl190, hr⟩
    · replace hr := ite_neg hr hc142
      with_reducible refine W.exit ?_
      with_reducible refine Ex.thn_ex ?_
      with_reducible refine Ex.thn_ex ?_
      with_reducible refine Ex.blk_here ?_
      with_reducible refine Ex.thn_norm ?_
      with_reducible refine W.seq ?_
      with_reducible refine W.region ?_
      refine WL.move .nil rfl rfl rfl rfl ?_
      refine WL.assign .nil rfl rfl rfl rfl ?_
      with_reducible refine WL.nil ?_
      with_reducible refine Ex.thn_norm ?_
      with_reducible refine W.ret ?_
      obtain rfl := Option.some.inj hr
      exact ⟨.inr rfl, _, (.cons (.tmp rfl) .nil), ⟨(some ⟨n0, 0, none⟩), (xs1.length : Int).toNat, (Ext.st hE135 hS134), (by rw [← hl139]; rfl), (OW.downSc hE135.sub (OW.head hl139 h138))⟩⟩
theorem f_laws_toPeer_k {Δ : Prims} (g : Env Try.prog Δ) {lo n0 : Nat} {H0 F0 : Heap} (hS : St lo n0 H0 F0) {x1 : GPeer} {a2 : Option Addr} {cap3 : Nat} {a5 : Option Addr} {cap6 : Nat} {a8 : Option Addr} {cap9 : Nat} {a11 : Option Addr} {cap12 : Nat} (h4 : SR F0 (.slice a2 x1.Log.length cap3) x1.Log) (h7 : SR F0 (.slice a5 x1.Votes.length cap6) x1.Votes) (h10 : SR F0 (.slice a8 x1.Next.length cap9) x1.Next) (h13 : SR F0 (.slice a11 x1.Match.length cap12) x1.Match) {res : (GPeer)} (hr : f_laws_toPeer x1 = some res) :
    C Try.prog Δ n0 97 [.agg [.bool x1.Up, .int .i64 x1.Term, .int .i64 x1.Vote, .int .i64 x1.Commit, .int .i64 x1.Role, .slice a2 x1.Log.length cap3, .slice a5 x1.Votes.length cap6, .slice a8 x1.Next.length cap9, .slice a11 x1.Match.length cap12].toArray] n0 H0 (fun v n H => ∃ (F : Heap) (ra1 : Option Addr) (rcap2 : Nat) (ra4 : Option Addr) (rcap5 : Nat) (ra7 : Option Addr) (rcap8 : Nat) (ra10 : Option Addr) (rcap11 : Nat), Ext n0 F0 n F ∧ St n0 n H F ∧ v = .agg [.bool res.Up, .int .i64 res.Term, .int .i64 res.Vote, .int .i64 res.Commit, .int .i64 res.Role, .slice ra1 res.Log.length rcap2, .slice ra4 res.Votes.length rcap5, .slice ra7 res.Next.length rcap8, .slice ra10 res.Match.length rcap11].toArray ∧ SR F (.slice ra1 res.Log.length rcap2) res.Log ∧ SR F (.slice ra4 res.Votes.length rcap5) res.Votes ∧ SR F (.slice ra7 res.Next.length rcap8) res.Next ∧ SR F (.slice ra10 res.Match.length rcap11) res.Match) := by
  refine C.body Try.func97 rfl rfl ?_
  unfold f_laws_toPeer at hr
  have hS0 : St n0 n0 H0 F0 := hS.low (Nat.le_refl _)
  have hE0 := Ext.refl n0 F0
  have hlo0 := hS0.lo
  with_reducible refine W.seq ?_
  with_reducible refine W.region ?_
  refine GL.box hS0 .nil (vc := [.bool x1.Up, .int .i64 x1.Term, .int .i64 x1.Vote, .int .i64 x1.Commit, .int .i64 x1.Role, .slice a2 x1.Log.length cap3, .slice a5 x1.Votes.length cap6, .slice a8 x1.Next.length cap9, .slice a11 x1.Match.length cap12]) rfl rfl rfl rfl rfl (by repeat' (first | exact List.forall_mem_nil _ | refine List.forall_mem_cons.2 ⟨?_, ?_⟩ | rfl)) (fun H14 hS15 ho16 hk17 => ?_)
  have fo18 := hS0.fnone (Nat.le_refl _)
  have hlon01 := hS15.lo
  have lt19 : n0 < (n0 + 1) := by omega
  refine GL.alloc hS15 .nil (zc := [.bool false, .int .i64 0, .int .i64 0, .int .i64 0, .int .i64 0, .slice none 0 0, .slice none 0 0, .slice none 0 0, .slice none 0 0]) rfl rfl rfl info88 rfl rfl rfl (fun H20 hS21 ho22 hk23 => ?_)
  have fo24 := hS15.fnone (Nat.le_refl _)
  have ho26 := (hk23 _ (by have := lt19; omega)).trans ho16
  have hlon011 := hS21.lo
  have lt25 : (n0 + 1) < ((n0 + 1) + 1) := by omega
  with_reducible refine WL.nil ?_
  with_reducible refine Ex.thn_norm ?_
  with_reducible refine W.seq ?_
  with_reducible refine W.region ?_
  refine GL.alloc hS21 .nil (zc := [.bool false, .int .i64 0, .int .i64 0, .int .i64 0, .int .i64 0, .slice none 0 0, .slice none 0 0, .slice none 0 0, .slice none 0 0]) rfl rfl rfl info88 rfl rfl rfl (fun H27 hS28 ho29 hk30 => ?_)
  have fo31 := hS21.fnone (Nat.le_refl _)
  have ho33 := (hk30 _ (by have := lt19; omega)).trans ho26
  have ho34 := (hk30 _ (by have := lt25; omega)).trans ho22
  have hlon0111 := hS28.lo
  have lt32 : ((n0 + 1) + 1) < (((n0 + 1) + 1) + 1) := by omega
  with_reducible refine WL.nil ?_
  with_reducible refine Ex.thn_norm ?_
  with_reducible refine W.seq ?_
  with_reducible refine W.region ?_
  refine WL.fieldAddr .nil rfl rfl rfl Try.underlying120 rfl info4 rfl rfl ?_
  refine WL.load1 .nil rfl rfl rfl Try.underlying4 rfl rfl ho33 rfl ?_
  refine WL.fieldAddr .nil rfl rfl rfl Try.underlying88 rfl info4 rfl rfl ?_
  refine GL.store hS28 .nil (vc := [.bool x1.Up]) (c' := [.bool x1.Up, .int .i64 0, .int .i64 0, .int .i64 0, .int .i64 0, .slice none 0 0, .slice none 0 0, .slice none 0 0, .slice none 0 0]) rfl rfl rfl info4 rfl rfl rfl rfl ho29 fo31 (Nat.le_of_ble_eq_true rfl) (by omega) (by repeat' (first | exact List.forall_mem_nil _ | refine List.forall_mem_cons.2 ⟨?_, ?_⟩ | rfl)) rfl (fun H35 hS36 ho37 hk38 => ?_)
  have ho39 := (hk38 _ (by omega)).trans ho33
  have ho40 := (hk38 _ (by omega)).trans ho34
  with_reducible refine WL.nil ?_
  with_reducible refine Ex.thn_norm ?_
  with_reducible refine W.seq ?_
  with_reducible refine W.region ?_
  refine WL.fieldAddr .nil rfl rfl rfl Try.underlying120 rfl info3 rfl rfl ?_
  refine WL.load1 .nil rfl rfl rfl Try.underlying3 rfl rfl ho39 rfl ?_
  refine WL.fieldAddr .nil rfl rfl rfl Try.underlying88 rfl info3 rfl rfl ?_
  refine GL.store hS36 .nil (vc := [.int .i64 x1.Term]) (c' := [.bool x1.Up, .int .i64 x1.Term, .int .i64 0, .int .i64 0, .int .i64 0, .slice none 0 0, .slice none 0 0, .slice none 0 0, .slice none 0 0]) rfl rfl rfl info3 rfl rfl rfl rfl ho37 fo31 (Nat.le_of_ble_eq_true rfl) (by omega) (by repeat' (first | exact List.forall_mem_nil _ | refine List.forall_mem_cons.2 ⟨?_, ?_⟩ | rfl)) rfl (fun H41 hS42 ho43 hk44 => ?_)
  have ho45 := (hk44 _ (by omega)).trans ho39
  have ho46 := (hk44 _ (by omega)).trans ho40
  with_reducible refine WL.nil ?_
  with_reducible refine Ex.thn_norm ?_
  with_reducible refine W.seq ?_
  with_reducible refine W.region ?_
  refine WL.fieldAddr .nil rfl rfl rfl Try.underlying120 rfl info3 rfl rfl ?_
  refine WL.load1 .nil rfl rfl rfl Try.underlying3 rfl rfl ho45 rfl ?_
  refine WL.fieldAddr .nil rfl rfl rfl Try.underlying88 rfl info3 rfl rfl ?_
  refine GL.store hS42 .nil (vc := [.int .i64 x1.Vote]) (c' := [.bool x1.Up, .int .i64 x1.Term, .int .i64 x1.Vote, .int .i64 0, .int .i64 0, .slice none 0 0, .slice none 0 0, .slice none 0 0, .slice none 0 0]) rfl rfl rfl info3 rfl rfl rfl rfl ho43 fo31 (Nat.le_of_ble_eq_true rfl) (by omega) (by repeat' (first | exact List.forall_mem_nil _ | refine List.forall_mem_cons.2 ⟨?_, ?_⟩ | rfl)) rfl (fun H47 hS48 ho49 hk50 => ?_)
  have ho51 := (hk50 _ (by omega)).trans ho45
  have ho52 := (hk50 _ (by omega)).trans ho46
  with_reducible refine WL.nil ?_
  with_reducible refine Ex.thn_norm ?_
  with_reducible refine W.seq ?_
  with_reducible refine W.region ?_
  refine WL.fieldAddr .nil rfl rfl rfl Try.underlying120 rfl info3 rfl rfl ?_
  refine WL.load1 .nil rfl rfl rfl Try.underlying3 rfl rfl ho51 rfl ?_
  refine WL.fieldAddr .nil rfl rfl rfl Try.underlying88 rfl info3 rfl rfl ?_
  refine GL.store hS48 .nil (vc := [.int .i64 x1.Commit]) (c' := [.bool x1.Up, .int .i64 x1.Term, .int .i64 x1.Vote, .int .i64 x1.Commit, .int .i64 0, .slice none 0 0, .slice none 0 0, .slice none 0 0, .slice none 0 0]) rfl rfl rfl info3 rfl rfl rfl rfl ho49 fo31 (Nat.le_of_ble_eq_true rfl) (by omega) (by repeat' (first | exact List.forall_mem_nil _ | refine List.forall_mem_cons.2 ⟨?_, ?_⟩ | rfl)) rfl (fun H53 hS54 ho55 hk56 => ?_)
  have ho57 := (hk56 _ (by omega)).trans ho51
  have ho58 := (hk56 _ (by omega)).trans ho52
  with_reducible refine WL.nil ?_
  with_reducible refine Ex.thn_norm ?_
  with_reducible refine W.seq ?_
  with_reducible refine W.region ?_
  refine WL.fieldAddr .nil rfl rfl rfl Try.underlying120 rfl info3 rfl rfl ?_
  refine WL.load1 .nil rfl rfl rfl Try.underlying3 rfl rfl ho57 rfl ?_
  refine WL.fieldAddr .nil rfl rfl rfl Try.underlying88 rfl info3 rfl rfl ?_
  refine GL.store hS54 .nil (vc := [.int .i64 x1.Role]) (c' := [.bool x1.Up, .int .i64 x1.Term, .int .i64 x1.Vote, .int .i64 x1.Commit, .int .i64 x1.Role, .slice none 0 0, .slice none 0 0, .slice none 0 0, .slice none 0 0]) rfl rfl rfl info3 rfl rfl rfl rfl ho55 fo31 (Nat.le_of_ble_eq_true rfl) (by omega) (by repeat' (first | exact List.forall_mem_nil _ | refine List.forall_mem_cons.2 ⟨?_, ?_⟩ | rfl)) rfl (fun H59 hS60 ho61 hk62 => ?_)
  have ho63 := (hk62 _ (by omega)).trans ho57
  have ho64 := (hk62 _ (by omega)).trans ho58
  with_reducible refine WL.nil ?_
  with_reducible refine Ex.thn_norm ?_
  with_reducible refine W.seq ?_
  with_reducible refine W.region ?_
  refine WL.fieldAddr .nil rfl rfl rfl Try.underlying120 rfl info57 rfl rfl ?_
  refine WL.load1 .nil rfl rfl rfl Try.underlying57 rfl rfl ho63 rfl ?_
  obtain ⟨x65, hx65, hr⟩ := bnd_some hr
  refine GL.callP g.good .nil rfl rfl rfl rfl rfl rfl Try.func59 rfl rfl hS60.lo (f_laws_toRecS_k  g hS60 h4 hx65) (fun v n66 H67 hn68 hk69 hp70 => ?_)
  obtain ⟨F75, a71, cap72, hX76, hS74, rfl, h73⟩ := hp70
  have ho77 := (hk69 _ (by have := lt19; omega)).trans ho63
  have ho78 := (hk69 _ (by have := lt25; omega)).trans ho64
  have ho79 := (hk69 _ (by have := lt32; omega)).trans ho61
  have hS80 : St n0 n66 H67 F75 := ⟨by have := hS60.lo; omega, hS74.hb, hS74.fh⟩
  have fo81 := (hX76.eq _ (by have := lt19; omega)).trans fo18
  have fo82 := (hX76.eq _ (by have := lt25; omega)).trans fo24
  have fo83 := (hX76.eq _ (by have := lt32; omega)).trans fo31
  have hE84 := (hE0.up (n' := (((n0 + 1) + 1) + 1)) (by omega)).trans hX76
  have hlon66 := hS80.lo
  have h85 := OW.lower (lo' := n0) h73 (by omega)
  have ap87 : idOf (.slice a71 x65.length cap72) ≠ some n0 := fun hj => by have := (OW.id_lt h73 hj).1; have := lt19; omega
  have ap88 : idOf (.slice a71 x65.length cap72) ≠ some (n0 + 1) := fun hj => by have := (OW.id_lt h73 hj).1; have := lt25; omega
  have ap89 : idOf (.slice a71 x65.length cap72) ≠ some ((n0 + 1) + 1) := fun hj => by have := (OW.id_lt h73 hj).1; have := lt32; omega
  refine WL.fieldAddr .nil rfl rfl rfl Try.underlying88 rfl info30 rfl rfl ?_
  refine GL.store hS80 .nil (vc := [.slice a71 x65.length cap72]) (c' := [.bool x1.Up, .int .i64 x1.Term, .int .i64 x1.Vote, .int .i64 x1.Commit, .int .i64 x1.Role, .slice a71 x65.length cap72, .slice none 0 0, .slice none 0 0, .slice none 0 0]) rfl rfl rfl info30 rfl rfl rfl rfl ho79 fo83 (Nat.le_of_ble_eq_true rfl) (by omega) (by repeat' (first | exact List.forall_mem_nil _ | refine List.forall_mem_cons.2 ⟨?_, ?_⟩ | rfl)) rfl (fun H90 hS91 ho92 hk93 => ?_)
  have ho94 := (hk93 _ (by omega)).trans ho77
  have ho95 := (hk93 _ (by omega)).trans ho78
  have h96 := OW.keep h85 (Nat.le_refl _) (fun i hi => hk93 i (fun hj => ap89 (hj ▸ hi)))
  with_reducible refine WL.nil ?_
  with_reducible refine Ex.thn_norm ?_
  with_reducible refine W.seq ?_
  with_reducible refine W.region ?_
  refine WL.fieldAddr .nil rfl rfl rfl Try.underlying120 rfl info86 rfl rfl ?_
  refine WL.load1 .nil rfl rfl rfl Try.underlying86 rfl rfl ho94 rfl ?_
  obtain ⟨x97, hx97, hr⟩ := bnd_some hr
  have hb103 := fun b hb => (OW.id_lt (i := b) h96 hb).2
  refine GL.callP g.good .nil rfl rfl rfl rfl rfl rfl Try.func124 rfl rfl hS91.lo (f_laws_toBoolS_k  g hS91 (h7.mono hX76.sub) hx97) (fun v n98 H99 hn100 hk101 hp102 => ?_)
  obtain ⟨a104, cap105, hS107, rfl, h106⟩ := hp102
  have ho108 := (hk101 _ (by have := lt19; omega)).trans ho94
  have ho109 := (hk101 _ (by have := lt25; omega)).trans ho95
  have ho110 := (hk101 _ (by have := lt32; omega)).trans ho92
  have h111 := OW.keep (n' := n98) h96 (by omega) (fun i hi => hk101 i (OW.id_lt h96 hi).2)
  have hS112 : St n0 n98 H99 F75 := ⟨by have := hS91.lo; omega, hS107.hb, hS107.fh⟩
  have hlon98 := hS112.lo
  have h113 := OW.lower (lo' := n0) h106 (by omega)
  have ap115 : idOf (.slice a104 x97.length cap105) ≠ some n0 := fun hj => by have := (OW.id_lt h106 hj).1; have := lt19; omega
  have ap116 : idOf (.slice a104 x97.length cap105) ≠ some (n0 + 1) := fun hj => by have := (OW.id_lt h106 hj).1; have := lt25; omega
  have ap117 : idOf (.slice a104 x97.length cap105) ≠ some ((n0 + 1) + 1) := fun hj => by have := (OW.id_lt h106 hj).1; have := lt32; omega
  have ap118 : ∀ b, idOf (.slice a104 x97.length cap105) = some b → idOf (.slice a71 x65.length cap72) ≠ some b := fun b hj hi => by have := (OW.id_lt h106 hj).1; have := hb103 b hi; omega
  refine WL.fieldAddr .nil rfl rfl rfl Try.underlying88 rfl info86 rfl rfl ?_
  refine GL.store hS112 .nil (vc := [.slice a104 x97.length cap105]) (c' := [.bool x1.Up, .int .i64 x1.Term, .int .i64 x1.Vote, .int .i64 x1.Commit, .int .i64 x1.Role, .slice a71 x65.length cap72, .slice a104 x97.length cap105, .slice none 0 0, .slice none 0 0]) rfl rfl rfl info86 rfl rfl rfl rfl ho110 fo83 (Nat.le_of_ble_eq_true rfl) (by omega) (by repeat' (first | exact List.forall_mem_nil _ | refine List.forall_mem_cons.2 ⟨?_, ?_⟩ | rfl)) rfl (fun H119 hS120 ho121 hk122 => ?_)
  have ho123 := (hk122 _ (by omega)).trans ho108
  have ho124 := (hk122 _ (by omega)).trans ho109
  have h125 := OW.keep h111 (Nat.le_refl _) (fun i hi => hk122 i (fun hj => ap89 (hj ▸ hi)))
  have h126 := OW.keep h113 (Nat.le_refl _) (fun i hi => hk122 i (fun hj => ap117 (hj ▸ hi)))
  with_reducible refine WL.nil ?_
  with_reducible refine Ex.thn_norm ?_
  with_reducible refine W.seq ?_
  with_reducible refine W.region ?_
  refine WL.fieldAddr .nil rfl rfl rfl Try.underlying120 rfl info33 rfl rfl ?_
  refine WL.load1 .nil rfl rfl rfl Try.underlying33 rfl rfl ho123 rfl ?_
  obtain ⟨x127, hx127, hr⟩ := bnd_some hr
  have hb133 := fun b hb => (OW.id_lt (i := b) h125 hb).2
  have hb134 := fun b hb => (OW.id_lt (i := b) h126 hb).2
  refine GL.callP g.good .nil rfl rfl rfl rfl rfl rfl Try.func125 rfl rfl hS120.lo (f_laws_toIntS_k  g hS120 (h10.mono hX76.sub) hx127) (fun v n128 H129 hn130 hk131 hp132 => ?_)
  obtain ⟨a135, cap136, hS138, rfl, h137⟩ := hp132
  have ho139 := (hk131 _ (by have := lt19; omega)).trans ho123
  have ho140 := (hk131 _ (by have := lt25; omega)).trans ho124
  have ho141 := (hk131 _ (by have := lt32; omega)).trans ho121
  have h142 := OW.keep (n' := n128) h125 (by omega) (fun i hi => hk131 i (OW.id_lt h125 hi).2)
  have h143 := OW.keep (n' := n128) h126 (by omega) (fun i hi => hk131 i (OW.id_lt h126 hi).2)
  have hS144 : St n0 n128 H129 F75 := ⟨by have := hS120.lo; omega, hS138.hb, hS138.fh⟩
  have hlon128 := hS144.lo
  have h145 := OW.lower (lo' := n0) h137 (by omega)
  have ap147 : idOf (.slice a135 x127.length cap136) ≠ some n0 := fun hj => by have := (OW.id_lt h137 hj).1; have := lt19; omega
  have ap148 : idOf (.slice a135 x127.length cap136) ≠ some (n0 + 1) := fun hj => by have := (OW.id_lt h137 hj).1; have := lt25; omega
  have ap149 : idOf (.slice a135 x127.length cap136) ≠ some ((n0 + 1) + 1) := fun hj => by have := (OW.id_lt h137 hj).1; have := lt32; omega
  have ap150 : ∀ b, idOf (.slice a135 x127.length cap136) = some b → idOf (.slice a71 x65.length cap72) ≠ some b := fun b hj hi => by have := (OW.id_lt h137 hj).1; have := hb133 b hi; omega
  have ap151 : ∀ b, idOf (.slice a135 x127.length cap136) = some b → idOf (.slice a104 x97.length cap105) ≠ some b := fun b hj hi => by have := (OW.id_lt h137 hj).1; have := hb134 b hi; omega
  refine WL.fieldAddr .nil rfl rfl rfl Try.underlying88 rfl info33 rfl rfl ?_
  refine GL.store hS144 .nil (vc := [.slice a135 x127.length cap136]) (c' := [.bool x1.Up, .int .i64 x1.Term, .int .i64 x1.Vote, .int .i64 x1.Commit, .int .i64 x1.Role, .slice a71 x65.length cap72, .slice a104 x97.length cap105, .slice a135 x127.length cap136, .slice none 0 0]) rfl rfl rfl info33 rfl rfl rfl rfl ho141 fo83 (Nat.le_of_ble_eq_true rfl) (by omega) (by repeat' (first | exact List.forall_mem_nil _ | refine List.forall_mem_cons.2 ⟨?_, ?_⟩ | rfl)) rfl (fun H152 hS153 ho154 hk155 => ?_)
  have ho156 := (hk155 _ (by omega)).trans ho139
  have ho157 := (hk155 _ (by omega)).trans ho140
  have h158 := OW.keep h142 (Nat.le_refl _) (fun i hi => hk155 i (fun hj => ap89 (hj ▸ hi)))
  have h159 := OW.keep h143 (Nat.le_refl _) (fun i hi => hk155 i (fun hj => ap117 (hj ▸ hi)))
  have h160 := OW.keep h145 (Nat.le_refl _) (fun i hi => hk155 i (fun hj => ap149 (hj ▸ hi)))
  with_reducible refine WL.nil ?_
  with_reducible refine Ex.thn_norm ?_
  with_reducible refine W.seq ?_
  with_reducible refine W.region ?_
  refine WL.fieldAddr .nil rfl rfl rfl Try.underlying120 rfl info33 rfl rfl ?_
  refine WL.load1 .nil rfl rfl rfl Try.underlying33 rfl rfl ho156 rfl ?_
  obtain ⟨x161, hx161, hr⟩ := bnd_some hr
  have hb167 := fun b hb => (OW.id_lt (i := b) h158 hb).2
  have hb168 := fun b hb => (OW.id_lt (i := b) h159 hb).2
  have hb169 := fun b hb => (OW.id_lt (i := b) h160 hb).2
  refine GL.callP g.good .nil rfl rfl rfl rfl rfl rfl Try.func125 rfl rfl hS153.lo (f_laws_toIntS_k  g hS153 (h13.mono hX76.sub) hx161) (fun v n162 H163 hn164 hk165 hp166 => ?_)
  obtain ⟨a170, cap171, hS173, rfl, h172⟩ := hp166
  have ho174 := (hk165 _ (by have := lt19; omega)).trans ho156
  have ho175 := (hk165 _ (by have := lt25; omega)).trans ho157
  have ho176 := (hk165 _ (by have := lt32; omega)).trans ho154
  have h177 := OW.keep (n' := n162) h158 (by omega) (fun i hi => hk165 i (OW.id_lt h158 hi).2)
  have h178 := OW.keep (n' := n162) h159 (by omega) (fun i hi => hk165 i (OW.id_lt h159 hi).2)
  have h179 := OW.keep (n' := n162) h160 (by omega) (fun i hi => hk165 i (OW.id_lt h160 hi).2)
  have hS180 : St n0 n162 H163 F75 := ⟨by have := hS153.lo; omega, hS173.hb, hS173.fh⟩
  have hlon162 := hS180.lo
  have h181 := OW.lower (lo' := n0) h172 (by omega)
  have ap183 : idOf (.slice a170 x161.length cap171) ≠ some n0 := fun hj => by have := (OW.id_lt h172 hj).1; have := lt19; omega
  have ap184 : idOf (.slice a170 x161.length cap171) ≠ some (n0 + 1) := fun hj => by have := (OW.id_lt h172 hj).1; have := lt25; omega
  have ap185 : idOf (.slice a170 x161.length cap171) ≠ some ((n0 + 1) + 1) := fun hj => by have := (OW.id_lt h172 hj).1; have := lt32; omega
  have ap186 : ∀ b, idOf (.slice a170 x161.length cap171) = some b → idOf (.slice a71 x65.length cap72) ≠ some b := fun b hj hi => by have := (OW.id_lt h172 hj).1; have := hb167 b hi; omega
  have ap187 : ∀ b, idOf (.slice a170 x161.length cap171) = some b → idOf (.slice a104 x97.length cap105) ≠ some b := fun b hj hi => by have := (OW.id_lt h172 hj).1; have := hb168 b hi; omega
  have ap188 : ∀ b, idOf (.slice a170 x161.length cap171) = some b → idOf (.slice a135 x127.length cap136) ≠ some b := fun b hj hi => by have := (OW.id_lt h172 hj).1; have := hb169 b hi; omega
  refine WL.fieldAddr .nil rfl rfl rfl Try.underlying88 rfl info33 rfl rfl ?_
  refine GL.store hS180 .nil (vc := [.slice a170 x161.length cap171]) (c' := [.bool x1.Up, .int .i64 x1.Term, .int .i64 x1.Vote, .int .i64 x1.Commit, .int .i64 x1.Role, .slice a71 x65.length cap72, .slice a104 x97.length cap105, .slice a135 x127.length cap136, .slice a170 x161.length cap171]) rfl rfl rfl info33 rfl rfl rfl rfl ho176 fo83 (Nat.le_of_ble_eq_true rfl) (by omega) (by repeat' (first | exact List.forall_mem_nil _ | refine List.forall_mem_cons.2 ⟨?_, ?_⟩ | rfl)) rfl (fun H189 hS190 ho191 hk192 => ?_)
  have ho193 := (hk192 _ (by omega)).trans ho174
  have ho194 := (hk192 _ (by omega)).trans ho175
  have h195 := OW.keep h177 (Nat.le_refl _) (fun i hi => hk192 i (fun hj => ap89 (hj ▸ hi)))
  have h196 := OW.keep h178 (Nat.le_refl _) (fun i hi => hk192 i (fun hj => ap117 (hj ▸ hi)))
  have h197 := OW.keep h179 (Nat.le_refl _) (fun i hi => hk192 i (fun hj => ap149 (hj ▸ hi)))
  have h198 := OW.keep h181 (Nat.le_refl _) (fun i hi => hk192 i (fun hj => ap185 (hj ▸ hi)))
  with_reducible refine WL.nil ?_
  with_reducible refine Ex.thn_norm ?_
  with_reducible refine W.seq ?_
  with_reducible refine W.region ?_
  refine WL.loadN .nil (l' := [.bool x1.Up, .int .i64 x1.Term, .int .i64 x1.Vote, .int .i64 x1.Commit, .int .i64 x1.Role, .slice a71 x65.length cap72, .slice a104 x97.length cap105, .slice a135 x127.length cap136, .slice a170 x161.length cap171]) rfl rfl rfl Try.underlying88 rfl info88 rfl ho191 rfl rfl ?_
  refine GL.store hS190 .nil (vc := [.bool x1.Up, .int .i64 x1.Term, .int .i64 x1.Vote, .int .i64 x1.Commit, .int .i64 x1.Role, .slice a71 x65.length cap72, .slice a104 x97.length cap105, .slice a135 x127.length cap136, .slice a170 x161.length cap171]) (c' := [.bool x1.Up, .int .i64 x1.Term, .int .i64 x1.Vote, .int .i64 x1.Commit, .int .i64 x1.Role, .slice a71 x65.length cap72, .slice a104 x97.length cap105, .slice a135 x127.length cap136, .slice a170 x161.length cap171]) rfl rfl rfl info88 rfl rfl rfl rfl ho194 fo82 (Nat.le_of_ble_eq_true rfl) (by omega) (by repeat' (first | exact List.forall_mem_nil _ | refine List.forall_mem_cons.2 ⟨?_, ?_⟩ | rfl)) rfl (fun H199 hS200 ho201 hk202 => ?_)
  have ho203 := (hk202 _ (by omega)).trans ho193
  have ho204 := (hk202 _ (by omega)).trans ho191
  have h205 := OW.keep h195 (Nat.le_refl _) (fun i hi => hk202 i (fun hj => ap88 (hj ▸ hi)))
  have h206 := OW.keep h196 (Nat.le_refl _) (fun i hi => hk202 i (fun hj => ap116 (hj ▸ hi)))
  have h207 := OW.keep h197 (Nat.le_refl _) (fun i hi => hk202 i (fun hj => ap148 (hj ▸ hi)))
  have h208 := OW.keep h198 (Nat.le_refl _) (fun i hi => hk202 i (fun hj => ap184 (hj ▸ hi)))
  with_reducible refine WL.nil ?_
  with_reducible refine Ex.thn_norm ?_
  with_reducible refine W.ret ?_
  obtain ⟨F209, hS210, hle211, h212, hf213⟩ := OW.freeze h205 hS200
  have fo214 := (hf213 _ ap87).trans fo81
  have fo215 := (hf213 _ ap88).trans fo82
  have fo216 := (hf213 _ ap89).trans fo83
  have h217 := OW.keepF h206 hle211 (fun i hi => (hf213 i (fun hj => (fun b h1 h2 => ap118 b h2 h1) i hj hi)).trans (OW.fnone h206 hi))
  have h218 := OW.keepF h207 hle211 (fun i hi => (hf213 i (fun hj => (fun b h1 h2 => ap150 b h2 h1) i hj hi)).trans (OW.fnone h207 hi))
  have h219 := OW.keepF h208 hle211 (fun i hi => (hf213 i (fun hj => (fun b h1 h2 => ap186 b h2 h1) i hj hi)).trans (OW.fnone h208 hi))
  have hE220 : Ext n0 F0 n162 F209 := ⟨Nat.le_trans hE84.le (by omega), hE84.sub.trans hle211, fun i hi => (hf213 i (fun hj => by have := OW.id_lt h205 hj; omega)).trans (hE84.eq i hi)⟩
  obtain ⟨F221, hS222, hle223, h224, hf225⟩ := OW.freeze h217 hS210
  have fo226 := (hf225 _ ap115).trans fo214
  have fo227 := (hf225 _ ap116).trans fo215
  have fo228 := (hf225 _ ap117).trans fo216
  have h229 := OW.keepF h218 hle223 (fun i hi => (hf225 i (fun hj => (fun b h1 h2 => ap151 b h2 h1) i hj hi)).trans (OW.fnone h218 hi))
  have h230 := OW.keepF h219 hle223 (fun i hi => (hf225 i (fun hj => (fun b h1 h2 => ap187 b h2 h1) i hj hi)).trans (OW.fnone h219 hi))
  have hE231 : Ext n0 F0 n162 F221 := ⟨Nat.le_trans hE220.le (by omega), hE220.sub.trans hle223, fun i hi => (hf225 i (fun hj => by have := OW.id_lt h217 hj; omega)).trans (hE220.eq i hi)⟩
  obtain ⟨F232, hS233, hle234, h235, hf236⟩ := OW.freeze h229 hS222
  have fo237 := (hf236 _ ap147).trans fo226
  have fo238 := (hf236 _ ap148).trans fo227
  have fo239 := (hf236 _ ap149).trans fo228
  have h240 := OW.keepF h230 hle234 (fun i hi => (hf236 i (fun hj => (fun b h1 h2 => ap188 b h2 h1) i hj hi)).trans (OW.fnone h230 hi))
  have hE241 : Ext n0 F0 n162 F232 := ⟨Nat.le_trans hE231.le (by omega), hE231.sub.trans hle234, fun i hi => (hf236 i (fun hj => by have := OW.id_lt h229 hj; omega)).trans (hE231.eq i hi)⟩
  obtain ⟨F242, hS243, hle244, h245, hf246⟩ := OW.freeze h240 hS233
  have fo247 := (hf246 _ ap183).trans fo237
  have fo248 := (hf246 _ ap184).trans fo238
  have fo249 := (hf246 _ ap185).trans fo239
  have hE250 : Ext n0 F0 n162 F242 := ⟨Nat.le_trans hE241.le (by omega), hE241.sub.trans hle244, fun i hi => (hf246 i (fun hj => by have := OW.id_lt h240 hj; omega)).trans (hE241.eq i hi)⟩
  obtain rfl := Option.some.inj hr
  exact ⟨.inr rfl, _, (.cons (.cellN (l := [.bool x1.Up, .int .i64 x1.Term, .int .i64 x1.Vote, .int .i64 x1.Commit, .int .i64 x1.Role, .slice a71 x65.length cap72, .slice a104 x97.length cap105, .slice a135 x127.length cap136, .slice a170 x161.length cap171]) rfl Try.underlying88 rfl info88 ho201 rfl rfl) .nil), ⟨F242, a71, cap72, a104, cap105, a135, cap136, a170, cap171, (hE250.up (by omega)), hS243, rfl, (((h212.mono hle223).mono hle234).mono hle244), ((h224.mono hle234).mono hle244), (h235.mono hle244), h245⟩⟩
theorem f_laws_toPeerS_k {Δ : Prims} (g : Env Try.prog Δ) {lo n0 : Nat} {H0 F0 : Heap} (hS : St lo n0 H0 F0) {a2 : Option Addr} {cap3 : Nat} {xs1 : (List GPeer)} (h4 : SR F0 (.slice a2 xs1.length cap3) xs1) {res : ((List GPeer))} (hr : f_laws_toPeerS xs1 = some res) :
    C Try.prog Δ n0 57 [.slice a2 xs1.length cap3] n0 H0 (fun v n H => ∃ (F : Heap) (ra1 : Option Addr) (rcap2 : Nat), Ext n0 F0 n F ∧ St n0 n H F ∧ v = .slice ra1 res.length rcap2 ∧ OW n0 n H F (.slice ra1 res.length rcap2) res) := by
  refine C.body Try.func57 rfl rfl ?_
  unfold f_laws_toPeerS at hr
  have hS0 : St n0 n0 H0 F0 := hS.low (Nat.le_refl _)
  have hE0 := Ext.refl n0 F0
  have hlo0 := hS0.lo
  with_reducible refine W.seq ?_
  with_reducible refine W.region ?_
  refine WL.assign .nil rfl rfl rfl rfl ?_
  with_reducible refine WL.nil ?_
  with_reducible refine Ex.thn_norm ?_
  with_reducible refine W.seq ?_
  with_reducible refine W.region ?_
  refine WL.move .nil rfl rfl rfl rfl ?_
  refine WL.len .nil rfl rfl rfl Try.underlying55 rfl ?_
  obtain ⟨hc5, hr⟩ := chk_some hr
  refine GL.make (α := GPeer) (u := ({ Up := false, Term := 0, Vote := 0, Commit := 0, Role := 0, Log := [], Votes := [], Next := [], Match := [] } : GPeer)) hS0 .nil rfl rfl rfl Try.underlying28 info88 rfl rfl (by decide) rfl (by decide) rfl rfl rfl (GPeer.zeroR _) hc5.1 hc5.2 (fun H6 hS7 hO8 hk9 => ?_)
  have h10 := OW.lower (lo' := n0) hO8 (by omega)
  have hlon01 := hS7.lo
  refine WL.assign .nil rfl rfl rfl rfl ?_
  with_reducible refine WL.nil ?_
  with_reducible refine Ex.thn_norm ?_
  with_reducible refine W.seq ?_
  with_reducible refine W.seq ?_
  with_reducible refine W.region ?_
  refine WL.assign .nil rfl rfl rfl rfl ?_
  with_reducible refine WL.nil ?_
  with_reducible refine Ex.thn_norm ?_
  with_reducible refine W.block ?_
  refine W.loopF (fun k0 fr n H => ∃ (xs337 : (List GPeer)) (x340 : Int) (F : Heap), fr = [(0, .slice a2 xs1.length cap3), (3, .slice (some ⟨n0, 0, none⟩) (List.replicate (xs1.length : Int).toNat (({ Up := false, Term := 0, Vote := 0, Commit := 0, Role := 0, Log := [], Votes := [], Next := [], Match := [] } : GPeer) : GPeer)).length ((xs1.length : Int).toNat)), (4, .int .i64 x340)] ∧ St n0 n H F ∧ Ext n0 F0 n F ∧ SR F (.slice a2 xs1.length cap3) xs1 ∧ OW n0 n H F (.slice (some ⟨n0, 0, none⟩) (List.replicate (xs1.length : Int).toNat (({ Up := false, Term := 0, Vote := 0, Commit := 0, Role := 0, Log := [], Votes := [], Next := [], Match := [] } : GPeer) : GPeer)).length ((xs1.length : Int).toNat)) xs337 ∧ (List.replicate (xs1.length : Int).toNat (({ Up := false, Term := 0, Vote := 0, Commit := 0, Role := 0, Log := [], Votes := [], Next := [], Match := [] } : GPeer) : GPeer)).length = xs337.length ∧ f_laws_toPeerS_L0 xs1 k0 xs337 x340 = some res) BIG (fr0 := [(0, .slice a2 xs1.length cap3), (3, .slice (some ⟨n0, 0, none⟩) (List.replicate (xs1.length : Int).toNat (({ Up := false, Term := 0, Vote := 0, Commit := 0, Role := 0, Log := [], Votes := [], Next := [], Match := [] } : GPeer) : GPeer)).length ((xs1.length : Int).toNat)), (4, .int .i64 0)]) (Fr.le_cons rfl (Fr.le_cons rfl (Fr.le_cons rfl Fr.le_nil))) ?_ ?_ ?_
  · exact ⟨(List.replicate (xs1.length : Int).toNat (({ Up := false, Term := 0, Vote := 0, Commit := 0, Role := 0, Log := [], Votes := [], Next := [], Match := [] } : GPeer) : GPeer)), 0, F0, rfl, hS7, (hE0.up (by omega)), h4, h10, rfl, hr⟩
  · intro fr n H hI
    obtain ⟨xs337, x340, F333, hfr, hS334, hE335, h336, h338, hl339, hr⟩ := hI
    rw [f_laws_toPeerS_L0] at hr
    cases hr
  · intro k0 _ n331 H332 hI
    obtain ⟨xs337, x340, F333, rfl, hS334, hE335, h336, h338, hl339, hr⟩ := hI
    have hlen331 := hE335.le
    have hlon331 := hS334.lo
    rw [f_laws_toPeerS_L0] at hr
    with_reducible refine W.seq ?_
    with_reducible refine W.seq ?_
    with_reducible refine W.region ?_
    refine WL.move .nil rfl rfl rfl rfl ?_
    refine WL.move .nil rfl rfl rfl rfl ?_
    refine WL.len .nil rfl rfl rfl Try.underlying55 rfl ?_
    refine WL.bin .nil rfl rfl rfl rfl rfl rfl ?_
    with_reducible refine WL.nil ?_
    with_reducible refine Ex.thn_norm ?_
    refine W.condD rfl (fun hc342 => ?_) (fun hc342 => ?_)
    · replace hr := ite_pos hr hc342
      with_reducible refine W.skip ?_
      with_reducible refine Ex.thn_norm ?_
      with_reducible refine W.seq ?_
      with_reducible refine W.block ?_
      with_reducible refine W.region ?_
      refine WL.move .nil rfl rfl rfl rfl ?_
      refine WL.move .nil rfl rfl rfl rfl ?_
      refine WL.move .nil rfl rfl rfl rfl ?_
      refine WL.move .nil rfl rfl rfl rfl ?_
      obtain ⟨x417, hx417, hr⟩ := bnd_some hr
      refine GL.index .nil rfl rfl rfl Try.underlying55 info120 rfl rfl h336 hS334.fh rfl hx417 (fun b418 kp419 c420 ecs421 hrow422 hwin423 hR424 => ?_)
      obtain ⟨a425, cap426, a428, cap429, a431, cap432, a434, cap435, rfl, h427, h430, h433, h436⟩ := GPeer.ofR hR424
      refine WL.loadN .nil (l' := [.bool x417.Up, .int .i64 x417.Term, .int .i64 x417.Vote, .int .i64 x417.Commit, .int .i64 x417.Role, .slice a425 x417.Log.length cap426, .slice a428 x417.Votes.length cap429, .slice a431 x417.Next.length cap432, .slice a434 x417.Match.length cap435]) rfl rfl rfl Try.underlying120 rfl info120 rfl hrow422 hwin423 rfl ?_
      obtain ⟨x437, hx437, hr⟩ := bnd_some hr
      have hb443 := fun b hb => (OW.id_lt (i := b) h338 hb).2
      refine GL.callP g.good .nil rfl rfl rfl rfl rfl rfl Try.func97 rfl rfl hS334.lo (f_laws_toPeer_k  g hS334 h427 h430 h433 h436 hx437) (fun v n438 H439 hn440 hk441 hp442 => ?_)
      obtain ⟨F457, a444, cap445, a447, cap448, a450, cap451, a453, cap454, hX458, hS456, rfl, h446, h449, h452, h455⟩ := hp442
      have h459 := OW.keep (n' := n438) h338 (by omega) (fun i hi => hk441 i (OW.id_lt h338 hi).2)
      have hS460 : St n0 n438 H439 F457 := ⟨by have := hS334.lo; omega, hS456.hb, hS456.fh⟩
      have h461 := OW.keepF h459 hX458.sub (fun i hi => (hX458.eq i (by have := OW.id_lt h338 hi; omega)).trans (OW.fnone h459 hi))
      have hE462 := (hE335.up (n' := n331) (by omega)).trans hX458
      have hlon438 := hS460.lo
      obtain ⟨x463, hx463, hr⟩ := bnd_some hr
      refine GL.indexO .nil rfl rfl rfl Try.underlying28 info88 rfl rfl h461 rfl hx463 (fun b464 kp465 c466 ecs467 hid471 hrow468 hwin469 hR470 hup472 => ?_)
      obtain ⟨a473, cap474, a476, cap477, a479, cap480, a482, cap483, rfl, h475, h478, h481, h484⟩ := GPeer.ofR hR470
      refine GL.store hS460 .nil (vc := [.bool x437.Up, .int .i64 x437.Term, .int .i64 x437.Vote, .int .i64 x437.Commit, .int .i64 x437.Role, .slice a444 x437.Log.length cap445, .slice a447 x437.Votes.length cap448, .slice a450 x437.Next.length cap451, .slice a453 x437.Match.length cap454]) rfl rfl rfl info88 rfl rfl rfl rfl hrow468 (OW.fnone h461 hid471) (win_fit hwin469 (Nat.le_of_ble_eq_true rfl) rfl (Nat.le_of_ble_eq_true rfl)) (OW.id_lt h461 hid471).1 (by repeat' (first | exact List.forall_mem_nil _ | refine List.forall_mem_cons.2 ⟨?_, ?_⟩ | rfl)) rfl (fun H485 hS486 ho487 hk488 => ?_)
      have h489 := hup472 0 [.bool x437.Up, .int .i64 x437.Term, .int .i64 x437.Vote, .int .i64 x437.Commit, .int .i64 x437.Role, .slice a444 x437.Log.length cap445, .slice a447 x437.Votes.length cap448, .slice a450 x437.Next.length cap451, .slice a453 x437.Match.length cap454] (({ Up := x437.Up, Term := x437.Term, Vote := x437.Vote, Commit := x437.Commit, Role := x437.Role, Log := x437.Log, Votes := x437.Votes, Next := x437.Next, Match := x437.Match } : GPeer) : GPeer) H485 (Nat.le_of_ble_eq_true rfl) (GPeer.toR (x := ({ Up := x437.Up, Term := x437.Term, Vote := x437.Vote, Commit := x437.Commit, Role := x437.Role, Log := x437.Log, Votes := x437.Votes, Next := x437.Next, Match := x437.Match } : GPeer)) h446 h449 h452 h455) ho487
      have hl490 : (List.replicate (xs1.length : Int).toNat (({ Up := false, Term := 0, Vote := 0, Commit := 0, Role := 0, Log := [], Votes := [], Next := [], Match := [] } : GPeer) : GPeer)).length = (setI xs337 x340 ({ Up := x437.Up, Term := x437.Term, Vote := x437.Vote, Commit := x437.Commit, Role := x437.Role, Log := x437.Log, Votes := x437.Votes, Next := x437.Next, Match := x437.Match } : GPeer)).length := hl339.trans (setI_length _ _ _).symm
      with_reducible refine WL.nil ?_
      with_reducible refine Ex.blk_norm ?_
      with_reducible refine Ex.thn_norm ?_
      with_reducible refine W.region ?_
      refine WL.move .nil rfl rfl rfl rfl ?_
      obtain ⟨hc491, hr⟩ := chk_some hr
      refine WL.addI .nil rfl rfl rfl rfl rfl hc491.1 hc491.2 ?_
      refine WL.assign .nil rfl rfl rfl rfl ?_
      with_reducible refine WL.nil ?_
      with_reducible refine Ex.thn_norm ?_
      exact ⟨[(0, .slice a2 xs1.length cap3), (3, .slice (some ⟨n0, 0, none⟩) (List.replicate (xs1.length : Int).toNat (({ Up := false, Term := 0, Vote := 0, Commit := 0, Role := 0, Log := [], Votes := [], Next := [], Match := [] } : GPeer) : GPeer)).length ((xs1.length : Int).toNat)), (4, .int .i64 (x340 + 1))], (Fr.le_cons rfl (Fr.le_cons rfl (Fr.le_cons rfl Fr.le_nil))), (setI xs337 x340 ({ Up := x437.Up, Term := x437.Term, Vote := x437.Vote, Commit := x437.Commit, Role := x437.Role, Log := x437.Log, Votes := x437.Votes, Next := x437.Next, Match := x437.Match } : GPeer)), (x340 + 1), F457, rfl, hS486, hE462, (h336.mono hX458.sub), h489, hl490, hr⟩
    · replace hr := ite_neg hr hc342
      with_reducible refine W.exit ?_
      with_reducible refine Ex.thn_ex ?_
      with_reducible refine Ex.thn_ex ?_
      with_reducible refine Ex.blk_here ?_
      with_reducible refine Ex.thn_norm ?_
      with_reducible refine W.seq ?_
      with_reducible refine W.region ?_
      refine WL.move .nil rfl rfl rfl rfl ?_
      refine WL.assign .nil rfl rfl rfl rfl ?_
      with_reducible refine WL.nil ?_
      with_reducible refine Ex.thn_norm ?_
      with_reducible refine W.ret ?_
      obtain rfl := Option.some.inj hr
      exact ⟨.inr rfl, _, (.cons (.tmp rfl) .nil), ⟨F333, (some ⟨n0, 0, none⟩), (xs1.length : Int).toNat, (hE335.up (by omega)), hS334, (by rw [← hl339]; rfl), (OW.head hl339 h338)⟩⟩
theorem f_laws_toMsg_k {Δ : Prims} (g : Env Try.prog Δ) {lo n0 : Nat} {H0 F0 : Heap} (hS : St lo n0 H0 F0) {x1 : GMsg} {a2 : Option Addr} {cap3 : Nat} (h4 : SR F0 (.slice a2 x1.Log.length cap3) x1.Log) {res : (GMsg)} (hr : f_laws_toMsg x1 = some res) :
    C Try.prog Δ n0 98 [.agg [.int .i64 x1.Kind, .int .i64 x1.From, .int .i64 x1.To, .int .i64 x1.Term, .int .i64 x1.A, .int .i64 x1.B, .int .i64 x1.C, .bool x1.Ok, .slice a2 x1.Log.length cap3].toArray] n0 H0 (fun v n H => ∃ (F : Heap) (ra1 : Option Addr) (rcap2 : Nat), Ext n0 F0 n F ∧ St n0 n H F ∧ v = .agg [.int .i64 res.Kind, .int .i64 res.From, .int .i64 res.To, .int .i64 res.Term, .int .i64 res.A, .int .i64 res.B, .int .i64 res.C, .bool res.Ok, .slice ra1 res.Log.length rcap2].toArray ∧ SR F (.slice ra1 res.Log.length rcap2) res.Log) := by
  refine C.body Try.func98 rfl rfl ?_
  unfold f_laws_toMsg at hr
  have hS0 : St n0 n0 H0 F0 := hS.low (Nat.le_refl _)
  have hE0 := Ext.refl n0 F0
  have hlo0 := hS0.lo
  with_reducible refine W.seq ?_
  with_reducible refine W.region ?_
  refine GL.box hS0 .nil (vc := [.int .i64 x1.Kind, .int .i64 x1.From, .int .i64 x1.To, .int .i64 x1.Term, .int .i64 x1.A, .int .i64 x1.B, .int .i64 x1.C, .bool x1.Ok, .slice a2 x1.Log.length cap3]) rfl rfl rfl rfl rfl (by repeat' (first | exact List.forall_mem_nil _ | refine List.forall_mem_cons.2 ⟨?_, ?_⟩ | rfl)) (fun H5 hS6 ho7 hk8 => ?_)
  have fo9 := hS0.fnone (Nat.le_refl _)
  have hlon01 := hS6.lo
  have lt10 : n0 < (n0 + 1) := by omega
  refine GL.alloc hS6 .nil (zc := [.int .i64 0, .int .i64 0, .int .i64 0, .int .i64 0, .int .i64 0, .int .i64 0, .int .i64 0, .bool false, .slice none 0 0]) rfl rfl rfl info97 rfl rfl rfl (fun H11 hS12 ho13 hk14 => ?_)
  have fo15 := hS6.fnone (Nat.le_refl _)
  have ho17 := (hk14 _ (by have := lt10; omega)).trans ho7
  have hlon011 := hS12.lo
  have lt16 : (n0 + 1) < ((n0 + 1) + 1) := by omega
  with_reducible refine WL.nil ?_
  with_reducible refine Ex.thn_norm ?_
  with_reducible refine W.seq ?_
  with_reducible refine W.region ?_
  refine GL.alloc hS12 .nil (zc := [.int .i64 0, .int .i64 0, .int .i64 0, .int .i64 0, .int .i64 0, .int .i64 0, .int .i64 0, .bool false, .slice none 0 0]) rfl rfl rfl info97 rfl rfl rfl (fun H18 hS19 ho20 hk21 => ?_)
  have fo22 := hS12.fnone (Nat.le_refl _)
  have ho24 := (hk21 _ (by have := lt10; omega)).trans ho17
  have ho25 := (hk21 _ (by have := lt16; omega)).trans ho13
  have hlon0111 := hS19.lo
  have lt23 : ((n0 + 1) + 1) < (((n0 + 1) + 1) + 1) := by omega
  with_reducible refine WL.nil ?_
  with_reducible refine Ex.thn_norm ?_
  with_reducible refine W.seq ?_
  with_reducible refine W.region ?_
  refine WL.fieldAddr .nil rfl rfl rfl Try.underlying123 rfl info3 rfl rfl ?_
  refine WL.load1 .nil rfl rfl rfl Try.underlying3 rfl rfl ho24 rfl ?_
  refine WL.fieldAddr .nil rfl rfl rfl Try.underlying97 rfl info3 rfl rfl ?_
  refine GL.store hS19 .nil (vc := [.int .i64 x1.Kind]) (c' := [.int .i64 x1.Kind, .int .i64 0, .int .i64 0, .int .i64 0, .int .i64 0, .int .i64 0, .int .i64 0, .bool false, .slice none 0 0]) rfl rfl rfl info3 rfl rfl rfl rfl ho20 fo22 (Nat.le_of_ble_eq_true rfl) (by omega) (by repeat' (first | exact List.forall_mem_nil _ | refine List.forall_mem_cons.2 ⟨?_, ?_⟩ | rfl)) rfl (fun H26 hS27 ho28 hk29 => ?_)
  have ho30 := (hk29 _ (by omega)).trans ho24
  have ho31 := (hk29 _ (by omega)).trans ho25
  with_reducible refine WL.nil ?_
  with_reducible refine Ex.thn_norm ?_
  with_reducible refine W.seq ?_
  with_reducible refine W.region ?_
  refine WL.fieldAddr .nil rfl rfl rfl Try.underlying123 rfl info3 rfl rfl ?_
  refine WL.load1 .nil rfl rfl rfl Try.underlying3 rfl rfl ho30 rfl ?_
  refine WL.fieldAddr .nil rfl rfl rfl Try.underlying97 rfl info3 rfl rfl ?_
  refine GL.store hS27 .nil (vc := [.int .i64 x1.From]) (c' := [.int .i64 x1.Kind, .int .i64 x1.From, .int .i64 0, .int .i64 0, .int .i64 0, .int .i64 0, .int .i64 0, .bool false, .slice none 0 0]) rfl rfl rfl info3 rfl rfl rfl rfl ho28 fo22 (Nat.le_of_ble_eq_true rfl) (by omega) (by repeat' (first | exact List.forall_mem_nil _ | refine List.forall_mem_cons.2 ⟨?_, ?_⟩ | rfl)) rfl (fun H32 hS33 ho34 hk35 => ?_)
  have ho36 := (hk35 _ (by omega)).trans ho30
  have ho37 := (hk35 _ (by omega)).trans ho31
  with_reducible refine WL.nil ?_
  with_reducible refine Ex.thn_norm ?_
  with_reducible refine W.seq ?_
  with_reducible refine W.region ?_
  refine WL.fieldAddr .nil rfl rfl rfl Try.underlying123 rfl info3 rfl rfl ?_
  refine WL.load1 .nil rfl rfl rfl Try.underlying3 rfl rfl ho36 rfl ?_
  refine WL.fieldAddr .nil rfl rfl rfl Try.underlying97 rfl info3 rfl rfl ?_
  refine GL.store hS33 .nil (vc := [.int .i64 x1.To]) (c' := [.int .i64 x1.Kind, .int .i64 x1.From, .int .i64 x1.To, .int .i64 0, .int .i64 0, .int .i64 0, .int .i64 0, .bool false, .slice none 0 0]) rfl rfl rfl info3 rfl rfl rfl rfl ho34 fo22 (Nat.le_of_ble_eq_true rfl) (by omega) (by repeat' (first | exact List.forall_mem_nil _ | refine List.forall_mem_cons.2 ⟨?_, ?_⟩ | rfl)) rfl (fun H38 hS39 ho40 hk41 => ?_)
  have ho42 := (hk41 _ (by omega)).trans ho36
  have ho43 := (hk41 _ (by omega)).trans ho37
  with_reducible refine WL.nil ?_
  with_reducible refine Ex.thn_norm ?_
  with_reducible refine W.seq ?_
  with_reducible refine W.region ?_
  refine WL.fieldAddr .nil rfl rfl rfl Try.underlying123 rfl info3 rfl rfl ?_
  refine WL.load1 .nil rfl rfl rfl Try.underlying3 rfl rfl ho42 rfl ?_
  refine WL.fieldAddr .nil rfl rfl rfl Try.underlying97 rfl info3 rfl rfl ?_
  refine GL.store hS39 .nil (vc := [.int .i64 x1.Term]) (c' := [.int .i64 x1.Kind, .int .i64 x1.From, .int .i64 x1.To, .int .i64 x1.Term, .int .i64 0, .int .i64 0, .int .i64 0, .bool false, .slice none 0 0]) rfl rfl rfl info3 rfl rfl rfl rfl ho40 fo22 (Nat.le_of_ble_eq_true rfl) (by omega) (by repeat' (first | exact List.forall_mem_nil _ | refine List.forall_mem_cons.2 ⟨?_, ?_⟩ | rfl)) rfl (fun H44 hS45 ho46 hk47 => ?_)
  have ho48 := (hk47 _ (by omega)).trans ho42
  have ho49 := (hk47 _ (by omega)).trans ho43
  with_reducible refine WL.nil ?_
  with_reducible refine Ex.thn_norm ?_
  with_reducible refine W.seq ?_
  with_reducible refine W.region ?_
  refine WL.fieldAddr .nil rfl rfl rfl Try.underlying123 rfl info3 rfl rfl ?_
  refine WL.load1 .nil rfl rfl rfl Try.underlying3 rfl rfl ho48 rfl ?_
  refine WL.fieldAddr .nil rfl rfl rfl Try.underlying97 rfl info3 rfl rfl ?_
  refine GL.store hS45 .nil (vc := [.int .i64 x1.A]) (c' := [.int .i64 x1.Kind, .int .i64 x1.From, .int .i64 x1.To, .int .i64 x1.Term, .int .i64 x1.A, .int .i64 0, .int .i64 0, .bool false, .slice none 0 0]) rfl rfl rfl info3 rfl rfl rfl rfl ho46 fo22 (Nat.le_of_ble_eq_true rfl) (by omega) (by repeat' (first | exact List.forall_mem_nil _ | refine List.forall_mem_cons.2 ⟨?_, ?_⟩ | rfl)) rfl (fun H50 hS51 ho52 hk53 => ?_)
  have ho54 := (hk53 _ (by omega)).trans ho48
  have ho55 := (hk53 _ (by omega)).trans ho49
  with_reducible refine WL.nil ?_
  with_reducible refine Ex.thn_norm ?_
  with_reducible refine W.seq ?_
  with_reducible refine W.region ?_
  refine WL.fieldAddr .nil rfl rfl rfl Try.underlying123 rfl info3 rfl rfl ?_
  refine WL.load1 .nil rfl rfl rfl Try.underlying3 rfl rfl ho54 rfl ?_
  refine WL.fieldAddr .nil rfl rfl rfl Try.underlying97 rfl info3 rfl rfl ?_
  refine GL.store hS51 .nil (vc := [.int .i64 x1.B]) (c' := [.int .i64 x1.Kind, .int .i64 x1.From, .int .i64 x1.To, .int .i64 x1.Term, .int .i64 x1.A, .int .i64 x1.B, .int .i64 0, .bool false, .slice none 0 0]) rfl rfl rfl info3 rfl rfl rfl rfl ho52 fo22 (Nat.le_of_ble_eq_true rfl) (by omega) (by repeat' (first | exact List.forall_mem_nil _ | refine List.forall_mem_cons.2 ⟨?_, ?_⟩ | rfl)) rfl (fun H56 hS57 ho58 hk59 => ?_)
  have ho60 := (hk59 _ (by omega)).trans ho54
  have ho61 := (hk59 _ (by omega)).trans ho55
  with_reducible refine WL.nil ?_
  with_reducible refine Ex.thn_norm ?_
  with_reducible refine W.seq ?_
  with_reducible refine W.region ?_
  refine WL.fieldAddr .nil rfl rfl rfl Try.underlying123 rfl info3 rfl rfl ?_
  refine WL.load1 .nil rfl rfl rfl Try.underlying3 rfl rfl ho60 rfl ?_
  refine WL.fieldAddr .nil rfl rfl rfl Try.underlying97 rfl info3 rfl rfl ?_
  refine GL.store hS57 .nil (vc := [.int .i64 x1.C]) (c' := [.int .i64 x1.Kind, .int .i64 x1.From, .int .i64 x1.To, .int .i64 x1.Term, .int .i64 x1.A, .int .i64 x1.B, .int .i64 x1.C, .bool false, .slice none 0 0]) rfl rfl rfl info3 rfl rfl rfl rfl ho58 fo22 (Nat.le_of_ble_eq_true rfl) (by omega) (by repeat' (first | exact List.forall_mem_nil _ | refine List.forall_mem_cons.2 ⟨?_, ?_⟩ | rfl)) rfl (fun H62 hS63 ho64 hk65 => ?_)
  have ho66 := (hk65 _ (by omega)).trans ho60
  have ho67 := (hk65 _ (by omega)).trans ho61
  with_reducible refine WL.nil ?_
  with_reducible refine Ex.thn_norm ?_
  with_reducible refine W.seq ?_
  with_reducible refine W.region ?_
  refine WL.fieldAddr .nil rfl rfl rfl Try.underlying123 rfl info4 rfl rfl ?_
  refine WL.load1 .nil rfl rfl rfl Try.underlying4 rfl rfl ho66 rfl ?_
  refine WL.fieldAddr .nil rfl rfl rfl Try.underlying97 rfl info4 rfl rfl ?_
  refine GL.store hS63 .nil (vc := [.bool x1.Ok]) (c' := [.int .i64 x1.Kind, .int .i64 x1.From, .int .i64 x1.To, .int .i64 x1.Term, .int .i64 x1.A, .int .i64 x1.B, .int .i64 x1.C, .bool x1.Ok, .slice none 0 0]) rfl rfl rfl info4 rfl rfl rfl rfl ho64 fo22 (Nat.le_of_ble_eq_true rfl) (by omega) (by repeat' (first | exact List.forall_mem_nil _ | refine List.forall_mem_cons.2 ⟨?_, ?_⟩ | rfl)) rfl (fun H68 hS69 ho70 hk71 => ?_)
  have ho72 := (hk71 _ (by omega)).trans ho66
  have ho73 := (hk71 _ (by omega)).trans ho67
  with_reducible refine WL.nil ?_
  with_reducible refine Ex.thn_norm ?_
  with_reducible refine W.seq ?_
  with_reducible refine W.region ?_
  refine WL.fieldAddr .nil rfl rfl rfl Try.underlying123 rfl info57 rfl rfl ?_
  refine WL.load1 .nil rfl rfl rfl Try.underlying57 rfl rfl ho72 rfl ?_
  obtain ⟨x74, hx74, hr⟩ := bnd_some hr
  refine GL.callP g.good .nil rfl rfl rfl rfl rfl rfl Try.func59 rfl rfl hS69.lo (f_laws_toRecS_k  g hS69 h4 hx74) (fun v n75 H76 hn77 hk78 hp79 => ?_)
  obtain ⟨F84, a80, cap81, hX85, hS83, rfl, h82⟩ := hp79
  have ho86 := (hk78 _ (by have := lt10; omega)).trans ho72
  have ho87 := (hk78 _ (by have := lt16; omega)).trans ho73
  have ho88 := (hk78 _ (by have := lt23; omega)).trans ho70
  have hS89 : St n0 n75 H76 F84 := ⟨by have := hS69.lo; omega, hS83.hb, hS83.fh⟩
  have fo90 := (hX85.eq _ (by have := lt10; omega)).trans fo9
  have fo91 := (hX85.eq _ (by have := lt16; omega)).trans fo15
  have fo92 := (hX85.eq _ (by have := lt23; omega)).trans fo22
  have hE93 := (hE0.up (n' := (((n0 + 1) + 1) + 1)) (by omega)).trans hX85
  have hlon75 := hS89.lo
  have h94 := OW.lower (lo' := n0) h82 (by omega)
  have ap96 : idOf (.slice a80 x74.length cap81) ≠ some n0 := fun hj => by have := (OW.id_lt h82 hj).1; have := lt10; omega
  have ap97 : idOf (.slice a80 x74.length cap81) ≠ some (n0 + 1) := fun hj => by have := (OW.id_lt h82 hj).1; have := lt16; omega
  have ap98 : idOf (.slice a80 x74.length cap81) ≠ some ((n0 + 1) + 1) := fun hj => by have := (OW.id_lt h82 hj).1; have := lt23; omega
  refine WL.fieldAddr .nil rfl rfl rfl Try.underlying97 rfl info30 rfl rfl ?_
  refine GL.store hS89 .nil (vc := [.slice a80 x74.length cap81]) (c' := [.int .i64 x1.Kind, .int .i64 x1.From, .int .i64 x1.To, .int .i64 x1.Term, .int .i64 x1.A, .int .i64 x1.B, .int .i64 x1.C, .bool x1.Ok, .slice a80 x74.length cap81]) rfl rfl rfl info30 rfl rfl rfl rfl ho88 fo92 (Nat.le_of_ble_eq_true rfl) (by omega) (by repeat' (first | exact List.forall_mem_nil _ | refine List.forall_mem_cons.2 ⟨?_, ?_⟩ | rfl)) rfl (fun H99 hS100 ho101 hk102 => ?_)
  have ho103 := (hk102 _ (by omega)).trans ho86
  have ho104 := (hk102 _ (by omega)).trans ho87
  have h105 := OW.keep h94 (Nat.le_refl _) (fun i hi => hk102 i (fun hj => ap98 (hj ▸ hi)))
  with_reducible refine WL.nil ?_
  with_reducible refine Ex.thn_norm ?_
  with_reducible refine W.seq ?_
  with_reducible refine W.region ?_
  refine WL.loadN .nil (l' := [.int .i64 x1.Kind, .int .i64 x1.From, .int .i64 x1.To, .int .i64 x1.Term, .int .i64 x1.A, .int .i64 x1.B, .int .i64 x1.C, .bool x1.Ok, .slice a80 x74.length cap81]) rfl rfl rfl Try.underlying97 rfl info97 rfl ho101 rfl rfl ?_
  refine GL.store hS100 .nil (vc := [.int .i64 x1.Kind, .int .i64 x1.From, .int .i64 x1.To, .int .i64 x1.Term, .int .i64 x1.A, .int .i64 x1.B, .int .i64 x1.C, .bool x1.Ok, .slice a80 x74.length cap81]) (c' := [.int .i64 x1.Kind, .int .i64 x1.From, .int .i64 x1.To, .int .i64 x1.Term, .int .i64 x1.A, .int .i64 x1.B, .int .i64 x1.C, .bool x1.Ok, .slice a80 x74.length cap81]) rfl rfl rfl info97 rfl rfl rfl rfl ho104 fo91 (Nat.le_of_ble_eq_true rfl) (by omega) (by repeat' (first | exact List.forall_mem_nil _ | refine List.forall_mem_cons.2 ⟨?_, ?_⟩ | rfl)) rfl (fun H106 hS107 ho108 hk109 => ?_)
  have ho110 := (hk109 _ (by omega)).trans ho103
  have ho111 := (hk109 _ (by omega)).trans ho101
  have h112 := OW.keep h105 (Nat.le_refl _) (fun i hi => hk109 i (fun hj => ap97 (hj ▸ hi)))
  with_reducible refine WL.nil ?_
  with_reducible refine Ex.thn_norm ?_
  with_reducible refine W.ret ?_
  obtain ⟨F113, hS114, hle115, h116, hf117⟩ := OW.freeze h112 hS107
  have fo118 := (hf117 _ ap96).trans fo90
  have fo119 := (hf117 _ ap97).trans fo91
  have fo120 := (hf117 _ ap98).trans fo92
  have hE121 : Ext n0 F0 n75 F113 := ⟨Nat.le_trans hE93.le (by omega), hE93.sub.trans hle115, fun i hi => (hf117 i (fun hj => by have := OW.id_lt h112 hj; omega)).trans (hE93.eq i hi)⟩
  obtain rfl := Option.some.inj hr
  exact ⟨.inr rfl, _, (.cons (.cellN (l := [.int .i64 x1.Kind, .int .i64 x1.From, .int .i64 x1.To, .int .i64 x1.Term, .int .i64 x1.A, .int .i64 x1.B, .int .i64 x1.C, .bool x1.Ok, .slice a80 x74.length cap81]) rfl Try.underlying97 rfl info97 ho108 rfl rfl) .nil), ⟨F113, a80, cap81, (hE121.up (by omega)), hS114, rfl, h116⟩⟩
theorem f_laws_toMsgS_k {Δ : Prims} (g : Env Try.prog Δ) {lo n0 : Nat} {H0 F0 : Heap} (hS : St lo n0 H0 F0) {a2 : Option Addr} {cap3 : Nat} {xs1 : (List GMsg)} (h4 : SR F0 (.slice a2 xs1.length cap3) xs1) {res : ((List GMsg))} (hr : f_laws_toMsgS xs1 = some res) :
    C Try.prog Δ n0 58 [.slice a2 xs1.length cap3] n0 H0 (fun v n H => ∃ (F : Heap) (ra1 : Option Addr) (rcap2 : Nat), Ext n0 F0 n F ∧ St n0 n H F ∧ v = .slice ra1 res.length rcap2 ∧ OW n0 n H F (.slice ra1 res.length rcap2) res) := by
  refine C.body Try.func58 rfl rfl ?_
  unfold f_laws_toMsgS at hr
  have hS0 : St n0 n0 H0 F0 := hS.low (Nat.le_refl _)
  have hE0 := Ext.refl n0 F0
  have hlo0 := hS0.lo
  with_reducible refine W.seq ?_
  with_reducible refine W.region ?_
  refine WL.assign .nil rfl rfl rfl rfl ?_
  with_reducible refine WL.nil ?_
  with_reducible refine Ex.thn_norm ?_
  with_reducible refine W.seq ?_
  with_reducible refine W.region ?_
  refine WL.move .nil rfl rfl rfl rfl ?_
  refine WL.len .nil rfl rfl rfl Try.underlying56 rfl ?_
  obtain ⟨hc5, hr⟩ := chk_some hr
  refine GL.make (α := GMsg) (u := ({ Kind := 0, From := 0, To := 0, Term := 0, A := 0, B := 0, C := 0, Ok := false, Log := [] } : GMsg)) hS0 .nil rfl rfl rfl Try.underlying29 info97 rfl rfl (by decide) rfl (by decide) rfl rfl rfl (GMsg.zeroR _) hc5.1 hc5.2 (fun H6 hS7 hO8 hk9 => ?_)
  have h10 := OW.lower (lo' := n0) hO8 (by omega)
  have hlon01 := hS7.lo
  refine WL.assign .nil rfl rfl rfl rfl ?_
  with_reducible refine WL.nil ?_
  with_reducible refine Ex.thn_norm ?_
  with_reducible refine W.seq ?_
  with_reducible refine W.seq ?_
  with_reducible refine W.region ?_
  refine WL.assign .nil rfl rfl rfl rfl ?_
  with_reducible refine WL.nil ?_
  with_reducible refine Ex.thn_norm ?_
  with_reducible refine W.block ?_
  refine W.loopF (fun k0 fr n H => ∃ (xs229 : (List GMsg)) (x232 : Int) (F : Heap), fr = [(0, .slice a2 xs1.length cap3), (3, .slice (some ⟨n0, 0, none⟩) (List.replicate (xs1.length : Int).toNat (({ Kind := 0, From := 0, To := 0, Term := 0, A := 0, B := 0, C := 0, Ok := false, Log := [] } : GMsg) : GMsg)).length ((xs1.length : Int).toNat)), (4, .int .i64 x232)] ∧ St n0 n H F ∧ Ext n0 F0 n F ∧ SR F (.slice a2 xs1.length cap3) xs1 ∧ OW n0 n H F (.slice (some ⟨n0, 0, none⟩) (List.replicate (xs1.length : Int).toNat (({ Kind := 0, From := 0, To := 0, Term := 0, A := 0, B := 0, C := 0, Ok := false, Log := [] } : GMsg) : GMsg)).length ((xs1.length : Int).toNat)) xs229 ∧ (List.replicate (xs1.length : Int).toNat (({ Kind := 0, From := 0, To := 0, Term := 0, A := 0, B := 0, C := 0, Ok := false, Log := [] } : GMsg) : GMsg)).length = xs229.length ∧ f_laws_toMsgS_L0 xs1 k0 xs229 x232 = some res) BIG (fr0 := [(0, .slice a2 xs1.length cap3), (3, .slice (some ⟨n0, 0, none⟩) (List.replicate (xs1.length : Int).toNat (({ Kind := 0, From := 0, To := 0, Term := 0, A := 0, B := 0, C := 0, Ok := false, Log := [] } : GMsg) : GMsg)).length ((xs1.length : Int).toNat)), (4, .int .i64 0)]) (Fr.le_cons rfl (Fr.le_cons rfl (Fr.le_cons rfl Fr.le_nil))) ?_ ?_ ?_
  · exact ⟨(List.replicate (xs1.length : Int).toNat (({ Kind := 0, From := 0, To := 0, Term := 0, A := 0, B := 0, C := 0, Ok := false, Log := [] } : GMsg) : GMsg)), 0, F0, rfl, hS7, (hE0.up (by omega)), h4, h10, rfl, hr⟩
  · intro fr n H hI
    obtain ⟨xs229, x232, F225, hfr, hS226, hE227, h228, h230, hl231, hr⟩ := hI
    rw [f_laws_toMsgS_L0] at hr
    cases hr
  · intro k0 _ n223 H224 hI
    obtain ⟨xs229, x232, F225, rfl, hS226, hE227, h228, h230, hl231, hr⟩ := hI
    have hlen223 := hE227.le
    have hlon223 := hS226.lo
    rw [f_laws_toMsgS_L0] at hr
    with_reducible refine W.seq ?_
    with_reducible refine W.seq ?_
    with_reducible refine W.region ?_
    refine WL.move .nil rfl rfl rfl rfl ?_
    refine WL.move .nil rfl rfl rfl rfl ?_
    refine WL.len .nil rfl rfl rfl Try.underlying56 rfl ?_
    refine WL.bin .nil rfl rfl rfl rfl rfl rfl ?_
    with_reducible refine WL.nil ?_
    with_reducible refine Ex.thn_norm ?_
    refine W.condD rfl (fun hc234 => ?_) (fun hc234 => ?_)
    · replace hr := ite_pos hr hc234
      with_reducible refine W.skip ?_
      with_reducible refine Ex.thn_norm ?_
      with_reducible refine W.seq ?_
      with_reducible refine W.block ?_
      with_reducible refine W.region ?_
      refine WL.move .nil rfl rfl rfl rfl ?_
      refine WL.move .nil rfl rfl rfl rfl ?_
      refine WL.move .nil rfl rfl rfl rfl ?_
      refine WL.move .nil rfl rfl rfl rfl ?_
      obtain ⟨x282, hx282, hr⟩ := bnd_some hr
      refine GL.index .nil rfl rfl rfl Try.underlying56 info123 rfl rfl h228 hS226.fh rfl hx282 (fun b283 kp284 c285 ecs286 hrow287 hwin288 hR289 => ?_)
      obtain ⟨a290, cap291, rfl, h292⟩ := GMsg.ofR hR289
      refine WL.loadN .nil (l' := [.int .i64 x282.Kind, .int .i64 x282.From, .int .i64 x282.To, .int .i64 x282.Term, .int .i64 x282.A, .int .i64 x282.B, .int .i64 x282.C, .bool x282.Ok, .slice a290 x282.Log.length cap291]) rfl rfl rfl Try.underlying123 rfl info123 rfl hrow287 hwin288 rfl ?_
      obtain ⟨x293, hx293, hr⟩ := bnd_some hr
      have hb299 := fun b hb => (OW.id_lt (i := b) h230 hb).2
      refine GL.callP g.good .nil rfl rfl rfl rfl rfl rfl Try.func98 rfl rfl hS226.lo (f_laws_toMsg_k  g hS226 h292 hx293) (fun v n294 H295 hn296 hk297 hp298 => ?_)
      obtain ⟨F304, a300, cap301, hX305, hS303, rfl, h302⟩ := hp298
      have h306 := OW.keep (n' := n294) h230 (by omega) (fun i hi => hk297 i (OW.id_lt h230 hi).2)
      have hS307 : St n0 n294 H295 F304 := ⟨by have := hS226.lo; omega, hS303.hb, hS303.fh⟩
      have h308 := OW.keepF h306 hX305.sub (fun i hi => (hX305.eq i (by have := OW.id_lt h230 hi; omega)).trans (OW.fnone h306 hi))
      have hE309 := (hE227.up (n' := n223) (by omega)).trans hX305
      have hlon294 := hS307.lo
      obtain ⟨x310, hx310, hr⟩ := bnd_some hr
      refine GL.indexO .nil rfl rfl rfl Try.underlying29 info97 rfl rfl h308 rfl hx310 (fun b311 kp312 c313 ecs314 hid318 hrow315 hwin316 hR317 hup319 => ?_)
      obtain ⟨a320, cap321, rfl, h322⟩ := GMsg.ofR hR317
      refine GL.store hS307 .nil (vc := [.int .i64 x293.Kind, .int .i64 x293.From, .int .i64 x293.To, .int .i64 x293.Term, .int .i64 x293.A, .int .i64 x293.B, .int .i64 x293.C, .bool x293.Ok, .slice a300 x293.Log.length cap301]) rfl rfl rfl info97 rfl rfl rfl rfl hrow315 (OW.fnone h308 hid318) (win_fit hwin316 (Nat.le_of_ble_eq_true rfl) rfl (Nat.le_of_ble_eq_true rfl)) (OW.id_lt h308 hid318).1 (by repeat' (first | exact List.forall_mem_nil _ | refine List.forall_mem_cons.2 ⟨?_, ?_⟩ | rfl)) rfl (fun H323 hS324 ho325 hk326 => ?_)
      have h327 := hup319 0 [.int .i64 x293.Kind, .int .i64 x293.From, .int .i64 x293.To, .int .i64 x293.Term, .int .i64 x293.A, .int .i64 x293.B, .int .i64 x293.C, .bool x293.Ok, .slice a300 x293.Log.length cap301] (({ Kind := x293.Kind, From := x293.From, To := x293.To, Term := x293.Term, A := x293.A, B := x293.B, C := x293.C, Ok := x293.Ok, Log := x293.Log } : GMsg) : GMsg) H323 (Nat.le_of_ble_eq_true rfl) (GMsg.toR (x := ({ Kind := x293.Kind, From := x293.From, To := x293.To, Term := x293.Term, A := x293.A, B := x293.B, C := x293.C, Ok := x293.Ok, Log := x293.Log } : GMsg)) h302) ho325
      have hl328 : (List.replicate (xs1.length : Int).toNat (({ Kind := 0, From := 0, To := 0, Term := 0, A := 0, B := 0, C := 0, Ok := false, Log := [] } : GMsg) : GMsg)).length = (setI xs229 x232 ({ Kind := x293.Kind, From := x293.From, To := x293.To, Term := x293.Term, A := x293.A, B := x293.B, C := x293.C, Ok := x293.Ok, Log := x293.Log } : GMsg)).length := hl231.trans (setI_length _ _ _).symm
      with_reducible refine WL.nil ?_
      with_reducible refine Ex.blk_norm ?_
      with_reducible refine Ex.thn_norm ?_
      with_reducible refine W.region ?_
      refine WL.move .nil rfl rfl rfl rfl ?_
      obtain ⟨hc329, hr⟩ := chk_some hr
      refine WL.addI .nil rfl rfl rfl rfl rfl hc329.1 hc329.2 ?_
      refine WL.assign .nil rfl rfl rfl rfl ?_
      with_reducible refine WL.nil ?_
      with_reducible refine Ex.thn_norm ?_
      exact ⟨[(0, .slice a2 xs1.length cap3), (3, .slice (some ⟨n0, 0, none⟩) (List.replicate (xs1.length : Int).toNat (({ Kind := 0, From := 0, To := 0, Term := 0, A := 0, B := 0, C := 0, Ok := false, Log := [] } : GMsg) : GMsg)).length ((xs1.length : Int).toNat)), (4, .int .i64 (x232 + 1))], (Fr.le_cons rfl (Fr.le_cons rfl (Fr.le_cons rfl Fr.le_nil))), (setI xs229 x232 ({ Kind := x293.Kind, From := x293.From, To := x293.To, Term := x293.Term, A := x293.A, B := x293.B, C := x293.C, Ok := x293.Ok, Log := x293.Log } : GMsg)), (x232 + 1), F304, rfl, hS324, hE309, (h228.mono hX305.sub), h327, hl328, hr⟩
    · replace hr := ite_neg hr hc234
      with_reducible refine W.exit ?_
      with_reducible refine Ex.thn_ex ?_
      with_reducible refine Ex.thn_ex ?_
      with_reducible refine Ex.blk_here ?_
      with_reducible refine Ex.thn_norm ?_
      with_reducible refine W.seq ?_
      with_reducible refine W.region ?_
      refine WL.move .nil rfl rfl rfl rfl ?_
      refine WL.assign .nil rfl rfl rfl rfl ?_
      with_reducible refine WL.nil ?_
      with_reducible refine Ex.thn_norm ?_
      with_reducible refine W.ret ?_
      obtain rfl := Option.some.inj hr
      exact ⟨.inr rfl, _, (.cons (.tmp rfl) .nil), ⟨F225, (some ⟨n0, 0, none⟩), (xs1.length : Int).toNat, (hE227.up (by omega)), hS226, (by rw [← hl231]; rfl), (OW.head hl231 h230)⟩⟩
theorem f_laws_toCluster_k {Δ : Prims} (g : Env Try.prog Δ) {lo n0 : Nat} {H0 F0 : Heap} (hS : St lo n0 H0 F0) {x1 : GCluster} {a2 : Option Addr} {cap3 : Nat} {a5 : Option Addr} {cap6 : Nat} {a8 : Option Addr} {cap9 : Nat} (h4 : SR F0 (.slice a2 x1.Peers.length cap3) x1.Peers) (h7 : SR F0 (.slice a5 x1.Net.length cap6) x1.Net) (h10 : SR F0 (.slice a8 x1.Chosen.length cap9) x1.Chosen) {res : (GCluster)} (hr : f_laws_toCluster x1 = some res) :
    C Try.prog Δ n0 28 [.agg [.slice a2 x1.Peers.length cap3, .slice a5 x1.Net.length cap6, .slice a8 x1.Chosen.length cap9, .bool x1.Conflict].toArray] n0 H0 (fun v n H => ∃ (F : Heap) (ra1 : Option Addr) (rcap2 : Nat) (ra4 : Option Addr) (rcap5 : Nat) (ra7 : Option Addr) (rcap8 : Nat), Ext n0 F0 n F ∧ St n0 n H F ∧ v = .agg [.slice ra1 res.Peers.length rcap2, .slice ra4 res.Net.length rcap5, .slice ra7 res.Chosen.length rcap8, .bool res.Conflict].toArray ∧ SR F (.slice ra1 res.Peers.length rcap2) res.Peers ∧ SR F (.slice ra4 res.Net.length rcap5) res.Net ∧ SR F (.slice ra7 res.Chosen.length rcap8) res.Chosen) := by
  refine C.body Try.func28 rfl rfl ?_
  unfold f_laws_toCluster at hr
  have hS0 : St n0 n0 H0 F0 := hS.low (Nat.le_refl _)
  have hE0 := Ext.refl n0 F0
  have hlo0 := hS0.lo
  with_reducible refine W.seq ?_
  with_reducible refine W.region ?_
  refine GL.box hS0 .nil (vc := [.slice a2 x1.Peers.length cap3, .slice a5 x1.Net.length cap6, .slice a8 x1.Chosen.length cap9, .bool x1.Conflict]) rfl rfl rfl rfl rfl (by repeat' (first | exact List.forall_mem_nil _ | refine List.forall_mem_cons.2 ⟨?_, ?_⟩ | rfl)) (fun H11 hS12 ho13 hk14 => ?_)
  have fo15 := hS0.fnone (Nat.le_refl _)
  have hlon01 := hS12.lo
  have lt16 : n0 < (n0 + 1) := by omega
  refine GL.alloc hS12 .nil (zc := [.slice none 0 0, .slice none 0 0, .slice none 0 0, .bool false]) rfl rfl rfl info32 rfl rfl rfl (fun H17 hS18 ho19 hk20 => ?_)
  have fo21 := hS12.fnone (Nat.le_refl _)
  have ho23 := (hk20 _ (by have := lt16; omega)).trans ho13
  have hlon011 := hS18.lo
  have lt22 : (n0 + 1) < ((n0 + 1) + 1) := by omega
  with_reducible refine WL.nil ?_
  with_reducible refine Ex.thn_norm ?_
  with_reducible refine W.seq ?_
  with_reducible refine W.region ?_
  refine GL.alloc hS18 .nil (zc := [.slice none 0 0, .slice none 0 0, .slice none 0 0, .bool false]) rfl rfl rfl info32 rfl rfl rfl (fun H24 hS25 ho26 hk27 => ?_)
  have fo28 := hS18.fnone (Nat.le_refl _)
  have ho30 := (hk27 _ (by have := lt16; omega)).trans ho23
  have ho31 := (hk27 _ (by have := lt22; omega)).trans ho19
  have hlon0111 := hS25.lo
  have lt29 : ((n0 + 1) + 1) < (((n0 + 1) + 1) + 1) := by omega
  with_reducible refine WL.nil ?_
  with_reducible refine Ex.thn_norm ?_
  with_reducible refine W.seq ?_
  with_reducible refine W.region ?_
  refine WL.fieldAddr .nil rfl rfl rfl Try.underlying59 rfl info55 rfl rfl ?_
  refine WL.load1 .nil rfl rfl rfl Try.underlying55 rfl rfl ho30 rfl ?_
  obtain ⟨x32, hx32, hr⟩ := bnd_some hr
  refine GL.callP g.good .nil rfl rfl rfl rfl rfl rfl Try.func57 rfl rfl hS25.lo (f_laws_toPeerS_k  g hS25 h4 hx32) (fun v n33 H34 hn35 hk36 hp37 => ?_)
  obtain ⟨F42, a38, cap39, hX43, hS41, rfl, h40⟩ := hp37
  have ho44 := (hk36 _ (by have := lt16; omega)).trans ho30
  have ho45 := (hk36 _ (by have := lt22; omega)).trans ho31
  have ho46 := (hk36 _ (by have := lt29; omega)).trans ho26
  have hS47 : St n0 n33 H34 F42 := ⟨by have := hS25.lo; omega, hS41.hb, hS41.fh⟩
  have fo48 := (hX43.eq _ (by have := lt16; omega)).trans fo15
  have fo49 := (hX43.eq _ (by have := lt22; omega)).trans fo21
  have fo50 := (hX43.eq _ (by have := lt29; omega)).trans fo28
  have hE51 := (hE0.up (n' := (((n0 + 1) + 1) + 1)) (by omega)).trans hX43
  have hlon33 := hS47.lo
  have h52 := OW.lower (lo' := n0) h40 (by omega)
  have ap54 : idOf (.slice a38 x32.length cap39) ≠ some n0 := fun hj => by have := (OW.id_lt h40 hj).1; have := lt16; omega
  have ap55 : idOf (.slice a38 x32.length cap39) ≠ some (n0 + 1) := fun hj => by have := (OW.id_lt h40 hj).1; have := lt22; omega
  have ap56 : idOf (.slice a38 x32.length cap39) ≠ some ((n0 + 1) + 1) := fun hj => by have := (OW.id_lt h40 hj).1; have := lt29; omega
  refine WL.fieldAddr .nil rfl rfl rfl Try.underlying32 rfl info28 rfl rfl ?_
  refine GL.store hS47 .nil (vc := [.slice a38 x32.length cap39]) (c' := [.slice a38 x32.length cap39, .slice none 0 0, .slice none 0 0, .bool false]) rfl rfl rfl info28 rfl rfl rfl rfl ho46 fo50 (Nat.le_of_ble_eq_true rfl) (by omega) (by repeat' (first | exact List.forall_mem_nil _ | refine List.forall_mem_cons.2 ⟨?_, ?_⟩ | rfl)) rfl (fun H57 hS58 ho59 hk60 => ?_)
  have ho61 := (hk60 _ (by omega)).trans ho44
  have ho62 := (hk60 _ (by omega)).trans ho45
  have h63 := OW.keep h52 (Nat.le_refl _) (fun i hi => hk60 i (fun hj => ap56 (hj ▸ hi)))
  with_reducible refine WL.nil ?_
  with_reducible refine Ex.thn_norm ?_
  with_reducible refine W.seq ?_
  with_reducible refine W.region ?_
  refine WL.fieldAddr .nil rfl rfl rfl Try.underlying59 rfl info56 rfl rfl ?_
  refine WL.load1 .nil rfl rfl rfl Try.underlying56 rfl rfl ho61 rfl ?_
  obtain ⟨x64, hx64, hr⟩ := bnd_some hr
  have hb70 := fun b hb => (OW.id_lt (i := b) h63 hb).2
  refine GL.callP g.good .nil rfl rfl rfl rfl rfl rfl Try.func58 rfl rfl hS58.lo (f_laws_toMsgS_k  g hS58 (h7.mono hX43.sub) hx64) (fun v n65 H66 hn67 hk68 hp69 => ?_)
  obtain ⟨F75, a71, cap72, hX76, hS74, rfl, h73⟩ := hp69
  have ho77 := (hk68 _ (by have := lt16; omega)).trans ho61
  have ho78 := (hk68 _ (by have := lt22; omega)).trans ho62
  have ho79 := (hk68 _ (by have := lt29; omega)).trans ho59
  have h80 := OW.keep (n' := n65) h63 (by omega) (fun i hi => hk68 i (OW.id_lt h63 hi).2)
  have hS81 : St n0 n65 H66 F75 := ⟨by have := hS58.lo; omega, hS74.hb, hS74.fh⟩
  have fo82 := (hX76.eq _ (by have := lt16; omega)).trans fo48
  have fo83 := (hX76.eq _ (by have := lt22; omega)).trans fo49
  have fo84 := (hX76.eq _ (by have := lt29; omega)).trans fo50
  have h85 := OW.keepF h80 hX76.sub (fun i hi => (hX76.eq i (by have := OW.id_lt h63 hi; omega)).trans (OW.fnone h80 hi))
  have hE86 := (hE51.up (n' := n33) (by omega)).trans hX76
  have hlon65 := hS81.lo
  have h87 := OW.lower (lo' := n0) h73 (by omega)
  have ap89 : idOf (.slice a71 x64.length cap72) ≠ some n0 := fun hj => by have := (OW.id_lt h73 hj).1; have := lt16; omega
  have ap90 : idOf (.slice a71 x64.length cap72) ≠ some (n0 + 1) := fun hj => by have := (OW.id_lt h73 hj).1; have := lt22; omega
  have ap91 : idOf (.slice a71 x64.length cap72) ≠ some ((n0 + 1) + 1) := fun hj => by have := (OW.id_lt h73 hj).1; have := lt29; omega
  have ap92 : ∀ b, idOf (.slice a71 x64.length cap72) = some b → idOf (.slice a38 x32.length cap39) ≠ some b := fun b hj hi => by have := (OW.id_lt h73 hj).1; have := hb70 b hi; omega
  refine WL.fieldAddr .nil rfl rfl rfl Try.underlying32 rfl info29 rfl rfl ?_
  refine GL.store hS81 .nil (vc := [.slice a71 x64.length cap72]) (c' := [.slice a38 x32.length cap39, .slice a71 x64.length cap72, .slice none 0 0, .bool false]) rfl rfl rfl info29 rfl rfl rfl rfl ho79 fo84 (Nat.le_of_ble_eq_true rfl) (by omega) (by repeat' (first | exact List.forall_mem_nil _ | refine List.forall_mem_cons.2 ⟨?_, ?_⟩ | rfl)) rfl (fun H93 hS94 ho95 hk96 => ?_)
  have ho97 := (hk96 _ (by omega)).trans ho77
  have ho98 := (hk96 _ (by omega)).trans ho78
  have h99 := OW.keep h85 (Nat.le_refl _) (fun i hi => hk96 i (fun hj => ap56 (hj ▸ hi)))
  have h100 := OW.keep h87 (Nat.le_refl _) (fun i hi => hk96 i (fun hj => ap91 (hj ▸ hi)))
  with_reducible refine WL.nil ?_
  with_reducible refine Ex.thn_norm ?_
  with_reducible refine W.seq ?_
  with_reducible refine W.region ?_
  refine WL.fieldAddr .nil rfl rfl rfl Try.underlying59 rfl info57 rfl rfl ?_
  refine WL.load1 .nil rfl rfl rfl Try.underlying57 rfl rfl ho97 rfl ?_
  obtain ⟨x101, hx101, hr⟩ := bnd_some hr
  have hb107 := fun b hb => (OW.id_lt (i := b) h99 hb).2
  have hb108 := fun b hb => (OW.id_lt (i := b) h100 hb).2
  refine GL.callP g.good .nil rfl rfl rfl rfl rfl rfl Try.func59 rfl rfl hS94.lo (f_laws_toRecS_k  g hS94 ((h10.mono hX43.sub).mono hX76.sub) hx101) (fun v n102 H103 hn104 hk105 hp106 => ?_)
  obtain ⟨F113, a109, cap110, hX114, hS112, rfl, h111⟩ := hp106
  have ho115 := (hk105 _ (by have := lt16; omega)).trans ho97
  have ho116 := (hk105 _ (by have := lt22; omega)).trans ho98
  have ho117 := (hk105 _ (by have := lt29; omega)).trans ho95
  have h118 := OW.keep (n' := n102) h99 (by omega) (fun i hi => hk105 i (OW.id_lt h99 hi).2)
  have h119 := OW.keep (n' := n102) h100 (by omega) (fun i hi => hk105 i (OW.id_lt h100 hi).2)
  have hS120 : St n0 n102 H103 F113 := ⟨by have := hS94.lo; omega, hS112.hb, hS112.fh⟩
  have fo121 := (hX114.eq _ (by have := lt16; omega)).trans fo82
  have fo122 := (hX114.eq _ (by have := lt22; omega)).trans fo83
  have fo123 := (hX114.eq _ (by have := lt29; omega)).trans fo84
  have h124 := OW.keepF h118 hX114.sub (fun i hi => (hX114.eq i (by have := OW.id_lt h99 hi; omega)).trans (OW.fnone h118 hi))
  have h125 := OW.keepF h119 hX114.sub (fun i hi => (hX114.eq i (by have := OW.id_lt h100 hi; omega)).trans (OW.fnone h119 hi))
  have hE126 := (hE86.up (n' := n65) (by omega)).trans hX114
  have hlon102 := hS120.lo
  have h127 := OW.lower (lo' := n0) h111 (by omega)
  have ap129 : idOf (.slice a109 x101.length cap110) ≠ some n0 := fun hj => by have := (OW.id_lt h111 hj).1; have := lt16; omega
  have ap130 : idOf (.slice a109 x101.length cap110) ≠ some (n0 + 1) := fun hj => by have := (OW.id_lt h111 hj).1; have := lt22; omega
  have ap131 : idOf (.slice a109 x101.length cap110) ≠ some ((n0 + 1) + 1) := fun hj => by have := (OW.id_lt h111 hj).1; have := lt29; omega
  have ap132 : ∀ b, idOf (.slice a109 x101.length cap110) = some b → idOf (.slice a38 x32.length cap39) ≠ some b := fun b hj hi => by have := (OW.id_lt h111 hj).1; have := hb107 b hi; omega
  have ap133 : ∀ b, idOf (.slice a109 x101.length cap110) = some b → idOf (.slice a71 x64.length cap72) ≠ some b := fun b hj hi => by have := (OW.id_lt h111 hj).1; have := hb108 b hi; omega
  refine WL.fieldAddr .nil rfl rfl rfl Try.underlying32 rfl info30 rfl rfl ?_
  refine GL.store hS120 .nil (vc := [.slice a109 x101.length cap110]) (c' := [.slice a38 x32.length cap39, .slice a71 x64.length cap72, .slice a109 x101.length cap110, .bool false]) rfl rfl rfl info30 rfl rfl rfl rfl ho117 fo123 (Nat.le_of_ble_eq_true rfl) (by omega) (by repeat' (first | exact List.forall_mem_nil _ | refine List.forall_mem_cons.2 ⟨?_, ?_⟩ | rfl)) rfl (fun H134 hS135 ho136 hk137 => ?_)
  have ho138 := (hk137 _ (by omega)).trans ho115
  have ho139 := (hk137 _ (by omega)).trans ho116
  have h140 := OW.keep h124 (Nat.le_refl _) (fun i hi => hk137 i (fun hj => ap56 (hj ▸ hi)))
  have h141 := OW.keep h125 (Nat.le_refl _) (fun i hi => hk137 i (fun hj => ap91 (hj ▸ hi)))
  have h142 := OW.keep h127 (Nat.le_refl _) (fun i hi => hk137 i (fun hj => ap131 (hj ▸ hi)))
  with_reducible refine WL.nil ?_
  with_reducible refine Ex.thn_norm ?_
  with_reducible refine W.seq ?_
  with_reducible refine W.region ?_
  refine WL.fieldAddr .nil rfl rfl rfl Try.underlying59 rfl info4 rfl rfl ?_
  refine WL.load1 .nil rfl rfl rfl Try.underlying4 rfl rfl ho138 rfl ?_
  refine WL.fieldAddr .nil rfl rfl rfl Try.underlying32 rfl info4 rfl rfl ?_
  refine GL.store hS135 .nil (vc := [.bool x1.Conflict]) (c' := [.slice a38 x32.length cap39, .slice a71 x64.length cap72, .slice a109 x101.length cap110, .bool x1.Conflict]) rfl rfl rfl info4 rfl rfl rfl rfl ho136 fo123 (Nat.le_of_ble_eq_true rfl) (by omega) (by repeat' (first | exact List.forall_mem_nil _ | refine List.forall_mem_cons.2 ⟨?_, ?_⟩ | rfl)) rfl (fun H143 hS144 ho145 hk146 => ?_)
  have ho147 := (hk146 _ (by omega)).trans ho138
  have ho148 := (hk146 _ (by omega)).trans ho139
  have h149 := OW.keep h140 (Nat.le_refl _) (fun i hi => hk146 i (fun hj => ap56 (hj ▸ hi)))
  have h150 := OW.keep h141 (Nat.le_refl _) (fun i hi => hk146 i (fun hj => ap91 (hj ▸ hi)))
  have h151 := OW.keep h142 (Nat.le_refl _) (fun i hi => hk146 i (fun hj => ap131 (hj ▸ hi)))
  with_reducible refine WL.nil ?_
  with_reducible refine Ex.thn_norm ?_
  with_reducible refine W.seq ?_
  with_reducible refine W.region ?_
  refine WL.loadN .nil (l' := [.slice a38 x32.length cap39, .slice a71 x64.length cap72, .slice a109 x101.length cap110, .bool x1.Conflict]) rfl rfl rfl Try.underlying32 rfl info32 rfl ho145 rfl rfl ?_
  refine GL.store hS144 .nil (vc := [.slice a38 x32.length cap39, .slice a71 x64.length cap72, .slice a109 x101.length cap110, .bool x1.Conflict]) (c' := [.slice a38 x32.length cap39, .slice a71 x64.length cap72, .slice a109 x101.length cap110, .bool x1.Conflict]) rfl rfl rfl info32 rfl rfl rfl rfl ho148 fo122 (Nat.le_of_ble_eq_true rfl) (by omega) (by repeat' (first | exact List.forall_mem_nil _ | refine List.forall_mem_cons.2 ⟨?_, ?_⟩ | rfl)) rfl (fun H152 hS153 ho154 hk155 => ?_)
  have ho156 := (hk155 _ (by omega)).trans ho147
  have ho157 := (hk155 _ (by omega)).trans ho145
  have h158 := OW.keep h149 (Nat.le_refl _) (fun i hi => hk155 i (fun hj => ap55 (hj ▸ hi)))
  have h159 := OW.keep h150 (Nat.le_refl _) (fun i hi => hk155 i (fun hj => ap90 (hj ▸ hi)))
  have h160 := OW.keep h151 (Nat.le_refl _) (fun i hi => hk155 i (fun hj => ap130 (hj ▸ hi)))
  with_reducible refine WL.nil ?_
  with_reducible refine Ex.thn_norm ?_
  with_reducible refine W.ret ?_
  obtain ⟨F161, hS162, hle163, h164, hf165⟩ := OW.freeze h158 hS153
  have fo166 := (hf165 _ ap54).trans fo121
  have fo167 := (hf165 _ ap55).trans fo122
  have fo168 := (hf165 _ ap56).trans fo123
  have h169 := OW.keepF h159 hle163 (fun i hi => (hf165 i (fun hj => (fun b h1 h2 => ap92 b h2 h1) i hj hi)).trans (OW.fnone h159 hi))
  have h170 := OW.keepF h160 hle163 (fun i hi => (hf165 i (fun hj => (fun b h1 h2 => ap132 b h2 h1) i hj hi)).trans (OW.fnone h160 hi))
  have hE171 : Ext n0 F0 n102 F161 := ⟨Nat.le_trans hE126.le (by omega), hE126.sub.trans hle163, fun i hi => (hf165 i (fun hj => by have := OW.id_lt h158 hj; omega)).trans (hE126.eq i hi)⟩
  obtain ⟨F172, hS173, hle174, h175, hf176⟩ := OW.freeze h169 hS162
  have fo177 := (hf176 _ ap89).trans fo166
  have fo178 := (hf176 _ ap90).trans fo167
  have fo179 := (hf176 _ ap91).trans fo168
  have h180 := OW.keepF h170 hle174 (fun i hi => (hf176 i (fun hj => (fun b h1 h2 => ap133 b h2 h1) i hj hi)).trans (OW.fnone h170 hi))
  have hE181 : Ext n0 F0 n102 F172 := ⟨Nat.le_trans hE171.le (by omega), hE171.sub.trans hle174, fun i hi => (hf176 i (fun hj => by have := OW.id_lt h169 hj; omega)).trans (hE171.eq i hi)⟩
  obtain ⟨F182, hS183, hle184, h185, hf186⟩ := OW.freeze h180 hS173
  have fo187 := (hf186 _ ap129).trans fo177
  have fo188 := (hf186 _ ap130).trans fo178
  have fo189 := (hf186 _ ap131).trans fo179
  have hE190 : Ext n0 F0 n102 F182 := ⟨Nat.le_trans hE181.le (by omega), hE181.sub.trans hle184, fun i hi => (hf186 i (fun hj => by have := OW.id_lt h180 hj; omega)).trans (hE181.eq i hi)⟩
  obtain rfl := Option.some.inj hr
  exact ⟨.inr rfl, _, (.cons (.cellN (l := [.slice a38 x32.length cap39, .slice a71 x64.length cap72, .slice a109 x101.length cap110, .bool x1.Conflict]) rfl Try.underlying32 rfl info32 ho154 rfl rfl) .nil), ⟨F182, a38, cap39, a71, cap72, a109, cap110, (hE190.up (by omega)), hS183, rfl, ((h164.mono hle174).mono hle184), (h175.mono hle184), h185⟩⟩
theorem f_spec_l10Same_k {Δ : Prims} (g : Env Try.prog Δ) {lo n0 : Nat} {H0 F0 : Heap} (hS : St lo n0 H0 F0) {x1 : GRec} {a2 : Option Addr} {cap3 : Nat} {x5 : GRec} {a6 : Option Addr} {cap7 : Nat} (h4 : SR F0 (.slice a2 x1.Data.length cap3) x1.Data) (h8 : SR F0 (.slice a6 x5.Data.length cap7) x5.Data) {res : (Bool)} (hr : f_spec_l10Same x1 x5 = some res) :
    C Try.prog Δ n0 56 [.agg [.int .i64 x1.Term, .int .i64 x1.Index, .slice a2 x1.Data.length cap3].toArray, .agg [.int .i64 x5.Term, .int .i64 x5.Index, .slice a6 x5.Data.length cap7].toArray] n0 H0 (fun v n H => St n0 n H F0 ∧ v = .bool res) := by
  refine C.body Try.func56 rfl rfl ?_
  unfold f_spec_l10Same at hr
  have hS0 : St n0 n0 H0 F0 := hS.low (Nat.le_refl _)
  have hE0 := Ext.refl n0 F0
  have hlo0 := hS0.lo
  with_reducible refine W.seq ?_
  with_reducible refine W.region ?_
  refine GL.box hS0 .nil (vc := [.int .i64 x1.Term, .int .i64 x1.Index, .slice a2 x1.Data.length cap3]) rfl rfl rfl rfl rfl (by repeat' (first | exact List.forall_mem_nil _ | refine List.forall_mem_cons.2 ⟨?_, ?_⟩ | rfl)) (fun H9 hS10 ho11 hk12 => ?_)
  have fo13 := hS0.fnone (Nat.le_refl _)
  have hlon01 := hS10.lo
  have lt14 : n0 < (n0 + 1) := by omega
  refine GL.box hS10 .nil (vc := [.int .i64 x5.Term, .int .i64 x5.Index, .slice a6 x5.Data.length cap7]) rfl rfl rfl rfl rfl (by repeat' (first | exact List.forall_mem_nil _ | refine List.forall_mem_cons.2 ⟨?_, ?_⟩ | rfl)) (fun H15 hS16 ho17 hk18 => ?_)
  have fo19 := hS10.fnone (Nat.le_refl _)
  have ho21 := (hk18 _ (by have := lt14; omega)).trans ho11
  have hlon011 := hS16.lo
  have lt20 : (n0 + 1) < ((n0 + 1) + 1) := by omega
  refine WL.assign .nil rfl rfl rfl rfl ?_
  with_reducible refine WL.nil ?_
  with_reducible refine Ex.thn_norm ?_
  with_reducible refine W.seq ?_
  with_reducible refine W.region ?_
  refine WL.fieldAddr .nil rfl rfl rfl Try.underlying37 rfl info3 rfl rfl ?_
  refine WL.load1 .nil rfl rfl rfl Try.underlying3 rfl rfl ho21 rfl ?_
  refine WL.fieldAddr .nil rfl rfl rfl Try.underlying37 rfl info3 rfl rfl ?_
  refine WL.load1 .nil rfl rfl rfl Try.underlying3 rfl rfl ho17 rfl ?_
  refine WL.bin .nil rfl rfl rfl rfl rfl rfl ?_
  refine WL.move .nil rfl rfl rfl rfl ?_
  refine WL.guardD rfl rfl rfl (fun hg22 => ?_) (fun hg22 => ?_)
  · replace hr := ite_pos hr hg22
    refine WL.fieldAddr .nil rfl rfl rfl Try.underlying37 rfl info3 rfl rfl ?_
    refine WL.load1 .nil rfl rfl rfl Try.underlying3 rfl rfl ho21 rfl ?_
    refine WL.fieldAddr .nil rfl rfl rfl Try.underlying37 rfl info3 rfl rfl ?_
    refine WL.load1 .nil rfl rfl rfl Try.underlying3 rfl rfl ho17 rfl ?_
    refine WL.bin .nil rfl rfl rfl rfl rfl rfl ?_
    refine WL.pick .nil rfl rfl rfl rfl rfl ?_
    refine WL.move .nil rfl rfl rfl rfl ?_
    refine WL.guardD rfl rfl rfl (fun hg23 => ?_) (fun hg23 => ?_)
    · replace hr := ite_pos hr hg23
      refine WL.fieldAddr .nil rfl rfl rfl Try.underlying37 rfl info24 rfl rfl ?_
      refine WL.load1 .nil rfl rfl rfl Try.underlying24 rfl rfl ho21 rfl ?_
      refine GL.toStr .nil rfl rfl rfl Try.underlying24 Try.underlying9 Try.underlying5 rfl h4 hS16.fh ?_
      refine WL.fieldAddr .nil rfl rfl rfl Try.underlying37 rfl info24 rfl rfl ?_
      refine WL.load1 .nil rfl rfl rfl Try.underlying24 rfl rfl ho17 rfl ?_
      refine GL.toStr .nil rfl rfl rfl Try.underlying24 Try.underlying9 Try.underlying5 rfl h8 hS16.fh ?_
      refine GL.strCmp .nil rfl rfl rfl rfl rfl (by decide) rfl ?_
      refine WL.pick .nil rfl rfl rfl rfl rfl ?_
      refine WL.assign .nil rfl rfl rfl rfl ?_
      with_reducible refine WL.nil ?_
      with_reducible refine Ex.thn_norm ?_
      with_reducible refine W.ret ?_
      obtain rfl := Option.some.inj hr
      exact ⟨.inr rfl, _, (.cons (.tmp rfl) .nil), ⟨(Ext.st hE0 hS16), rfl⟩⟩
    · replace hr := ite_neg hr hg23
      refine WL.skip .nil rfl rfl ?_
      refine WL.skip .nil rfl rfl ?_
      refine WL.skip .nil rfl rfl ?_
      refine WL.skip .nil rfl rfl ?_
      refine WL.skip .nil rfl rfl ?_
      refine WL.skip .nil rfl rfl ?_
      refine WL.skip .nil rfl rfl ?_
      refine WL.pick .nil rfl rfl rfl rfl rfl ?_
      refine WL.assign .nil rfl rfl rfl rfl ?_
      with_reducible refine WL.nil ?_
      with_reducible refine Ex.thn_norm ?_
      with_reducible refine W.ret ?_
      obtain rfl := Option.some.inj hr
      exact ⟨.inr rfl, _, (.cons (.tmp rfl) .nil), ⟨(Ext.st hE0 hS16), rfl⟩⟩
  · replace hr := ite_neg hr hg22
    refine WL.skip .nil rfl rfl ?_
    refine WL.skip .nil rfl rfl ?_
    refine WL.skip .nil rfl rfl ?_
    refine WL.skip .nil rfl rfl ?_
    refine WL.skip .nil rfl rfl ?_
    refine WL.pick .nil rfl rfl rfl rfl rfl ?_
    refine WL.move .nil rfl rfl rfl rfl ?_
    refine WL.skip .nil rfl rfl ?_
    refine WL.skip .nil rfl rfl ?_
    refine WL.skip .nil rfl rfl ?_
    refine WL.skip .nil rfl rfl ?_
    refine WL.skip .nil rfl rfl ?_
    refine WL.skip .nil rfl rfl ?_
    refine WL.skip .nil rfl rfl ?_
    refine WL.pick .nil rfl rfl rfl rfl rfl ?_
    refine WL.assign .nil rfl rfl rfl rfl ?_
    with_reducible refine WL.nil ?_
    with_reducible refine Ex.thn_norm ?_
    with_reducible refine W.ret ?_
    obtain rfl := Option.some.inj hr
    exact ⟨.inr rfl, _, (.cons (.tmp rfl) .nil), ⟨(Ext.st hE0 hS16), rfl⟩⟩
theorem f_spec_Agree_k {Δ : Prims} (g : Env Try.prog Δ) {lo n0 : Nat} {H0 F0 : Heap} (hS : St lo n0 H0 F0) {x1 : GCluster} {a2 : Option Addr} {cap3 : Nat} {a5 : Option Addr} {cap6 : Nat} {a8 : Option Addr} {cap9 : Nat} (h4 : SR F0 (.slice a2 x1.Peers.length cap3) x1.Peers) (h7 : SR F0 (.slice a5 x1.Net.length cap6) x1.Net) (h10 : SR F0 (.slice a8 x1.Chosen.length cap9) x1.Chosen) {res : (Bool)} (hr : f_spec_Agree x1 = some res) :
    C Try.prog Δ n0 27 [.agg [.slice a2 x1.Peers.length cap3, .slice a5 x1.Net.length cap6, .slice a8 x1.Chosen.length cap9, .bool x1.Conflict].toArray] n0 H0 (fun v n H => St n0 n H F0 ∧ v = .bool res) := by
  refine C.body Try.func27 rfl rfl ?_
  unfold f_spec_Agree at hr
  have hS0 : St n0 n0 H0 F0 := hS.low (Nat.le_refl _)
  have hE0 := Ext.refl n0 F0
  have hlo0 := hS0.lo
  with_reducible refine W.seq ?_
  with_reducible refine W.region ?_
  refine GL.box hS0 .nil (vc := [.slice a2 x1.Peers.length cap3, .slice a5 x1.Net.length cap6, .slice a8 x1.Chosen.length cap9, .bool x1.Conflict]) rfl rfl rfl rfl rfl (by repeat' (first | exact List.forall_mem_nil _ | refine List.forall_mem_cons.2 ⟨?_, ?_⟩ | rfl)) (fun H11 hS12 ho13 hk14 => ?_)
  have fo15 := hS0.fnone (Nat.le_refl _)
  have hlon01 := hS12.lo
  have lt16 : n0 < (n0 + 1) := by omega
  refine WL.assign .nil rfl rfl rfl rfl ?_
  with_reducible refine WL.nil ?_
  with_reducible refine Ex.thn_norm ?_
  with_reducible refine W.seq ?_
  with_reducible refine W.seq ?_
  with_reducible refine W.region ?_
  refine WL.fieldAddr .nil rfl rfl rfl Try.underlying32 rfl info4 rfl rfl ?_
  refine WL.load1 .nil rfl rfl rfl Try.underlying4 rfl rfl ho13 rfl ?_
  with_reducible refine WL.nil ?_
  with_reducible refine Ex.thn_norm ?_
  refine W.cond rfl (fun hc18 => ?_) (fun hc18 => ?_)
  · replace hr := iteB_pos hr hc18
    with_reducible refine W.seq ?_
    with_reducible refine W.region ?_
    refine WL.assign .nil rfl rfl rfl rfl ?_
    with_reducible refine WL.nil ?_
    with_reducible refine Ex.thn_norm ?_
    with_reducible refine W.ret ?_
    with_reducible refine Ex.thn_ret ?_
    obtain rfl := Option.some.inj hr
    exact ⟨.inr rfl, _, (.cons (.tmp rfl) .nil), ⟨(Ext.st hE0 hS12), rfl⟩⟩
  · replace hr := iteB_neg hr hc18
    with_reducible refine W.skip ?_
    with_reducible refine Ex.thn_norm ?_
    with_reducible refine W.seq ?_
    with_reducible refine W.seq ?_
    with_reducible refine W.region ?_
    refine WL.assign .nil rfl rfl rfl rfl ?_
    with_reducible refine WL.nil ?_
    with_reducible refine Ex.thn_norm ?_
    with_reducible refine W.block ?_
    refine W.loopF (fun k0 fr n H => ∃ (x1333 : Int) (F : Heap), fr = [(1, .pointer (some ⟨n0, 0, none⟩)), (3, .int .i64 x1333)] ∧ St n0 n H F ∧ Ext n0 F0 n F ∧ H n0 = some (.row 1 [.slice a2 x1.Peers.length cap3, .slice a5 x1.Net.length cap6, .slice a8 x1.Chosen.length cap9, .bool x1.Conflict]) ∧ F n0 = none ∧ SR F (.slice a2 x1.Peers.length cap3) x1.Peers ∧ SR F (.slice a5 x1.Net.length cap6) x1.Net ∧ SR F (.slice a8 x1.Chosen.length cap9) x1.Chosen ∧ f_spec_Agree_L0 x1 k0 x1333 = some res) BIG (fr0 := [(1, .pointer (some ⟨n0, 0, none⟩)), (3, .int .i64 0)]) (Fr.le_cons rfl (Fr.le_cons rfl Fr.le_nil)) ?_ ?_ ?_
    · exact ⟨0, F0, rfl, hS12, (hE0.up (by omega)), ho13, fo15, h4, h7, h10, hr⟩
    · intro fr n H hI
      obtain ⟨x1333, F1330, hfr, hS1331, hE1332, ho1337, fo1338, h1334, h1335, h1336, hr⟩ := hI
      rw [f_spec_Agree_L0] at hr
      cases hr
    · intro k0 _ n1328 H1329 hI
      obtain ⟨x1333, F1330, rfl, hS1331, hE1332, ho1337, fo1338, h1334, h1335, h1336, hr⟩ := hI
      have lt1339 := hS1331.lt ho1337
      have hlen1328 := hE1332.le
      have hlon1328 := hS1331.lo
      rw [f_spec_Agree_L0] at hr
      with_reducible refine W.seq ?_
      with_reducible refine W.seq ?_
      with_reducible refine W.region ?_
      refine WL.move .nil rfl rfl rfl rfl ?_
      refine WL.fieldAddr .nil rfl rfl rfl Try.underlying32 rfl info28 rfl rfl ?_
      refine WL.load1 .nil rfl rfl rfl Try.underlying28 rfl rfl ho1337 rfl ?_
      refine WL.len .nil rfl rfl rfl Try.underlying28 rfl ?_
      refine WL.bin .nil rfl rfl rfl rfl rfl rfl ?_
      with_reducible refine WL.nil ?_
      with_reducible refine Ex.thn_norm ?_
      refine W.condD rfl (fun hc1341 => ?_) (fun hc1341 => ?_)
      · replace hr := ite_pos hr hc1341
        with_reducible refine W.skip ?_
        with_reducible refine Ex.thn_norm ?_
        with_reducible refine W.seq ?_
        with_reducible refine W.block ?_
        with_reducible refine W.seq ?_
        with_reducible refine W.region ?_
        refine WL.fieldAddr .nil rfl rfl rfl Try.underlying32 rfl info28 rfl rfl ?_
        refine WL.load1 .nil rfl rfl rfl Try.underlying28 rfl rfl ho1337 rfl ?_
        refine WL.move .nil rfl rfl rfl rfl ?_
        obtain ⟨x1662, hx1662, hr⟩ := bnd_some hr
        refine GL.index .nil rfl rfl rfl Try.underlying28 info88 rfl rfl h1334 hS1331.fh rfl hx1662 (fun b1663 kp1664 c1665 ecs1666 hrow1667 hwin1668 hR1669 => ?_)
        obtain ⟨a1670, cap1671, a1673, cap1674, a1676, cap1677, a1679, cap1680, rfl, h1672, h1675, h1678, h1681⟩ := GPeer.ofR hR1669
        refine WL.loadN .nil (l' := [.bool x1662.Up, .int .i64 x1662.Term, .int .i64 x1662.Vote, .int .i64 x1662.Commit, .int .i64 x1662.Role, .slice a1670 x1662.Log.length cap1671, .slice a1673 x1662.Votes.length cap1674, .slice a1676 x1662.Next.length cap1677, .slice a1679 x1662.Match.length cap1680]) rfl rfl rfl Try.underlying88 rfl info88 rfl hrow1667 hwin1668 rfl ?_
        refine GL.alloc hS1331 .nil (zc := [.bool false, .int .i64 0, .int .i64 0, .int .i64 0, .int .i64 0, .slice none 0 0, .slice none 0 0, .slice none 0 0, .slice none 0 0]) rfl rfl rfl info88 rfl rfl rfl (fun H1682 hS1683 ho1684 hk1685 => ?_)
        have fo1686 := hS1331.fnone (Nat.le_refl _)
        have ho1688 := (hk1685 _ (by have := lt1339; omega)).trans ho1337
        have hlon13281 := hS1683.lo
        have lt1687 : n1328 < (n1328 + 1) := by omega
        refine GL.store hS1683 .nil (vc := [.bool x1662.Up, .int .i64 x1662.Term, .int .i64 x1662.Vote, .int .i64 x1662.Commit, .int .i64 x1662.Role, .slice a1670 x1662.Log.length cap1671, .slice a1673 x1662.Votes.length cap1674, .slice a1676 x1662.Next.length cap1677, .slice a1679 x1662.Match.length cap1680]) (c' := [.bool x1662.Up, .int .i64 x1662.Term, .int .i64 x1662.Vote, .int .i64 x1662.Commit, .int .i64 x1662.Role, .slice a1670 x1662.Log.length cap1671, .slice a1673 x1662.Votes.length cap1674, .slice a1676 x1662.Next.length cap1677, .slice a1679 x1662.Match.length cap1680]) rfl rfl rfl info88 rfl rfl rfl rfl ho1684 fo1686 (Nat.le_of_ble_eq_true rfl) (by omega) (by repeat' (first | exact List.forall_mem_nil _ | refine List.forall_mem_cons.2 ⟨?_, ?_⟩ | rfl)) rfl (fun H1689 hS1690 ho1691 hk1692 => ?_)
        have ho1693 := (hk1692 _ (by omega)).trans ho1688
        with_reducible refine WL.nil ?_
        with_reducible refine Ex.thn_norm ?_
        with_reducible refine W.seq ?_
        with_reducible refine W.seq ?_
        refine W.cut (fun fr n H => ∃ (x1701 : Bool) (F : Heap), fr = [(1, .pointer (some ⟨n0, 0, none⟩)), (3, .int .i64 x1333), (4, .pointer (some ⟨n1328, 0, none⟩)), (38, .bool x1701)] ∧ St n0 n H F ∧ Ext n0 F0 n F ∧ H n0 = some (.row 1 [.slice a2 x1.Peers.length cap3, .slice a5 x1.Net.length cap6, .slice a8 x1.Chosen.length cap9, .bool x1.Conflict]) ∧ F n0 = none ∧ H n1328 = some (.row 1 [.bool x1662.Up, .int .i64 x1662.Term, .int .i64 x1662.Vote, .int .i64 x1662.Commit, .int .i64 x1662.Role, .slice a1670 x1662.Log.length cap1671, .slice a1673 x1662.Votes.length cap1674, .slice a1676 x1662.Next.length cap1677, .slice a1679 x1662.Match.length cap1680]) ∧ F n1328 = none ∧ SR F (.slice a2 x1.Peers.length cap3) x1.Peers ∧ SR F (.slice a5 x1.Net.length cap6) x1.Net ∧ SR F (.slice a8 x1.Chosen.length cap9) x1.Chosen ∧ SR F (.slice a1670 x1662.Log.length cap1671) x1662.Log ∧ SR F (.slice a1673 x1662.Votes.length cap1674) x1662.Votes ∧ SR F (.slice a1676 x1662.Next.length cap1677) x1662.Next ∧ SR F (.slice a1679 x1662.Match.length cap1680) x1662.Match ∧ f_spec_Agree_J1 x1662 x1 x1333 (f_spec_Agree_L0 x1 k0) x1701 = some res) ?_ ?_
        · with_reducible refine W.region ?_
          refine WL.fieldAddr .nil rfl rfl rfl Try.underlying88 rfl info3 rfl rfl ?_
          refine WL.load1 .nil rfl rfl rfl Try.underlying3 rfl rfl ho1691 rfl ?_
          refine WL.bin .nil rfl rfl rfl rfl rfl rfl ?_
          refine WL.move .nil rfl rfl rfl rfl ?_
          refine WL.guardD rfl rfl rfl (fun hg1981 => ?_) (fun hg1981 => ?_)
          · replace hr := ite_pos hr hg1981
            refine WL.skip .nil rfl rfl ?_
            refine WL.skip .nil rfl rfl ?_
            refine WL.skip .nil rfl rfl ?_
            refine WL.skip .nil rfl rfl ?_
            refine WL.skip .nil rfl rfl ?_
            refine WL.skip .nil rfl rfl ?_
            refine WL.pick .nil rfl rfl rfl rfl rfl ?_
            refine WL.move .nil rfl rfl rfl rfl ?_
            refine WL.skip .nil rfl rfl ?_
            refine WL.skip .nil rfl rfl ?_
            refine WL.skip .nil rfl rfl ?_
            refine WL.skip .nil rfl rfl ?_
            refine WL.skip .nil rfl rfl ?_
            refine WL.skip .nil rfl rfl ?_
            refine WL.pick .nil rfl rfl rfl rfl rfl ?_
            with_reducible refine WL.nil ?_
            with_reducible refine Ex.thn_norm ?_
            exact ⟨[(1, .pointer (some ⟨n0, 0, none⟩)), (3, .int .i64 x1333), (4, .pointer (some ⟨n1328, 0, none⟩)), (38, .bool true)], (Fr.le_cons rfl (Fr.le_cons rfl (Fr.le_cons rfl (Fr.le_cons rfl Fr.le_nil)))), true, F1330, rfl, hS1690, (hE1332.up (by omega)), ho1693, fo1338, ho1691, fo1686, h1334, h1335, h1336, h1672, h1675, h1678, h1681, hr⟩
          · replace hr := ite_neg hr hg1981
            refine WL.fieldAddr .nil rfl rfl rfl Try.underlying88 rfl info3 rfl rfl ?_
            refine WL.load1 .nil rfl rfl rfl Try.underlying3 rfl rfl ho1691 rfl ?_
            refine WL.fieldAddr .nil rfl rfl rfl Try.underlying88 rfl info30 rfl rfl ?_
            refine WL.load1 .nil rfl rfl rfl Try.underlying30 rfl rfl ho1691 rfl ?_
            refine WL.len .nil rfl rfl rfl Try.underlying30 rfl ?_
            refine WL.bin .nil rfl rfl rfl rfl rfl rfl ?_
            refine WL.pick .nil rfl rfl rfl rfl rfl ?_
            refine WL.move .nil rfl rfl rfl rfl ?_
            refine WL.guardD rfl rfl rfl (fun hg1982 => ?_) (fun hg1982 => ?_)
            · replace hr := ite_pos hr hg1982
              refine WL.skip .nil rfl rfl ?_
              refine WL.skip .nil rfl rfl ?_
              refine WL.skip .nil rfl rfl ?_
              refine WL.skip .nil rfl rfl ?_
              refine WL.skip .nil rfl rfl ?_
              refine WL.skip .nil rfl rfl ?_
              refine WL.pick .nil rfl rfl rfl rfl rfl ?_
              with_reducible refine WL.nil ?_
              with_reducible refine Ex.thn_norm ?_
              exact ⟨[(1, .pointer (some ⟨n0, 0, none⟩)), (3, .int .i64 x1333), (4, .pointer (some ⟨n1328, 0, none⟩)), (38, .bool true)], (Fr.le_cons rfl (Fr.le_cons rfl (Fr.le_cons rfl (Fr.le_cons rfl Fr.le_nil)))), true, F1330, rfl, hS1690, (hE1332.up (by omega)), ho1693, fo1338, ho1691, fo1686, h1334, h1335, h1336, h1672, h1675, h1678, h1681, hr⟩
            · replace hr := ite_neg hr hg1982
              refine WL.fieldAddr .nil rfl rfl rfl Try.underlying88 rfl info3 rfl rfl ?_
              refine WL.load1 .nil rfl rfl rfl Try.underlying3 rfl rfl ho1691 rfl ?_
              refine WL.fieldAddr .nil rfl rfl rfl Try.underlying32 rfl info30 rfl rfl ?_
              refine WL.load1 .nil rfl rfl rfl Try.underlying30 rfl rfl ho1693 rfl ?_
              refine WL.len .nil rfl rfl rfl Try.underlying30 rfl ?_
              refine WL.bin .nil rfl rfl rfl rfl rfl rfl ?_
              refine WL.pick .nil rfl rfl rfl rfl rfl ?_
              with_reducible refine WL.nil ?_
              with_reducible refine Ex.thn_norm ?_
              exact ⟨[(1, .pointer (some ⟨n0, 0, none⟩)), (3, .int .i64 x1333), (4, .pointer (some ⟨n1328, 0, none⟩)), (38, .bool (decide ((x1.Chosen.length : Int) < x1662.Commit)))], (Fr.le_cons rfl (Fr.le_cons rfl (Fr.le_cons rfl (Fr.le_cons rfl Fr.le_nil)))), (decide ((x1.Chosen.length : Int) < x1662.Commit)), F1330, rfl, hS1690, (hE1332.up (by omega)), ho1693, fo1338, ho1691, fo1686, h1334, h1335, h1336, h1672, h1675, h1678, h1681, hr⟩
        · intro _ n1696 H1697 hI
          obtain ⟨x1701, F1698, rfl, hS1699, hE1700, ho1705, fo1706, ho1711, fo1712, h1702, h1703, h1704, h1707, h1708, h1709, h1710, hr⟩ := hI
          have lt1713 := hS1699.lt ho1705
          have lt1714 := hS1699.lt ho1711
          have hlen1696 := hE1700.le
          have hlon1696 := hS1699.lo
          unfold f_spec_Agree_J1 at hr
          refine W.cond rfl (fun hc1716 => ?_) (fun hc1716 => ?_)
          · replace hr := iteB_pos hr hc1716
            with_reducible refine W.seq ?_
            with_reducible refine W.region ?_
            refine WL.assign .nil rfl rfl rfl rfl ?_
            with_reducible refine WL.nil ?_
            with_reducible refine Ex.thn_norm ?_
            with_reducible refine W.ret ?_
            with_reducible refine Ex.thn_ret ?_
            with_reducible refine Ex.blk_ret ?_
            with_reducible refine Ex.thn_ret ?_
            with_reducible refine Ex.thn_ret ?_
            with_reducible refine Ex.blk_ret ?_
            with_reducible refine Ex.thn_ret ?_
            obtain rfl := Option.some.inj hr
            exact ⟨.inr rfl, _, (.cons (.tmp rfl) .nil), ⟨(Ext.st hE1700 hS1699), rfl⟩⟩
          · replace hr := iteB_neg hr hc1716
            with_reducible refine W.skip ?_
            with_reducible refine Ex.thn_norm ?_
            with_reducible refine W.seq ?_
            with_reducible refine W.region ?_
            refine WL.assign .nil rfl rfl rfl rfl ?_
            with_reducible refine WL.nil ?_
            with_reducible refine Ex.thn_norm ?_
            with_reducible refine W.block ?_
            refine W.loopF (fun k2 fr n H => ∃ (x1897 : Int) (F : Heap), fr = [(1, .pointer (some ⟨n0, 0, none⟩)), (3, .int .i64 x1333), (4, .pointer (some ⟨n1328, 0, none⟩)), (5, .int .i64 x1897)] ∧ St n0 n H F ∧ Ext n0 F0 n F ∧ H n0 = some (.row 1 [.slice a2 x1.Peers.length cap3, .slice a5 x1.Net.length cap6, .slice a8 x1.Chosen.length cap9, .bool x1.Conflict]) ∧ F n0 = none ∧ H n1328 = some (.row 1 [.bool x1662.Up, .int .i64 x1662.Term, .int .i64 x1662.Vote, .int .i64 x1662.Commit, .int .i64 x1662.Role, .slice a1670 x1662.Log.length cap1671, .slice a1673 x1662.Votes.length cap1674, .slice a1676 x1662.Next.length cap1677, .slice a1679 x1662.Match.length cap1680]) ∧ F n1328 = none ∧ SR F (.slice a2 x1.Peers.length cap3) x1.Peers ∧ SR F (.slice a5 x1.Net.length cap6) x1.Net ∧ SR F (.slice a8 x1.Chosen.length cap9) x1.Chosen ∧ SR F (.slice a1670 x1662.Log.length cap1671) x1662.Log ∧ SR F (.slice a1673 x1662.Votes.length cap1674) x1662.Votes ∧ SR F (.slice a1676 x1662.Next.length cap1677) x1662.Next ∧ SR F (.slice a1679 x1662.Match.length cap1680) x1662.Match ∧ f_spec_Agree_L2 x1662 x1 x1333 (f_spec_Agree_L0 x1 k0) k2 x1897 = some res) BIG (fr0 := [(1, .pointer (some ⟨n0, 0, none⟩)), (3, .int .i64 x1333), (4, .pointer (some ⟨n1328, 0, none⟩)), (5, .int .i64 0)]) (Fr.le_cons rfl (Fr.le_cons rfl (Fr.le_cons rfl (Fr.le_cons rfl Fr.le_nil)))) ?_ ?_ ?_
            · exact ⟨0, F1698, rfl, hS1699, hE1700, ho1705, fo1706, ho1711, fo1712, h1702, h1703, h1704, h1707, h1708, h1709, h1710, hr⟩
            · intro fr n H hI
              obtain ⟨x1897, F1894, hfr, hS1895, hE1896, ho1901, fo1902, ho1907, fo1908, h1898, h1899, h1900, h1903, h1904, h1905, h1906, hr⟩ := hI
              rw [f_spec_Agree_L2] at hr
              cases hr
            · intro k2 _ n1892 H1893 hI
              obtain ⟨x1897, F1894, rfl, hS1895, hE1896, ho1901, fo1902, ho1907, fo1908, h1898, h1899, h1900, h1903, h1904, h1905, h1906, hr⟩ := hI
              have lt1909 := hS1895.lt ho1901
              have lt1910 := hS1895.lt ho1907
              have hlen1892 := hE1896.le
              have hlon1892 := hS1895.lo
              rw [f_spec_Agree_L2] at hr
              with_reducible refine W.seq ?_
              with_reducible refine W.seq ?_
              with_reducible refine W.region ?_
              refine WL.move .nil rfl rfl rfl rfl ?_
              refine WL.fieldAddr .nil rfl rfl rfl Try.underlying88 rfl info3 rfl rfl ?_
              refine WL.load1 .nil rfl rfl rfl Try.underlying3 rfl rfl ho1907 rfl ?_
              refine WL.bin .nil rfl rfl rfl rfl rfl rfl ?_
              with_reducible refine WL.nil ?_
              with_reducible refine Ex.thn_norm ?_
              refine W.condD rfl (fun hc1912 => ?_) (fun hc1912 => ?_)
              · replace hr := ite_pos hr hc1912
                with_reducible refine W.skip ?_
                with_reducible refine Ex.thn_norm ?_
                with_reducible refine W.seq ?_
                with_reducible refine W.block ?_
                with_reducible refine W.seq ?_
                refine W.regionD [0, 1, 2, 3, 4, 5, 6, 7, 8, 9, 10, 11] [false, false, false, false, false, false, false, false, false, false, false, false] rfl rfl (by kernel_rfl) (by kernel_rfl) (by (conv => lhs; simp only [List.map_cons, List.map_nil, List.getD_cons_zero, List.getD_cons_succ]) <;> rfl) ?_
                refine WL.fieldAddr .r rfl rfl rfl Try.underlying88 rfl info30 rfl rfl ?_
                refine WL.load1 .r rfl rfl rfl Try.underlying30 rfl rfl ho1907 rfl ?_
                refine WL.move .r rfl rfl rfl rfl ?_
                obtain ⟨x1946, hx1946, hr⟩ := bnd_some hr
                refine GL.index .r rfl rfl rfl Try.underlying30 info37 rfl rfl h1903 hS1895.fh rfl hx1946 (fun b1947 kp1948 c1949 ecs1950 hrow1951 hwin1952 hR1953 => ?_)
                obtain ⟨a1954, cap1955, rfl, h1956⟩ := GRec.ofR hR1953
                refine WL.loadN .r (l' := [.int .i64 x1946.Term, .int .i64 x1946.Index, .slice a1954 x1946.Data.length cap1955]) rfl rfl rfl Try.underlying37 rfl info37 rfl hrow1951 hwin1952 rfl ?_
                refine WL.fieldAddr .r rfl rfl rfl Try.underlying32 rfl info30 rfl rfl ?_
                refine WL.load1 .r rfl rfl rfl Try.underlying30 rfl rfl ho1901 rfl ?_
                refine WL.move .r rfl rfl rfl rfl ?_
                obtain ⟨x1957, hx1957, hr⟩ := bnd_some hr
                refine GL.index .r rfl rfl rfl Try.underlying30 info37 rfl rfl h1900 hS1895.fh rfl hx1957 (fun b1958 kp1959 c1960 ecs1961 hrow1962 hwin1963 hR1964 => ?_)
                obtain ⟨a1965, cap1966, rfl, h1967⟩ := GRec.ofR hR1964
                refine WL.loadN .r (l' := [.int .i64 x1957.Term, .int .i64 x1957.Index, .slice a1965 x1957.Data.length cap1966]) rfl rfl rfl Try.underlying37 rfl info37 rfl hrow1962 hwin1963 rfl ?_
                obtain ⟨x1968, hx1968, hr⟩ := bnd_some hr
                refine GL.callP g.good .r rfl rfl rfl rfl rfl rfl Try.func56 rfl rfl (Nat.le_refl _) (f_spec_l10Same_k  g hS1895 h1956 h1967 hx1968) (fun v n1969 H1970 hn1971 hk1972 hp1973 => ?_)
                obtain ⟨hS1974, rfl⟩ := hp1973
                have ho1975 := (hk1972 _ (by have := lt1909; omega)).trans ho1901
                have ho1976 := (hk1972 _ (by have := lt1910; omega)).trans ho1907
                have hS1977 : St n0 n1969 H1970 F1894 := ⟨by have := hS1895.lo; omega, hS1974.hb, hS1974.fh⟩
                have hlon1969 := hS1977.lo
                refine WL.not .r rfl rfl rfl rfl ?_
                with_reducible refine WL.nil ?_
                with_reducible refine Ex.thn_norm ?_
                refine W.cond rfl (fun hc1978 => ?_) (fun hc1978 => ?_)
                · replace hr := iteB_pos hr hc1978
                  with_reducible refine W.seq ?_
                  with_reducible refine W.region ?_
                  refine WL.assign .nil rfl rfl rfl rfl ?_
                  with_reducible refine WL.nil ?_
                  with_reducible refine Ex.thn_norm ?_
                  with_reducible refine W.ret ?_
                  with_reducible refine Ex.blk_ret ?_
                  with_reducible refine Ex.thn_ret ?_
                  with_reducible refine Ex.thn_ret ?_
                  with_reducible refine Ex.blk_ret ?_
                  with_reducible refine Ex.blk_ret ?_
                  with_reducible refine Ex.thn_ret ?_
                  with_reducible refine Ex.thn_ret ?_
                  with_reducible refine Ex.blk_ret ?_
                  with_reducible refine Ex.thn_ret ?_
                  obtain rfl := Option.some.inj hr
                  exact ⟨.inr rfl, _, (.cons (.tmp rfl) .nil), ⟨(Ext.st hE1896 hS1977), rfl⟩⟩
                · replace hr := iteB_neg hr hc1978
                  with_reducible refine W.skip ?_
                  with_reducible refine Ex.blk_norm ?_
                  with_reducible refine Ex.thn_norm ?_
                  with_reducible refine W.region ?_
                  refine WL.move .nil rfl rfl rfl rfl ?_
                  obtain ⟨hc1979, hr⟩ := chk_some hr
                  refine WL.addI .nil rfl rfl rfl rfl rfl hc1979.1 hc1979.2 ?_
                  refine WL.assign .nil rfl rfl rfl rfl ?_
                  with_reducible refine WL.nil ?_
                  with_reducible refine Ex.thn_norm ?_
                  exact ⟨[(1, .pointer (some ⟨n0, 0, none⟩)), (3, .int .i64 x1333), (4, .pointer (some ⟨n1328, 0, none⟩)), (5, .int .i64 (x1897 + 1))], (Fr.le_cons rfl (Fr.le_cons rfl (Fr.le_cons rfl (Fr.le_cons rfl Fr.le_nil)))), (x1897 + 1), F1894, rfl, hS1977, (hE1896.up (by omega)), ho1975, fo1902, ho1976, fo1908, h1898, h1899, h1900, h1903, h1904, h1905, h1906, hr⟩
              · replace hr := ite_neg hr hc1912
                with_reducible refine W.exit ?_
                with_reducible refine Ex.thn_ex ?_
                with_reducible refine Ex.thn_ex ?_
                with_reducible refine Ex.blk_here ?_
                with_reducible refine Ex.blk_norm ?_
                with_reducible refine Ex.thn_norm ?_
                with_reducible refine W.region ?_
                refine WL.move .nil rfl rfl rfl rfl ?_
                obtain ⟨hc1980, hr⟩ := chk_some hr
                refine WL.addI .nil rfl rfl rfl rfl rfl hc1980.1 hc1980.2 ?_
                refine WL.assign .nil rfl rfl rfl rfl ?_
                with_reducible refine WL.nil ?_
                with_reducible refine Ex.thn_norm ?_
                exact ⟨[(1, .pointer (some ⟨n0, 0, none⟩)), (3, .int .i64 (x1333 + 1))], (Fr.le_cons rfl (Fr.le_cons rfl Fr.le_nil)), (x1333 + 1), F1894, rfl, hS1895, hE1896, ho1901, fo1902, h1898, h1899, h1900, hr⟩
      · replace hr := ite_neg hr hc1341
        with_reducible refine W.exit ?_
        with_reducible refine Ex.thn_ex ?_
        with_reducible refine Ex.thn_ex ?_
        with_reducible refine Ex.blk_here ?_
        with_reducible refine Ex.thn_norm ?_
        with_reducible refine W.seq ?_
        with_reducible refine W.region ?_
        refine WL.assign .nil rfl rfl rfl rfl ?_
        with_reducible refine WL.nil ?_
        with_reducible refine Ex.thn_norm ?_
        with_reducible refine W.ret ?_
        obtain rfl := Option.some.inj hr
        exact ⟨.inr rfl, _, (.cons (.tmp rfl) .nil), ⟨(Ext.st hE1332 hS1331), rfl⟩⟩
theorem f_impl_within_k {Δ : Prims} (g : Env Try.prog Δ) {lo n0 : Nat} {H0 F0 : Heap} (hS : St lo n0 H0 F0) {x1 : Int} {x2 : Int} {x3 : Int} {res : (Bool)} (hr : f_impl_within x1 x2 x3 = some res) :
    C Try.prog Δ n0 31 [.int .i64 x1, .int .i64 x2, .int .i64 x3] n0 H0 (fun v n H => St n0 n H F0 ∧ v = .bool res) := by
  refine C.body Try.func31 rfl rfl ?_
  unfold f_impl_within at hr
  have hS0 : St n0 n0 H0 F0 := hS.low (Nat.le_refl _)
  have hE0 := Ext.refl n0 F0
  have hlo0 := hS0.lo
  with_reducible refine W.seq ?_
  with_reducible refine W.region ?_
  refine WL.assign .nil rfl rfl rfl rfl ?_
  with_reducible refine WL.nil ?_
  with_reducible refine Ex.thn_norm ?_
  with_reducible refine W.seq ?_
  with_reducible refine W.region ?_
  refine WL.move .nil rfl rfl rfl rfl ?_
  refine WL.move .nil rfl rfl rfl rfl ?_
  refine WL.bin .nil rfl rfl rfl rfl rfl rfl ?_
  refine WL.move .nil rfl rfl rfl rfl ?_
  refine WL.guardD rfl rfl rfl (fun hg4 => ?_) (fun hg4 => ?_)
  · replace hr := ite_pos hr hg4
    refine WL.move .nil rfl rfl rfl rfl ?_
    refine WL.move .nil rfl rfl rfl rfl ?_
    refine WL.bin .nil rfl rfl rfl rfl rfl rfl ?_
    refine WL.pick .nil rfl rfl rfl rfl rfl ?_
    refine WL.assign .nil rfl rfl rfl rfl ?_
    with_reducible refine WL.nil ?_
    with_reducible refine Ex.thn_norm ?_
    with_reducible refine W.ret ?_
    obtain rfl := Option.some.inj hr
    exact ⟨.inr rfl, _, (.cons (.tmp rfl) .nil), ⟨(Ext.st hE0 hS0), rfl⟩⟩
  · replace hr := ite_neg hr hg4
    refine WL.skip .nil rfl rfl ?_
    refine WL.skip .nil rfl rfl ?_
    refine WL.skip .nil rfl rfl ?_
    refine WL.pick .nil rfl rfl rfl rfl rfl ?_
    refine WL.assign .nil rfl rfl rfl rfl ?_
    with_reducible refine WL.nil ?_
    with_reducible refine Ex.thn_norm ?_
    with_reducible refine W.ret ?_
    obtain rfl := Option.some.inj hr
    exact ⟨.inr rfl, _, (.cons (.tmp rfl) .nil), ⟨(Ext.st hE0 hS0), rfl⟩⟩
theorem f_slices_Equal_byte_k {Δ : Prims} (g : Env Try.prog Δ) {lo n0 : Nat} {H0 F0 : Heap} (hS : St lo n0 H0 F0) {a2 : Option Addr} {cap3 : Nat} {xs1 : (List UInt8)} {a6 : Option Addr} {cap7 : Nat} {xs5 : (List UInt8)} (h4 : SR F0 (.slice a2 xs1.length cap3) xs1) (h8 : SR F0 (.slice a6 xs5.length cap7) xs5) {res : (Bool)} (hr : f_slices_Equal_byte xs1 xs5 = some res) :
    C Try.prog Δ n0 81 [.slice a2 xs1.length cap3, .slice a6 xs5.length cap7] n0 H0 (fun v n H => St n0 n H F0 ∧ v = .bool res) := by
  refine C.body Try.func81 rfl rfl ?_
  unfold f_slices_Equal_byte at hr
  have hS0 : St n0 n0 H0 F0 := hS.low (Nat.le_refl _)
  have hE0 := Ext.refl n0 F0
  have hlo0 := hS0.lo
  with_reducible refine W.seq ?_
  with_reducible refine W.region ?_
  refine WL.assign .nil rfl rfl rfl rfl ?_
  with_reducible refine WL.nil ?_
  with_reducible refine Ex.thn_norm ?_
  with_reducible refine W.seq ?_
  with_reducible refine W.seq ?_
  with_reducible refine W.region ?_
  refine WL.move .nil rfl rfl rfl rfl ?_
  refine WL.len .nil rfl rfl rfl Try.underlying24 rfl ?_
  refine WL.move .nil rfl rfl rfl rfl ?_
  refine WL.len .nil rfl rfl rfl Try.underlying24 rfl ?_
  refine WL.bin .nil rfl rfl rfl rfl rfl rfl ?_
  with_reducible refine WL.nil ?_
  with_reducible refine Ex.thn_norm ?_
  refine W.condN rfl (fun hc10 => ?_) (fun hc10 => ?_)
  · replace hr := ite_neg hr hc10
    with_reducible refine W.seq ?_
    with_reducible refine W.region ?_
    refine WL.assign .nil rfl rfl rfl rfl ?_
    with_reducible refine WL.nil ?_
    with_reducible refine Ex.thn_norm ?_
    with_reducible refine W.ret ?_
    with_reducible refine Ex.thn_ret ?_
    obtain rfl := Option.some.inj hr
    exact ⟨.inr rfl, _, (.cons (.tmp rfl) .nil), ⟨(Ext.st hE0 hS0), rfl⟩⟩
  · replace hr := ite_pos hr hc10
    with_reducible refine W.skip ?_
    with_reducible refine Ex.thn_norm ?_
    with_reducible refine W.seq ?_
    with_reducible refine W.seq ?_
    with_reducible refine W.region ?_
    refine WL.move .nil rfl rfl rfl rfl ?_
    refine WL.len .nil rfl rfl rfl Try.underlying24 rfl ?_
    refine WL.move .nil rfl rfl rfl rfl ?_
    with_reducible refine WL.nil ?_
    with_reducible refine Ex.thn_norm ?_
    with_reducible refine W.block ?_
    refine W.loopF (fun k0 fr n H => ∃ (x107 : Int) (F : Heap), fr = [(0, .slice a2 xs1.length cap3), (1, .slice a6 xs5.length cap7), (12, .int .i64 (xs1.length : Int)), (13, .int .i64 x107)] ∧ St n0 n H F ∧ Ext n0 F0 n F ∧ SR F (.slice a2 xs1.length cap3) xs1 ∧ SR F (.slice a6 xs5.length cap7) xs5 ∧ f_slices_Equal_byte_L0 xs1 xs5 k0 x107 = some res) BIG (fr0 := [(0, .slice a2 xs1.length cap3), (1, .slice a6 xs5.length cap7), (12, .int .i64 (xs1.length : Int)), (13, .int .i64 0)]) (Fr.le_cons rfl (Fr.le_cons rfl (Fr.le_cons rfl (Fr.le_cons rfl Fr.le_nil)))) ?_ ?_ ?_
    · exact ⟨0, F0, rfl, hS0, hE0, h4, h8, hr⟩
    · intro fr n H hI
      obtain ⟨x107, F102, hfr, hS103, hE104, h105, h106, hr⟩ := hI
      rw [f_slices_Equal_byte_L0] at hr
      cases hr
    · intro k0 _ n100 H101 hI
      obtain ⟨x107, F102, rfl, hS103, hE104, h105, h106, hr⟩ := hI
      have hlen100 := hE104.le
      have hlon100 := hS103.lo
      rw [f_slices_Equal_byte_L0] at hr
      with_reducible refine W.seq ?_
      with_reducible refine W.region ?_
      refine WL.bin .nil rfl rfl rfl rfl rfl rfl ?_
      with_reducible refine WL.nil ?_
      with_reducible refine Ex.thn_norm ?_
      with_reducible refine W.seq ?_
      refine W.condD rfl (fun hc109 => ?_) (fun hc109 => ?_)
      · replace hr := ite_pos hr hc109
        with_reducible refine W.skip ?_
        with_reducible refine Ex.thn_norm ?_
        with_reducible refine W.seq ?_
        with_reducible refine W.block ?_
        with_reducible refine W.seq ?_
        with_reducible refine W.region ?_
        refine WL.move .nil rfl rfl rfl rfl ?_
        refine WL.assign .nil rfl rfl rfl rfl ?_
        with_reducible refine WL.nil ?_
        with_reducible refine Ex.thn_norm ?_
        with_reducible refine W.seq ?_
        refine W.regionD [0, 1, 2, 3, 4, 5, 6, 7, 8] [false, false, false, false, false, false, false, false, false] rfl rfl (by kernel_rfl) (by kernel_rfl) (by (conv => lhs; simp only [List.map_cons, List.map_nil, List.getD_cons_zero, List.getD_cons_succ]) <;> rfl) ?_
        refine WL.move .r rfl rfl rfl rfl ?_
        refine WL.move .r rfl rfl rfl rfl ?_
        obtain ⟨x127, hx127, hr⟩ := bnd_some hr
        refine GL.index .r rfl rfl rfl Try.underlying24 info5 rfl rfl h105 hS103.fh rfl hx127 (fun b128 kp129 c130 ecs131 hrow132 hwin133 hR134 => ?_)
        have hcs : _ = ([u8 x127] : List Value) := hR134
        subst hcs
        refine WL.load1 .r rfl rfl rfl Try.underlying5 rfl rfl hrow132 ((win_get0 hwin133 (show (0 : Nat) < 1 by decide)).trans rfl) ?_
        refine WL.move .r rfl rfl rfl rfl ?_
        refine WL.move .r rfl rfl rfl rfl ?_
        obtain ⟨x135, hx135, hr⟩ := bnd_some hr
        refine GL.index .r rfl rfl rfl Try.underlying24 info5 rfl rfl h106 hS103.fh rfl hx135 (fun b136 kp137 c138 ecs139 hrow140 hwin141 hR142 => ?_)
        have hcs : _ = ([u8 x135] : List Value) := hR142
        subst hcs
        refine WL.load1 .r rfl rfl rfl Try.underlying5 rfl rfl hrow140 ((win_get0 hwin141 (show (0 : Nat) < 1 by decide)).trans rfl) ?_
        refine WL.bin .r rfl rfl rfl rfl rfl rfl ?_
        with_reducible refine WL.nil ?_
        with_reducible refine Ex.thn_norm ?_
        refine W.condN rfl (fun hc143 => ?_) (fun hc143 => ?_)
        · replace hr := ite_neg hr hc143
          with_reducible refine W.seq ?_
          with_reducible refine W.region ?_
          refine WL.assign .nil rfl rfl rfl rfl ?_
          with_reducible refine WL.nil ?_
          with_reducible refine Ex.thn_norm ?_
          with_reducible refine W.ret ?_
          with_reducible refine Ex.blk_ret ?_
          with_reducible refine Ex.thn_ret ?_
          with_reducible refine Ex.thn_ret ?_
          with_reducible refine Ex.blk_ret ?_
          with_reducible refine Ex.thn_ret ?_
          obtain rfl := Option.some.inj hr
          exact ⟨.inr rfl, _, (.cons (.tmp rfl) .nil), ⟨(Ext.st hE104 hS103), rfl⟩⟩
        · replace hr := ite_pos hr hc143
          with_reducible refine W.skip ?_
          with_reducible refine Ex.blk_norm ?_
          with_reducible refine Ex.thn_norm ?_
          with_reducible refine W.region ?_
          obtain ⟨hc144, hr⟩ := chk_some hr
          refine WL.addI .nil rfl rfl rfl rfl rfl hc144.1 hc144.2 ?_
          refine WL.move .nil rfl rfl rfl rfl ?_
          with_reducible refine WL.nil ?_
          with_reducible refine Ex.thn_norm ?_
          exact ⟨[(0, .slice a2 xs1.length cap3), (1, .slice a6 xs5.length cap7), (12, .int .i64 (xs1.length : Int)), (13, .int .i64 (x107 + 1))], (Fr.le_cons rfl (Fr.le_cons rfl (Fr.le_cons rfl (Fr.le_cons rfl Fr.le_nil)))), (x107 + 1), F102, rfl, hS103, hE104, h105, h106, hr⟩
      · replace hr := ite_neg hr hc109
        with_reducible refine W.exit ?_
        with_reducible refine Ex.thn_ex ?_
        with_reducible refine Ex.thn_ex ?_
        with_reducible refine Ex.blk_here ?_
        with_reducible refine Ex.thn_norm ?_
        with_reducible refine W.seq ?_
        with_reducible refine W.region ?_
        refine WL.assign .nil rfl rfl rfl rfl ?_
        with_reducible refine WL.nil ?_
        with_reducible refine Ex.thn_norm ?_
        with_reducible refine W.ret ?_
        obtain rfl := Option.some.inj hr
        exact ⟨.inr rfl, _, (.cons (.tmp rfl) .nil), ⟨(Ext.st hE104 hS103), rfl⟩⟩
theorem f_impl_sameRec_k {Δ : Prims} (g : Env Try.prog Δ) {lo n0 : Nat} {H0 F0 : Heap} (hS : St lo n0 H0 F0) {x1 : GRec} {a2 : Option Addr} {cap3 : Nat} {x5 : GRec} {a6 : Option Addr} {cap7 : Nat} (h4 : SR F0 (.slice a2 x1.Data.length cap3) x1.Data) (h8 : SR F0 (.slice a6 x5.Data.length cap7) x5.Data) {res : (Bool)} (hr : f_impl_sameRec x1 x5 = some res) :
    C Try.prog Δ n0 61 [.agg [.int .i64 x1.Term, .int .i64 x1.Index, .slice a2 x1.Data.length cap3].toArray, .agg [.int .i64 x5.Term, .int .i64 x5.Index, .slice a6 x5.Data.length cap7].toArray] n0 H0 (fun v n H => St n0 n H F0 ∧ v = .bool res) := by
  refine C.body Try.func61 rfl rfl ?_
  unfold f_impl_sameRec at hr
  have hS0 : St n0 n0 H0 F0 := hS.low (Nat.le_refl _)
  have hE0 := Ext.refl n0 F0
  have hlo0 := hS0.lo
  with_reducible refine W.seq ?_
  with_reducible refine W.region ?_
  refine GL.box hS0 .nil (vc := [.int .i64 x1.Term, .int .i64 x1.Index, .slice a2 x1.Data.length cap3]) rfl rfl rfl rfl rfl (by repeat' (first | exact List.forall_mem_nil _ | refine List.forall_mem_cons.2 ⟨?_, ?_⟩ | rfl)) (fun H9 hS10 ho11 hk12 => ?_)
  have fo13 := hS0.fnone (Nat.le_refl _)
  have hlon01 := hS10.lo
  have lt14 : n0 < (n0 + 1) := by omega
  refine GL.box hS10 .nil (vc := [.int .i64 x5.Term, .int .i64 x5.Index, .slice a6 x5.Data.length cap7]) rfl rfl rfl rfl rfl (by repeat' (first | exact List.forall_mem_nil _ | refine List.forall_mem_cons.2 ⟨?_, ?_⟩ | rfl)) (fun H15 hS16 ho17 hk18 => ?_)
  have fo19 := hS10.fnone (Nat.le_refl _)
  have ho21 := (hk18 _ (by have := lt14; omega)).trans ho11
  have hlon011 := hS16.lo
  have lt20 : (n0 + 1) < ((n0 + 1) + 1) := by omega
  refine WL.assign .nil rfl rfl rfl rfl ?_
  with_reducible refine WL.nil ?_
  with_reducible refine Ex.thn_norm ?_
  with_reducible refine W.seq ?_
  with_reducible refine W.region ?_
  refine WL.fieldAddr .nil rfl rfl rfl Try.underlying37 rfl info3 rfl rfl ?_
  refine WL.load1 .nil rfl rfl rfl Try.underlying3 rfl rfl ho21 rfl ?_
  refine WL.fieldAddr .nil rfl rfl rfl Try.underlying37 rfl info3 rfl rfl ?_
  refine WL.load1 .nil rfl rfl rfl Try.underlying3 rfl rfl ho17 rfl ?_
  refine WL.bin .nil rfl rfl rfl rfl rfl rfl ?_
  refine WL.move .nil rfl rfl rfl rfl ?_
  refine WL.guardD rfl rfl rfl (fun hg22 => ?_) (fun hg22 => ?_)
  · replace hr := ite_pos hr hg22
    refine WL.fieldAddr .nil rfl rfl rfl Try.underlying37 rfl info3 rfl rfl ?_
    refine WL.load1 .nil rfl rfl rfl Try.underlying3 rfl rfl ho21 rfl ?_
    refine WL.fieldAddr .nil rfl rfl rfl Try.underlying37 rfl info3 rfl rfl ?_
    refine WL.load1 .nil rfl rfl rfl Try.underlying3 rfl rfl ho17 rfl ?_
    refine WL.bin .nil rfl rfl rfl rfl rfl rfl ?_
    refine WL.pick .nil rfl rfl rfl rfl rfl ?_
    refine WL.move .nil rfl rfl rfl rfl ?_
    refine WL.guardD rfl rfl rfl (fun hg23 => ?_) (fun hg23 => ?_)
    · replace hr := ite_pos hr hg23
      refine WL.fieldAddr .nil rfl rfl rfl Try.underlying37 rfl info24 rfl rfl ?_
      refine WL.load1 .nil rfl rfl rfl Try.underlying24 rfl rfl ho21 rfl ?_
      refine WL.fieldAddr .nil rfl rfl rfl Try.underlying37 rfl info24 rfl rfl ?_
      refine WL.load1 .nil rfl rfl rfl Try.underlying24 rfl rfl ho17 rfl ?_
      obtain ⟨x24, hx24, hr⟩ := bnd_some hr
      refine GL.callP g.good .nil rfl rfl rfl rfl rfl rfl Try.func81 rfl rfl hS16.lo (f_slices_Equal_byte_k  g hS16 h4 h8 hx24) (fun v n25 H26 hn27 hk28 hp29 => ?_)
      obtain ⟨hS30, rfl⟩ := hp29
      have ho31 := (hk28 _ (by have := lt14; omega)).trans ho21
      have ho32 := (hk28 _ (by have := lt20; omega)).trans ho17
      have hS33 : St n0 n25 H26 F0 := ⟨by have := hS16.lo; omega, hS30.hb, hS30.fh⟩
      have hlon25 := hS33.lo
      refine WL.pick .nil rfl rfl rfl rfl rfl ?_
      refine WL.assign .nil rfl rfl rfl rfl ?_
      with_reducible refine WL.nil ?_
      with_reducible refine Ex.thn_norm ?_
      with_reducible refine W.ret ?_
      obtain rfl := Option.some.inj hr
      exact ⟨.inr rfl, _, (.cons (.tmp rfl) .nil), ⟨(Ext.st hE0 hS33), rfl⟩⟩
    · replace hr := ite_neg hr hg23
      refine WL.skip .nil rfl rfl ?_
      refine WL.skip .nil rfl rfl ?_
      refine WL.skip .nil rfl rfl ?_
      refine WL.skip .nil rfl rfl ?_
      refine WL.skip .nil rfl rfl ?_
      refine WL.pick .nil rfl rfl rfl rfl rfl ?_
      refine WL.assign .nil rfl rfl rfl rfl ?_
      with_reducible refine WL.nil ?_
      with_reducible refine Ex.thn_norm ?_
      with_reducible refine W.ret ?_
      obtain rfl := Option.some.inj hr
      exact ⟨.inr rfl, _, (.cons (.tmp rfl) .nil), ⟨(Ext.st hE0 hS16), rfl⟩⟩
  · replace hr := ite_neg hr hg22
    refine WL.skip .nil rfl rfl ?_
    refine WL.skip .nil rfl rfl ?_
    refine WL.skip .nil rfl rfl ?_
    refine WL.skip .nil rfl rfl ?_
    refine WL.skip .nil rfl rfl ?_
    refine WL.pick .nil rfl rfl rfl rfl rfl ?_
    refine WL.move .nil rfl rfl rfl rfl ?_
    refine WL.skip .nil rfl rfl ?_
    refine WL.skip .nil rfl rfl ?_
    refine WL.skip .nil rfl rfl ?_
    refine WL.skip .nil rfl rfl ?_
    refine WL.skip .nil rfl rfl ?_
    refine WL.pick .nil rfl rfl rfl rfl rfl ?_
    refine WL.assign .nil rfl rfl rfl rfl ?_
    with_reducible refine WL.nil ?_
    with_reducible refine Ex.thn_norm ?_
    with_reducible refine W.ret ?_
    obtain rfl := Option.some.inj hr
    exact ⟨.inr rfl, _, (.cons (.tmp rfl) .nil), ⟨(Ext.st hE0 hS16), rfl⟩⟩
theorem f_slices_EqualFunc_implRec_f612_k {Δ : Prims} (g : Env Try.prog Δ) {lo n0 : Nat} {H0 F0 : Heap} (hS : St lo n0 H0 F0) {a2 : Option Addr} {cap3 : Nat} {xs1 : (List GRec)} {a6 : Option Addr} {cap7 : Nat} {xs5 : (List GRec)} (h4 : SR F0 (.slice a2 xs1.length cap3) xs1) (h8 : SR F0 (.slice a6 xs5.length cap7) xs5) {res : (Bool)} (hr : f_slices_EqualFunc_implRec_f612 xs1 xs5 = some res) :
    C Try.prog Δ n0 60 [.slice a2 xs1.length cap3, .slice a6 xs5.length cap7, .func (.func 61) #[] #[]] n0 H0 (fun v n H => St n0 n H F0 ∧ v = .bool res) := by
  refine C.body Try.func60 rfl rfl ?_
  unfold f_slices_EqualFunc_implRec_f612 at hr
  have hS0 : St n0 n0 H0 F0 := hS.low (Nat.le_refl _)
  have hE0 := Ext.refl n0 F0
  have hlo0 := hS0.lo
  with_reducible refine W.seq ?_
  with_reducible refine W.region ?_
  refine WL.assign .nil rfl rfl rfl rfl ?_
  with_reducible refine WL.nil ?_
  with_reducible refine Ex.thn_norm ?_
  with_reducible refine W.seq ?_
  with_reducible refine W.seq ?_
  with_reducible refine W.region ?_
  refine WL.move .nil rfl rfl rfl rfl ?_
  refine WL.len .nil rfl rfl rfl Try.underlying30 rfl ?_
  refine WL.move .nil rfl rfl rfl rfl ?_
  refine WL.len .nil rfl rfl rfl Try.underlying30 rfl ?_
  refine WL.bin .nil rfl rfl rfl rfl rfl rfl ?_
  with_reducible refine WL.nil ?_
  with_reducible refine Ex.thn_norm ?_
  refine W.condN rfl (fun hc10 => ?_) (fun hc10 => ?_)
  · replace hr := ite_neg hr hc10
    with_reducible refine W.seq ?_
    with_reducible refine W.region ?_
    refine WL.assign .nil rfl rfl rfl rfl ?_
    with_reducible refine WL.nil ?_
    with_reducible refine Ex.thn_norm ?_
    with_reducible refine W.ret ?_
    with_reducible refine Ex.thn_ret ?_
    obtain rfl := Option.some.inj hr
    exact ⟨.inr rfl, _, (.cons (.tmp rfl) .nil), ⟨(Ext.st hE0 hS0), rfl⟩⟩
  · replace hr := ite_pos hr hc10
    with_reducible refine W.skip ?_
    with_reducible refine Ex.thn_norm ?_
    with_reducible refine W.seq ?_
    with_reducible refine W.seq ?_
    with_reducible refine W.region ?_
    refine WL.move .nil rfl rfl rfl rfl ?_
    refine WL.len .nil rfl rfl rfl Try.underlying30 rfl ?_
    refine WL.move .nil rfl rfl rfl rfl ?_
    with_reducible refine WL.nil ?_
    with_reducible refine Ex.thn_norm ?_
    with_reducible refine W.block ?_
    refine W.loopF (fun k0 fr n H => ∃ (x259 : Int) (F : Heap), fr = [(1, .slice a6 xs5.length cap7), (2, .func (.func 61) #[] #[]), (15, .slice a2 xs1.length cap3), (16, .int .i64 (xs1.length : Int)), (17, .int .i64 x259)] ∧ St n0 n H F ∧ Ext n0 F0 n F ∧ SR F (.slice a6 xs5.length cap7) xs5 ∧ SR F (.slice a2 xs1.length cap3) xs1 ∧ f_slices_EqualFunc_implRec_f612_L0 xs1 xs5 k0 x259 = some res) BIG (fr0 := [(1, .slice a6 xs5.length cap7), (2, .func (.func 61) #[] #[]), (15, .slice a2 xs1.length cap3), (16, .int .i64 (xs1.length : Int)), (17, .int .i64 0)]) (Fr.le_cons rfl (Fr.le_cons rfl (Fr.le_cons rfl (Fr.le_cons rfl (Fr.le_cons rfl Fr.le_nil))))) ?_ ?_ ?_
    · exact ⟨0, F0, rfl, hS0, hE0, h8, h4, hr⟩
    · intro fr n H hI
      obtain ⟨x259, F254, hfr, hS255, hE256, h257, h258, hr⟩ := hI
      rw [f_slices_EqualFunc_implRec_f612_L0] at hr
      cases hr
    · intro k0 _ n252 H253 hI
      obtain ⟨x259, F254, rfl, hS255, hE256, h257, h258, hr⟩ := hI
      have hlen252 := hE256.le
      have hlon252 := hS255.lo
      rw [f_slices_EqualFunc_implRec_f612_L0] at hr
      with_reducible refine W.seq ?_
      with_reducible refine W.region ?_
      refine WL.bin .nil rfl rfl rfl rfl rfl rfl ?_
      with_reducible refine WL.nil ?_
      with_reducible refine Ex.thn_norm ?_
      with_reducible refine W.seq ?_
      refine W.condD rfl (fun hc261 => ?_) (fun hc261 => ?_)
      · replace hr := ite_pos hr hc261
        with_reducible refine W.skip ?_
        with_reducible refine Ex.thn_norm ?_
        with_reducible refine W.seq ?_
        with_reducible refine W.block ?_
        with_reducible refine W.seq ?_
        with_reducible refine W.region ?_
        refine WL.move .nil rfl rfl rfl rfl ?_
        obtain ⟨x317, hx317, hr⟩ := bnd_some hr
        refine GL.index .nil rfl rfl rfl Try.underlying30 info37 rfl rfl h258 hS255.fh rfl hx317 (fun b318 kp319 c320 ecs321 hrow322 hwin323 hR324 => ?_)
        obtain ⟨a325, cap326, rfl, h327⟩ := GRec.ofR hR324
        refine WL.loadN .nil (l' := [.int .i64 x317.Term, .int .i64 x317.Index, .slice a325 x317.Data.length cap326]) rfl rfl rfl Try.underlying37 rfl info37 rfl hrow322 hwin323 rfl ?_
        refine GL.alloc hS255 .nil (zc := [.int .i64 0, .int .i64 0, .slice none 0 0]) rfl rfl rfl info37 rfl rfl rfl (fun H328 hS329 ho330 hk331 => ?_)
        have fo332 := hS255.fnone (Nat.le_refl _)
        have hlon2521 := hS329.lo
        have lt333 : n252 < (n252 + 1) := by omega
        refine WL.assign .nil rfl rfl rfl rfl ?_
        refine GL.store hS329 .nil (vc := [.int .i64 x317.Term, .int .i64 x317.Index, .slice a325 x317.Data.length cap326]) (c' := [.int .i64 x317.Term, .int .i64 x317.Index, .slice a325 x317.Data.length cap326]) rfl rfl rfl info37 rfl rfl rfl rfl ho330 fo332 (Nat.le_of_ble_eq_true rfl) (by omega) (by repeat' (first | exact List.forall_mem_nil _ | refine List.forall_mem_cons.2 ⟨?_, ?_⟩ | rfl)) rfl (fun H334 hS335 ho336 hk337 => ?_)
        with_reducible refine WL.nil ?_
        with_reducible refine Ex.thn_norm ?_
        with_reducible refine W.seq ?_
        with_reducible refine W.region ?_
        refine WL.move .nil rfl rfl rfl rfl ?_
        refine WL.move .nil rfl rfl rfl rfl ?_
        obtain ⟨x338, hx338, hr⟩ := bnd_some hr
        refine GL.index .nil rfl rfl rfl Try.underlying30 info37 rfl rfl h257 hS335.fh rfl hx338 (fun b339 kp340 c341 ecs342 hrow343 hwin344 hR345 => ?_)
        obtain ⟨a346, cap347, rfl, h348⟩ := GRec.ofR hR345
        refine WL.loadN .nil (l' := [.int .i64 x338.Term, .int .i64 x338.Index, .slice a346 x338.Data.length cap347]) rfl rfl rfl Try.underlying37 rfl info37 rfl hrow343 hwin344 rfl ?_
        refine GL.alloc hS335 .nil (zc := [.int .i64 0, .int .i64 0, .slice none 0 0]) rfl rfl rfl info37 rfl rfl rfl (fun H349 hS350 ho351 hk352 => ?_)
        have fo353 := hS335.fnone (Nat.le_refl _)
        have ho355 := (hk352 _ (by have := lt333; omega)).trans ho336
        have hlon25211 := hS350.lo
        have lt354 : (n252 + 1) < ((n252 + 1) + 1) := by omega
        refine GL.store hS350 .nil (vc := [.int .i64 x338.Term, .int .i64 x338.Index, .slice a346 x338.Data.length cap347]) (c' := [.int .i64 x338.Term, .int .i64 x338.Index, .slice a346 x338.Data.length cap347]) rfl rfl rfl info37 rfl rfl rfl rfl ho351 fo353 (Nat.le_of_ble_eq_true rfl) (by omega) (by repeat' (first | exact List.forall_mem_nil _ | refine List.forall_mem_cons.2 ⟨?_, ?_⟩ | rfl)) rfl (fun H356 hS357 ho358 hk359 => ?_)
        have ho360 := (hk359 _ (by omega)).trans ho355
        with_reducible refine WL.nil ?_
        with_reducible refine Ex.thn_norm ?_
        with_reducible refine W.seq ?_
        with_reducible refine W.region ?_
        refine WL.move .nil rfl rfl rfl rfl ?_
        refine WL.loadN .nil (l' := [.int .i64 x317.Term, .int .i64 x317.Index, .slice a325 x317.Data.length cap326]) rfl rfl rfl Try.underlying37 rfl info37 rfl ho360 rfl rfl ?_
        refine WL.loadN .nil (l' := [.int .i64 x338.Term, .int .i64 x338.Index, .slice a346 x338.Data.length cap347]) rfl rfl rfl Try.underlying37 rfl info37 rfl ho358 rfl rfl ?_
        obtain ⟨x361, hx361, hr⟩ := bnd_some hr
        refine GL.callP g.good .nil rfl rfl rfl rfl rfl rfl Try.func61 rfl rfl hS357.lo (f_impl_sameRec_k  g hS357 h327 h348 hx361) (fun v n362 H363 hn364 hk365 hp366 => ?_)
        obtain ⟨hS367, rfl⟩ := hp366
        have ho368 := (hk365 _ (by have := lt333; omega)).trans ho360
        have ho369 := (hk365 _ (by have := lt354; omega)).trans ho358
        have hS370 : St n0 n362 H363 F254 := ⟨by have := hS357.lo; omega, hS367.hb, hS367.fh⟩
        have hlon362 := hS370.lo
        refine WL.not .nil rfl rfl rfl rfl ?_
        with_reducible refine WL.nil ?_
        with_reducible refine Ex.thn_norm ?_
        refine W.cond rfl (fun hc371 => ?_) (fun hc371 => ?_)
        · replace hr := iteB_pos hr hc371
          with_reducible refine W.seq ?_
          with_reducible refine W.region ?_
          refine WL.assign .nil rfl rfl rfl rfl ?_
          with_reducible refine WL.nil ?_
          with_reducible refine Ex.thn_norm ?_
          with_reducible refine W.ret ?_
          with_reducible refine Ex.blk_ret ?_
          with_reducible refine Ex.thn_ret ?_
          with_reducible refine Ex.thn_ret ?_
          with_reducible refine Ex.blk_ret ?_
          with_reducible refine Ex.thn_ret ?_
          obtain rfl := Option.some.inj hr
          exact ⟨.inr rfl, _, (.cons (.tmp rfl) .nil), ⟨(Ext.st hE256 hS370), rfl⟩⟩
        · replace hr := iteB_neg hr hc371
          with_reducible refine W.skip ?_
          with_reducible refine Ex.blk_norm ?_
          with_reducible refine Ex.thn_norm ?_
          with_reducible refine W.region ?_
          obtain ⟨hc372, hr⟩ := chk_some hr
          refine WL.addI .nil rfl rfl rfl rfl rfl hc372.1 hc372.2 ?_
          refine WL.move .nil rfl rfl rfl rfl ?_
          with_reducible refine WL.nil ?_
          with_reducible refine Ex.thn_norm ?_
          exact ⟨[(1, .slice a6 xs5.length cap7), (2, .func (.func 61) #[] #[]), (15, .slice a2 xs1.length cap3), (16, .int .i64 (xs1.length : Int)), (17, .int .i64 (x259 + 1))], (Fr.le_cons rfl (Fr.le_cons rfl (Fr.le_cons rfl (Fr.le_cons rfl (Fr.le_cons rfl Fr.le_nil))))), (x259 + 1), F254, rfl, hS370, (hE256.up (by omega)), h257, h258, hr⟩
      · replace hr := ite_neg hr hc261
        with_reducible refine W.exit ?_
        with_reducible refine Ex.thn_ex ?_
        with_reducible refine Ex.thn_ex ?_
        with_reducible refine Ex.blk_here ?_
        with_reducible refine Ex.thn_norm ?_
        with_reducible refine W.seq ?_
        with_reducible refine W.region ?_
        refine WL.assign .nil rfl rfl rfl rfl ?_
        with_reducible refine WL.nil ?_
        with_reducible refine Ex.thn_norm ?_
        with_reducible refine W.ret ?_
        obtain rfl := Option.some.inj hr
        exact ⟨.inr rfl, _, (.cons (.tmp rfl) .nil), ⟨(Ext.st hE256 hS255), rfl⟩⟩
theorem f_impl_Agree_k {Δ : Prims} (g : Env Try.prog Δ) {lo n0 : Nat} {H0 F0 : Heap} (hS : St lo n0 H0 F0) {x1 : GCluster} {a2 : Option Addr} {cap3 : Nat} {a5 : Option Addr} {cap6 : Nat} {a8 : Option Addr} {cap9 : Nat} (h4 : SR F0 (.slice a2 x1.Peers.length cap3) x1.Peers) (h7 : SR F0 (.slice a5 x1.Net.length cap6) x1.Net) (h10 : SR F0 (.slice a8 x1.Chosen.length cap9) x1.Chosen) {res : (Bool)} (hr : f_impl_Agree x1 = some res) :
    C Try.prog Δ n0 29 [.agg [.slice a2 x1.Peers.length cap3, .slice a5 x1.Net.length cap6, .slice a8 x1.Chosen.length cap9, .bool x1.Conflict].toArray] n0 H0 (fun v n H => St n0 n H F0 ∧ v = .bool res) := by
  refine C.body Try.func29 rfl rfl ?_
  unfold f_impl_Agree at hr
  have hS0 : St n0 n0 H0 F0 := hS.low (Nat.le_refl _)
  have hE0 := Ext.refl n0 F0
  have hlo0 := hS0.lo
  with_reducible refine W.seq ?_
  with_reducible refine W.region ?_
  refine GL.box hS0 .nil (vc := [.slice a2 x1.Peers.length cap3, .slice a5 x1.Net.length cap6, .slice a8 x1.Chosen.length cap9, .bool x1.Conflict]) rfl rfl rfl rfl rfl (by repeat' (first | exact List.forall_mem_nil _ | refine List.forall_mem_cons.2 ⟨?_, ?_⟩ | rfl)) (fun H11 hS12 ho13 hk14 => ?_)
  have fo15 := hS0.fnone (Nat.le_refl _)
  have hlon01 := hS12.lo
  have lt16 : n0 < (n0 + 1) := by omega
  refine WL.assign .nil rfl rfl rfl rfl ?_
  with_reducible refine WL.nil ?_
  with_reducible refine Ex.thn_norm ?_
  with_reducible refine W.seq ?_
  with_reducible refine W.seq ?_
  with_reducible refine W.region ?_
  refine WL.fieldAddr .nil rfl rfl rfl Try.underlying32 rfl info28 rfl rfl ?_
  refine WL.load1 .nil rfl rfl rfl Try.underlying28 rfl rfl ho13 rfl ?_
  refine WL.len .nil rfl rfl rfl Try.underlying28 rfl ?_
  refine WL.move .nil rfl rfl rfl rfl ?_
  with_reducible refine WL.nil ?_
  with_reducible refine Ex.thn_norm ?_
  with_reducible refine W.block ?_
  refine W.loopF (fun k0 fr n H => ∃ (x1166 : Int) (F : Heap), fr = [(1, .pointer (some ⟨n0, 0, none⟩)), (6, .slice a2 x1.Peers.length cap3), (7, .int .i64 (x1.Peers.length : Int)), (8, .int .i64 x1166)] ∧ St n0 n H F ∧ Ext n0 F0 n F ∧ H n0 = some (.row 1 [.slice a2 x1.Peers.length cap3, .slice a5 x1.Net.length cap6, .slice a8 x1.Chosen.length cap9, .bool x1.Conflict]) ∧ F n0 = none ∧ SR F (.slice a2 x1.Peers.length cap3) x1.Peers ∧ SR F (.slice a5 x1.Net.length cap6) x1.Net ∧ SR F (.slice a8 x1.Chosen.length cap9) x1.Chosen ∧ f_impl_Agree_L0 x1 k0 x1166 = some res) BIG (fr0 := [(1, .pointer (some ⟨n0, 0, none⟩)), (6, .slice a2 x1.Peers.length cap3), (7, .int .i64 (x1.Peers.length : Int)), (8, .int .i64 0)]) (Fr.le_cons rfl (Fr.le_cons rfl (Fr.le_cons rfl (Fr.le_cons rfl Fr.le_nil)))) ?_ ?_ ?_
  · exact ⟨0, F0, rfl, hS12, (hE0.up (by omega)), ho13, fo15, h4, h7, h10, hr⟩
  · intro fr n H hI
    obtain ⟨x1166, F1162, hfr, hS1163, hE1164, ho1169, fo1170, h1165, h1167, h1168, hr⟩ := hI
    rw [f_impl_Agree_L0] at hr
    cases hr
  · intro k0 _ n1160 H1161 hI
    obtain ⟨x1166, F1162, rfl, hS1163, hE1164, ho1169, fo1170, h1165, h1167, h1168, hr⟩ := hI
    have lt1171 := hS1163.lt ho1169
    have hlen1160 := hE1164.le
    have hlon1160 := hS1163.lo
    rw [f_impl_Agree_L0] at hr
    with_reducible refine W.seq ?_
    with_reducible refine W.region ?_
    refine WL.bin .nil rfl rfl rfl rfl rfl rfl ?_
    with_reducible refine WL.nil ?_
    with_reducible refine Ex.thn_norm ?_
    with_reducible refine W.seq ?_
    refine W.condD rfl (fun hc1173 => ?_) (fun hc1173 => ?_)
    · replace hr := ite_pos hr hc1173
      with_reducible refine W.skip ?_
      with_reducible refine Ex.thn_norm ?_
      with_reducible refine W.seq ?_
      with_reducible refine W.block ?_
      with_reducible refine W.seq ?_
      with_reducible refine W.region ?_
      obtain ⟨x1281, hx1281, hr⟩ := bnd_some hr
      refine GL.index .nil rfl rfl rfl Try.underlying28 info88 rfl rfl h1165 hS1163.fh rfl hx1281 (fun b1282 kp1283 c1284 ecs1285 hrow1286 hwin1287 hR1288 => ?_)
      obtain ⟨a1289, cap1290, a1292, cap1293, a1295, cap1296, a1298, cap1299, rfl, h1291, h1294, h1297, h1300⟩ := GPeer.ofR hR1288
      refine WL.loadN .nil (l' := [.bool x1281.Up, .int .i64 x1281.Term, .int .i64 x1281.Vote, .int .i64 x1281.Commit, .int .i64 x1281.Role, .slice a1289 x1281.Log.length cap1290, .slice a1292 x1281.Votes.length cap1293, .slice a1295 x1281.Next.length cap1296, .slice a1298 x1281.Match.length cap1299]) rfl rfl rfl Try.underlying88 rfl info88 rfl hrow1286 hwin1287 rfl ?_
      refine GL.alloc hS1163 .nil (zc := [.bool false, .int .i64 0, .int .i64 0, .int .i64 0, .int .i64 0, .slice none 0 0, .slice none 0 0, .slice none 0 0, .slice none 0 0]) rfl rfl rfl info88 rfl rfl rfl (fun H1301 hS1302 ho1303 hk1304 => ?_)
      have fo1305 := hS1163.fnone (Nat.le_refl _)
      have ho1307 := (hk1304 _ (by have := lt1171; omega)).trans ho1169
      have hlon11601 := hS1302.lo
      have lt1306 : n1160 < (n1160 + 1) := by omega
      refine GL.store hS1302 .nil (vc := [.bool x1281.Up, .int .i64 x1281.Term, .int .i64 x1281.Vote, .int .i64 x1281.Commit, .int .i64 x1281.Role, .slice a1289 x1281.Log.length cap1290, .slice a1292 x1281.Votes.length cap1293, .slice a1295 x1281.Next.length cap1296, .slice a1298 x1281.Match.length cap1299]) (c' := [.bool x1281.Up, .int .i64 x1281.Term, .int .i64 x1281.Vote, .int .i64 x1281.Commit, .int .i64 x1281.Role, .slice a1289 x1281.Log.length cap1290, .slice a1292 x1281.Votes.length cap1293, .slice a1295 x1281.Next.length cap1296, .slice a1298 x1281.Match.length cap1299]) rfl rfl rfl info88 rfl rfl rfl rfl ho1303 fo1305 (Nat.le_of_ble_eq_true rfl) (by omega) (by repeat' (first | exact List.forall_mem_nil _ | refine List.forall_mem_cons.2 ⟨?_, ?_⟩ | rfl)) rfl (fun H1308 hS1309 ho1310 hk1311 => ?_)
      have ho1312 := (hk1311 _ (by omega)).trans ho1307
      with_reducible refine WL.nil ?_
      with_reducible refine Ex.thn_norm ?_
      with_reducible refine W.seq ?_
      refine W.cut (fun fr n H => ∃ (x1350 : Bool) (F : Heap), fr = [(1, .pointer (some ⟨n0, 0, none⟩)), (6, .slice a2 x1.Peers.length cap3), (7, .int .i64 (x1.Peers.length : Int)), (8, .int .i64 x1166), (36, .bool x1350)] ∧ St n0 n H F ∧ Ext n0 F0 n F ∧ H n0 = some (.row 1 [.slice a2 x1.Peers.length cap3, .slice a5 x1.Net.length cap6, .slice a8 x1.Chosen.length cap9, .bool x1.Conflict]) ∧ F n0 = none ∧ SR F (.slice a2 x1.Peers.length cap3) x1.Peers ∧ SR F (.slice a5 x1.Net.length cap6) x1.Net ∧ SR F (.slice a8 x1.Chosen.length cap9) x1.Chosen ∧ f_impl_Agree_J1 x1166 (f_impl_Agree_L0 x1 k0) x1350 = some res) ?_ ?_
      · refine W.regionD [0, 1, 2, 3, 4, 5, 6, 7, 8, 9, 10, 11, 12, 13, 14, 15, 16, 17, 18, 19, 20, 21, 22, 23, 24] [false, false, false, false, false, false, false, false, false, false, false, false, false, false, false, false, false, false, false, false, false, false, false, false, false] rfl rfl (by kernel_rfl) (by kernel_rfl) (by (conv => lhs; simp only [List.map_cons, List.map_nil, List.getD_cons_zero, List.getD_cons_succ]) <;> rfl) ?_
        refine WL.fieldAddr .r rfl rfl rfl Try.underlying88 rfl info3 rfl rfl ?_
        refine WL.load1 .r rfl rfl rfl Try.underlying3 rfl rfl ho1310 rfl ?_
        refine WL.fieldAddr .r rfl rfl rfl Try.underlying88 rfl info30 rfl rfl ?_
        refine WL.load1 .r rfl rfl rfl Try.underlying30 rfl rfl ho1310 rfl ?_
        refine WL.len .r rfl rfl rfl Try.underlying30 rfl ?_
        refine WL.fieldAddr .r rfl rfl rfl Try.underlying32 rfl info30 rfl rfl ?_
        refine WL.load1 .r rfl rfl rfl Try.underlying30 rfl rfl ho1312 rfl ?_
        refine WL.len .r rfl rfl rfl Try.underlying30 rfl ?_
        refine WL.min2 .r rfl rfl rfl rfl rfl ?_
        obtain ⟨x1358, hx1358, hr⟩ := bnd_some hr
        refine GL.callP g.good .r rfl rfl rfl rfl rfl rfl Try.func31 rfl rfl (Nat.le_refl _) (f_impl_within_k  g hS1309 hx1358) (fun v n1359 H1360 hn1361 hk1362 hp1363 => ?_)
        obtain ⟨hS1364, rfl⟩ := hp1363
        have ho1365 := (hk1362 _ (by have := lt1171; omega)).trans ho1312
        have ho1366 := (hk1362 _ (by have := lt1306; omega)).trans ho1310
        have hS1367 : St n0 n1359 H1360 F1162 := ⟨by have := hS1309.lo; omega, hS1364.hb, hS1364.fh⟩
        have hlon1359 := hS1367.lo
        refine WL.not .r rfl rfl rfl rfl ?_
        refine WL.move .r rfl rfl rfl rfl ?_
        refine WL.guard rfl rfl rfl (fun hg1368 => ?_) (fun hg1368 => ?_)
        · replace hr := iteB_pos hr hg1368
          refine WL.skip .r rfl rfl ?_
          refine WL.skip .r rfl rfl ?_
          refine WL.skip .r rfl rfl ?_
          refine WL.skip .r rfl rfl ?_
          refine WL.skip .r rfl rfl ?_
          refine WL.skip .r rfl rfl ?_
          refine WL.skip .r rfl rfl ?_
          refine WL.skip .r rfl rfl ?_
          refine WL.skip .r rfl rfl ?_
          refine WL.skip .r rfl rfl ?_
          refine WL.skip .r rfl rfl ?_
          refine WL.skip .r rfl rfl ?_
          refine WL.pick .r rfl rfl rfl rfl rfl ?_
          with_reducible refine WL.nil ?_
          with_reducible refine Ex.thn_norm ?_
          exact ⟨[(1, .pointer (some ⟨n0, 0, none⟩)), (6, .slice a2 x1.Peers.length cap3), (7, .int .i64 (x1.Peers.length : Int)), (8, .int .i64 x1166), (36, .bool true)], (Fr.le_cons rfl (Fr.le_cons rfl (Fr.le_cons rfl (Fr.le_cons rfl (Fr.le_cons rfl Fr.le_nil))))), true, F1162, rfl, hS1367, (hE1164.up (by omega)), ho1365, fo1170, h1165, h1167, h1168, hr⟩
        · replace hr := iteB_neg hr hg1368
          refine WL.fieldAddr .r rfl rfl rfl Try.underlying88 rfl info30 rfl rfl ?_
          refine WL.load1 .r rfl rfl rfl Try.underlying30 rfl rfl ho1366 rfl ?_
          refine WL.fieldAddr .r rfl rfl rfl Try.underlying88 rfl info3 rfl rfl ?_
          refine WL.load1 .r rfl rfl rfl Try.underlying3 rfl rfl ho1366 rfl ?_
          obtain ⟨xs1369, hxs1369, hr⟩ := bnd_some hr
          refine GL.slice .r rfl rfl rfl Try.underlying30 info37 rfl rfl h1291 hS1367.fh rfl ⟨_, rfl⟩ hxs1369 (fun a1370 cap1371 hid1372 h1373 => ?_)
          refine WL.fieldAddr .r rfl rfl rfl Try.underlying32 rfl info30 rfl rfl ?_
          refine WL.load1 .r rfl rfl rfl Try.underlying30 rfl rfl ho1365 rfl ?_
          refine WL.fieldAddr .r rfl rfl rfl Try.underlying88 rfl info3 rfl rfl ?_
          refine WL.load1 .r rfl rfl rfl Try.underlying3 rfl rfl ho1366 rfl ?_
          obtain ⟨xs1374, hxs1374, hr⟩ := bnd_some hr
          refine GL.slice .r rfl rfl rfl Try.underlying30 info37 rfl rfl h1168 hS1367.fh rfl ⟨_, rfl⟩ hxs1374 (fun a1375 cap1376 hid1377 h1378 => ?_)
          obtain ⟨x1379, hx1379, hr⟩ := bnd_some hr
          refine GL.callP g.good .r rfl rfl rfl rfl rfl rfl Try.func60 rfl rfl (Nat.le_refl _) (f_slices_EqualFunc_implRec_f612_k  g hS1367 h1373 h1378 hx1379) (fun v n1380 H1381 hn1382 hk1383 hp1384 => ?_)
          obtain ⟨hS1385, rfl⟩ := hp1384
          have ho1386 := (hk1383 _ (by have := lt1171; omega)).trans ho1365
          have ho1387 := (hk1383 _ (by have := lt1306; omega)).trans ho1366
          have hS1388 : St n0 n1380 H1381 F1162 := ⟨by have := hS1367.lo; omega, hS1385.hb, hS1385.fh⟩
          have hlon1380 := hS1388.lo
          refine WL.not .r rfl rfl rfl rfl ?_
          refine WL.pick .r rfl rfl rfl rfl rfl ?_
          with_reducible refine WL.nil ?_
          with_reducible refine Ex.thn_norm ?_
          exact ⟨[(1, .pointer (some ⟨n0, 0, none⟩)), (6, .slice a2 x1.Peers.length cap3), (7, .int .i64 (x1.Peers.length : Int)), (8, .int .i64 x1166), (36, .bool (!x1379))], (Fr.le_cons rfl (Fr.le_cons rfl (Fr.le_cons rfl (Fr.le_cons rfl (Fr.le_cons rfl Fr.le_nil))))), (!x1379), F1162, rfl, hS1388, (hE1164.up (by omega)), ho1386, fo1170, h1165, h1167, h1168, hr⟩
      · intro _ n1344 H1345 hI
        obtain ⟨x1350, F1346, rfl, hS1347, hE1348, ho1353, fo1354, h1349, h1351, h1352, hr⟩ := hI
        have lt1355 := hS1347.lt ho1353
        have hlen1344 := hE1348.le
        have hlon1344 := hS1347.lo
        unfold f_impl_Agree_J1 at hr
        refine W.cond rfl (fun hc1356 => ?_) (fun hc1356 => ?_)
        · replace hr := iteB_pos hr hc1356
          with_reducible refine W.seq ?_
          with_reducible refine W.region ?_
          refine WL.assign .nil rfl rfl rfl rfl ?_
          with_reducible refine WL.nil ?_
          with_reducible refine Ex.thn_norm ?_
          with_reducible refine W.ret ?_
          with_reducible refine Ex.blk_ret ?_
          with_reducible refine Ex.thn_ret ?_
          with_reducible refine Ex.thn_ret ?_
          with_reducible refine Ex.blk_ret ?_
          with_reducible refine Ex.thn_ret ?_
          obtain rfl := Option.some.inj hr
          exact ⟨.inr rfl, _, (.cons (.tmp rfl) .nil), ⟨(Ext.st hE1348 hS1347), rfl⟩⟩
        · replace hr := iteB_neg hr hc1356
          with_reducible refine W.skip ?_
          with_reducible refine Ex.blk_norm ?_
          with_reducible refine Ex.thn_norm ?_
          with_reducible refine W.region ?_
          obtain ⟨hc1357, hr⟩ := chk_some hr
          refine WL.addI .nil rfl rfl rfl rfl rfl hc1357.1 hc1357.2 ?_
          refine WL.move .nil rfl rfl rfl rfl ?_
          with_reducible refine WL.nil ?_
          with_reducible refine Ex.thn_norm ?_
          exact ⟨[(1, .pointer (some ⟨n0, 0, none⟩)), (6, .slice a2 x1.Peers.length cap3), (7, .int .i64 (x1.Peers.length : Int)), (8, .int .i64 (x1166 + 1))], (Fr.le_cons rfl (Fr.le_cons rfl (Fr.le_cons rfl (Fr.le_cons rfl Fr.le_nil)))), (x1166 + 1), F1346, rfl, hS1347, hE1348, ho1353, fo1354, h1349, h1351, h1352, hr⟩
    · replace hr := ite_neg hr hc1173
      with_reducible refine W.exit ?_
      with_reducible refine Ex.thn_ex ?_
      with_reducible refine Ex.thn_ex ?_
      with_reducible refine Ex.blk_here ?_
      with_reducible refine Ex.thn_norm ?_
      with_reducible refine W.seq ?_
      with_reducible refine W.region ?_
      refine WL.fieldAddr .nil rfl rfl rfl Try.underlying32 rfl info4 rfl rfl ?_
      refine WL.load1 .nil rfl rfl rfl Try.underlying4 rfl rfl ho1169 rfl ?_
      refine WL.not .nil rfl rfl rfl rfl ?_
      refine WL.assign .nil rfl rfl rfl rfl ?_
      with_reducible refine WL.nil ?_
      with_reducible refine Ex.thn_norm ?_
      with_reducible refine W.ret ?_
      obtain rfl := Option.some.inj hr
      exact ⟨.inr rfl, _, (.cons (.tmp rfl) .nil), ⟨(Ext.st hE1164 hS1163), rfl⟩⟩
theorem f_laws_eqByteS_k {Δ : Prims} (g : Env Try.prog Δ) {lo n0 : Nat} {H0 F0 : Heap} (hS : St lo n0 H0 F0) {a2 : Option Addr} {cap3 : Nat} {xs1 : (List UInt8)} {a6 : Option Addr} {cap7 : Nat} {xs5 : (List UInt8)} (h4 : SR F0 (.slice a2 xs1.length cap3) xs1) (h8 : SR F0 (.slice a6 xs5.length cap7) xs5) {res : (Bool)} (hr : f_laws_eqByteS xs1 xs5 = some res) :
    C Try.prog Δ n0 22 [.slice a2 xs1.length cap3, .slice a6 xs5.length cap7] n0 H0 (fun v n H => St n0 n H F0 ∧ v = .bool res) := by
  refine C.body Try.func22 rfl rfl ?_
  unfold f_laws_eqByteS at hr
  have hS0 : St n0 n0 H0 F0 := hS.low (Nat.le_refl _)
  have hE0 := Ext.refl n0 F0
  have hlo0 := hS0.lo
  with_reducible refine W.seq ?_
  with_reducible refine W.region ?_
  refine WL.assign .nil rfl rfl rfl rfl ?_
  with_reducible refine WL.nil ?_
  with_reducible refine Ex.thn_norm ?_
  with_reducible refine W.seq ?_
  with_reducible refine W.seq ?_
  with_reducible refine W.region ?_
  refine WL.move .nil rfl rfl rfl rfl ?_
  refine WL.len .nil rfl rfl rfl Try.underlying24 rfl ?_
  refine WL.move .nil rfl rfl rfl rfl ?_
  refine WL.len .nil rfl rfl rfl Try.underlying24 rfl ?_
  refine WL.bin .nil rfl rfl rfl rfl rfl rfl ?_
  with_reducible refine WL.nil ?_
  with_reducible refine Ex.thn_norm ?_
  refine W.condN rfl (fun hc10 => ?_) (fun hc10 => ?_)
  · replace hr := ite_neg hr hc10
    with_reducible refine W.seq ?_
    with_reducible refine W.region ?_
    refine WL.assign .nil rfl rfl rfl rfl ?_
    with_reducible refine WL.nil ?_
    with_reducible refine Ex.thn_norm ?_
    with_reducible refine W.ret ?_
    with_reducible refine Ex.thn_ret ?_
    obtain rfl := Option.some.inj hr
    exact ⟨.inr rfl, _, (.cons (.tmp rfl) .nil), ⟨(Ext.st hE0 hS0), rfl⟩⟩
  · replace hr := ite_pos hr hc10
    with_reducible refine W.skip ?_
    with_reducible refine Ex.thn_norm ?_
    with_reducible refine W.seq ?_
    with_reducible refine W.seq ?_
    with_reducible refine W.region ?_
    refine WL.assign .nil rfl rfl rfl rfl ?_
    with_reducible refine WL.nil ?_
    with_reducible refine Ex.thn_norm ?_
    with_reducible refine W.block ?_
    refine W.loopF (fun k0 fr n H => ∃ (x107 : Int) (F : Heap), fr = [(0, .slice a2 xs1.length cap3), (1, .slice a6 xs5.length cap7), (5, .int .i64 x107)] ∧ St n0 n H F ∧ Ext n0 F0 n F ∧ SR F (.slice a2 xs1.length cap3) xs1 ∧ SR F (.slice a6 xs5.length cap7) xs5 ∧ f_laws_eqByteS_L0 xs1 xs5 k0 x107 = some res) BIG (fr0 := [(0, .slice a2 xs1.length cap3), (1, .slice a6 xs5.length cap7), (5, .int .i64 0)]) (Fr.le_cons rfl (Fr.le_cons rfl (Fr.le_cons rfl Fr.le_nil))) ?_ ?_ ?_
    · exact ⟨0, F0, rfl, hS0, hE0, h4, h8, hr⟩
    · intro fr n H hI
      obtain ⟨x107, F102, hfr, hS103, hE104, h105, h106, hr⟩ := hI
      rw [f_laws_eqByteS_L0] at hr
      cases hr
    · intro k0 _ n100 H101 hI
      obtain ⟨x107, F102, rfl, hS103, hE104, h105, h106, hr⟩ := hI
      have hlen100 := hE104.le
      have hlon100 := hS103.lo
      rw [f_laws_eqByteS_L0] at hr
      with_reducible refine W.seq ?_
      with_reducible refine W.seq ?_
      with_reducible refine W.region ?_
      refine WL.move .nil rfl rfl rfl rfl ?_
      refine WL.move .nil rfl rfl rfl rfl ?_
      refine WL.len .nil rfl rfl rfl Try.underlying24 rfl ?_
      refine WL.bin .nil rfl rfl rfl rfl rfl rfl ?_
      with_reducible refine WL.nil ?_
      with_reducible refine Ex.thn_norm ?_
      refine W.condD rfl (fun hc109 => ?_) (fun hc109 => ?_)
      · replace hr := ite_pos hr hc109
        with_reducible refine W.skip ?_
        with_reducible refine Ex.thn_norm ?_
        with_reducible refine W.seq ?_
        with_reducible refine W.block ?_
        with_reducible refine W.seq ?_
        refine W.regionD [0, 1, 2, 3, 4, 5, 6, 7, 8] [false, false, false, false, false, false, false, false, false] rfl rfl (by kernel_rfl) (by kernel_rfl) (by (conv => lhs; simp only [List.map_cons, List.map_nil, List.getD_cons_zero, List.getD_cons_succ]) <;> rfl) ?_
        refine WL.move .r rfl rfl rfl rfl ?_
        refine WL.move .r rfl rfl rfl rfl ?_
        obtain ⟨x127, hx127, hr⟩ := bnd_some hr
        refine GL.index .r rfl rfl rfl Try.underlying24 info5 rfl rfl h105 hS103.fh rfl hx127 (fun b128 kp129 c130 ecs131 hrow132 hwin133 hR134 => ?_)
        have hcs : _ = ([u8 x127] : List Value) := hR134
        subst hcs
        refine WL.load1 .r rfl rfl rfl Try.underlying5 rfl rfl hrow132 ((win_get0 hwin133 (show (0 : Nat) < 1 by decide)).trans rfl) ?_
        refine WL.move .r rfl rfl rfl rfl ?_
        refine WL.move .r rfl rfl rfl rfl ?_
        obtain ⟨x135, hx135, hr⟩ := bnd_some hr
        refine GL.index .r rfl rfl rfl Try.underlying24 info5 rfl rfl h106 hS103.fh rfl hx135 (fun b136 kp137 c138 ecs139 hrow140 hwin141 hR142 => ?_)
        have hcs : _ = ([u8 x135] : List Value) := hR142
        subst hcs
        refine WL.load1 .r rfl rfl rfl Try.underlying5 rfl rfl hrow140 ((win_get0 hwin141 (show (0 : Nat) < 1 by decide)).trans rfl) ?_
        refine WL.bin .r rfl rfl rfl rfl rfl rfl ?_
        with_reducible refine WL.nil ?_
        with_reducible refine Ex.thn_norm ?_
        refine W.condN rfl (fun hc143 => ?_) (fun hc143 => ?_)
        · replace hr := ite_neg hr hc143
          with_reducible refine W.seq ?_
          with_reducible refine W.region ?_
          refine WL.assign .nil rfl rfl rfl rfl ?_
          with_reducible refine WL.nil ?_
          with_reducible refine Ex.thn_norm ?_
          with_reducible refine W.ret ?_
          with_reducible refine Ex.blk_ret ?_
          with_reducible refine Ex.thn_ret ?_
          with_reducible refine Ex.thn_ret ?_
          with_reducible refine Ex.blk_ret ?_
          with_reducible refine Ex.thn_ret ?_
          obtain rfl := Option.some.inj hr
          exact ⟨.inr rfl, _, (.cons (.tmp rfl) .nil), ⟨(Ext.st hE104 hS103), rfl⟩⟩
        · replace hr := ite_pos hr hc143
          with_reducible refine W.skip ?_
          with_reducible refine Ex.blk_norm ?_
          with_reducible refine Ex.thn_norm ?_
          with_reducible refine W.region ?_
          refine WL.move .nil rfl rfl rfl rfl ?_
          obtain ⟨hc144, hr⟩ := chk_some hr
          refine WL.addI .nil rfl rfl rfl rfl rfl hc144.1 hc144.2 ?_
          refine WL.assign .nil rfl rfl rfl rfl ?_
          with_reducible refine WL.nil ?_
          with_reducible refine Ex.thn_norm ?_
          exact ⟨[(0, .slice a2 xs1.length cap3), (1, .slice a6 xs5.length cap7), (5, .int .i64 (x107 + 1))], (Fr.le_cons rfl (Fr.le_cons rfl (Fr.le_cons rfl Fr.le_nil))), (x107 + 1), F102, rfl, hS103, hE104, h105, h106, hr⟩
      · replace hr := ite_neg hr hc109
        with_reducible refine W.exit ?_
        with_reducible refine Ex.thn_ex ?_
        with_reducible refine Ex.thn_ex ?_
        with_reducible refine Ex.blk_here ?_
        with_reducible refine Ex.thn_norm ?_
        with_reducible refine W.seq ?_
        with_reducible refine W.region ?_
        refine WL.assign .nil rfl rfl rfl rfl ?_
        with_reducible refine WL.nil ?_
        with_reducible refine Ex.thn_norm ?_
        with_reducible refine W.ret ?_
        obtain rfl := Option.some.inj hr
        exact ⟨.inr rfl, _, (.cons (.tmp rfl) .nil), ⟨(Ext.st hE104 hS103), rfl⟩⟩
theorem f_laws_eqRec_k {Δ : Prims} (g : Env Try.prog Δ) {lo n0 : Nat} {H0 F0 : Heap} (hS : St lo n0 H0 F0) {x1 : GRec} {a2 : Option Addr} {cap3 : Nat} {x5 : GRec} {a6 : Option Addr} {cap7 : Nat} (h4 : SR F0 (.slice a2 x1.Data.length cap3) x1.Data) (h8 : SR F0 (.slice a6 x5.Data.length cap7) x5.Data) {res : (Bool)} (hr : f_laws_eqRec x1 x5 = some res) :
    C Try.prog Δ n0 92 [.agg [.int .i64 x1.Term, .int .i64 x1.Index, .slice a2 x1.Data.length cap3].toArray, .agg [.int .i64 x5.Term, .int .i64 x5.Index, .slice a6 x5.Data.length cap7].toArray] n0 H0 (fun v n H => St n0 n H F0 ∧ v = .bool res) := by
  refine C.body Try.func92 rfl rfl ?_
  unfold f_laws_eqRec at hr
  have hS0 : St n0 n0 H0 F0 := hS.low (Nat.le_refl _)
  have hE0 := Ext.refl n0 F0
  have hlo0 := hS0.lo
  with_reducible refine W.seq ?_
  with_reducible refine W.region ?_
  refine GL.box hS0 .nil (vc := [.int .i64 x1.Term, .int .i64 x1.Index, .slice a2 x1.Data.length cap3]) rfl rfl rfl rfl rfl (by repeat' (first | exact List.forall_mem_nil _ | refine List.forall_mem_cons.2 ⟨?_, ?_⟩ | rfl)) (fun H9 hS10 ho11 hk12 => ?_)
  have fo13 := hS0.fnone (Nat.le_refl _)
  have hlon01 := hS10.lo
  have lt14 : n0 < (n0 + 1) := by omega
  refine GL.box hS10 .nil (vc := [.int .i64 x5.Term, .int .i64 x5.Index, .slice a6 x5.Data.length cap7]) rfl rfl rfl rfl rfl (by repeat' (first | exact List.forall_mem_nil _ | refine List.forall_mem_cons.2 ⟨?_, ?_⟩ | rfl)) (fun H15 hS16 ho17 hk18 => ?_)
  have fo19 := hS10.fnone (Nat.le_refl _)
  have ho21 := (hk18 _ (by have := lt14; omega)).trans ho11
  have hlon011 := hS16.lo
  have lt20 : (n0 + 1) < ((n0 + 1) + 1) := by omega
  refine WL.assign .nil rfl rfl rfl rfl ?_
  with_reducible refine WL.nil ?_
  with_reducible refine Ex.thn_norm ?_
  with_reducible refine W.seq ?_
  with_reducible refine W.seq ?_
  with_reducible refine W.region ?_
  refine WL.fieldAddr .nil rfl rfl rfl Try.underlying37 rfl info3 rfl rfl ?_
  refine WL.load1 .nil rfl rfl rfl Try.underlying3 rfl rfl ho21 rfl ?_
  refine WL.fieldAddr .nil rfl rfl rfl Try.underlying37 rfl info3 rfl rfl ?_
  refine WL.load1 .nil rfl rfl rfl Try.underlying3 rfl rfl ho17 rfl ?_
  refine WL.bin .nil rfl rfl rfl rfl rfl rfl ?_
  with_reducible refine WL.nil ?_
  with_reducible refine Ex.thn_norm ?_
  refine W.condN rfl (fun hc23 => ?_) (fun hc23 => ?_)
  · replace hr := ite_neg hr hc23
    with_reducible refine W.seq ?_
    with_reducible refine W.region ?_
    refine WL.assign .nil rfl rfl rfl rfl ?_
    with_reducible refine WL.nil ?_
    with_reducible refine Ex.thn_norm ?_
    with_reducible refine W.ret ?_
    with_reducible refine Ex.thn_ret ?_
    obtain rfl := Option.some.inj hr
    exact ⟨.inr rfl, _, (.cons (.tmp rfl) .nil), ⟨(Ext.st hE0 hS16), rfl⟩⟩
  · replace hr := ite_pos hr hc23
    with_reducible refine W.skip ?_
    with_reducible refine Ex.thn_norm ?_
    with_reducible refine W.seq ?_
    with_reducible refine W.seq ?_
    with_reducible refine W.region ?_
    refine WL.fieldAddr .nil rfl rfl rfl Try.underlying37 rfl info3 rfl rfl ?_
    refine WL.load1 .nil rfl rfl rfl Try.underlying3 rfl rfl ho21 rfl ?_
    refine WL.fieldAddr .nil rfl rfl rfl Try.underlying37 rfl info3 rfl rfl ?_
    refine WL.load1 .nil rfl rfl rfl Try.underlying3 rfl rfl ho17 rfl ?_
    refine WL.bin .nil rfl rfl rfl rfl rfl rfl ?_
    with_reducible refine WL.nil ?_
    with_reducible refine Ex.thn_norm ?_
    refine W.condN rfl (fun hc25 => ?_) (fun hc25 => ?_)
    · replace hr := ite_neg hr hc25
      with_reducible refine W.seq ?_
      with_reducible refine W.region ?_
      refine WL.assign .nil rfl rfl rfl rfl ?_
      with_reducible refine WL.nil ?_
      with_reducible refine Ex.thn_norm ?_
      with_reducible refine W.ret ?_
      with_reducible refine Ex.thn_ret ?_
      obtain rfl := Option.some.inj hr
      exact ⟨.inr rfl, _, (.cons (.tmp rfl) .nil), ⟨(Ext.st hE0 hS16), rfl⟩⟩
    · replace hr := ite_pos hr hc25
      with_reducible refine W.skip ?_
      with_reducible refine Ex.thn_norm ?_
      with_reducible refine W.seq ?_
      with_reducible refine W.seq ?_
      with_reducible refine W.region ?_
      refine WL.fieldAddr .nil rfl rfl rfl Try.underlying37 rfl info24 rfl rfl ?_
      refine WL.load1 .nil rfl rfl rfl Try.underlying24 rfl rfl ho21 rfl ?_
      refine WL.fieldAddr .nil rfl rfl rfl Try.underlying37 rfl info24 rfl rfl ?_
      refine WL.load1 .nil rfl rfl rfl Try.underlying24 rfl rfl ho17 rfl ?_
      obtain ⟨x26, hx26, hr⟩ := bnd_some hr
      refine GL.callP g.good .nil rfl rfl rfl rfl rfl rfl Try.func22 rfl rfl hS16.lo (f_laws_eqByteS_k  g hS16 h4 h8 hx26) (fun v n27 H28 hn29 hk30 hp31 => ?_)
      obtain ⟨hS32, rfl⟩ := hp31
      have ho33 := (hk30 _ (by have := lt14; omega)).trans ho21
      have ho34 := (hk30 _ (by have := lt20; omega)).trans ho17
      have hS35 : St n0 n27 H28 F0 := ⟨by have := hS16.lo; omega, hS32.hb, hS32.fh⟩
      have hlon27 := hS35.lo
      refine WL.not .nil rfl rfl rfl rfl ?_
      with_reducible refine WL.nil ?_
      with_reducible refine Ex.thn_norm ?_
      refine W.cond rfl (fun hc36 => ?_) (fun hc36 => ?_)
      · replace hr := iteB_pos hr hc36
        with_reducible refine W.seq ?_
        with_reducible refine W.region ?_
        refine WL.assign .nil rfl rfl rfl rfl ?_
        with_reducible refine WL.nil ?_
        with_reducible refine Ex.thn_norm ?_
        with_reducible refine W.ret ?_
        with_reducible refine Ex.thn_ret ?_
        obtain rfl := Option.some.inj hr
        exact ⟨.inr rfl, _, (.cons (.tmp rfl) .nil), ⟨(Ext.st hE0 hS35), rfl⟩⟩
      · replace hr := iteB_neg hr hc36
        with_reducible refine W.skip ?_
        with_reducible refine Ex.thn_norm ?_
        with_reducible refine W.seq ?_
        with_reducible refine W.region ?_
        refine WL.assign .nil rfl rfl rfl rfl ?_
        with_reducible refine WL.nil ?_
        with_reducible refine Ex.thn_norm ?_
        with_reducible refine W.ret ?_
        obtain rfl := Option.some.inj hr
        exact ⟨.inr rfl, _, (.cons (.tmp rfl) .nil), ⟨(Ext.st hE0 hS35), rfl⟩⟩
theorem f_laws_eqRecS_k {Δ : Prims} (g : Env Try.prog Δ) {lo n0 : Nat} {H0 F0 : Heap} (hS : St lo n0 H0 F0) {a2 : Option Addr} {cap3 : Nat} {xs1 : (List GRec)} {a6 : Option Addr} {cap7 : Nat} {xs5 : (List GRec)} (h4 : SR F0 (.slice a2 xs1.length cap3) xs1) (h8 : SR F0 (.slice a6 xs5.length cap7) xs5) {res : (Bool)} (hr : f_laws_eqRecS xs1 xs5 = some res) :
    C Try.prog Δ n0 50 [.slice a2 xs1.length cap3, .slice a6 xs5.length cap7] n0 H0 (fun v n H => St n0 n H F0 ∧ v = .bool res) := by
  refine C.body Try.func50 rfl rfl ?_
  unfold f_laws_eqRecS at hr
  have hS0 : St n0 n0 H0 F0 := hS.low (Nat.le_refl _)
  have hE0 := Ext.refl n0 F0
  have hlo0 := hS0.lo
  with_reducible refine W.seq ?_
  with_reducible refine W.region ?_
  refine WL.assign .nil rfl rfl rfl rfl ?_
  with_reducible refine WL.nil ?_
  with_reducible refine Ex.thn_norm ?_
  with_reducible refine W.seq ?_
  with_reducible refine W.seq ?_
  with_reducible refine W.region ?_
  refine WL.move .nil rfl rfl rfl rfl ?_
  refine WL.len .nil rfl rfl rfl Try.underlying30 rfl ?_
  refine WL.move .nil rfl rfl rfl rfl ?_
  refine WL.len .nil rfl rfl rfl Try.underlying30 rfl ?_
  refine WL.bin .nil rfl rfl rfl rfl rfl rfl ?_
  with_reducible refine WL.nil ?_
  with_reducible refine Ex.thn_norm ?_
  refine W.condN rfl (fun hc10 => ?_) (fun hc10 => ?_)
  · replace hr := ite_neg hr hc10
    with_reducible refine W.seq ?_
    with_reducible refine W.region ?_
    refine WL.assign .nil rfl rfl rfl rfl ?_
    with_reducible refine WL.nil ?_
    with_reducible refine Ex.thn_norm ?_
    with_reducible refine W.ret ?_
    with_reducible refine Ex.thn_ret ?_
    obtain rfl := Option.some.inj hr
    exact ⟨.inr rfl, _, (.cons (.tmp rfl) .nil), ⟨(Ext.st hE0 hS0), rfl⟩⟩
  · replace hr := ite_pos hr hc10
    with_reducible refine W.skip ?_
    with_reducible refine Ex.thn_norm ?_
    with_reducible refine W.seq ?_
    with_reducible refine W.seq ?_
    with_reducible refine W.region ?_
    refine WL.assign .nil rfl rfl rfl rfl ?_
    with_reducible refine WL.nil ?_
    with_reducible refine Ex.thn_norm ?_
    with_reducible refine W.block ?_
    refine W.loopF (fun k0 fr n H => ∃ (x163 : Int) (F : Heap), fr = [(0, .slice a2 xs1.length cap3), (1, .slice a6 xs5.length cap7), (5, .int .i64 x163)] ∧ St n0 n H F ∧ Ext n0 F0 n F ∧ SR F (.slice a2 xs1.length cap3) xs1 ∧ SR F (.slice a6 xs5.length cap7) xs5 ∧ f_laws_eqRecS_L0 xs1 xs5 k0 x163 = some res) BIG (fr0 := [(0, .slice a2 xs1.length cap3), (1, .slice a6 xs5.length cap7), (5, .int .i64 0)]) (Fr.le_cons rfl (Fr.le_cons rfl (Fr.le_cons rfl Fr.le_nil))) ?_ ?_ ?_
    · exact ⟨0, F0, rfl, hS0, hE0, h4, h8, hr⟩
    · intro fr n H hI
      obtain ⟨x163, F158, hfr, hS159, hE160, h161, h162, hr⟩ := hI
      rw [f_laws_eqRecS_L0] at hr
      cases hr
    · intro k0 _ n156 H157 hI
      obtain ⟨x163, F158, rfl, hS159, hE160, h161, h162, hr⟩ := hI
      have hlen156 := hE160.le
      have hlon156 := hS159.lo
      rw [f_laws_eqRecS_L0] at hr
      with_reducible refine W.seq ?_
      with_reducible refine W.seq ?_
      with_reducible refine W.region ?_
      refine WL.move .nil rfl rfl rfl rfl ?_
      refine WL.move .nil rfl rfl rfl rfl ?_
      refine WL.len .nil rfl rfl rfl Try.underlying30 rfl ?_
      refine WL.bin .nil rfl rfl rfl rfl rfl rfl ?_
      with_reducible refine WL.nil ?_
      with_reducible refine Ex.thn_norm ?_
      refine W.condD rfl (fun hc165 => ?_) (fun hc165 => ?_)
      · replace hr := ite_pos hr hc165
        with_reducible refine W.skip ?_
        with_reducible refine Ex.thn_norm ?_
        with_reducible refine W.seq ?_
        with_reducible refine W.block ?_
        with_reducible refine W.seq ?_
        refine W.regionD [0, 1, 2, 3, 4, 5, 6, 7, 8, 9] [false, false, false, false, false, false, false, false, false, false] rfl rfl (by kernel_rfl) (by kernel_rfl) (by (conv => lhs; simp only [List.map_cons, List.map_nil, List.getD_cons_zero, List.getD_cons_succ]) <;> rfl) ?_
        refine WL.move .r rfl rfl rfl rfl ?_
        refine WL.move .r rfl rfl rfl rfl ?_
        obtain ⟨x197, hx197, hr⟩ := bnd_some hr
        refine GL.index .r rfl rfl rfl Try.underlying30 info37 rfl rfl h161 hS159.fh rfl hx197 (fun b198 kp199 c200 ecs201 hrow202 hwin203 hR204 => ?_)
        obtain ⟨a205, cap206, rfl, h207⟩ := GRec.ofR hR204
        refine WL.loadN .r (l' := [.int .i64 x197.Term, .int .i64 x197.Index, .slice a205 x197.Data.length cap206]) rfl rfl rfl Try.underlying37 rfl info37 rfl hrow202 hwin203 rfl ?_
        refine WL.move .r rfl rfl rfl rfl ?_
        refine WL.move .r rfl rfl rfl rfl ?_
        obtain ⟨x208, hx208, hr⟩ := bnd_some hr
        refine GL.index .r rfl rfl rfl Try.underlying30 info37 rfl rfl h162 hS159.fh rfl hx208 (fun b209 kp210 c211 ecs212 hrow213 hwin214 hR215 => ?_)
        obtain ⟨a216, cap217, rfl, h218⟩ := GRec.ofR hR215
        refine WL.loadN .r (l' := [.int .i64 x208.Term, .int .i64 x208.Index, .slice a216 x208.Data.length cap217]) rfl rfl rfl Try.underlying37 rfl info37 rfl hrow213 hwin214 rfl ?_
        obtain ⟨x219, hx219, hr⟩ := bnd_some hr
        refine GL.callP g.good .r rfl rfl rfl rfl rfl rfl Try.func92 rfl rfl (Nat.le_refl _) (f_laws_eqRec_k  g hS159 h207 h218 hx219) (fun v n220 H221 hn222 hk223 hp224 => ?_)
        obtain ⟨hS225, rfl⟩ := hp224
        have hS226 : St n0 n220 H221 F158 := ⟨by have := hS159.lo; omega, hS225.hb, hS225.fh⟩
        have hlon220 := hS226.lo
        refine WL.not .r rfl rfl rfl rfl ?_
        with_reducible refine WL.nil ?_
        with_reducible refine Ex.thn_norm ?_
        refine W.cond rfl (fun hc227 => ?_) (fun hc227 => ?_)
        · replace hr := iteB_pos hr hc227
          with_reducible refine W.seq ?_
          with_reducible refine W.region ?_
          refine WL.assign .nil rfl rfl rfl rfl ?_
          with_reducible refine WL.nil ?_
          with_reducible refine Ex.thn_norm ?_
          with_reducible refine W.ret ?_
          with_reducible refine Ex.blk_ret ?_
          with_reducible refine Ex.thn_ret ?_
          with_reducible refine Ex.thn_ret ?_
          with_reducible refine Ex.blk_ret ?_
          with_reducible refine Ex.thn_ret ?_
          obtain rfl := Option.some.inj hr
          exact ⟨.inr rfl, _, (.cons (.tmp rfl) .nil), ⟨(Ext.st hE160 hS226), rfl⟩⟩
        · replace hr := iteB_neg hr hc227
          with_reducible refine W.skip ?_
          with_reducible refine Ex.blk_norm ?_
          with_reducible refine Ex.thn_norm ?_
          with_reducible refine W.region ?_
          refine WL.move .nil rfl rfl rfl rfl ?_
          obtain ⟨hc228, hr⟩ := chk_some hr
          refine WL.addI .nil rfl rfl rfl rfl rfl hc228.1 hc228.2 ?_
          refine WL.assign .nil rfl rfl rfl rfl ?_
          with_reducible refine WL.nil ?_
          with_reducible refine Ex.thn_norm ?_
          exact ⟨[(0, .slice a2 xs1.length cap3), (1, .slice a6 xs5.length cap7), (5, .int .i64 (x163 + 1))], (Fr.le_cons rfl (Fr.le_cons rfl (Fr.le_cons rfl Fr.le_nil))), (x163 + 1), F158, rfl, hS226, (hE160.up (by omega)), h161, h162, hr⟩
      · replace hr := ite_neg hr hc165
        with_reducible refine W.exit ?_
        with_reducible refine Ex.thn_ex ?_
        with_reducible refine Ex.thn_ex ?_
        with_reducible refine Ex.blk_here ?_
        with_reducible refine Ex.thn_norm ?_
        with_reducible refine W.seq ?_
        with_reducible refine W.region ?_
        refine WL.assign .nil rfl rfl rfl rfl ?_
        with_reducible refine WL.nil ?_
        with_reducible refine Ex.thn_norm ?_
        with_reducible refine W.ret ?_
        obtain rfl := Option.some.inj hr
        exact ⟨.inr rfl, _, (.cons (.tmp rfl) .nil), ⟨(Ext.st hE160 hS159), rfl⟩⟩
theorem f_laws_eqBoolS_k {Δ : Prims} (g : Env Try.prog Δ) {lo n0 : Nat} {H0 F0 : Heap} (hS : St lo n0 H0 F0) {a2 : Option Addr} {cap3 : Nat} {xs1 : (List Bool)} {a6 : Option Addr} {cap7 : Nat} {xs5 : (List Bool)} (h4 : SR F0 (.slice a2 xs1.length cap3) xs1) (h8 : SR F0 (.slice a6 xs5.length cap7) xs5) {res : (Bool)} (hr : f_laws_eqBoolS xs1 xs5 = some res) :
    C Try.prog Δ n0 126 [.slice a2 xs1.length cap3, .slice a6 xs5.length cap7] n0 H0 (fun v n H => St n0 n H F0 ∧ v = .bool res) := by
  refine C.body Try.func126 rfl rfl ?_
  unfold f_laws_eqBoolS at hr
  have hS0 : St n0 n0 H0 F0 := hS.low (Nat.le_refl _)
  have hE0 := Ext.refl n0 F0
  have hlo0 := hS0.lo
  with_reducible refine W.seq ?_
  with_reducible refine W.region ?_
  refine WL.assign .nil rfl rfl rfl rfl ?_
  with_reducible refine WL.nil ?_
  with_reducible refine Ex.thn_norm ?_
  with_reducible refine W.seq ?_
  with_reducible refine W.seq ?_
  with_reducible refine W.region ?_
  refine WL.move .nil rfl rfl rfl rfl ?_
  refine WL.len .nil rfl rfl rfl Try.underlying86 rfl ?_
  refine WL.move .nil rfl rfl rfl rfl ?_
  refine WL.len .nil rfl rfl rfl Try.underlying86 rfl ?_
  refine WL.bin .nil rfl rfl rfl rfl rfl rfl ?_
  with_reducible refine WL.nil ?_
  with_reducible refine Ex.thn_norm ?_
  refine W.condN rfl (fun hc10 => ?_) (fun hc10 => ?_)
  · replace hr := ite_neg hr hc10
    with_reducible refine W.seq ?_
    with_reducible refine W.region ?_
    refine WL.assign .nil rfl rfl rfl rfl ?_
    with_reducible refine WL.nil ?_
    with_reducible refine Ex.thn_norm ?_
    with_reducible refine W.ret ?_
    with_reducible refine Ex.thn_ret ?_
    obtain rfl := Option.some.inj hr
    exact ⟨.inr rfl, _, (.cons (.tmp rfl) .nil), ⟨(Ext.st hE0 hS0), rfl⟩⟩
  · replace hr := ite_pos hr hc10
    with_reducible refine W.skip ?_
    with_reducible refine Ex.thn_norm ?_
    with_reducible refine W.seq ?_
    with_reducible refine W.seq ?_
    with_reducible refine W.region ?_
    refine WL.assign .nil rfl rfl rfl rfl ?_
    with_reducible refine WL.nil ?_
    with_reducible refine Ex.thn_norm ?_
    with_reducible refine W.block ?_
    refine W.loopF (fun k0 fr n H => ∃ (x107 : Int) (F : Heap), fr = [(0, .slice a2 xs1.length cap3), (1, .slice a6 xs5.length cap7), (5, .int .i64 x107)] ∧ St n0 n H F ∧ Ext n0 F0 n F ∧ SR F (.slice a2 xs1.length cap3) xs1 ∧ SR F (.slice a6 xs5.length cap7) xs5 ∧ f_laws_eqBoolS_L0 xs1 xs5 k0 x107 = some res) BIG (fr0 := [(0, .slice a2 xs1.length cap3), (1, .slice a6 xs5.length cap7), (5, .int .i64 0)]) (Fr.le_cons rfl (Fr.le_cons rfl (Fr.le_cons rfl Fr.le_nil))) ?_ ?_ ?_
    · exact ⟨0, F0, rfl, hS0, hE0, h4, h8, hr⟩
    · intro fr n H hI
      obtain ⟨x107, F102, hfr, hS103, hE104, h105, h106, hr⟩ := hI
      rw [f_laws_eqBoolS_L0] at hr
      cases hr
    · intro k0 _ n100 H101 hI
      obtain ⟨x107, F102, rfl, hS103, hE104, h105, h106, hr⟩ := hI
      have hlen100 := hE104.le
      have hlon100 := hS103.lo
      rw [f_laws_eqBoolS_L0] at hr
      with_reducible refine W.seq ?_
      with_reducible refine W.seq ?_
      with_reducible refine W.region ?_
      refine WL.move .nil rfl rfl rfl rfl ?_
      refine WL.move .nil rfl rfl rfl rfl ?_
      refine WL.len .nil rfl rfl rfl Try.underlying86 rfl ?_
      refine WL.bin .nil rfl rfl rfl rfl rfl rfl ?_
      with_reducible refine WL.nil ?_
      with_reducible refine Ex.thn_norm ?_
      refine W.condD rfl (fun hc109 => ?_) (fun hc109 => ?_)
      · replace hr := ite_pos hr hc109
        with_reducible refine W.skip ?_
        with_reducible refine Ex.thn_norm ?_
        with_reducible refine W.seq ?_
        with_reducible refine W.block ?_
        with_reducible refine W.seq ?_
        refine W.regionD [0, 1, 2, 3, 4, 5, 6, 7, 8] [false, false, false, false, false, false, false, false, false] rfl rfl (by kernel_rfl) (by kernel_rfl) (by (conv => lhs; simp only [List.map_cons, List.map_nil, List.getD_cons_zero, List.getD_cons_succ]) <;> rfl) ?_
        refine WL.move .r rfl rfl rfl rfl ?_
        refine WL.move .r rfl rfl rfl rfl ?_
        obtain ⟨x127, hx127, hr⟩ := bnd_some hr
        refine GL.index .r rfl rfl rfl Try.underlying86 info4 rfl rfl h105 hS103.fh rfl hx127 (fun b128 kp129 c130 ecs131 hrow132 hwin133 hR134 => ?_)
        have hcs : _ = ([.bool x127] : List Value) := hR134
        subst hcs
        refine WL.load1 .r rfl rfl rfl Try.underlying4 rfl rfl hrow132 ((win_get0 hwin133 (show (0 : Nat) < 1 by decide)).trans rfl) ?_
        refine WL.move .r rfl rfl rfl rfl ?_
        refine WL.move .r rfl rfl rfl rfl ?_
        obtain ⟨x135, hx135, hr⟩ := bnd_some hr
        refine GL.index .r rfl rfl rfl Try.underlying86 info4 rfl rfl h106 hS103.fh rfl hx135 (fun b136 kp137 c138 ecs139 hrow140 hwin141 hR142 => ?_)
        have hcs : _ = ([.bool x135] : List Value) := hR142
        subst hcs
        refine WL.load1 .r rfl rfl rfl Try.underlying4 rfl rfl hrow140 ((win_get0 hwin141 (show (0 : Nat) < 1 by decide)).trans rfl) ?_
        refine WL.eqBool .r rfl rfl rfl (by decide) Try.underlying4 rfl rfl ?_
        with_reducible refine WL.nil ?_
        with_reducible refine Ex.thn_norm ?_
        refine W.cond rfl (fun hc143 => ?_) (fun hc143 => ?_)
        · replace hr := iteB_pos hr hc143
          with_reducible refine W.seq ?_
          with_reducible refine W.region ?_
          refine WL.assign .nil rfl rfl rfl rfl ?_
          with_reducible refine WL.nil ?_
          with_reducible refine Ex.thn_norm ?_
          with_reducible refine W.ret ?_
          with_reducible refine Ex.blk_ret ?_
          with_reducible refine Ex.thn_ret ?_
          with_reducible refine Ex.thn_ret ?_
          with_reducible refine Ex.blk_ret ?_
          with_reducible refine Ex.thn_ret ?_
          obtain rfl := Option.some.inj hr
          exact ⟨.inr rfl, _, (.cons (.tmp rfl) .nil), ⟨(Ext.st hE104 hS103), rfl⟩⟩
        · replace hr := iteB_neg hr hc143
          with_reducible refine W.skip ?_
          with_reducible refine Ex.blk_norm ?_
          with_reducible refine Ex.thn_norm ?_
          with_reducible refine W.region ?_
          refine WL.move .nil rfl rfl rfl rfl ?_
          obtain ⟨hc144, hr⟩ := chk_some hr
          refine WL.addI .nil rfl rfl rfl rfl rfl hc144.1 hc144.2 ?_
          refine WL.assign .nil rfl rfl rfl rfl ?_
          with_reducible refine WL.nil ?_
          with_reducible refine Ex.thn_norm ?_
          exact ⟨[(0, .slice a2 xs1.length cap3), (1, .slice a6 xs5.length cap7), (5, .int .i64 (x107 + 1))], (Fr.le_cons rfl (Fr.le_cons rfl (Fr.le_cons rfl Fr.le_nil))), (x107 + 1), F102, rfl, hS103, hE104, h105, h106, hr⟩
      · replace hr := ite_neg hr hc109
        with_reducible refine W.exit ?_
        with_reducible refine Ex.thn_ex ?_
        with_reducible refine Ex.thn_ex ?_
        with_reducible refine Ex.blk_here ?_
        with_reducible refine Ex.thn_norm ?_
        with_reducible refine W.seq ?_
        with_reducible refine W.region ?_
        refine WL.assign .nil rfl rfl rfl rfl ?_
        with_reducible refine WL.nil ?_
        with_reducible refine Ex.thn_norm ?_
        with_reducible refine W.ret ?_
        obtain rfl := Option.some.inj hr
        exact ⟨.inr rfl, _, (.cons (.tmp rfl) .nil), ⟨(Ext.st hE104 hS103), rfl⟩⟩
theorem f_laws_eqIntS_k {Δ : Prims} (g : Env Try.prog Δ) {lo n0 : Nat} {H0 F0 : Heap} (hS : St lo n0 H0 F0) {a2 : Option Addr} {cap3 : Nat} {xs1 : (List Int)} {a6 : Option Addr} {cap7 : Nat} {xs5 : (List Int)} (h4 : SR F0 (.slice a2 xs1.length cap3) xs1) (h8 : SR F0 (.slice a6 xs5.length cap7) xs5) {res : (Bool)} (hr : f_laws_eqIntS xs1 xs5 = some res) :
    C Try.prog Δ n0 127 [.slice a2 xs1.length cap3, .slice a6 xs5.length cap7] n0 H0 (fun v n H => St n0 n H F0 ∧ v = .bool res) := by
  refine C.body Try.func127 rfl rfl ?_
  unfold f_laws_eqIntS at hr
  have hS0 : St n0 n0 H0 F0 := hS.low (Nat.le_refl _)
  have hE0 := Ext.refl n0 F0
  have hlo0 := hS0.lo
  with_reducible refine W.seq ?_
  with_reducible refine W.region ?_
  refine WL.assign .nil rfl rfl rfl rfl ?_
  with_reducible refine WL.nil ?_
  with_reducible refine Ex.thn_norm ?_
  with_reducible refine W.seq ?_
  with_reducible refine W.seq ?_
  with_reducible refine W.region ?_
  refine WL.move .nil rfl rfl rfl rfl ?_
  refine WL.len .nil rfl rfl rfl Try.underlying33 rfl ?_
  refine WL.move .nil rfl rfl rfl rfl ?_
  refine WL.len .nil rfl rfl rfl Try.underlying33 rfl ?_
  refine WL.bin .nil rfl rfl rfl rfl rfl rfl ?_
  with_reducible refine WL.nil ?_
  with_reducible refine Ex.thn_norm ?_
  refine W.condN rfl (fun hc10 => ?_) (fun hc10 => ?_)
  · replace hr := ite_neg hr hc10
    with_reducible refine W.seq ?_
    with_reducible refine W.region ?_
    refine WL.assign .nil rfl rfl rfl rfl ?_
    with_reducible refine WL.nil ?_
    with_reducible refine Ex.thn_norm ?_
    with_reducible refine W.ret ?_
    with_reducible refine Ex.thn_ret ?_
    obtain rfl := Option.some.inj hr
    exact ⟨.inr rfl, _, (.cons (.tmp rfl) .nil), ⟨(Ext.st hE0 hS0), rfl⟩⟩
  · replace hr := ite_pos hr hc10
    with_reducible refine W.skip ?_
    with_reducible refine Ex.thn_norm ?_
    with_reducible refine W.seq ?_
    with_reducible refine W.seq ?_
    with_reducible refine W.region ?_
    refine WL.assign .nil rfl rfl rfl rfl ?_
    with_reducible refine WL.nil ?_
    with_reducible refine Ex.thn_norm ?_
    with_reducible refine W.block ?_
    refine W.loopF (fun k0 fr n H => ∃ (x107 : Int) (F : Heap), fr = [(0, .slice a2 xs1.length cap3), (1, .slice a6 xs5.length cap7), (5, .int .i64 x107)] ∧ St n0 n H F ∧ Ext n0 F0 n F ∧ SR F (.slice a2 xs1.length cap3) xs1 ∧ SR F (.slice a6 xs5.length cap7) xs5 ∧ f_laws_eqIntS_L0 xs1 xs5 k0 x107 = some res) BIG (fr0 := [(0, .slice a2 xs1.length cap3), (1, .slice a6 xs5.length cap7), (5, .int .i64 0)]) (Fr.le_cons rfl (Fr.le_cons rfl (Fr.le_cons rfl Fr.le_nil))) ?_ ?_ ?_
    · exact ⟨0, F0, rfl, hS0, hE0, h4, h8, hr⟩
    · intro fr n H hI
      obtain ⟨x107, F102, hfr, hS103, hE104, h105, h106, hr⟩ := hI
      rw [f_laws_eqIntS_L0] at hr
      cases hr
    · intro k0 _ n100 H101 hI
      obtain ⟨x107, F102, rfl, hS103, hE104, h105, h106, hr⟩ := hI
      have hlen100 := hE104.le
      have hlon100 := hS103.lo
      rw [f_laws_eqIntS_L0] at hr
      with_reducible refine W.seq ?_
      with_reducible refine W.seq ?_
      with_reducible refine W.region ?_
      refine WL.move .nil rfl rfl rfl rfl ?_
      refine WL.move .nil rfl rfl rfl rfl ?_
      refine WL.len .nil rfl rfl rfl Try.underlying33 rfl ?_
      refine WL.bin .nil rfl rfl rfl rfl rfl rfl ?_
      with_reducible refine WL.nil ?_
      with_reducible refine Ex.thn_norm ?_
      refine W.condD rfl (fun hc109 => ?_) (fun hc109 => ?_)
      · replace hr := ite_pos hr hc109
        with_reducible refine W.skip ?_
        with_reducible refine Ex.thn_norm ?_
        with_reducible refine W.seq ?_
        with_reducible refine W.block ?_
        with_reducible refine W.seq ?_
        refine W.regionD [0, 1, 2, 3, 4, 5, 6, 7, 8] [false, false, false, false, false, false, false, false, false] rfl rfl (by kernel_rfl) (by kernel_rfl) (by (conv => lhs; simp only [List.map_cons, List.map_nil, List.getD_cons_zero, List.getD_cons_succ]) <;> rfl) ?_
        refine WL.move .r rfl rfl rfl rfl ?_
        refine WL.move .r rfl rfl rfl rfl ?_
        obtain ⟨x127, hx127, hr⟩ := bnd_some hr
        refine GL.index .r rfl rfl rfl Try.underlying33 info3 rfl rfl h105 hS103.fh rfl hx127 (fun b128 kp129 c130 ecs131 hrow132 hwin133 hR134 => ?_)
        have hcs : _ = ([.int .i64 x127] : List Value) := hR134
        subst hcs
        refine WL.load1 .r rfl rfl rfl Try.underlying3 rfl rfl hrow132 ((win_get0 hwin133 (show (0 : Nat) < 1 by decide)).trans rfl) ?_
        refine WL.move .r rfl rfl rfl rfl ?_
        refine WL.move .r rfl rfl rfl rfl ?_
        obtain ⟨x135, hx135, hr⟩ := bnd_some hr
        refine GL.index .r rfl rfl rfl Try.underlying33 info3 rfl rfl h106 hS103.fh rfl hx135 (fun b136 kp137 c138 ecs139 hrow140 hwin141 hR142 => ?_)
        have hcs : _ = ([.int .i64 x135] : List Value) := hR142
        subst hcs
        refine WL.load1 .r rfl rfl rfl Try.underlying3 rfl rfl hrow140 ((win_get0 hwin141 (show (0 : Nat) < 1 by decide)).trans rfl) ?_
        refine WL.bin .r rfl rfl rfl rfl rfl rfl ?_
        with_reducible refine WL.nil ?_
        with_reducible refine Ex.thn_norm ?_
        refine W.condN rfl (fun hc143 => ?_) (fun hc143 => ?_)
        · replace hr := ite_neg hr hc143
          with_reducible refine W.seq ?_
          with_reducible refine W.region ?_
          refine WL.assign .nil rfl rfl rfl rfl ?_
          with_reducible refine WL.nil ?_
          with_reducible refine Ex.thn_norm ?_
          with_reducible refine W.ret ?_
          with_reducible refine Ex.blk_ret ?_
          with_reducible refine Ex.thn_ret ?_
          with_reducible refine Ex.thn_ret ?_
          with_reducible refine Ex.blk_ret ?_
          with_reducible refine Ex.thn_ret ?_
          obtain rfl := Option.some.inj hr
          exact ⟨.inr rfl, _, (.cons (.tmp rfl) .nil), ⟨(Ext.st hE104 hS103), rfl⟩⟩
        · replace hr := ite_pos hr hc143
          with_reducible refine W.skip ?_
          with_reducible refine Ex.blk_norm ?_
          with_reducible refine Ex.thn_norm ?_
          with_reducible refine W.region ?_
          refine WL.move .nil rfl rfl rfl rfl ?_
          obtain ⟨hc144, hr⟩ := chk_some hr
          refine WL.addI .nil rfl rfl rfl rfl rfl hc144.1 hc144.2 ?_
          refine WL.assign .nil rfl rfl rfl rfl ?_
          with_reducible refine WL.nil ?_
          with_reducible refine Ex.thn_norm ?_
          exact ⟨[(0, .slice a2 xs1.length cap3), (1, .slice a6 xs5.length cap7), (5, .int .i64 (x107 + 1))], (Fr.le_cons rfl (Fr.le_cons rfl (Fr.le_cons rfl Fr.le_nil))), (x107 + 1), F102, rfl, hS103, hE104, h105, h106, hr⟩
      · replace hr := ite_neg hr hc109
        with_reducible refine W.exit ?_
        with_reducible refine Ex.thn_ex ?_
        with_reducible refine Ex.thn_ex ?_
        with_reducible refine Ex.blk_here ?_
        with_reducible refine Ex.thn_norm ?_
        with_reducible refine W.seq ?_
        with_reducible refine W.region ?_
        refine WL.assign .nil rfl rfl rfl rfl ?_
        with_reducible refine WL.nil ?_
        with_reducible refine Ex.thn_norm ?_
        with_reducible refine W.ret ?_
        obtain rfl := Option.some.inj hr
        exact ⟨.inr rfl, _, (.cons (.tmp rfl) .nil), ⟨(Ext.st hE104 hS103), rfl⟩⟩
end Go.Proofs.YtbdebjoagckcpaaAb
