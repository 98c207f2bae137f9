import Derived.Test.YtmodhnkjimpkbaaPxSbD
import Derived.Test.YtmodhnkjimpkbaaAbInfoS
import Derived.KernelRfl
set_option linter.all false
set_option maxRecDepth 20000
namespace Go.Proofs.YtmodhnkjimpkbaaAb
open Go Go.Proofs
theorem f_laws_szFile_k {Δ : Prims} (g : Env Try.prog Δ) {lo n0 : Nat} {H0 F0 : Heap} (hS : St lo n0 H0 F0) {x1 : GFile} {x2 : Int} {res : (Int)} (hr : f_laws_szFile x1 x2 = some res) :
    C Try.prog Δ n0 54 [.agg [str x1.Name, .int .i64 x1.Version, str x1.Text].toArray, .int .i64 x2] n0 H0 (fun v n H => St n0 n H F0 ∧ v = .int .i64 res) := by
  refine C.body Try.func54 rfl rfl ?_
  unfold f_laws_szFile at hr
  have hS0 : St n0 n0 H0 F0 := hS.low (Nat.le_refl _)
  have hE0 := Ext.refl n0 F0
  have hlo0 := hS0.lo
  with_reducible refine W.seq ?_
  with_reducible refine W.region ?_
  refine GL.box hS0 .nil (vc := [str x1.Name, .int .i64 x1.Version, str x1.Text]) rfl rfl rfl rfl rfl (by repeat' (first | exact List.forall_mem_nil _ | refine List.forall_mem_cons.2 ⟨?_, ?_⟩ | rfl)) (fun H3 hS4 ho5 hk6 => ?_)
  have fo7 := hS0.fnone (Nat.le_refl _)
  have hlon01 := hS4.lo
  have lt8 : n0 < (n0 + 1) := by omega
  refine WL.assign .nil rfl rfl rfl rfl ?_
  with_reducible refine WL.nil ?_
  with_reducible refine Ex.thn_norm ?_
  with_reducible refine W.seq ?_
  with_reducible refine W.region ?_
  refine WL.move .nil rfl rfl rfl rfl ?_
  refine WL.fieldAddr .nil rfl rfl rfl Try.underlying87 rfl info9 rfl rfl ?_
  refine WL.load1 .nil rfl rfl rfl Try.underlying9 rfl rfl ho5 rfl ?_
  refine GL.lenStr .nil rfl rfl rfl Try.underlying9 rfl ?_
  obtain ⟨hc9, hr⟩ := chk_some hr
  refine WL.subI .nil rfl rfl rfl rfl rfl hc9.1 hc9.2 ?_
  refine WL.assign .nil rfl rfl rfl rfl ?_
  with_reducible refine WL.nil ?_
  with_reducible refine Ex.thn_norm ?_
  with_reducible refine W.seq ?_
  with_reducible refine W.seq ?_
  with_reducible refine W.region ?_
  refine WL.move .nil rfl rfl rfl rfl ?_
  refine WL.bin .nil rfl rfl rfl rfl rfl rfl ?_
  with_reducible refine WL.nil ?_
  with_reducible refine Ex.thn_norm ?_
  refine W.condD rfl (fun hc11 => ?_) (fun hc11 => ?_)
  · replace hr := ite_pos hr hc11
    with_reducible refine W.seq ?_
    with_reducible refine W.region ?_
    refine WL.assign .nil rfl rfl rfl rfl ?_
    with_reducible refine WL.nil ?_
    with_reducible refine Ex.thn_norm ?_
    with_reducible refine W.ret ?_
    with_reducible refine Ex.thn_ret ?_
    obtain rfl := Option.some.inj hr
    exact ⟨.inr rfl, _, (.cons (.tmp rfl) .nil), ⟨(Ext.st hE0 hS4), rfl⟩⟩
  · replace hr := ite_neg hr hc11
    with_reducible refine W.skip ?_
    with_reducible refine Ex.thn_norm ?_
    with_reducible refine W.seq ?_
    with_reducible refine W.region ?_
    refine WL.move .nil rfl rfl rfl rfl ?_
    refine WL.fieldAddr .nil rfl rfl rfl Try.underlying87 rfl info9 rfl rfl ?_
    refine WL.load1 .nil rfl rfl rfl Try.underlying9 rfl rfl ho5 rfl ?_
    refine GL.lenStr .nil rfl rfl rfl Try.underlying9 rfl ?_
    obtain ⟨hc12, hr⟩ := chk_some hr
    refine WL.subI .nil rfl rfl rfl rfl rfl hc12.1 hc12.2 ?_
    refine WL.assign .nil rfl rfl rfl rfl ?_
    with_reducible refine WL.nil ?_
    with_reducible refine Ex.thn_norm ?_
    with_reducible refine W.seq ?_
    with_reducible refine W.seq ?_
    with_reducible refine W.region ?_
    refine WL.move .nil rfl rfl rfl rfl ?_
    refine WL.bin .nil rfl rfl rfl rfl rfl rfl ?_
    with_reducible refine WL.nil ?_
    with_reducible refine Ex.thn_norm ?_
    refine W.condD rfl (fun hc13 => ?_) (fun hc13 => ?_)
    · replace hr := ite_pos hr hc13
      with_reducible refine W.seq ?_
      with_reducible refine W.region ?_
      refine WL.assign .nil rfl rfl rfl rfl ?_
      with_reducible refine WL.nil ?_
      with_reducible refine Ex.thn_norm ?_
      with_reducible refine W.ret ?_
      with_reducible refine Ex.thn_ret ?_
      obtain rfl := Option.some.inj hr
      exact ⟨.inr rfl, _, (.cons (.tmp rfl) .nil), ⟨(Ext.st hE0 hS4), rfl⟩⟩
    · replace hr := ite_neg hr hc13
      with_reducible refine W.skip ?_
      with_reducible refine Ex.thn_norm ?_
      with_reducible refine W.seq ?_
      with_reducible refine W.region ?_
      refine WL.move .nil rfl rfl rfl rfl ?_
      refine WL.assign .nil rfl rfl rfl rfl ?_
      with_reducible refine WL.nil ?_
      with_reducible refine Ex.thn_norm ?_
      with_reducible refine W.ret ?_
      obtain rfl := Option.some.inj hr
      exact ⟨.inr rfl, _, (.cons (.tmp rfl) .nil), ⟨(Ext.st hE0 hS4), rfl⟩⟩
theorem f_laws_szFileS_k {Δ : Prims} (g : Env Try.prog Δ) {lo n0 : Nat} {H0 F0 : Heap} (hS : St lo n0 H0 F0) {a2 : Option Addr} {cap3 : Nat} {xs1 : (List GFile)} {x5 : Int} (h4 : SR F0 (.slice a2 xs1.length cap3) xs1) {res : (Int)} (hr : f_laws_szFileS xs1 x5 = some res) :
    C Try.prog Δ n0 31 [.slice a2 xs1.length cap3, .int .i64 x5] n0 H0 (fun v n H => St n0 n H F0 ∧ v = .int .i64 res) := by
  refine C.body Try.func31 rfl rfl ?_
  unfold f_laws_szFileS at hr
  have hS0 : St n0 n0 H0 F0 := hS.low (Nat.le_refl _)
  have hE0 := Ext.refl n0 F0
  have hlo0 := hS0.lo
  with_reducible refine W.seq ?_
  with_reducible refine W.region ?_
  refine WL.assign .nil rfl rfl rfl rfl ?_
  with_reducible refine WL.nil ?_
  with_reducible refine Ex.thn_norm ?_
  with_reducible refine W.seq ?_
  with_reducible refine W.region ?_
  refine WL.move .nil rfl rfl rfl rfl ?_
  refine WL.move .nil rfl rfl rfl rfl ?_
  refine WL.len .nil rfl rfl rfl Try.underlying35 rfl ?_
  obtain ⟨hc6, hr⟩ := chk_some hr
  refine WL.subI .nil rfl rfl rfl rfl rfl hc6.1 hc6.2 ?_
  refine WL.assign .nil rfl rfl rfl rfl ?_
  with_reducible refine WL.nil ?_
  with_reducible refine Ex.thn_norm ?_
  with_reducible refine W.seq ?_
  with_reducible refine W.seq ?_
  with_reducible refine W.region ?_
  refine WL.move .nil rfl rfl rfl rfl ?_
  refine WL.bin .nil rfl rfl rfl rfl rfl rfl ?_
  with_reducible refine WL.nil ?_
  with_reducible refine Ex.thn_norm ?_
  refine W.condD rfl (fun hc8 => ?_) (fun hc8 => ?_)
  · replace hr := ite_pos hr hc8
    with_reducible refine W.seq ?_
    with_reducible refine W.region ?_
    refine WL.assign .nil rfl rfl rfl rfl ?_
    with_reducible refine WL.nil ?_
    with_reducible refine Ex.thn_norm ?_
    with_reducible refine W.ret ?_
    with_reducible refine Ex.thn_ret ?_
    obtain rfl := Option.some.inj hr
    exact ⟨.inr rfl, _, (.cons (.tmp rfl) .nil), ⟨(Ext.st hE0 hS0), rfl⟩⟩
  · replace hr := ite_neg hr hc8
    with_reducible refine W.skip ?_
    with_reducible refine Ex.thn_norm ?_
    with_reducible refine W.seq ?_
    with_reducible refine W.seq ?_
    with_reducible refine W.region ?_
    refine WL.assign .nil rfl rfl rfl rfl ?_
    with_reducible refine WL.nil ?_
    with_reducible refine Ex.thn_norm ?_
    with_reducible refine W.block ?_
    refine W.loopF (fun k0 fr n H => ∃ (x103 : Int) (x104 : Int) (F : Heap), fr = [(0, .slice a2 xs1.length cap3), (1, .int .i64 x103), (5, .int .i64 x104)] ∧ St n0 n H F ∧ Ext n0 F0 n F ∧ SR F (.slice a2 xs1.length cap3) xs1 ∧ f_laws_szFileS_L0 xs1 k0 x103 x104 = some res) BIG (fr0 := [(0, .slice a2 xs1.length cap3), (1, .int .i64 (x5 - (xs1.length : Int))), (5, .int .i64 0)]) (Fr.le_cons rfl (Fr.le_cons rfl (Fr.le_cons rfl Fr.le_nil))) ?_ ?_ ?_
    · exact ⟨(x5 - (xs1.length : Int)), 0, F0, rfl, hS0, hE0, h4, hr⟩
    · intro fr n H hI
      obtain ⟨x103, x104, F99, hfr, hS100, hE101, h102, hr⟩ := hI
      rw [f_laws_szFileS_L0] at hr
      cases hr
    · intro k0 _ n97 H98 hI
      obtain ⟨x103, x104, F99, rfl, hS100, hE101, h102, hr⟩ := hI
      have hlen97 := hE101.le
      have hlon97 := hS100.lo
      rw [f_laws_szFileS_L0] at hr
      with_reducible refine W.seq ?_
      with_reducible refine W.seq ?_
      with_reducible refine W.region ?_
      refine WL.move .nil rfl rfl rfl rfl ?_
      refine WL.move .nil rfl rfl rfl rfl ?_
      refine WL.len .nil rfl rfl rfl Try.underlying35 rfl ?_
      refine WL.bin .nil rfl rfl rfl rfl rfl rfl ?_
      with_reducible refine WL.nil ?_
      with_reducible refine Ex.thn_norm ?_
      refine W.condD rfl (fun hc106 => ?_) (fun hc106 => ?_)
      · replace hr := ite_pos hr hc106
        with_reducible refine W.skip ?_
        with_reducible refine Ex.thn_norm ?_
        with_reducible refine W.seq ?_
        with_reducible refine W.block ?_
        with_reducible refine W.seq ?_
        with_reducible refine W.region ?_
        refine WL.move .nil rfl rfl rfl rfl ?_
        refine WL.move .nil rfl rfl rfl rfl ?_
        obtain ⟨x124, hx124, hr⟩ := bnd_some hr
        refine GL.index .nil rfl rfl rfl Try.underlying35 info87 rfl rfl h102 hS100.fh rfl hx124 (fun b125 kp126 c127 ecs128 hrow129 hwin130 hR131 => ?_)
        obtain ⟨rfl⟩ := GFile.ofR hR131
        refine WL.loadN .nil (l' := [str x124.Name, .int .i64 x124.Version, str x124.Text]) rfl rfl rfl Try.underlying87 rfl info87 rfl hrow129 hwin130 rfl ?_
        refine WL.move .nil rfl rfl rfl rfl ?_
        obtain ⟨x132, hx132, hr⟩ := bnd_some hr
        refine GL.callP g.good .nil rfl rfl rfl rfl rfl rfl Try.func54 rfl rfl hS100.lo (f_laws_szFile_k  g hS100 hx132) (fun v n133 H134 hn135 hk136 hp137 => ?_)
        obtain ⟨hS138, rfl⟩ := hp137
        have hS139 : St n0 n133 H134 F99 := ⟨by have := hS100.lo; omega, hS138.hb, hS138.fh⟩
        have hlon133 := hS139.lo
        refine WL.assign .nil rfl rfl rfl rfl ?_
        with_reducible refine WL.nil ?_
        with_reducible refine Ex.thn_norm ?_
        with_reducible refine W.seq ?_
        with_reducible refine W.region ?_
        refine WL.move .nil rfl rfl rfl rfl ?_
        refine WL.bin .nil rfl rfl rfl rfl rfl rfl ?_
        with_reducible refine WL.nil ?_
        with_reducible refine Ex.thn_norm ?_
        refine W.condD rfl (fun hc140 => ?_) (fun hc140 => ?_)
        · replace hr := ite_pos hr hc140
          with_reducible refine W.seq ?_
          with_reducible refine W.region ?_
          refine WL.assign .nil rfl rfl rfl rfl ?_
          with_reducible refine WL.nil ?_
          with_reducible refine Ex.thn_norm ?_
          with_reducible refine W.ret ?_
          with_reducible refine Ex.blk_ret ?_
          with_reducible refine Ex.thn_ret ?_
          with_reducible refine Ex.thn_ret ?_
          with_reducible refine Ex.blk_ret ?_
          with_reducible refine Ex.thn_ret ?_
          obtain rfl := Option.some.inj hr
          exact ⟨.inr rfl, _, (.cons (.tmp rfl) .nil), ⟨(Ext.st hE101 hS139), rfl⟩⟩
        · replace hr := ite_neg hr hc140
          with_reducible refine W.skip ?_
          with_reducible refine Ex.blk_norm ?_
          with_reducible refine Ex.thn_norm ?_
          with_reducible refine W.region ?_
          refine WL.move .nil rfl rfl rfl rfl ?_
          obtain ⟨hc141, hr⟩ := chk_some hr
          refine WL.addI .nil rfl rfl rfl rfl rfl hc141.1 hc141.2 ?_
          refine WL.assign .nil rfl rfl rfl rfl ?_
          with_reducible refine WL.nil ?_
          with_reducible refine Ex.thn_norm ?_
          exact ⟨[(0, .slice a2 xs1.length cap3), (1, .int .i64 x132), (5, .int .i64 (x104 + 1))], (Fr.le_cons rfl (Fr.le_cons rfl (Fr.le_cons rfl Fr.le_nil))), x132, (x104 + 1), F99, rfl, hS139, (hE101.up (by omega)), h102, hr⟩
      · replace hr := ite_neg hr hc106
        with_reducible refine W.exit ?_
        with_reducible refine Ex.thn_ex ?_
        with_reducible refine Ex.thn_ex ?_
        with_reducible refine Ex.blk_here ?_
        with_reducible refine Ex.thn_norm ?_
        with_reducible refine W.seq ?_
        with_reducible refine W.region ?_
        refine WL.move .nil rfl rfl rfl rfl ?_
        refine WL.assign .nil rfl rfl rfl rfl ?_
        with_reducible refine WL.nil ?_
        with_reducible refine Ex.thn_norm ?_
        with_reducible refine W.ret ?_
        obtain rfl := Option.some.inj hr
        exact ⟨.inr rfl, _, (.cons (.tmp rfl) .nil), ⟨(Ext.st hE101 hS100), rfl⟩⟩
theorem f_laws_szReply_k {Δ : Prims} (g : Env Try.prog Δ) {lo n0 : Nat} {H0 F0 : Heap} (hS : St lo n0 H0 F0) {x1 : GReply} {x2 : Int} {res : (Int)} (hr : f_laws_szReply x1 x2 = some res) :
    C Try.prog Δ n0 70 [.agg [.int .i64 x1.Code, .int .i64 x1.Version, str x1.Sha].toArray, .int .i64 x2] n0 H0 (fun v n H => St n0 n H F0 ∧ v = .int .i64 res) := by
  refine C.body Try.func70 rfl rfl ?_
  unfold f_laws_szReply at hr
  have hS0 : St n0 n0 H0 F0 := hS.low (Nat.le_refl _)
  have hE0 := Ext.refl n0 F0
  have hlo0 := hS0.lo
  with_reducible refine W.seq ?_
  with_reducible refine W.region ?_
  refine GL.box hS0 .nil (vc := [.int .i64 x1.Code, .int .i64 x1.Version, str x1.Sha]) rfl rfl rfl rfl rfl (by repeat' (first | exact List.forall_mem_nil _ | refine List.forall_mem_cons.2 ⟨?_, ?_⟩ | rfl)) (fun H3 hS4 ho5 hk6 => ?_)
  have fo7 := hS0.fnone (Nat.le_refl _)
  have hlon01 := hS4.lo
  have lt8 : n0 < (n0 + 1) := by omega
  refine WL.assign .nil rfl rfl rfl rfl ?_
  with_reducible refine WL.nil ?_
  with_reducible refine Ex.thn_norm ?_
  with_reducible refine W.seq ?_
  with_reducible refine W.region ?_
  refine WL.move .nil rfl rfl rfl rfl ?_
  refine WL.fieldAddr .nil rfl rfl rfl Try.underlying89 rfl info9 rfl rfl ?_
  refine WL.load1 .nil rfl rfl rfl Try.underlying9 rfl rfl ho5 rfl ?_
  refine GL.lenStr .nil rfl rfl rfl Try.underlying9 rfl ?_
  obtain ⟨hc9, hr⟩ := chk_some hr
  refine WL.subI .nil rfl rfl rfl rfl rfl hc9.1 hc9.2 ?_
  refine WL.assign .nil rfl rfl rfl rfl ?_
  with_reducible refine WL.nil ?_
  with_reducible refine Ex.thn_norm ?_
  with_reducible refine W.seq ?_
  with_reducible refine W.seq ?_
  with_reducible refine W.region ?_
  refine WL.move .nil rfl rfl rfl rfl ?_
  refine WL.bin .nil rfl rfl rfl rfl rfl rfl ?_
  with_reducible refine WL.nil ?_
  with_reducible refine Ex.thn_norm ?_
  refine W.condD rfl (fun hc10 => ?_) (fun hc10 => ?_)
  · replace hr := ite_pos hr hc10
    with_reducible refine W.seq ?_
    with_reducible refine W.region ?_
    refine WL.assign .nil rfl rfl rfl rfl ?_
    with_reducible refine WL.nil ?_
    with_reducible refine Ex.thn_norm ?_
    with_reducible refine W.ret ?_
    with_reducible refine Ex.thn_ret ?_
    obtain rfl := Option.some.inj hr
    exact ⟨.inr rfl, _, (.cons (.tmp rfl) .nil), ⟨(Ext.st hE0 hS4), rfl⟩⟩
  · replace hr := ite_neg hr hc10
    with_reducible refine W.skip ?_
    with_reducible refine Ex.thn_norm ?_
    with_reducible refine W.seq ?_
    with_reducible refine W.region ?_
    refine WL.move .nil rfl rfl rfl rfl ?_
    refine WL.assign .nil rfl rfl rfl rfl ?_
    with_reducible refine WL.nil ?_
    with_reducible refine Ex.thn_norm ?_
    with_reducible refine W.ret ?_
    obtain rfl := Option.some.inj hr
    exact ⟨.inr rfl, _, (.cons (.tmp rfl) .nil), ⟨(Ext.st hE0 hS4), rfl⟩⟩
theorem f_laws_szSession_k {Δ : Prims} (g : Env Try.prog Δ) {lo n0 : Nat} {H0 F0 : Heap} (hS : St lo n0 H0 F0) {x1 : GSession} {x2 : Int} {res : (Int)} (hr : f_laws_szSession x1 x2 = some res) :
    C Try.prog Δ n0 55 [.agg [.int .i64 x1.Client, .int .i64 x1.Seq, .int .i64 x1.Reply.Code, .int .i64 x1.Reply.Version, str x1.Reply.Sha].toArray, .int .i64 x2] n0 H0 (fun v n H => St n0 n H F0 ∧ v = .int .i64 res) := by
  refine C.body Try.func55 rfl rfl ?_
  unfold f_laws_szSession at hr
  have hS0 : St n0 n0 H0 F0 := hS.low (Nat.le_refl _)
  have hE0 := Ext.refl n0 F0
  have hlo0 := hS0.lo
  with_reducible refine W.seq ?_
  with_reducible refine W.region ?_
  refine GL.box hS0 .nil (vc := [.int .i64 x1.Client, .int .i64 x1.Seq, .int .i64 x1.Reply.Code, .int .i64 x1.Reply.Version, str x1.Reply.Sha]) rfl rfl rfl rfl rfl (by repeat' (first | exact List.forall_mem_nil _ | refine List.forall_mem_cons.2 ⟨?_, ?_⟩ | rfl)) (fun H3 hS4 ho5 hk6 => ?_)
  have fo7 := hS0.fnone (Nat.le_refl _)
  have hlon01 := hS4.lo
  have lt8 : n0 < (n0 + 1) := by omega
  refine WL.assign .nil rfl rfl rfl rfl ?_
  with_reducible refine WL.nil ?_
  with_reducible refine Ex.thn_norm ?_
  with_reducible refine W.seq ?_
  with_reducible refine W.region ?_
  refine WL.fieldAddr .nil rfl rfl rfl Try.underlying91 rfl info89 rfl rfl ?_
  refine WL.loadN .nil (l' := [.int .i64 x1.Reply.Code, .int .i64 x1.Reply.Version, str x1.Reply.Sha]) rfl rfl rfl Try.underlying89 rfl info89 rfl ho5 rfl rfl ?_
  refine WL.move .nil rfl rfl rfl rfl ?_
  obtain ⟨x9, hx9, hr⟩ := bnd_some hr
  refine GL.callP g.good .nil rfl rfl rfl rfl rfl rfl Try.func70 rfl rfl hS4.lo (f_laws_szReply_k  g hS4 hx9) (fun v n10 H11 hn12 hk13 hp14 => ?_)
  obtain ⟨hS15, rfl⟩ := hp14
  have ho16 := (hk13 _ (by have := lt8; omega)).trans ho5
  have hS17 : St n0 n10 H11 F0 := ⟨by have := hS4.lo; omega, hS15.hb, hS15.fh⟩
  have hlon10 := hS17.lo
  refine WL.assign .nil rfl rfl rfl rfl ?_
  with_reducible refine WL.nil ?_
  with_reducible refine Ex.thn_norm ?_
  with_reducible refine W.seq ?_
  with_reducible refine W.seq ?_
  with_reducible refine W.region ?_
  refine WL.move .nil rfl rfl rfl rfl ?_
  refine WL.bin .nil rfl rfl rfl rfl rfl rfl ?_
  with_reducible refine WL.nil ?_
  with_reducible refine Ex.thn_norm ?_
  refine W.condD rfl (fun hc18 => ?_) (fun hc18 => ?_)
  · replace hr := ite_pos hr hc18
    with_reducible refine W.seq ?_
    with_reducible refine W.region ?_
    refine WL.assign .nil rfl rfl rfl rfl ?_
    with_reducible refine WL.nil ?_
    with_reducible refine Ex.thn_norm ?_
    with_reducible refine W.ret ?_
    with_reducible refine Ex.thn_ret ?_
    obtain rfl := Option.some.inj hr
    exact ⟨.inr rfl, _, (.cons (.tmp rfl) .nil), ⟨(Ext.st hE0 hS17), rfl⟩⟩
  · replace hr := ite_neg hr hc18
    with_reducible refine W.skip ?_
    with_reducible refine Ex.thn_norm ?_
    with_reducible refine W.seq ?_
    with_reducible refine W.region ?_
    refine WL.move .nil rfl rfl rfl rfl ?_
    refine WL.assign .nil rfl rfl rfl rfl ?_
    with_reducible refine WL.nil ?_
    with_reducible refine Ex.thn_norm ?_
    with_reducible refine W.ret ?_
    obtain rfl := Option.some.inj hr
    exact ⟨.inr rfl, _, (.cons (.tmp rfl) .nil), ⟨(Ext.st hE0 hS17), rfl⟩⟩
theorem f_laws_szSessionS_k {Δ : Prims} (g : Env Try.prog Δ) {lo n0 : Nat} {H0 F0 : Heap} (hS : St lo n0 H0 F0) {a2 : Option Addr} {cap3 : Nat} {xs1 : (List GSession)} {x5 : Int} (h4 : SR F0 (.slice a2 xs1.length cap3) xs1) {res : (Int)} (hr : f_laws_szSessionS xs1 x5 = some res) :
    C Try.prog Δ n0 32 [.slice a2 xs1.length cap3, .int .i64 x5] n0 H0 (fun v n H => St n0 n H F0 ∧ v = .int .i64 res) := by
  refine C.body Try.func32 rfl rfl ?_
  unfold f_laws_szSessionS at hr
  have hS0 : St n0 n0 H0 F0 := hS.low (Nat.le_refl _)
  have hE0 := Ext.refl n0 F0
  have hlo0 := hS0.lo
  with_reducible refine W.seq ?_
  with_reducible refine W.region ?_
  refine WL.assign .nil rfl rfl rfl rfl ?_
  with_reducible refine WL.nil ?_
  with_reducible refine Ex.thn_norm ?_
  with_reducible refine W.seq ?_
  with_reducible refine W.region ?_
  refine WL.move .nil rfl rfl rfl rfl ?_
  refine WL.move .nil rfl rfl rfl rfl ?_
  refine WL.len .nil rfl rfl rfl Try.underlying36 rfl ?_
  obtain ⟨hc6, hr⟩ := chk_some hr
  refine WL.subI .nil rfl rfl rfl rfl rfl hc6.1 hc6.2 ?_
  refine WL.assign .nil rfl rfl rfl rfl ?_
  with_reducible refine WL.nil ?_
  with_reducible refine Ex.thn_norm ?_
  with_reducible refine W.seq ?_
  with_reducible refine W.seq ?_
  with_reducible refine W.region ?_
  refine WL.move .nil rfl rfl rfl rfl ?_
  refine WL.bin .nil rfl rfl rfl rfl rfl rfl ?_
  with_reducible refine WL.nil ?_
  with_reducible refine Ex.thn_norm ?_
  refine W.condD rfl (fun hc8 => ?_) (fun hc8 => ?_)
  · replace hr := ite_pos hr hc8
    with_reducible refine W.seq ?_
    with_reducible refine W.region ?_
    refine WL.assign .nil rfl rfl rfl rfl ?_
    with_reducible refine WL.nil ?_
    with_reducible refine Ex.thn_norm ?_
    with_reducible refine W.ret ?_
    with_reducible refine Ex.thn_ret ?_
    obtain rfl := Option.some.inj hr
    exact ⟨.inr rfl, _, (.cons (.tmp rfl) .nil), ⟨(Ext.st hE0 hS0), rfl⟩⟩
  · replace hr := ite_neg hr hc8
    with_reducible refine W.skip ?_
    with_reducible refine Ex.thn_norm ?_
    with_reducible refine W.seq ?_
    with_reducible refine W.seq ?_
    with_reducible refine W.region ?_
    refine WL.assign .nil rfl rfl rfl rfl ?_
    with_reducible refine WL.nil ?_
    with_reducible refine Ex.thn_norm ?_
    with_reducible refine W.block ?_
    refine W.loopF (fun k0 fr n H => ∃ (x103 : Int) (x104 : Int) (F : Heap), fr = [(0, .slice a2 xs1.length cap3), (1, .int .i64 x103), (5, .int .i64 x104)] ∧ St n0 n H F ∧ Ext n0 F0 n F ∧ SR F (.slice a2 xs1.length cap3) xs1 ∧ f_laws_szSessionS_L0 xs1 k0 x103 x104 = some res) BIG (fr0 := [(0, .slice a2 xs1.length cap3), (1, .int .i64 (x5 - (xs1.length : Int))), (5, .int .i64 0)]) (Fr.le_cons rfl (Fr.le_cons rfl (Fr.le_cons rfl Fr.le_nil))) ?_ ?_ ?_
    · exact ⟨(x5 - (xs1.length : Int)), 0, F0, rfl, hS0, hE0, h4, hr⟩
    · intro fr n H hI
      obtain ⟨x103, x104, F99, hfr, hS100, hE101, h102, hr⟩ := hI
      rw [f_laws_szSessionS_L0] at hr
      cases hr
    · intro k0 _ n97 H98 hI
      obtain ⟨x103, x104, F99, rfl, hS100, hE101, h102, hr⟩ := hI
      have hlen97 := hE101.le
      have hlon97 := hS100.lo
      rw [f_laws_szSessionS_L0] at hr
      with_reducible refine W.seq ?_
      with_reducible refine W.seq ?_
      with_reducible refine W.region ?_
      refine WL.move .nil rfl rfl rfl rfl ?_
      refine WL.move .nil rfl rfl rfl rfl ?_
      refine WL.len .nil rfl rfl rfl Try.underlying36 rfl ?_
      refine WL.bin .nil rfl rfl rfl rfl rfl rfl ?_
      with_reducible refine WL.nil ?_
      with_reducible refine Ex.thn_norm ?_
      refine W.condD rfl (fun hc106 => ?_) (fun hc106 => ?_)
      · replace hr := ite_pos hr hc106
        with_reducible refine W.skip ?_
        with_reducible refine Ex.thn_norm ?_
        with_reducible refine W.seq ?_
        with_reducible refine W.block ?_
        with_reducible refine W.seq ?_
        with_reducible refine W.region ?_
        refine WL.move .nil rfl rfl rfl rfl ?_
        refine WL.move .nil rfl rfl rfl rfl ?_
        obtain ⟨x124, hx124, hr⟩ := bnd_some hr
        refine GL.index .nil rfl rfl rfl Try.underlying36 info91 rfl rfl h102 hS100.fh rfl hx124 (fun b125 kp126 c127 ecs128 hrow129 hwin130 hR131 => ?_)
        obtain ⟨rfl⟩ := GSession.ofR hR131
        refine WL.loadN .nil (l' := [.int .i64 x124.Client, .int .i64 x124.Seq, .int .i64 x124.Reply.Code, .int .i64 x124.Reply.Version, str x124.Reply.Sha]) rfl rfl rfl Try.underlying91 rfl info91 rfl hrow129 hwin130 rfl ?_
        refine WL.move .nil rfl rfl rfl rfl ?_
        obtain ⟨x132, hx132, hr⟩ := bnd_some hr
        refine GL.callP g.good .nil rfl rfl rfl rfl rfl rfl Try.func55 rfl rfl hS100.lo (f_laws_szSession_k  g hS100 hx132) (fun v n133 H134 hn135 hk136 hp137 => ?_)
        obtain ⟨hS138, rfl⟩ := hp137
        have hS139 : St n0 n133 H134 F99 := ⟨by have := hS100.lo; omega, hS138.hb, hS138.fh⟩
        have hlon133 := hS139.lo
        refine WL.assign .nil rfl rfl rfl rfl ?_
        with_reducible refine WL.nil ?_
        with_reducible refine Ex.thn_norm ?_
        with_reducible refine W.seq ?_
        with_reducible refine W.region ?_
        refine WL.move .nil rfl rfl rfl rfl ?_
        refine WL.bin .nil rfl rfl rfl rfl rfl rfl ?_
        with_reducible refine WL.nil ?_
        with_reducible refine Ex.thn_norm ?_
        refine W.condD rfl (fun hc140 => ?_) (fun hc140 => ?_)
        · replace hr := ite_pos hr hc140
          with_reducible refine W.seq ?_
          with_reducible refine W.region ?_
          refine WL.assign .nil rfl rfl rfl rfl ?_
          with_reducible refine WL.nil ?_
          with_reducible refine Ex.thn_norm ?_
          with_reducible refine W.ret ?_
          with_reducible refine Ex.blk_ret ?_
          with_reducible refine Ex.thn_ret ?_
          with_reducible refine Ex.thn_ret ?_
          with_reducible refine Ex.blk_ret ?_
          with_reducible refine Ex.thn_ret ?_
          obtain rfl := Option.some.inj hr
          exact ⟨.inr rfl, _, (.cons (.tmp rfl) .nil), ⟨(Ext.st hE101 hS139), rfl⟩⟩
        · replace hr := ite_neg hr hc140
          with_reducible refine W.skip ?_
          with_reducible refine Ex.blk_norm ?_
          with_reducible refine Ex.thn_norm ?_
          with_reducible refine W.region ?_
          refine WL.move .nil rfl rfl rfl rfl ?_
          obtain ⟨hc141, hr⟩ := chk_some hr
          refine WL.addI .nil rfl rfl rfl rfl rfl hc141.1 hc141.2 ?_
          refine WL.assign .nil rfl rfl rfl rfl ?_
          with_reducible refine WL.nil ?_
          with_reducible refine Ex.thn_norm ?_
          exact ⟨[(0, .slice a2 xs1.length cap3), (1, .int .i64 x132), (5, .int .i64 (x104 + 1))], (Fr.le_cons rfl (Fr.le_cons rfl (Fr.le_cons rfl Fr.le_nil))), x132, (x104 + 1), F99, rfl, hS139, (hE101.up (by omega)), h102, hr⟩
      · replace hr := ite_neg hr hc106
        with_reducible refine W.exit ?_
        with_reducible refine Ex.thn_ex ?_
        with_reducible refine Ex.thn_ex ?_
        with_reducible refine Ex.blk_here ?_
        with_reducible refine Ex.thn_norm ?_
        with_reducible refine W.seq ?_
        with_reducible refine W.region ?_
        refine WL.move .nil rfl rfl rfl rfl ?_
        refine WL.assign .nil rfl rfl rfl rfl ?_
        with_reducible refine WL.nil ?_
        with_reducible refine Ex.thn_norm ?_
        with_reducible refine W.ret ?_
        obtain rfl := Option.some.inj hr
        exact ⟨.inr rfl, _, (.cons (.tmp rfl) .nil), ⟨(Ext.st hE101 hS100), rfl⟩⟩
theorem f_laws_szState_k {Δ : Prims} (g : Env Try.prog Δ) {lo n0 : Nat} {H0 F0 : Heap} (hS : St lo n0 H0 F0) {x1 : GState} {a2 : Option Addr} {cap3 : Nat} {a5 : Option Addr} {cap6 : Nat} {x8 : Int} (h4 : SR F0 (.slice a2 x1.Files.length cap3) x1.Files) (h7 : SR F0 (.slice a5 x1.Sessions.length cap6) x1.Sessions) {res : (Int)} (hr : f_laws_szState x1 x8 = some res) :
    C Try.prog Δ n0 13 [.agg [.slice a2 x1.Files.length cap3, .slice a5 x1.Sessions.length cap6].toArray, .int .i64 x8] n0 H0 (fun v n H => St n0 n H F0 ∧ v = .int .i64 res) := by
  refine C.body Try.func13 rfl rfl ?_
  unfold f_laws_szState at hr
  have hS0 : St n0 n0 H0 F0 := hS.low (Nat.le_refl _)
  have hE0 := Ext.refl n0 F0
  have hlo0 := hS0.lo
  with_reducible refine W.seq ?_
  with_reducible refine W.region ?_
  refine GL.box hS0 .nil (vc := [.slice a2 x1.Files.length cap3, .slice a5 x1.Sessions.length cap6]) rfl rfl rfl rfl rfl (by repeat' (first | exact List.forall_mem_nil _ | refine List.forall_mem_cons.2 ⟨?_, ?_⟩ | rfl)) (fun H9 hS10 ho11 hk12 => ?_)
  have fo13 := hS0.fnone (Nat.le_refl _)
  have hlon01 := hS10.lo
  have lt14 : n0 < (n0 + 1) := by omega
  refine WL.assign .nil rfl rfl rfl rfl ?_
  with_reducible refine WL.nil ?_
  with_reducible refine Ex.thn_norm ?_
  with_reducible refine W.seq ?_
  with_reducible refine W.region ?_
  refine WL.fieldAddr .nil rfl rfl rfl Try.underlying38 rfl info35 rfl rfl ?_
  refine WL.load1 .nil rfl rfl rfl Try.underlying35 rfl rfl ho11 rfl ?_
  refine WL.move .nil rfl rfl rfl rfl ?_
  obtain ⟨x15, hx15, hr⟩ := bnd_some hr
  refine GL.callP g.good .nil rfl rfl rfl rfl rfl rfl Try.func31 rfl rfl hS10.lo (f_laws_szFileS_k  g hS10 h4 hx15) (fun v n16 H17 hn18 hk19 hp20 => ?_)
  obtain ⟨hS21, rfl⟩ := hp20
  have ho22 := (hk19 _ (by have := lt14; omega)).trans ho11
  have hS23 : St n0 n16 H17 F0 := ⟨by have := hS10.lo; omega, hS21.hb, hS21.fh⟩
  have hlon16 := hS23.lo
  refine WL.assign .nil rfl rfl rfl rfl ?_
  with_reducible refine WL.nil ?_
  with_reducible refine Ex.thn_norm ?_
  with_reducible refine W.seq ?_
  with_reducible refine W.seq ?_
  with_reducible refine W.region ?_
  refine WL.move .nil rfl rfl rfl rfl ?_
  refine WL.bin .nil rfl rfl rfl rfl rfl rfl ?_
  with_reducible refine WL.nil ?_
  with_reducible refine Ex.thn_norm ?_
  refine W.condD rfl (fun hc25 => ?_) (fun hc25 => ?_)
  · replace hr := ite_pos hr hc25
    with_reducible refine W.seq ?_
    with_reducible refine W.region ?_
    refine WL.assign .nil rfl rfl rfl rfl ?_
    with_reducible refine WL.nil ?_
    with_reducible refine Ex.thn_norm ?_
    with_reducible refine W.ret ?_
    with_reducible refine Ex.thn_ret ?_
    obtain rfl := Option.some.inj hr
    exact ⟨.inr rfl, _, (.cons (.tmp rfl) .nil), ⟨(Ext.st hE0 hS23), rfl⟩⟩
  · replace hr := ite_neg hr hc25
    with_reducible refine W.skip ?_
    with_reducible refine Ex.thn_norm ?_
    with_reducible refine W.seq ?_
    with_reducible refine W.region ?_
    refine WL.fieldAddr .nil rfl rfl rfl Try.underlying38 rfl info36 rfl rfl ?_
    refine WL.load1 .nil rfl rfl rfl Try.underlying36 rfl rfl ho22 rfl ?_
    refine WL.move .nil rfl rfl rfl rfl ?_
    obtain ⟨x26, hx26, hr⟩ := bnd_some hr
    refine GL.callP g.good .nil rfl rfl rfl rfl rfl rfl Try.func32 rfl rfl hS23.lo (f_laws_szSessionS_k  g hS23 h7 hx26) (fun v n27 H28 hn29 hk30 hp31 => ?_)
    obtain ⟨hS32, rfl⟩ := hp31
    have ho33 := (hk30 _ (by have := lt14; omega)).trans ho22
    have hS34 : St n0 n27 H28 F0 := ⟨by have := hS23.lo; omega, hS32.hb, hS32.fh⟩
    have hlon27 := hS34.lo
    refine WL.assign .nil rfl rfl rfl rfl ?_
    with_reducible refine WL.nil ?_
    with_reducible refine Ex.thn_norm ?_
    with_reducible refine W.seq ?_
    with_reducible refine W.seq ?_
    with_reducible refine W.region ?_
    refine WL.move .nil rfl rfl rfl rfl ?_
    refine WL.bin .nil rfl rfl rfl rfl rfl rfl ?_
    with_reducible refine WL.nil ?_
    with_reducible refine Ex.thn_norm ?_
    refine W.condD rfl (fun hc35 => ?_) (fun hc35 => ?_)
    · replace hr := ite_pos hr hc35
      with_reducible refine W.seq ?_
      with_reducible refine W.region ?_
      refine WL.assign .nil rfl rfl rfl rfl ?_
      with_reducible refine WL.nil ?_
      with_reducible refine Ex.thn_norm ?_
      with_reducible refine W.ret ?_
      with_reducible refine Ex.thn_ret ?_
      obtain rfl := Option.some.inj hr
      exact ⟨.inr rfl, _, (.cons (.tmp rfl) .nil), ⟨(Ext.st hE0 hS34), rfl⟩⟩
    · replace hr := ite_neg hr hc35
      with_reducible refine W.skip ?_
      with_reducible refine Ex.thn_norm ?_
      with_reducible refine W.seq ?_
      with_reducible refine W.region ?_
      refine WL.move .nil rfl rfl rfl rfl ?_
      refine WL.assign .nil rfl rfl rfl rfl ?_
      with_reducible refine WL.nil ?_
      with_reducible refine Ex.thn_norm ?_
      with_reducible refine W.ret ?_
      obtain rfl := Option.some.inj hr
      exact ⟨.inr rfl, _, (.cons (.tmp rfl) .nil), ⟨(Ext.st hE0 hS34), rfl⟩⟩
theorem f_laws_toFile_k {Δ : Prims} (g : Env Try.prog Δ) {lo n0 : Nat} {H0 F0 : Heap} (hS : St lo n0 H0 F0) {x1 : GFile} {res : (GFile)} (hr : f_laws_toFile x1 = some res) :
    C Try.prog Δ n0 56 [.agg [str x1.Name, .int .i64 x1.Version, str x1.Text].toArray] n0 H0 (fun v n H => St n0 n H F0 ∧ v = .agg [str res.Name, .int .i64 res.Version, str res.Text].toArray) := by
  refine C.body Try.func56 rfl rfl ?_
  unfold f_laws_toFile at hr
  have hS0 : St n0 n0 H0 F0 := hS.low (Nat.le_refl _)
  have hE0 := Ext.refl n0 F0
  have hlo0 := hS0.lo
  with_reducible refine W.seq ?_
  with_reducible refine W.region ?_
  refine GL.box hS0 .nil (vc := [str x1.Name, .int .i64 x1.Version, str x1.Text]) rfl rfl rfl rfl rfl (by repeat' (first | exact List.forall_mem_nil _ | refine List.forall_mem_cons.2 ⟨?_, ?_⟩ | rfl)) (fun H2 hS3 ho4 hk5 => ?_)
  have fo6 := hS0.fnone (Nat.le_refl _)
  have hlon01 := hS3.lo
  have lt7 : n0 < (n0 + 1) := by omega
  refine GL.alloc hS3 .nil (zc := [str ([] : List UInt8), .int .i64 0, str ([] : List UInt8)]) rfl rfl rfl info50 rfl rfl rfl (fun H8 hS9 ho10 hk11 => ?_)
  have fo12 := hS3.fnone (Nat.le_refl _)
  have ho14 := (hk11 _ (by have := lt7; omega)).trans ho4
  have hlon011 := hS9.lo
  have lt13 : (n0 + 1) < ((n0 + 1) + 1) := by omega
  with_reducible refine WL.nil ?_
  with_reducible refine Ex.thn_norm ?_
  with_reducible refine W.seq ?_
  with_reducible refine W.region ?_
  refine GL.alloc hS9 .nil (zc := [str ([] : List UInt8), .int .i64 0, str ([] : List UInt8)]) rfl rfl rfl info50 rfl rfl rfl (fun H15 hS16 ho17 hk18 => ?_)
  have fo19 := hS9.fnone (Nat.le_refl _)
  have ho21 := (hk18 _ (by have := lt7; omega)).trans ho14
  have ho22 := (hk18 _ (by have := lt13; omega)).trans ho10
  have hlon0111 := hS16.lo
  have lt20 : ((n0 + 1) + 1) < (((n0 + 1) + 1) + 1) := by omega
  with_reducible refine WL.nil ?_
  with_reducible refine Ex.thn_norm ?_
  with_reducible refine W.seq ?_
  with_reducible refine W.region ?_
  refine WL.fieldAddr .nil rfl rfl rfl Try.underlying87 rfl info9 rfl rfl ?_
  refine WL.load1 .nil rfl rfl rfl Try.underlying9 rfl rfl ho21 rfl ?_
  refine WL.fieldAddr .nil rfl rfl rfl Try.underlying50 rfl info9 rfl rfl ?_
  refine GL.store hS16 .nil (vc := [str x1.Name]) (c' := [str x1.Name, .int .i64 0, str ([] : List UInt8)]) rfl rfl rfl info9 rfl rfl rfl rfl ho17 fo19 (Nat.le_of_ble_eq_true rfl) (by omega) (by repeat' (first | exact List.forall_mem_nil _ | refine List.forall_mem_cons.2 ⟨?_, ?_⟩ | rfl)) rfl (fun H23 hS24 ho25 hk26 => ?_)
  have ho27 := (hk26 _ (by omega)).trans ho21
  have ho28 := (hk26 _ (by omega)).trans ho22
  with_reducible refine WL.nil ?_
  with_reducible refine Ex.thn_norm ?_
  with_reducible refine W.seq ?_
  with_reducible refine W.region ?_
  refine WL.fieldAddr .nil rfl rfl rfl Try.underlying87 rfl info3 rfl rfl ?_
  refine WL.load1 .nil rfl rfl rfl Try.underlying3 rfl rfl ho27 rfl ?_
  refine WL.fieldAddr .nil rfl rfl rfl Try.underlying50 rfl info3 rfl rfl ?_
  refine GL.store hS24 .nil (vc := [.int .i64 x1.Version]) (c' := [str x1.Name, .int .i64 x1.Version, str ([] : List UInt8)]) rfl rfl rfl info3 rfl rfl rfl rfl ho25 fo19 (Nat.le_of_ble_eq_true rfl) (by omega) (by repeat' (first | exact List.forall_mem_nil _ | refine List.forall_mem_cons.2 ⟨?_, ?_⟩ | rfl)) rfl (fun H29 hS30 ho31 hk32 => ?_)
  have ho33 := (hk32 _ (by omega)).trans ho27
  have ho34 := (hk32 _ (by omega)).trans ho28
  with_reducible refine WL.nil ?_
  with_reducible refine Ex.thn_norm ?_
  with_reducible refine W.seq ?_
  with_reducible refine W.region ?_
  refine WL.fieldAddr .nil rfl rfl rfl Try.underlying87 rfl info9 rfl rfl ?_
  refine WL.load1 .nil rfl rfl rfl Try.underlying9 rfl rfl ho33 rfl ?_
  refine WL.fieldAddr .nil rfl rfl rfl Try.underlying50 rfl info9 rfl rfl ?_
  refine GL.store hS30 .nil (vc := [str x1.Text]) (c' := [str x1.Name, .int .i64 x1.Version, str x1.Text]) rfl rfl rfl info9 rfl rfl rfl rfl ho31 fo19 (Nat.le_of_ble_eq_true rfl) (by omega) (by repeat' (first | exact List.forall_mem_nil _ | refine List.forall_mem_cons.2 ⟨?_, ?_⟩ | rfl)) rfl (fun H35 hS36 ho37 hk38 => ?_)
  have ho39 := (hk38 _ (by omega)).trans ho33
  have ho40 := (hk38 _ (by omega)).trans ho34
  with_reducible refine WL.nil ?_
  with_reducible refine Ex.thn_norm ?_
  with_reducible refine W.seq ?_
  with_reducible refine W.region ?_
  refine WL.loadN .nil (l' := [str x1.Name, .int .i64 x1.Version, str x1.Text]) rfl rfl rfl Try.underlying50 rfl info50 rfl ho37 rfl rfl ?_
  refine GL.store hS36 .nil (vc := [str x1.Name, .int .i64 x1.Version, str x1.Text]) (c' := [str x1.Name, .int .i64 x1.Version, str x1.Text]) rfl rfl rfl info50 rfl rfl rfl rfl ho40 fo12 (Nat.le_of_ble_eq_true rfl) (by omega) (by repeat' (first | exact List.forall_mem_nil _ | refine List.forall_mem_cons.2 ⟨?_, ?_⟩ | rfl)) rfl (fun H41 hS42 ho43 hk44 => ?_)
  have ho45 := (hk44 _ (by omega)).trans ho39
  have ho46 := (hk44 _ (by omega)).trans ho37
  with_reducible refine WL.nil ?_
  with_reducible refine Ex.thn_norm ?_
  with_reducible refine W.ret ?_
  obtain rfl := Option.some.inj hr
  exact ⟨.inr rfl, _, (.cons (.cellN (l := [str x1.Name, .int .i64 x1.Version, str x1.Text]) rfl Try.underlying50 rfl info50 ho43 rfl rfl) .nil), ⟨(Ext.st hE0 hS42), rfl⟩⟩
theorem f_laws_toFileS_k {Δ : Prims} (g : Env Try.prog Δ) {lo n0 : Nat} {H0 F0 : Heap} (hS : St lo n0 H0 F0) {a2 : Option Addr} {cap3 : Nat} {xs1 : (List GFile)} (h4 : SR F0 (.slice a2 xs1.length cap3) xs1) {res : ((List GFile))} (hr : f_laws_toFileS xs1 = some res) :
    C Try.prog Δ n0 35 [.slice a2 xs1.length cap3] n0 H0 (fun v n H => ∃ (ra1 : Option Addr) (rcap2 : Nat), St n0 n H F0 ∧ v = .slice ra1 res.length rcap2 ∧ OW n0 n H F0 (.slice ra1 res.length rcap2) res) := by
  refine C.body Try.func35 rfl rfl ?_
  unfold f_laws_toFileS at hr
  have hS0 : St n0 n0 H0 F0 := hS.low (Nat.le_refl _)
  have hE0 := Ext.refl n0 F0
  have hlo0 := hS0.lo
  with_reducible refine W.seq ?_
  with_reducible refine W.region ?_
  refine WL.assign .nil rfl rfl rfl rfl ?_
  with_reducible refine WL.nil ?_
  with_reducible refine Ex.thn_norm ?_
  with_reducible refine W.seq ?_
  with_reducible refine W.region ?_
  refine WL.move .nil rfl rfl rfl rfl ?_
  refine WL.len .nil rfl rfl rfl Try.underlying35 rfl ?_
  obtain ⟨hc5, hr⟩ := chk_some hr
  refine GL.make (α := GFile) (u := ({ Name := ([] : List UInt8), Version := 0, Text := ([] : List UInt8) } : GFile)) hS0 .nil rfl rfl rfl Try.underlying23 info50 rfl rfl (by decide) rfl (by decide) rfl rfl rfl (GFile.zeroR _) hc5.1 hc5.2 (fun H6 hS7 hO8 hk9 => ?_)
  have h10 := OW.lower (lo' := n0) hO8 (by omega)
  have hlon01 := hS7.lo
  refine WL.assign .nil rfl rfl rfl rfl ?_
  with_reducible refine WL.nil ?_
  with_reducible refine Ex.thn_norm ?_
  with_reducible refine W.seq ?_
  with_reducible refine W.seq ?_
  with_reducible refine W.region ?_
  refine WL.assign .nil rfl rfl rfl rfl ?_
  with_reducible refine WL.nil ?_
  with_reducible refine Ex.thn_norm ?_
  with_reducible refine W.block ?_
  refine W.loopF (fun k0 fr n H => ∃ (xs177 : (List GFile)) (x180 : Int) (F : Heap), fr = [(0, .slice a2 xs1.length cap3), (3, .slice (some ⟨n0, 0, none⟩) (List.replicate (xs1.length : Int).toNat (({ Name := ([] : List UInt8), Version := 0, Text := ([] : List UInt8) } : GFile) : GFile)).length ((xs1.length : Int).toNat)), (4, .int .i64 x180)] ∧ St n0 n H F ∧ Ext n0 F0 n F ∧ SR F (.slice a2 xs1.length cap3) xs1 ∧ OW n0 n H F (.slice (some ⟨n0, 0, none⟩) (List.replicate (xs1.length : Int).toNat (({ Name := ([] : List UInt8), Version := 0, Text := ([] : List UInt8) } : GFile) : GFile)).length ((xs1.length : Int).toNat)) xs177 ∧ (List.replicate (xs1.length : Int).toNat (({ Name := ([] : List UInt8), Version := 0, Text := ([] : List UInt8) } : GFile) : GFile)).length = xs177.length ∧ f_laws_toFileS_L0 xs1 k0 xs177 x180 = some res) BIG (fr0 := [(0, .slice a2 xs1.length cap3), (3, .slice (some ⟨n0, 0, none⟩) (List.replicate (xs1.length : Int).toNat (({ Name := ([] : List UInt8), Version := 0, Text := ([] : List UInt8) } : GFile) : GFile)).length ((xs1.length : Int).toNat)), (4, .int .i64 0)]) (Fr.le_cons rfl (Fr.le_cons rfl (Fr.le_cons rfl Fr.le_nil))) ?_ ?_ ?_
  · exact ⟨(List.replicate (xs1.length : Int).toNat (({ Name := ([] : List UInt8), Version := 0, Text := ([] : List UInt8) } : GFile) : GFile)), 0, F0, rfl, hS7, (hE0.up (by omega)), h4, h10, rfl, hr⟩
  · intro fr n H hI
    obtain ⟨xs177, x180, F173, hfr, hS174, hE175, h176, h178, hl179, hr⟩ := hI
    rw [f_laws_toFileS_L0] at hr
    cases hr
  · intro k0 _ n171 H172 hI
    obtain ⟨xs177, x180, F173, rfl, hS174, hE175, h176, h178, hl179, hr⟩ := hI
    have hlen171 := hE175.le
    have hlon171 := hS174.lo
    rw [f_laws_toFileS_L0] at hr
    with_reducible refine W.seq ?_
    with_reducible refine W.seq ?_
    with_reducible refine W.region ?_
    refine WL.move .nil rfl rfl rfl rfl ?_
    refine WL.move .nil rfl rfl rfl rfl ?_
    refine WL.len .nil rfl rfl rfl Try.underlying35 rfl ?_
    refine WL.bin .nil rfl rfl rfl rfl rfl rfl ?_
    with_reducible refine WL.nil ?_
    with_reducible refine Ex.thn_norm ?_
    refine W.condD rfl (fun hc182 => ?_) (fun hc182 => ?_)
    · replace hr := ite_pos hr hc182
      with_reducible refine W.skip ?_
      with_reducible refine Ex.thn_norm ?_
      with_reducible refine W.seq ?_
      with_reducible refine W.block ?_
      with_reducible refine W.region ?_
      refine WL.move .nil rfl rfl rfl rfl ?_
      refine WL.move .nil rfl rfl rfl rfl ?_
      refine WL.move .nil rfl rfl rfl rfl ?_
      refine WL.move .nil rfl rfl rfl rfl ?_
      obtain ⟨x217, hx217, hr⟩ := bnd_some hr
      refine GL.index .nil rfl rfl rfl Try.underlying35 info87 rfl rfl h176 hS174.fh rfl hx217 (fun b218 kp219 c220 ecs221 hrow222 hwin223 hR224 => ?_)
      obtain ⟨rfl⟩ := GFile.ofR hR224
      refine WL.loadN .nil (l' := [str x217.Name, .int .i64 x217.Version, str x217.Text]) rfl rfl rfl Try.underlying87 rfl info87 rfl hrow222 hwin223 rfl ?_
      obtain ⟨x225, hx225, hr⟩ := bnd_some hr
      have hb231 := fun b hb => (OW.id_lt (i := b) h178 hb).2
      refine GL.callP g.good .nil rfl rfl rfl rfl rfl rfl Try.func56 rfl rfl hS174.lo (f_laws_toFile_k  g hS174 hx225) (fun v n226 H227 hn228 hk229 hp230 => ?_)
      obtain ⟨hS232, rfl⟩ := hp230
      have h233 := OW.keep (n' := n226) h178 (by omega) (fun i hi => hk229 i (OW.id_lt h178 hi).2)
      have hS234 : St n0 n226 H227 F173 := ⟨by have := hS174.lo; omega, hS232.hb, hS232.fh⟩
      have hlon226 := hS234.lo
      obtain ⟨x235, hx235, hr⟩ := bnd_some hr
      refine GL.indexO .nil rfl rfl rfl Try.underlying23 info50 rfl rfl h233 rfl hx235 (fun b236 kp237 c238 ecs239 hid243 hrow240 hwin241 hR242 hup244 => ?_)
      obtain ⟨rfl⟩ := GFile.ofR hR242
      refine GL.store hS234 .nil (vc := [str x225.Name, .int .i64 x225.Version, str x225.Text]) rfl rfl rfl info50 rfl rfl rfl rfl hrow240 (OW.fnone h233 hid243) (by first | exact win_fit hwin241 (Nat.le_of_ble_eq_true rfl) rfl (Nat.le_of_ble_eq_true rfl) | exact win_fit2 hwin241 (Nat.le_of_ble_eq_true rfl) rfl (Nat.le_of_ble_eq_true rfl) | exact win_fit3 hwin241 (Nat.le_of_ble_eq_true rfl) rfl (Nat.le_of_ble_eq_true rfl)) (OW.id_lt h233 hid243).1 (by repeat' (first | exact List.forall_mem_nil _ | refine List.forall_mem_cons.2 ⟨?_, ?_⟩ | rfl)) rfl (fun H245 hS246 ho247 hk248 => ?_)
      have h249 := hup244 0 [str x225.Name, .int .i64 x225.Version, str x225.Text] (({ Name := x225.Name, Version := x225.Version, Text := x225.Text } : GFile) : GFile) H245 (Nat.le_of_ble_eq_true rfl) (GFile.toR (x := ({ Name := x225.Name, Version := x225.Version, Text := x225.Text } : GFile))) ho247
      have hl250 : (List.replicate (xs1.length : Int).toNat (({ Name := ([] : List UInt8), Version := 0, Text := ([] : List UInt8) } : GFile) : GFile)).length = (setI xs177 x180 ({ Name := x225.Name, Version := x225.Version, Text := x225.Text } : GFile)).length := hl179.trans (setI_length _ _ _).symm
      with_reducible refine WL.nil ?_
      with_reducible refine Ex.blk_norm ?_
      with_reducible refine Ex.thn_norm ?_
      with_reducible refine W.region ?_
      refine WL.move .nil rfl rfl rfl rfl ?_
      obtain ⟨hc251, hr⟩ := chk_some hr
      refine WL.addI .nil rfl rfl rfl rfl rfl hc251.1 hc251.2 ?_
      refine WL.assign .nil rfl rfl rfl rfl ?_
      with_reducible refine WL.nil ?_
      with_reducible refine Ex.thn_norm ?_
      exact ⟨[(0, .slice a2 xs1.length cap3), (3, .slice (some ⟨n0, 0, none⟩) (List.replicate (xs1.length : Int).toNat (({ Name := ([] : List UInt8), Version := 0, Text := ([] : List UInt8) } : GFile) : GFile)).length ((xs1.length : Int).toNat)), (4, .int .i64 (x180 + 1))], (Fr.le_cons rfl (Fr.le_cons rfl (Fr.le_cons rfl Fr.le_nil))), (setI xs177 x180 ({ Name := x225.Name, Version := x225.Version, Text := x225.Text } : GFile)), (x180 + 1), F173, rfl, hS246, (hE175.up (by omega)), h176, h249, hl250, hr⟩
    · replace hr := ite_neg hr hc182
      with_reducible refine W.exit ?_
      with_reducible refine Ex.thn_ex ?_
      with_reducible refine Ex.thn_ex ?_
      with_reducible refine Ex.blk_here ?_
      with_reducible refine Ex.thn_norm ?_
      with_reducible refine W.seq ?_
      with_reducible refine W.region ?_
      refine WL.move .nil rfl rfl rfl rfl ?_
      refine WL.assign .nil rfl rfl rfl rfl ?_
      with_reducible refine WL.nil ?_
      with_reducible refine Ex.thn_norm ?_
      with_reducible refine W.ret ?_
      obtain rfl := Option.some.inj hr
      exact ⟨.inr rfl, _, (.cons (.tmp rfl) .nil), ⟨(some ⟨n0, 0, none⟩), (xs1.length : Int).toNat, (Ext.st hE175 hS174), (by rw [← hl179]; rfl), (OW.downFl hE175.sub (OW.head hl179 h178))⟩⟩
theorem f_laws_toReply_k {Δ : Prims} (g : Env Try.prog Δ) {lo n0 : Nat} {H0 F0 : Heap} (hS : St lo n0 H0 F0) {x1 : GReply} {res : (GReply)} (hr : f_laws_toReply x1 = some res) :
    C Try.prog Δ n0 71 [.agg [.int .i64 x1.Code, .int .i64 x1.Version, str x1.Sha].toArray] n0 H0 (fun v n H => St n0 n H F0 ∧ v = .agg [.int .i64 res.Code, .int .i64 res.Version, str res.Sha].toArray) := by
  refine C.body Try.func71 rfl rfl ?_
  unfold f_laws_toReply at hr
  have hS0 : St n0 n0 H0 F0 := hS.low (Nat.le_refl _)
  have hE0 := Ext.refl n0 F0
  have hlo0 := hS0.lo
  with_reducible refine W.seq ?_
  with_reducible refine W.region ?_
  refine GL.box hS0 .nil (vc := [.int .i64 x1.Code, .int .i64 x1.Version, str x1.Sha]) rfl rfl rfl rfl rfl (by repeat' (first | exact List.forall_mem_nil _ | refine List.forall_mem_cons.2 ⟨?_, ?_⟩ | rfl)) (fun H2 hS3 ho4 hk5 => ?_)
  have fo6 := hS0.fnone (Nat.le_refl _)
  have hlon01 := hS3.lo
  have lt7 : n0 < (n0 + 1) := by omega
  refine GL.alloc hS3 .nil (zc := [.int .i64 0, .int .i64 0, str ([] : List UInt8)]) rfl rfl rfl info52 rfl rfl rfl (fun H8 hS9 ho10 hk11 => ?_)
  have fo12 := hS3.fnone (Nat.le_refl _)
  have ho14 := (hk11 _ (by have := lt7; omega)).trans ho4
  have hlon011 := hS9.lo
  have lt13 : (n0 + 1) < ((n0 + 1) + 1) := by omega
  with_reducible refine WL.nil ?_
  with_reducible refine Ex.thn_norm ?_
  with_reducible refine W.seq ?_
  with_reducible refine W.region ?_
  refine GL.alloc hS9 .nil (zc := [.int .i64 0, .int .i64 0, str ([] : List UInt8)]) rfl rfl rfl info52 rfl rfl rfl (fun H15 hS16 ho17 hk18 => ?_)
  have fo19 := hS9.fnone (Nat.le_refl _)
  have ho21 := (hk18 _ (by have := lt7; omega)).trans ho14
  have ho22 := (hk18 _ (by have := lt13; omega)).trans ho10
  have hlon0111 := hS16.lo
  have lt20 : ((n0 + 1) + 1) < (((n0 + 1) + 1) + 1) := by omega
  with_reducible refine WL.nil ?_
  with_reducible refine Ex.thn_norm ?_
  with_reducible refine W.seq ?_
  with_reducible refine W.region ?_
  refine WL.fieldAddr .nil rfl rfl rfl Try.underlying89 rfl info3 rfl rfl ?_
  refine WL.load1 .nil rfl rfl rfl Try.underlying3 rfl rfl ho21 rfl ?_
  refine WL.fieldAddr .nil rfl rfl rfl Try.underlying52 rfl info3 rfl rfl ?_
  refine GL.store hS16 .nil (vc := [.int .i64 x1.Code]) (c' := [.int .i64 x1.Code, .int .i64 0, str ([] : List UInt8)]) rfl rfl rfl info3 rfl rfl rfl rfl ho17 fo19 (Nat.le_of_ble_eq_true rfl) (by omega) (by repeat' (first | exact List.forall_mem_nil _ | refine List.forall_mem_cons.2 ⟨?_, ?_⟩ | rfl)) rfl (fun H23 hS24 ho25 hk26 => ?_)
  have ho27 := (hk26 _ (by omega)).trans ho21
  have ho28 := (hk26 _ (by omega)).trans ho22
  with_reducible refine WL.nil ?_
  with_reducible refine Ex.thn_norm ?_
  with_reducible refine W.seq ?_
  with_reducible refine W.region ?_
  refine WL.fieldAddr .nil rfl rfl rfl Try.underlying89 rfl info3 rfl rfl ?_
  refine WL.load1 .nil rfl rfl rfl Try.underlying3 rfl rfl ho27 rfl ?_
  refine WL.fieldAddr .nil rfl rfl rfl Try.underlying52 rfl info3 rfl rfl ?_
  refine GL.store hS24 .nil (vc := [.int .i64 x1.Version]) (c' := [.int .i64 x1.Code, .int .i64 x1.Version, str ([] : List UInt8)]) rfl rfl rfl info3 rfl rfl rfl rfl ho25 fo19 (Nat.le_of_ble_eq_true rfl) (by omega) (by repeat' (first | exact List.forall_mem_nil _ | refine List.forall_mem_cons.2 ⟨?_, ?_⟩ | rfl)) rfl (fun H29 hS30 ho31 hk32 => ?_)
  have ho33 := (hk32 _ (by omega)).trans ho27
  have ho34 := (hk32 _ (by omega)).trans ho28
  with_reducible refine WL.nil ?_
  with_reducible refine Ex.thn_norm ?_
  with_reducible refine W.seq ?_
  with_reducible refine W.region ?_
  refine WL.fieldAddr .nil rfl rfl rfl Try.underlying89 rfl info9 rfl rfl ?_
  refine WL.load1 .nil rfl rfl rfl Try.underlying9 rfl rfl ho33 rfl ?_
  refine WL.fieldAddr .nil rfl rfl rfl Try.underlying52 rfl info9 rfl rfl ?_
  refine GL.store hS30 .nil (vc := [str x1.Sha]) (c' := [.int .i64 x1.Code, .int .i64 x1.Version, str x1.Sha]) rfl rfl rfl info9 rfl rfl rfl rfl ho31 fo19 (Nat.le_of_ble_eq_true rfl) (by omega) (by repeat' (first | exact List.forall_mem_nil _ | refine List.forall_mem_cons.2 ⟨?_, ?_⟩ | rfl)) rfl (fun H35 hS36 ho37 hk38 => ?_)
  have ho39 := (hk38 _ (by omega)).trans ho33
  have ho40 := (hk38 _ (by omega)).trans ho34
  with_reducible refine WL.nil ?_
  with_reducible refine Ex.thn_norm ?_
  with_reducible refine W.seq ?_
  with_reducible refine W.region ?_
  refine WL.loadN .nil (l' := [.int .i64 x1.Code, .int .i64 x1.Version, str x1.Sha]) rfl rfl rfl Try.underlying52 rfl info52 rfl ho37 rfl rfl ?_
  refine GL.store hS36 .nil (vc := [.int .i64 x1.Code, .int .i64 x1.Version, str x1.Sha]) (c' := [.int .i64 x1.Code, .int .i64 x1.Version, str x1.Sha]) rfl rfl rfl info52 rfl rfl rfl rfl ho40 fo12 (Nat.le_of_ble_eq_true rfl) (by omega) (by repeat' (first | exact List.forall_mem_nil _ | refine List.forall_mem_cons.2 ⟨?_, ?_⟩ | rfl)) rfl (fun H41 hS42 ho43 hk44 => ?_)
  have ho45 := (hk44 _ (by omega)).trans ho39
  have ho46 := (hk44 _ (by omega)).trans ho37
  with_reducible refine WL.nil ?_
  with_reducible refine Ex.thn_norm ?_
  with_reducible refine W.ret ?_
  obtain rfl := Option.some.inj hr
  exact ⟨.inr rfl, _, (.cons (.cellN (l := [.int .i64 x1.Code, .int .i64 x1.Version, str x1.Sha]) rfl Try.underlying52 rfl info52 ho43 rfl rfl) .nil), ⟨(Ext.st hE0 hS42), rfl⟩⟩
theorem f_laws_toSession_k {Δ : Prims} (g : Env Try.prog Δ) {lo n0 : Nat} {H0 F0 : Heap} (hS : St lo n0 H0 F0) {x1 : GSession} {res : (GSession)} (hr : f_laws_toSession x1 = some res) :
    C Try.prog Δ n0 57 [.agg [.int .i64 x1.Client, .int .i64 x1.Seq, .int .i64 x1.Reply.Code, .int .i64 x1.Reply.Version, str x1.Reply.Sha].toArray] n0 H0 (fun v n H => St n0 n H F0 ∧ v = .agg [.int .i64 res.Client, .int .i64 res.Seq, .int .i64 res.Reply.Code, .int .i64 res.Reply.Version, str res.Reply.Sha].toArray) := by
  refine C.body Try.func57 rfl rfl ?_
  unfold f_laws_toSession at hr
  have hS0 : St n0 n0 H0 F0 := hS.low (Nat.le_refl _)
  have hE0 := Ext.refl n0 F0
  have hlo0 := hS0.lo
  with_reducible refine W.seq ?_
  with_reducible refine W.region ?_
  refine GL.box hS0 .nil (vc := [.int .i64 x1.Client, .int .i64 x1.Seq, .int .i64 x1.Reply.Code, .int .i64 x1.Reply.Version, str x1.Reply.Sha]) rfl rfl rfl rfl rfl (by repeat' (first | exact List.forall_mem_nil _ | refine List.forall_mem_cons.2 ⟨?_, ?_⟩ | rfl)) (fun H2 hS3 ho4 hk5 => ?_)
  have fo6 := hS0.fnone (Nat.le_refl _)
  have hlon01 := hS3.lo
  have lt7 : n0 < (n0 + 1) := by omega
  refine GL.alloc hS3 .nil (zc := [.int .i64 0, .int .i64 0, .int .i64 0, .int .i64 0, str ([] : List UInt8)]) rfl rfl rfl info54 rfl rfl rfl (fun H8 hS9 ho10 hk11 => ?_)
  have fo12 := hS3.fnone (Nat.le_refl _)
  have ho14 := (hk11 _ (by have := lt7; omega)).trans ho4
  have hlon011 := hS9.lo
  have lt13 : (n0 + 1) < ((n0 + 1) + 1) := by omega
  with_reducible refine WL.nil ?_
  with_reducible refine Ex.thn_norm ?_
  with_reducible refine W.seq ?_
  with_reducible refine W.region ?_
  refine GL.alloc hS9 .nil (zc := [.int .i64 0, .int .i64 0, .int .i64 0, .int .i64 0, str ([] : List UInt8)]) rfl rfl rfl info54 rfl rfl rfl (fun H15 hS16 ho17 hk18 => ?_)
  have fo19 := hS9.fnone (Nat.le_refl _)
  have ho21 := (hk18 _ (by have := lt7; omega)).trans ho14
  have ho22 := (hk18 _ (by have := lt13; omega)).trans ho10
  have hlon0111 := hS16.lo
  have lt20 : ((n0 + 1) + 1) < (((n0 + 1) + 1) + 1) := by omega
  with_reducible refine WL.nil ?_
  with_reducible refine Ex.thn_norm ?_
  with_reducible refine W.seq ?_
  with_reducible refine W.region ?_
  refine WL.fieldAddr .nil rfl rfl rfl Try.underlying91 rfl info3 rfl rfl ?_
  refine WL.load1 .nil rfl rfl rfl Try.underlying3 rfl rfl ho21 rfl ?_
  refine WL.fieldAddr .nil rfl rfl rfl Try.underlying54 rfl info3 rfl rfl ?_
  refine GL.store hS16 .nil (vc := [.int .i64 x1.Client]) (c' := [.int .i64 x1.Client, .int .i64 0, .int .i64 0, .int .i64 0, str ([] : List UInt8)]) rfl rfl rfl info3 rfl rfl rfl rfl ho17 fo19 (Nat.le_of_ble_eq_true rfl) (by omega) (by repeat' (first | exact List.forall_mem_nil _ | refine List.forall_mem_cons.2 ⟨?_, ?_⟩ | rfl)) rfl (fun H23 hS24 ho25 hk26 => ?_)
  have ho27 := (hk26 _ (by omega)).trans ho21
  have ho28 := (hk26 _ (by omega)).trans ho22
  with_reducible refine WL.nil ?_
  with_reducible refine Ex.thn_norm ?_
  with_reducible refine W.seq ?_
  with_reducible refine W.region ?_
  refine WL.fieldAddr .nil rfl rfl rfl Try.underlying91 rfl info3 rfl rfl ?_
  refine WL.load1 .nil rfl rfl rfl Try.underlying3 rfl rfl ho27 rfl ?_
  refine WL.fieldAddr .nil rfl rfl rfl Try.underlying54 rfl info3 rfl rfl ?_
  refine GL.store hS24 .nil (vc := [.int .i64 x1.Seq]) (c' := [.int .i64 x1.Client, .int .i64 x1.Seq, .int .i64 0, .int .i64 0, str ([] : List UInt8)]) rfl rfl rfl info3 rfl rfl rfl rfl ho25 fo19 (Nat.le_of_ble_eq_true rfl) (by omega) (by repeat' (first | exact List.forall_mem_nil _ | refine List.forall_mem_cons.2 ⟨?_, ?_⟩ | rfl)) rfl (fun H29 hS30 ho31 hk32 => ?_)
  have ho33 := (hk32 _ (by omega)).trans ho27
  have ho34 := (hk32 _ (by omega)).trans ho28
  with_reducible refine WL.nil ?_
  with_reducible refine Ex.thn_norm ?_
  with_reducible refine W.seq ?_
  with_reducible refine W.region ?_
  refine WL.fieldAddr .nil rfl rfl rfl Try.underlying91 rfl info89 rfl rfl ?_
  refine WL.loadN .nil (l' := [.int .i64 x1.Reply.Code, .int .i64 x1.Reply.Version, str x1.Reply.Sha]) rfl rfl rfl Try.underlying89 rfl info89 rfl ho33 rfl rfl ?_
  obtain ⟨x35, hx35, hr⟩ := bnd_some hr
  refine GL.callP g.good .nil rfl rfl rfl rfl rfl rfl Try.func71 rfl rfl hS30.lo (f_laws_toReply_k  g hS30 hx35) (fun v n36 H37 hn38 hk39 hp40 => ?_)
  obtain ⟨hS41, rfl⟩ := hp40
  have ho42 := (hk39 _ (by have := lt7; omega)).trans ho33
  have ho43 := (hk39 _ (by have := lt13; omega)).trans ho34
  have ho44 := (hk39 _ (by have := lt20; omega)).trans ho31
  have hS45 : St n0 n36 H37 F0 := ⟨by have := hS30.lo; omega, hS41.hb, hS41.fh⟩
  have hlon36 := hS45.lo
  refine WL.fieldAddr .nil rfl rfl rfl Try.underlying54 rfl info52 rfl rfl ?_
  refine GL.store hS45 .nil (vc := [.int .i64 x35.Code, .int .i64 x35.Version, str x35.Sha]) (c' := [.int .i64 x1.Client, .int .i64 x1.Seq, .int .i64 x35.Code, .int .i64 x35.Version, str x35.Sha]) rfl rfl rfl info52 rfl rfl rfl rfl ho44 fo19 (Nat.le_of_ble_eq_true rfl) (by omega) (by repeat' (first | exact List.forall_mem_nil _ | refine List.forall_mem_cons.2 ⟨?_, ?_⟩ | rfl)) rfl (fun H46 hS47 ho48 hk49 => ?_)
  have ho50 := (hk49 _ (by omega)).trans ho42
  have ho51 := (hk49 _ (by omega)).trans ho43
  with_reducible refine WL.nil ?_
  with_reducible refine Ex.thn_norm ?_
  with_reducible refine W.seq ?_
  with_reducible refine W.region ?_
  refine WL.loadN .nil (l' := [.int .i64 x1.Client, .int .i64 x1.Seq, .int .i64 x35.Code, .int .i64 x35.Version, str x35.Sha]) rfl rfl rfl Try.underlying54 rfl info54 rfl ho48 rfl rfl ?_
  refine GL.store hS47 .nil (vc := [.int .i64 x1.Client, .int .i64 x1.Seq, .int .i64 x35.Code, .int .i64 x35.Version, str x35.Sha]) (c' := [.int .i64 x1.Client, .int .i64 x1.Seq, .int .i64 x35.Code, .int .i64 x35.Version, str x35.Sha]) rfl rfl rfl info54 rfl rfl rfl rfl ho51 fo12 (Nat.le_of_ble_eq_true rfl) (by omega) (by repeat' (first | exact List.forall_mem_nil _ | refine List.forall_mem_cons.2 ⟨?_, ?_⟩ | rfl)) rfl (fun H52 hS53 ho54 hk55 => ?_)
  have ho56 := (hk55 _ (by omega)).trans ho50
  have ho57 := (hk55 _ (by omega)).trans ho48
  with_reducible refine WL.nil ?_
  with_reducible refine Ex.thn_norm ?_
  with_reducible refine W.ret ?_
  obtain rfl := Option.some.inj hr
  exact ⟨.inr rfl, _, (.cons (.cellN (l := [.int .i64 x1.Client, .int .i64 x1.Seq, .int .i64 x35.Code, .int .i64 x35.Version, str x35.Sha]) rfl Try.underlying54 rfl info54 ho54 rfl rfl) .nil), ⟨(Ext.st hE0 hS53), rfl⟩⟩
theorem f_laws_toSessionS_k {Δ : Prims} (g : Env Try.prog Δ) {lo n0 : Nat} {H0 F0 : Heap} (hS : St lo n0 H0 F0) {a2 : Option Addr} {cap3 : Nat} {xs1 : (List GSession)} (h4 : SR F0 (.slice a2 xs1.length cap3) xs1) {res : ((List GSession))} (hr : f_laws_toSessionS xs1 = some res) :
    C Try.prog Δ n0 36 [.slice a2 xs1.length cap3] n0 H0 (fun v n H => ∃ (ra1 : Option Addr) (rcap2 : Nat), St n0 n H F0 ∧ v = .slice ra1 res.length rcap2 ∧ OW n0 n H F0 (.slice ra1 res.length rcap2) res) := by
  refine C.body Try.func36 rfl rfl ?_
  unfold f_laws_toSessionS at hr
  have hS0 : St n0 n0 H0 F0 := hS.low (Nat.le_refl _)
  have hE0 := Ext.refl n0 F0
  have hlo0 := hS0.lo
  with_reducible refine W.seq ?_
  with_reducible refine W.region ?_
  refine WL.assign .nil rfl rfl rfl rfl ?_
  with_reducible refine WL.nil ?_
  with_reducible refine Ex.thn_norm ?_
  with_reducible refine W.seq ?_
  with_reducible refine W.region ?_
  refine WL.move .nil rfl rfl rfl rfl ?_
  refine WL.len .nil rfl rfl rfl Try.underlying36 rfl ?_
  obtain ⟨hc5, hr⟩ := chk_some hr
  refine GL.make (α := GSession) (u := ({ Client := 0, Seq := 0, Reply := ({ Code := 0, Version := 0, Sha := ([] : List UInt8) } : GReply) } : GSession)) hS0 .nil rfl rfl rfl Try.underlying24 info54 rfl rfl (by decide) rfl (by decide) rfl rfl rfl (GSession.zeroR _) hc5.1 hc5.2 (fun H6 hS7 hO8 hk9 => ?_)
  have h10 := OW.lower (lo' := n0) hO8 (by omega)
  have hlon01 := hS7.lo
  refine WL.assign .nil rfl rfl rfl rfl ?_
  with_reducible refine WL.nil ?_
  with_reducible refine Ex.thn_norm ?_
  with_reducible refine W.seq ?_
  with_reducible refine W.seq ?_
  with_reducible refine W.region ?_
  refine WL.assign .nil rfl rfl rfl rfl ?_
  with_reducible refine WL.nil ?_
  with_reducible refine Ex.thn_norm ?_
  with_reducible refine W.block ?_
  refine W.loopF (fun k0 fr n H => ∃ (xs177 : (List GSession)) (x180 : Int) (F : Heap), fr = [(0, .slice a2 xs1.length cap3), (3, .slice (some ⟨n0, 0, none⟩) (List.replicate (xs1.length : Int).toNat (({ Client := 0, Seq := 0, Reply := ({ Code := 0, Version := 0, Sha := ([] : List UInt8) } : GReply) } : GSession) : GSession)).length ((xs1.length : Int).toNat)), (4, .int .i64 x180)] ∧ St n0 n H F ∧ Ext n0 F0 n F ∧ SR F (.slice a2 xs1.length cap3) xs1 ∧ OW n0 n H F (.slice (some ⟨n0, 0, none⟩) (List.replicate (xs1.length : Int).toNat (({ Client := 0, Seq := 0, Reply := ({ Code := 0, Version := 0, Sha := ([] : List UInt8) } : GReply) } : GSession) : GSession)).length ((xs1.length : Int).toNat)) xs177 ∧ (List.replicate (xs1.length : Int).toNat (({ Client := 0, Seq := 0, Reply := ({ Code := 0, Version := 0, Sha := ([] : List UInt8) } : GReply) } : GSession) : GSession)).length = xs177.length ∧ f_laws_toSessionS_L0 xs1 k0 xs177 x180 = some res) BIG (fr0 := [(0, .slice a2 xs1.length cap3), (3, .slice (some ⟨n0, 0, none⟩) (List.replicate (xs1.length : Int).toNat (({ Client := 0, Seq := 0, Reply := ({ Code := 0, Version := 0, Sha := ([] : List UInt8) } : GReply) } : GSession) : GSession)).length ((xs1.length : Int).toNat)), (4, .int .i64 0)]) (Fr.le_cons rfl (Fr.le_cons rfl (Fr.le_cons rfl Fr.le_nil))) ?_ ?_ ?_
  · exact ⟨(List.replicate (xs1.length : Int).toNat (({ Client := 0, Seq := 0, Reply := ({ Code := 0, Version := 0, Sha := ([] : List UInt8) } : GReply) } : GSession) : GSession)), 0, F0, rfl, hS7, (hE0.up (by omega)), h4, h10, rfl, hr⟩
  · intro fr n H hI
    obtain ⟨xs177, x180, F173, hfr, hS174, hE175, h176, h178, hl179, hr⟩ := hI
    rw [f_laws_toSessionS_L0] at hr
    cases hr
  · intro k0 _ n171 H172 hI
    obtain ⟨xs177, x180, F173, rfl, hS174, hE175, h176, h178, hl179, hr⟩ := hI
    have hlen171 := hE175.le
    have hlon171 := hS174.lo
    rw [f_laws_toSessionS_L0] at hr
    with_reducible refine W.seq ?_
    with_reducible refine W.seq ?_
    with_reducible refine W.region ?_
    refine WL.move .nil rfl rfl rfl rfl ?_
    refine WL.move .nil rfl rfl rfl rfl ?_
    refine WL.len .nil rfl rfl rfl Try.underlying36 rfl ?_
    refine WL.bin .nil rfl rfl rfl rfl rfl rfl ?_
    with_reducible refine WL.nil ?_
    with_reducible refine Ex.thn_norm ?_
    refine W.condD rfl (fun hc182 => ?_) (fun hc182 => ?_)
    · replace hr := ite_pos hr hc182
      with_reducible refine W.skip ?_
      with_reducible refine Ex.thn_norm ?_
      with_reducible refine W.seq ?_
      with_reducible refine W.block ?_
      with_reducible refine W.region ?_
      refine WL.move .nil rfl rfl rfl rfl ?_
      refine WL.move .nil rfl rfl rfl rfl ?_
      refine WL.move .nil rfl rfl rfl rfl ?_
      refine WL.move .nil rfl rfl rfl rfl ?_
      obtain ⟨x217, hx217, hr⟩ := bnd_some hr
      refine GL.index .nil rfl rfl rfl Try.underlying36 info91 rfl rfl h176 hS174.fh rfl hx217 (fun b218 kp219 c220 ecs221 hrow222 hwin223 hR224 => ?_)
      obtain ⟨rfl⟩ := GSession.ofR hR224
      refine WL.loadN .nil (l' := [.int .i64 x217.Client, .int .i64 x217.Seq, .int .i64 x217.Reply.Code, .int .i64 x217.Reply.Version, str x217.Reply.Sha]) rfl rfl rfl Try.underlying91 rfl info91 rfl hrow222 hwin223 rfl ?_
      obtain ⟨x225, hx225, hr⟩ := bnd_some hr
      have hb231 := fun b hb => (OW.id_lt (i := b) h178 hb).2
      refine GL.callP g.good .nil rfl rfl rfl rfl rfl rfl Try.func57 rfl rfl hS174.lo (f_laws_toSession_k  g hS174 hx225) (fun v n226 H227 hn228 hk229 hp230 => ?_)
      obtain ⟨hS232, rfl⟩ := hp230
      have h233 := OW.keep (n' := n226) h178 (by omega) (fun i hi => hk229 i (OW.id_lt h178 hi).2)
      have hS234 : St n0 n226 H227 F173 := ⟨by have := hS174.lo; omega, hS232.hb, hS232.fh⟩
      have hlon226 := hS234.lo
      obtain ⟨x235, hx235, hr⟩ := bnd_some hr
      refine GL.indexO .nil rfl rfl rfl Try.underlying24 info54 rfl rfl h233 rfl hx235 (fun b236 kp237 c238 ecs239 hid243 hrow240 hwin241 hR242 hup244 => ?_)
      obtain ⟨rfl⟩ := GSession.ofR hR242
      refine GL.store hS234 .nil (vc := [.int .i64 x225.Client, .int .i64 x225.Seq, .int .i64 x225.Reply.Code, .int .i64 x225.Reply.Version, str x225.Reply.Sha]) rfl rfl rfl info54 rfl rfl rfl rfl hrow240 (OW.fnone h233 hid243) (by first | exact win_fit hwin241 (Nat.le_of_ble_eq_true rfl) rfl (Nat.le_of_ble_eq_true rfl) | exact win_fit2 hwin241 (Nat.le_of_ble_eq_true rfl) rfl (Nat.le_of_ble_eq_true rfl) | exact win_fit3 hwin241 (Nat.le_of_ble_eq_true rfl) rfl (Nat.le_of_ble_eq_true rfl)) (OW.id_lt h233 hid243).1 (by repeat' (first | exact List.forall_mem_nil _ | refine List.forall_mem_cons.2 ⟨?_, ?_⟩ | rfl)) rfl (fun H245 hS246 ho247 hk248 => ?_)
      have h249 := hup244 0 [.int .i64 x225.Client, .int .i64 x225.Seq, .int .i64 x225.Reply.Code, .int .i64 x225.Reply.Version, str x225.Reply.Sha] (({ Client := x225.Client, Seq := x225.Seq, Reply := ({ Code := x225.Reply.Code, Version := x225.Reply.Version, Sha := x225.Reply.Sha } : GReply) } : GSession) : GSession) H245 (Nat.le_of_ble_eq_true rfl) (GSession.toR (x := ({ Client := x225.Client, Seq := x225.Seq, Reply := ({ Code := x225.Reply.Code, Version := x225.Reply.Version, Sha := x225.Reply.Sha } : GReply) } : GSession))) ho247
      have hl250 : (List.replicate (xs1.length : Int).toNat (({ Client := 0, Seq := 0, Reply := ({ Code := 0, Version := 0, Sha := ([] : List UInt8) } : GReply) } : GSession) : GSession)).length = (setI xs177 x180 ({ Client := x225.Client, Seq := x225.Seq, Reply := ({ Code := x225.Reply.Code, Version := x225.Reply.Version, Sha := x225.Reply.Sha } : GReply) } : GSession)).length := hl179.trans (setI_length _ _ _).symm
      with_reducible refine WL.nil ?_
      with_reducible refine Ex.blk_norm ?_
      with_reducible refine Ex.thn_norm ?_
      with_reducible refine W.region ?_
      refine WL.move .nil rfl rfl rfl rfl ?_
      obtain ⟨hc251, hr⟩ := chk_some hr
      refine WL.addI .nil rfl rfl rfl rfl rfl hc251.1 hc251.2 ?_
      refine WL.assign .nil rfl rfl rfl rfl ?_
      with_reducible refine WL.nil ?_
      with_reducible refine Ex.thn_norm ?_
      exact ⟨[(0, .slice a2 xs1.length cap3), (3, .slice (some ⟨n0, 0, none⟩) (List.replicate (xs1.length : Int).toNat (({ Client := 0, Seq := 0, Reply := ({ Code := 0, Version := 0, Sha := ([] : List UInt8) } : GReply) } : GSession) : GSession)).length ((xs1.length : Int).toNat)), (4, .int .i64 (x180 + 1))], (Fr.le_cons rfl (Fr.le_cons rfl (Fr.le_cons rfl Fr.le_nil))), (setI xs177 x180 ({ Client := x225.Client, Seq := x225.Seq, Reply := ({ Code := x225.Reply.Code, Version := x225.Reply.Version, Sha := x225.Reply.Sha } : GReply) } : GSession)), (x180 + 1), F173, rfl, hS246, (hE175.up (by omega)), h176, h249, hl250, hr⟩
    · replace hr := ite_neg hr hc182
      with_reducible refine W.exit ?_
      with_reducible refine Ex.thn_ex ?_
      with_reducible refine Ex.thn_ex ?_
      with_reducible refine Ex.blk_here ?_
      with_reducible refine Ex.thn_norm ?_
      with_reducible refine W.seq ?_
      with_reducible refine W.region ?_
      refine WL.move .nil rfl rfl rfl rfl ?_
      refine WL.assign .nil rfl rfl rfl rfl ?_
      with_reducible refine WL.nil ?_
      with_reducible refine Ex.thn_norm ?_
      with_reducible refine W.ret ?_
      obtain rfl := Option.some.inj hr
      exact ⟨.inr rfl, _, (.cons (.tmp rfl) .nil), ⟨(some ⟨n0, 0, none⟩), (xs1.length : Int).toNat, (Ext.st hE175 hS174), (by rw [← hl179]; rfl), (OW.downFl hE175.sub (OW.head hl179 h178))⟩⟩
theorem f_laws_toState_k {Δ : Prims} (g : Env Try.prog Δ) {lo n0 : Nat} {H0 F0 : Heap} (hS : St lo n0 H0 F0) {x1 : GState} {a2 : Option Addr} {cap3 : Nat} {a5 : Option Addr} {cap6 : Nat} (h4 : SR F0 (.slice a2 x1.Files.length cap3) x1.Files) (h7 : SR F0 (.slice a5 x1.Sessions.length cap6) x1.Sessions) {res : (GState)} (hr : f_laws_toState x1 = some res) :
    C Try.prog Δ n0 15 [.agg [.slice a2 x1.Files.length cap3, .slice a5 x1.Sessions.length cap6].toArray] n0 H0 (fun v n H => ∃ (ra1 : Option Addr) (rcap2 : Nat) (ra4 : Option Addr) (rcap5 : Nat), St n0 n H F0 ∧ v = .agg [.slice ra1 res.Files.length rcap2, .slice ra4 res.Sessions.length rcap5].toArray ∧ OW n0 n H F0 (.slice ra1 res.Files.length rcap2) res.Files ∧ OW n0 n H F0 (.slice ra4 res.Sessions.length rcap5) res.Sessions ∧ (∀ b, idOf (.slice ra4 res.Sessions.length rcap5) = some b → idOf (.slice ra1 res.Files.length rcap2) ≠ some b)) := by
  refine C.body Try.func15 rfl rfl ?_
  unfold f_laws_toState at hr
  have hS0 : St n0 n0 H0 F0 := hS.low (Nat.le_refl _)
  have hE0 := Ext.refl n0 F0
  have hlo0 := hS0.lo
  with_reducible refine W.seq ?_
  with_reducible refine W.region ?_
  refine GL.box hS0 .nil (vc := [.slice a2 x1.Files.length cap3, .slice a5 x1.Sessions.length cap6]) rfl rfl rfl rfl rfl (by repeat' (first | exact List.forall_mem_nil _ | refine List.forall_mem_cons.2 ⟨?_, ?_⟩ | rfl)) (fun H8 hS9 ho10 hk11 => ?_)
  have fo12 := hS0.fnone (Nat.le_refl _)
  have hlon01 := hS9.lo
  have lt13 : n0 < (n0 + 1) := by omega
  refine GL.alloc hS9 .nil (zc := [.slice none 0 0, .slice none 0 0]) rfl rfl rfl info26 rfl rfl rfl (fun H14 hS15 ho16 hk17 => ?_)
  have fo18 := hS9.fnone (Nat.le_refl _)
  have ho20 := (hk17 _ (by have := lt13; omega)).trans ho10
  have hlon011 := hS15.lo
  have lt19 : (n0 + 1) < ((n0 + 1) + 1) := by omega
  with_reducible refine WL.nil ?_
  with_reducible refine Ex.thn_norm ?_
  with_reducible refine W.seq ?_
  with_reducible refine W.region ?_
  refine GL.alloc hS15 .nil (zc := [.slice none 0 0, .slice none 0 0]) rfl rfl rfl info26 rfl rfl rfl (fun H21 hS22 ho23 hk24 => ?_)
  have fo25 := hS15.fnone (Nat.le_refl _)
  have ho27 := (hk24 _ (by have := lt13; omega)).trans ho20
  have ho28 := (hk24 _ (by have := lt19; omega)).trans ho16
  have hlon0111 := hS22.lo
  have lt26 : ((n0 + 1) + 1) < (((n0 + 1) + 1) + 1) := by omega
  with_reducible refine WL.nil ?_
  with_reducible refine Ex.thn_norm ?_
  with_reducible refine W.seq ?_
  with_reducible refine W.region ?_
  refine WL.fieldAddr .nil rfl rfl rfl Try.underlying38 rfl info35 rfl rfl ?_
  refine WL.load1 .nil rfl rfl rfl Try.underlying35 rfl rfl ho27 rfl ?_
  obtain ⟨x29, hx29, hr⟩ := bnd_some hr
  refine GL.callP g.good .nil rfl rfl rfl rfl rfl rfl Try.func35 rfl rfl hS22.lo (f_laws_toFileS_k  g hS22 h4 hx29) (fun v n30 H31 hn32 hk33 hp34 => ?_)
  obtain ⟨a35, cap36, hS38, rfl, h37⟩ := hp34
  have ho39 := (hk33 _ (by have := lt13; omega)).trans ho27
  have ho40 := (hk33 _ (by have := lt19; omega)).trans ho28
  have ho41 := (hk33 _ (by have := lt26; omega)).trans ho23
  have hS42 : St n0 n30 H31 F0 := ⟨by have := hS22.lo; omega, hS38.hb, hS38.fh⟩
  have hlon30 := hS42.lo
  have h43 := OW.lower (lo' := n0) h37 (by omega)
  have ap45 : idOf (.slice a35 x29.length cap36) ≠ some n0 := fun hj => by have := (OW.id_lt h37 hj).1; have := lt13; omega
  have ap46 : idOf (.slice a35 x29.length cap36) ≠ some (n0 + 1) := fun hj => by have := (OW.id_lt h37 hj).1; have := lt19; omega
  have ap47 : idOf (.slice a35 x29.length cap36) ≠ some ((n0 + 1) + 1) := fun hj => by have := (OW.id_lt h37 hj).1; have := lt26; omega
  refine WL.fieldAddr .nil rfl rfl rfl Try.underlying26 rfl info23 rfl rfl ?_
  refine GL.store hS42 .nil (vc := [.slice a35 x29.length cap36]) (c' := [.slice a35 x29.length cap36, .slice none 0 0]) rfl rfl rfl info23 rfl rfl rfl rfl ho41 fo25 (Nat.le_of_ble_eq_true rfl) (by omega) (by repeat' (first | exact List.forall_mem_nil _ | refine List.forall_mem_cons.2 ⟨?_, ?_⟩ | rfl)) rfl (fun H48 hS49 ho50 hk51 => ?_)
  have ho52 := (hk51 _ (by omega)).trans ho39
  have ho53 := (hk51 _ (by omega)).trans ho40
  have h54 := OW.keep h43 (Nat.le_refl _) (fun i hi => hk51 i (fun hj => ap47 (hj ▸ hi)))
  with_reducible refine WL.nil ?_
  with_reducible refine Ex.thn_norm ?_
  with_reducible refine W.seq ?_
  with_reducible refine W.region ?_
  refine WL.fieldAddr .nil rfl rfl rfl Try.underlying38 rfl info36 rfl rfl ?_
  refine WL.load1 .nil rfl rfl rfl Try.underlying36 rfl rfl ho52 rfl ?_
  obtain ⟨x55, hx55, hr⟩ := bnd_some hr
  have hb61 := fun b hb => (OW.id_lt (i := b) h54 hb).2
  refine GL.callP g.good .nil rfl rfl rfl rfl rfl rfl Try.func36 rfl rfl hS49.lo (f_laws_toSessionS_k  g hS49 h7 hx55) (fun v n56 H57 hn58 hk59 hp60 => ?_)
  obtain ⟨a62, cap63, hS65, rfl, h64⟩ := hp60
  have ho66 := (hk59 _ (by have := lt13; omega)).trans ho52
  have ho67 := (hk59 _ (by have := lt19; omega)).trans ho53
  have ho68 := (hk59 _ (by have := lt26; omega)).trans ho50
  have h69 := OW.keep (n' := n56) h54 (by omega) (fun i hi => hk59 i (OW.id_lt h54 hi).2)
  have hS70 : St n0 n56 H57 F0 := ⟨by have := hS49.lo; omega, hS65.hb, hS65.fh⟩
  have hlon56 := hS70.lo
  have h71 := OW.lower (lo' := n0) h64 (by omega)
  have ap73 : idOf (.slice a62 x55.length cap63) ≠ some n0 := fun hj => by have := (OW.id_lt h64 hj).1; have := lt13; omega
  have ap74 : idOf (.slice a62 x55.length cap63) ≠ some (n0 + 1) := fun hj => by have := (OW.id_lt h64 hj).1; have := lt19; omega
  have ap75 : idOf (.slice a62 x55.length cap63) ≠ some ((n0 + 1) + 1) := fun hj => by have := (OW.id_lt h64 hj).1; have := lt26; omega
  have ap76 : ∀ b, idOf (.slice a62 x55.length cap63) = some b → idOf (.slice a35 x29.length cap36) ≠ some b := fun b hj hi => by have := (OW.id_lt h64 hj).1; have := hb61 b hi; omega
  refine WL.fieldAddr .nil rfl rfl rfl Try.underlying26 rfl info24 rfl rfl ?_
  refine GL.store hS70 .nil (vc := [.slice a62 x55.length cap63]) (c' := [.slice a35 x29.length cap36, .slice a62 x55.length cap63]) rfl rfl rfl info24 rfl rfl rfl rfl ho68 fo25 (Nat.le_of_ble_eq_true rfl) (by omega) (by repeat' (first | exact List.forall_mem_nil _ | refine List.forall_mem_cons.2 ⟨?_, ?_⟩ | rfl)) rfl (fun H77 hS78 ho79 hk80 => ?_)
  have ho81 := (hk80 _ (by omega)).trans ho66
  have ho82 := (hk80 _ (by omega)).trans ho67
  have h83 := OW.keep h69 (Nat.le_refl _) (fun i hi => hk80 i (fun hj => ap47 (hj ▸ hi)))
  have h84 := OW.keep h71 (Nat.le_refl _) (fun i hi => hk80 i (fun hj => ap75 (hj ▸ hi)))
  with_reducible refine WL.nil ?_
  with_reducible refine Ex.thn_norm ?_
  with_reducible refine W.seq ?_
  with_reducible refine W.region ?_
  refine WL.loadN .nil (l' := [.slice a35 x29.length cap36, .slice a62 x55.length cap63]) rfl rfl rfl Try.underlying26 rfl info26 rfl ho79 rfl rfl ?_
  refine GL.store hS78 .nil (vc := [.slice a35 x29.length cap36, .slice a62 x55.length cap63]) (c' := [.slice a35 x29.length cap36, .slice a62 x55.length cap63]) rfl rfl rfl info26 rfl rfl rfl rfl ho82 fo18 (Nat.le_of_ble_eq_true rfl) (by omega) (by repeat' (first | exact List.forall_mem_nil _ | refine List.forall_mem_cons.2 ⟨?_, ?_⟩ | rfl)) rfl (fun H85 hS86 ho87 hk88 => ?_)
  have ho89 := (hk88 _ (by omega)).trans ho81
  have ho90 := (hk88 _ (by omega)).trans ho79
  have h91 := OW.keep h83 (Nat.le_refl _) (fun i hi => hk88 i (fun hj => ap46 (hj ▸ hi)))
  have h92 := OW.keep h84 (Nat.le_refl _) (fun i hi => hk88 i (fun hj => ap74 (hj ▸ hi)))
  with_reducible refine WL.nil ?_
  with_reducible refine Ex.thn_norm ?_
  with_reducible refine W.ret ?_
  obtain rfl := Option.some.inj hr
  exact ⟨.inr rfl, _, (.cons (.cellN (l := [.slice a35 x29.length cap36, .slice a62 x55.length cap63]) rfl Try.underlying26 rfl info26 ho87 rfl rfl) .nil), ⟨a35, cap36, a62, cap63, (Ext.st hE0 hS86), rfl, (OW.downFl hE0.sub h91), (OW.downFl hE0.sub h92), ap76⟩⟩
theorem f_spec_l00Letter_k {Δ : Prims} (g : Env Try.prog Δ) {lo n0 : Nat} {H0 F0 : Heap} (hS : St lo n0 H0 F0) {x1 : UInt8} {res : (Bool)} (hr : f_spec_l00Letter x1 = some res) :
    C Try.prog Δ n0 73 [u8 x1] n0 H0 (fun v n H => St n0 n H F0 ∧ v = .bool res) := by
  refine C.body Try.func73 rfl rfl ?_
  unfold f_spec_l00Letter at hr
  have hS0 : St n0 n0 H0 F0 := hS.low (Nat.le_refl _)
  have hE0 := Ext.refl n0 F0
  have hlo0 := hS0.lo
  with_reducible refine W.seq ?_
  with_reducible refine W.region ?_
  refine WL.assign .nil rfl rfl rfl rfl ?_
  with_reducible refine WL.nil ?_
  with_reducible refine Ex.thn_norm ?_
  with_reducible refine W.seq ?_
  with_reducible refine W.region ?_
  refine WL.move .nil rfl rfl rfl rfl ?_
  refine WL.bin .nil rfl rfl rfl rfl rfl rfl ?_
  refine WL.move .nil rfl rfl rfl rfl ?_
  refine WL.guardD rfl rfl rfl (fun hg2 => ?_) (fun hg2 => ?_)
  · replace hr := ite_pos hr hg2
    refine WL.move .nil rfl rfl rfl rfl ?_
    refine WL.bin .nil rfl rfl rfl rfl rfl rfl ?_
    refine WL.pick .nil rfl rfl rfl rfl rfl ?_
    refine WL.move .nil rfl rfl rfl rfl ?_
    refine WL.guardD rfl rfl rfl (fun hg3 => ?_) (fun hg3 => ?_)
    · replace hr := ite_pos hr hg3
      refine WL.skip .nil rfl rfl ?_
      refine WL.skip .nil rfl rfl ?_
      refine WL.skip .nil rfl rfl ?_
      refine WL.skip .nil rfl rfl ?_
      refine WL.skip .nil rfl rfl ?_
      refine WL.skip .nil rfl rfl ?_
      refine WL.pick .nil rfl rfl rfl rfl rfl ?_
      refine WL.move .nil rfl rfl rfl rfl ?_
      refine WL.skip .nil rfl rfl ?_
      refine WL.skip .nil rfl rfl ?_
      refine WL.pick .nil rfl rfl rfl rfl rfl ?_
      refine WL.assign .nil rfl rfl rfl rfl ?_
      with_reducible refine WL.nil ?_
      with_reducible refine Ex.thn_norm ?_
      with_reducible refine W.ret ?_
      obtain rfl := Option.some.inj hr
      exact ⟨.inr rfl, _, (.cons (.tmp rfl) .nil), ⟨(Ext.st hE0 hS0), rfl⟩⟩
    · replace hr := ite_neg hr hg3
      refine WL.move .nil rfl rfl rfl rfl ?_
      refine WL.bin .nil rfl rfl rfl rfl rfl rfl ?_
      refine WL.move .nil rfl rfl rfl rfl ?_
      refine WL.guardD rfl rfl rfl (fun hg4 => ?_) (fun hg4 => ?_)
      · replace hr := ite_pos hr hg4
        refine WL.move .nil rfl rfl rfl rfl ?_
        refine WL.bin .nil rfl rfl rfl rfl rfl rfl ?_
        refine WL.pick .nil rfl rfl rfl rfl rfl ?_
        refine WL.pick .nil rfl rfl rfl rfl rfl ?_
        refine WL.move .nil rfl rfl rfl rfl ?_
        refine WL.guardD rfl rfl rfl (fun hg5 => ?_) (fun hg5 => ?_)
        · replace hr := ite_pos hr hg5
          refine WL.skip .nil rfl rfl ?_
          refine WL.skip .nil rfl rfl ?_
          refine WL.pick .nil rfl rfl rfl rfl rfl ?_
          refine WL.assign .nil rfl rfl rfl rfl ?_
          with_reducible refine WL.nil ?_
          with_reducible refine Ex.thn_norm ?_
          with_reducible refine W.ret ?_
          obtain rfl := Option.some.inj hr
          exact ⟨.inr rfl, _, (.cons (.tmp rfl) .nil), ⟨(Ext.st hE0 hS0), rfl⟩⟩
        · replace hr := ite_neg hr hg5
          refine WL.move .nil rfl rfl rfl rfl ?_
          refine WL.bin .nil rfl rfl rfl rfl rfl rfl ?_
          refine WL.pick .nil rfl rfl rfl rfl rfl ?_
          refine WL.assign .nil rfl rfl rfl rfl ?_
          with_reducible refine WL.nil ?_
          with_reducible refine Ex.thn_norm ?_
          with_reducible refine W.ret ?_
          obtain rfl := Option.some.inj hr
          exact ⟨.inr rfl, _, (.cons (.tmp rfl) .nil), ⟨(Ext.st hE0 hS0), rfl⟩⟩
      · replace hr := ite_neg hr hg4
        refine WL.skip .nil rfl rfl ?_
        refine WL.skip .nil rfl rfl ?_
        refine WL.pick .nil rfl rfl rfl rfl rfl ?_
        refine WL.pick .nil rfl rfl rfl rfl rfl ?_
        refine WL.move .nil rfl rfl rfl rfl ?_
        refine WL.move .nil rfl rfl rfl rfl ?_
        refine WL.bin .nil rfl rfl rfl rfl rfl rfl ?_
        refine WL.pick .nil rfl rfl rfl rfl rfl ?_
        refine WL.assign .nil rfl rfl rfl rfl ?_
        with_reducible refine WL.nil ?_
        with_reducible refine Ex.thn_norm ?_
        with_reducible refine W.ret ?_
        obtain rfl := Option.some.inj hr
        exact ⟨.inr rfl, _, (.cons (.tmp rfl) .nil), ⟨(Ext.st hE0 hS0), rfl⟩⟩
  · replace hr := ite_neg hr hg2
    refine WL.skip .nil rfl rfl ?_
    refine WL.skip .nil rfl rfl ?_
    refine WL.pick .nil rfl rfl rfl rfl rfl ?_
    refine WL.move .nil rfl rfl rfl rfl ?_
    refine WL.move .nil rfl rfl rfl rfl ?_
    refine WL.bin .nil rfl rfl rfl rfl rfl rfl ?_
    refine WL.move .nil rfl rfl rfl rfl ?_
    refine WL.guardD rfl rfl rfl (fun hg6 => ?_) (fun hg6 => ?_)
    · replace hr := ite_pos hr hg6
      refine WL.move .nil rfl rfl rfl rfl ?_
      refine WL.bin .nil rfl rfl rfl rfl rfl rfl ?_
      refine WL.pick .nil rfl rfl rfl rfl rfl ?_
      refine WL.pick .nil rfl rfl rfl rfl rfl ?_
      refine WL.move .nil rfl rfl rfl rfl ?_
      refine WL.guardD rfl rfl rfl (fun hg7 => ?_) (fun hg7 => ?_)
      · replace hr := ite_pos hr hg7
        refine WL.skip .nil rfl rfl ?_
        refine WL.skip .nil rfl rfl ?_
        refine WL.pick .nil rfl rfl rfl rfl rfl ?_
        refine WL.assign .nil rfl rfl rfl rfl ?_
        with_reducible refine WL.nil ?_
        with_reducible refine Ex.thn_norm ?_
        with_reducible refine W.ret ?_
        obtain rfl := Option.some.inj hr
        exact ⟨.inr rfl, _, (.cons (.tmp rfl) .nil), ⟨(Ext.st hE0 hS0), rfl⟩⟩
      · replace hr := ite_neg hr hg7
        refine WL.move .nil rfl rfl rfl rfl ?_
        refine WL.bin .nil rfl rfl rfl rfl rfl rfl ?_
        refine WL.pick .nil rfl rfl rfl rfl rfl ?_
        refine WL.assign .nil rfl rfl rfl rfl ?_
        with_reducible refine WL.nil ?_
        with_reducible refine Ex.thn_norm ?_
        with_reducible refine W.ret ?_
        obtain rfl := Option.some.inj hr
        exact ⟨.inr rfl, _, (.cons (.tmp rfl) .nil), ⟨(Ext.st hE0 hS0), rfl⟩⟩
    · replace hr := ite_neg hr hg6
      refine WL.skip .nil rfl rfl ?_
      refine WL.skip .nil rfl rfl ?_
      refine WL.pick .nil rfl rfl rfl rfl rfl ?_
      refine WL.pick .nil rfl rfl rfl rfl rfl ?_
      refine WL.move .nil rfl rfl rfl rfl ?_
      refine WL.move .nil rfl rfl rfl rfl ?_
      refine WL.bin .nil rfl rfl rfl rfl rfl rfl ?_
      refine WL.pick .nil rfl rfl rfl rfl rfl ?_
      refine WL.assign .nil rfl rfl rfl rfl ?_
      with_reducible refine WL.nil ?_
      with_reducible refine Ex.thn_norm ?_
      with_reducible refine W.ret ?_
      obtain rfl := Option.some.inj hr
      exact ⟨.inr rfl, _, (.cons (.tmp rfl) .nil), ⟨(Ext.st hE0 hS0), rfl⟩⟩
theorem f_spec_l00Digit_k {Δ : Prims} (g : Env Try.prog Δ) {lo n0 : Nat} {H0 F0 : Heap} (hS : St lo n0 H0 F0) {x1 : UInt8} {res : (Bool)} (hr : f_spec_l00Digit x1 = some res) :
    C Try.prog Δ n0 74 [u8 x1] n0 H0 (fun v n H => St n0 n H F0 ∧ v = .bool res) := by
  refine C.body Try.func74 rfl rfl ?_
  unfold f_spec_l00Digit at hr
  have hS0 : St n0 n0 H0 F0 := hS.low (Nat.le_refl _)
  have hE0 := Ext.refl n0 F0
  have hlo0 := hS0.lo
  with_reducible refine W.seq ?_
  with_reducible refine W.region ?_
  refine WL.assign .nil rfl rfl rfl rfl ?_
  with_reducible refine WL.nil ?_
  with_reducible refine Ex.thn_norm ?_
  with_reducible refine W.seq ?_
  with_reducible refine W.region ?_
  refine WL.move .nil rfl rfl rfl rfl ?_
  refine WL.bin .nil rfl rfl rfl rfl rfl rfl ?_
  refine WL.move .nil rfl rfl rfl rfl ?_
  refine WL.guardD rfl rfl rfl (fun hg2 => ?_) (fun hg2 => ?_)
  · replace hr := ite_pos hr hg2
    refine WL.move .nil rfl rfl rfl rfl ?_
    refine WL.bin .nil rfl rfl rfl rfl rfl rfl ?_
    refine WL.pick .nil rfl rfl rfl rfl rfl ?_
    refine WL.assign .nil rfl rfl rfl rfl ?_
    with_reducible refine WL.nil ?_
    with_reducible refine Ex.thn_norm ?_
    with_reducible refine W.ret ?_
    obtain rfl := Option.some.inj hr
    exact ⟨.inr rfl, _, (.cons (.tmp rfl) .nil), ⟨(Ext.st hE0 hS0), rfl⟩⟩
  · replace hr := ite_neg hr hg2
    refine WL.skip .nil rfl rfl ?_
    refine WL.skip .nil rfl rfl ?_
    refine WL.pick .nil rfl rfl rfl rfl rfl ?_
    refine WL.assign .nil rfl rfl rfl rfl ?_
    with_reducible refine WL.nil ?_
    with_reducible refine Ex.thn_norm ?_
    with_reducible refine W.ret ?_
    obtain rfl := Option.some.inj hr
    exact ⟨.inr rfl, _, (.cons (.tmp rfl) .nil), ⟨(Ext.st hE0 hS0), rfl⟩⟩
theorem f_spec_l00Word_k {Δ : Prims} (g : Env Try.prog Δ) {lo n0 : Nat} {H0 F0 : Heap} (hS : St lo n0 H0 F0) {x1 : Str} {res : (Bool)} (hr : f_spec_l00Word x1 = some res) :
    C Try.prog Δ n0 61 [str x1] n0 H0 (fun v n H => St n0 n H F0 ∧ v = .bool res) := by
  refine C.body Try.func61 rfl rfl ?_
  unfold f_spec_l00Word at hr
  have hS0 : St n0 n0 H0 F0 := hS.low (Nat.le_refl _)
  have hE0 := Ext.refl n0 F0
  have hlo0 := hS0.lo
  with_reducible refine W.seq ?_
  with_reducible refine W.region ?_
  refine WL.assign .nil rfl rfl rfl rfl ?_
  with_reducible refine WL.nil ?_
  with_reducible refine Ex.thn_norm ?_
  with_reducible refine W.seq ?_
  with_reducible refine W.seq ?_
  refine W.cut (fun fr n H => ∃ (x18 : Bool) (F : Heap), fr = [(0, str x1), (17, .bool x18)] ∧ St n0 n H F ∧ Ext n0 F0 n F ∧ f_spec_l00Word_J0 x1 x18 = some res) ?_ ?_
  · with_reducible refine W.region ?_
    refine WL.move .nil rfl rfl rfl rfl ?_
    refine GL.lenStr .nil rfl rfl rfl Try.underlying9 rfl ?_
    refine WL.bin .nil rfl rfl rfl rfl rfl rfl ?_
    refine WL.move .nil rfl rfl rfl rfl ?_
    refine WL.guardD rfl rfl rfl (fun hg317 => ?_) (fun hg317 => ?_)
    · replace hr := ite_pos hr hg317
      refine WL.skip .nil rfl rfl ?_
      refine WL.skip .nil rfl rfl ?_
      refine WL.skip .nil rfl rfl ?_
      refine WL.pick .nil rfl rfl rfl rfl rfl ?_
      refine WL.move .nil rfl rfl rfl rfl ?_
      refine WL.skip .nil rfl rfl ?_
      refine WL.skip .nil rfl rfl ?_
      refine WL.skip .nil rfl rfl ?_
      refine WL.skip .nil rfl rfl ?_
      refine WL.pick .nil rfl rfl rfl rfl rfl ?_
      with_reducible refine WL.nil ?_
      with_reducible refine Ex.thn_norm ?_
      exact ⟨[(0, str x1), (17, .bool true)], (Fr.le_cons rfl (Fr.le_cons rfl Fr.le_nil)), true, F0, rfl, hS0, hE0, hr⟩
    · replace hr := ite_neg hr hg317
      refine WL.move .nil rfl rfl rfl rfl ?_
      refine GL.lenStr .nil rfl rfl rfl Try.underlying9 rfl ?_
      refine WL.bin .nil rfl rfl rfl rfl rfl rfl ?_
      refine WL.pick .nil rfl rfl rfl rfl rfl ?_
      refine WL.move .nil rfl rfl rfl rfl ?_
      refine WL.guardD rfl rfl rfl (fun hg318 => ?_) (fun hg318 => ?_)
      · replace hr := ite_pos hr hg318
        refine WL.skip .nil rfl rfl ?_
        refine WL.skip .nil rfl rfl ?_
        refine WL.skip .nil rfl rfl ?_
        refine WL.skip .nil rfl rfl ?_
        refine WL.pick .nil rfl rfl rfl rfl rfl ?_
        with_reducible refine WL.nil ?_
        with_reducible refine Ex.thn_norm ?_
        exact ⟨[(0, str x1), (17, .bool true)], (Fr.le_cons rfl (Fr.le_cons rfl Fr.le_nil)), true, F0, rfl, hS0, hE0, hr⟩
      · replace hr := ite_neg hr hg318
        refine WL.move .nil rfl rfl rfl rfl ?_
        obtain ⟨x319, hx319, hr⟩ := bnd_some hr
        refine GL.strIdx .nil rfl rfl rfl Try.underlying9 rfl rfl hx319 ?_
        obtain ⟨x320, hx320, hr⟩ := bnd_some hr
        refine GL.callP g.good .nil rfl rfl rfl rfl rfl rfl Try.func73 rfl rfl hS0.lo (f_spec_l00Letter_k  g hS0 hx320) (fun v n321 H322 hn323 hk324 hp325 => ?_)
        obtain ⟨hS326, rfl⟩ := hp325
        have hS327 : St n0 n321 H322 F0 := ⟨by have := hS0.lo; omega, hS326.hb, hS326.fh⟩
        have hlon321 := hS327.lo
        refine WL.not .nil rfl rfl rfl rfl ?_
        refine WL.pick .nil rfl rfl rfl rfl rfl ?_
        with_reducible refine WL.nil ?_
        with_reducible refine Ex.thn_norm ?_
        exact ⟨[(0, str x1), (17, .bool (!x320))], (Fr.le_cons rfl (Fr.le_cons rfl Fr.le_nil)), (!x320), F0, rfl, hS327, (hE0.up (by omega)), hr⟩
  · intro _ n13 H14 hI
    obtain ⟨x18, F15, rfl, hS16, hE17, hr⟩ := hI
    have hlen13 := hE17.le
    have hlon13 := hS16.lo
    unfold f_spec_l00Word_J0 at hr
    refine W.cond rfl (fun hc20 => ?_) (fun hc20 => ?_)
    · replace hr := iteB_pos hr hc20
      with_reducible refine W.seq ?_
      with_reducible refine W.region ?_
      refine WL.assign .nil rfl rfl rfl rfl ?_
      with_reducible refine WL.nil ?_
      with_reducible refine Ex.thn_norm ?_
      with_reducible refine W.ret ?_
      with_reducible refine Ex.thn_ret ?_
      obtain rfl := Option.some.inj hr
      exact ⟨.inr rfl, _, (.cons (.tmp rfl) .nil), ⟨(Ext.st hE17 hS16), rfl⟩⟩
    · replace hr := iteB_neg hr hc20
      with_reducible refine W.skip ?_
      with_reducible refine Ex.thn_norm ?_
      with_reducible refine W.seq ?_
      with_reducible refine W.seq ?_
      with_reducible refine W.region ?_
      refine WL.assign .nil rfl rfl rfl rfl ?_
      with_reducible refine WL.nil ?_
      with_reducible refine Ex.thn_norm ?_
      with_reducible refine W.block ?_
      refine W.loopF (fun k1 fr n H => ∃ (x223 : Int) (F : Heap), fr = [(0, str x1), (3, .int .i64 x223)] ∧ St n0 n H F ∧ Ext n0 F0 n F ∧ f_spec_l00Word_L1 x1 k1 x223 = some res) BIG (fr0 := [(0, str x1), (3, .int .i64 1)]) (Fr.le_cons rfl (Fr.le_cons rfl Fr.le_nil)) ?_ ?_ ?_
      · exact ⟨1, F15, rfl, hS16, hE17, hr⟩
      · intro fr n H hI
        obtain ⟨x223, F220, hfr, hS221, hE222, hr⟩ := hI
        rw [f_spec_l00Word_L1] at hr
        cases hr
      · intro k1 _ n218 H219 hI
        obtain ⟨x223, F220, rfl, hS221, hE222, hr⟩ := hI
        have hlen218 := hE222.le
        have hlon218 := hS221.lo
        rw [f_spec_l00Word_L1] at hr
        with_reducible refine W.seq ?_
        with_reducible refine W.seq ?_
        with_reducible refine W.region ?_
        refine WL.move .nil rfl rfl rfl rfl ?_
        refine WL.move .nil rfl rfl rfl rfl ?_
        refine GL.lenStr .nil rfl rfl rfl Try.underlying9 rfl ?_
        refine WL.bin .nil rfl rfl rfl rfl rfl rfl ?_
        with_reducible refine WL.nil ?_
        with_reducible refine Ex.thn_norm ?_
        refine W.condD rfl (fun hc225 => ?_) (fun hc225 => ?_)
        · replace hr := ite_pos hr hc225
          with_reducible refine W.skip ?_
          with_reducible refine Ex.thn_norm ?_
          with_reducible refine W.seq ?_
          with_reducible refine W.block ?_
          with_reducible refine W.seq ?_
          refine W.cut (fun fr n H => ∃ (x295 : Bool) (F : Heap), fr = [(0, str x1), (3, .int .i64 x223), (35, .bool x295)] ∧ St n0 n H F ∧ Ext n0 F0 n F ∧ f_spec_l00Word_J2 x223 (f_spec_l00Word_L1 x1 k1) x295 = some res) ?_ ?_
          · with_reducible refine W.region ?_
            refine WL.move .nil rfl rfl rfl rfl ?_
            refine WL.move .nil rfl rfl rfl rfl ?_
            obtain ⟨x298, hx298, hr⟩ := bnd_some hr
            refine GL.strIdx .nil rfl rfl rfl Try.underlying9 rfl rfl hx298 ?_
            obtain ⟨x299, hx299, hr⟩ := bnd_some hr
            refine GL.callP g.good .nil rfl rfl rfl rfl rfl rfl Try.func73 rfl rfl hS221.lo (f_spec_l00Letter_k  g hS221 hx299) (fun v n300 H301 hn302 hk303 hp304 => ?_)
            obtain ⟨hS305, rfl⟩ := hp304
            have hS306 : St n0 n300 H301 F220 := ⟨by have := hS221.lo; omega, hS305.hb, hS305.fh⟩
            have hlon300 := hS306.lo
            refine WL.not .nil rfl rfl rfl rfl ?_
            refine WL.move .nil rfl rfl rfl rfl ?_
            refine WL.guard rfl rfl rfl (fun hg307 => ?_) (fun hg307 => ?_)
            · replace hr := iteB_pos hr hg307
              refine WL.move .nil rfl rfl rfl rfl ?_
              refine WL.move .nil rfl rfl rfl rfl ?_
              obtain ⟨x308, hx308, hr⟩ := bnd_some hr
              refine GL.strIdx .nil rfl rfl rfl Try.underlying9 rfl rfl hx308 ?_
              obtain ⟨x309, hx309, hr⟩ := bnd_some hr
              refine GL.callP g.good .nil rfl rfl rfl rfl rfl rfl Try.func74 rfl rfl hS306.lo (f_spec_l00Digit_k  g hS306 hx309) (fun v n310 H311 hn312 hk313 hp314 => ?_)
              obtain ⟨hS315, rfl⟩ := hp314
              have hS316 : St n0 n310 H311 F220 := ⟨by have := hS306.lo; omega, hS315.hb, hS315.fh⟩
              have hlon310 := hS316.lo
              refine WL.not .nil rfl rfl rfl rfl ?_
              refine WL.pick .nil rfl rfl rfl rfl rfl ?_
              with_reducible refine WL.nil ?_
              with_reducible refine Ex.thn_norm ?_
              exact ⟨[(0, str x1), (3, .int .i64 x223), (35, .bool (!x309))], (Fr.le_cons rfl (Fr.le_cons rfl (Fr.le_cons rfl Fr.le_nil))), (!x309), F220, rfl, hS316, (hE222.up (by omega)), hr⟩
            · replace hr := iteB_neg hr hg307
              refine WL.skip .nil rfl rfl ?_
              refine WL.skip .nil rfl rfl ?_
              refine WL.skip .nil rfl rfl ?_
              refine WL.skip .nil rfl rfl ?_
              refine WL.skip .nil rfl rfl ?_
              refine WL.pick .nil rfl rfl rfl rfl rfl ?_
              with_reducible refine WL.nil ?_
              with_reducible refine Ex.thn_norm ?_
              exact ⟨[(0, str x1), (3, .int .i64 x223), (35, .bool false)], (Fr.le_cons rfl (Fr.le_cons rfl (Fr.le_cons rfl Fr.le_nil))), false, F220, rfl, hS306, (hE222.up (by omega)), hr⟩
          · intro _ n290 H291 hI
            obtain ⟨x295, F292, rfl, hS293, hE294, hr⟩ := hI
            have hlen290 := hE294.le
            have hlon290 := hS293.lo
            unfold f_spec_l00Word_J2 at hr
            refine W.cond rfl (fun hc296 => ?_) (fun hc296 => ?_)
            · replace hr := iteB_pos hr hc296
              with_reducible refine W.seq ?_
              with_reducible refine W.region ?_
              refine WL.assign .nil rfl rfl rfl rfl ?_
              with_reducible refine WL.nil ?_
              with_reducible refine Ex.thn_norm ?_
              with_reducible refine W.ret ?_
              with_reducible refine Ex.blk_ret ?_
              with_reducible refine Ex.thn_ret ?_
              with_reducible refine Ex.thn_ret ?_
              with_reducible refine Ex.blk_ret ?_
              with_reducible refine Ex.thn_ret ?_
              obtain rfl := Option.some.inj hr
              exact ⟨.inr rfl, _, (.cons (.tmp rfl) .nil), ⟨(Ext.st hE294 hS293), rfl⟩⟩
            · replace hr := iteB_neg hr hc296
              with_reducible refine W.skip ?_
              with_reducible refine Ex.blk_norm ?_
              with_reducible refine Ex.thn_norm ?_
              with_reducible refine W.region ?_
              refine WL.move .nil rfl rfl rfl rfl ?_
              obtain ⟨hc297, hr⟩ := chk_some hr
              refine WL.addI .nil rfl rfl rfl rfl rfl hc297.1 hc297.2 ?_
              refine WL.assign .nil rfl rfl rfl rfl ?_
              with_reducible refine WL.nil ?_
              with_reducible refine Ex.thn_norm ?_
              exact ⟨[(0, str x1), (3, .int .i64 (x223 + 1))], (Fr.le_cons rfl (Fr.le_cons rfl Fr.le_nil)), (x223 + 1), F292, rfl, hS293, hE294, hr⟩
        · replace hr := ite_neg hr hc225
          with_reducible refine W.exit ?_
          with_reducible refine Ex.thn_ex ?_
          with_reducible refine Ex.thn_ex ?_
          with_reducible refine Ex.blk_here ?_
          with_reducible refine Ex.thn_norm ?_
          with_reducible refine W.seq ?_
          with_reducible refine W.region ?_
          refine WL.assign .nil rfl rfl rfl rfl ?_
          with_reducible refine WL.nil ?_
          with_reducible refine Ex.thn_norm ?_
          with_reducible refine W.ret ?_
          obtain rfl := Option.some.inj hr
          exact ⟨.inr rfl, _, (.cons (.tmp rfl) .nil), ⟨(Ext.st hE222 hS221), rfl⟩⟩
theorem f_spec_NameOK_k {Δ : Prims} (g : Env Try.prog Δ) {lo n0 : Nat} {H0 F0 : Heap} (hS : St lo n0 H0 F0) {x1 : Str} {res : (Bool)} (hr : f_spec_NameOK x1 = some res) :
    C Try.prog Δ n0 39 [str x1] n0 H0 (fun v n H => St n0 n H F0 ∧ v = .bool res) := by
  refine C.body Try.func39 rfl rfl ?_
  unfold f_spec_NameOK at hr
  have hS0 : St n0 n0 H0 F0 := hS.low (Nat.le_refl _)
  have hE0 := Ext.refl n0 F0
  have hlo0 := hS0.lo
  with_reducible refine W.seq ?_
  with_reducible refine W.region ?_
  refine WL.assign .nil rfl rfl rfl rfl ?_
  with_reducible refine WL.nil ?_
  with_reducible refine Ex.thn_norm ?_
  with_reducible refine W.seq ?_
  with_reducible refine W.region ?_
  refine WL.move .nil rfl rfl rfl rfl ?_
  obtain ⟨x2, hx2, hr⟩ := bnd_some hr
  refine GL.callP g.good .nil rfl rfl rfl rfl rfl rfl Try.func61 rfl rfl hS0.lo (f_spec_l00Word_k  g hS0 hx2) (fun v n3 H4 hn5 hk6 hp7 => ?_)
  obtain ⟨hS8, rfl⟩ := hp7
  have hS9 : St n0 n3 H4 F0 := ⟨by have := hS0.lo; omega, hS8.hb, hS8.fh⟩
  have hlon3 := hS9.lo
  refine WL.assign .nil rfl rfl rfl rfl ?_
  with_reducible refine WL.nil ?_
  with_reducible refine Ex.thn_norm ?_
  with_reducible refine W.ret ?_
  obtain rfl := Option.some.inj hr
  exact ⟨.inr rfl, _, (.cons (.tmp rfl) .nil), ⟨(Ext.st hE0 hS9), rfl⟩⟩
theorem f_spec_l09File_k {Δ : Prims} (g : Env Try.prog Δ) {lo n0 : Nat} {H0 F0 : Heap} (hS : St lo n0 H0 F0) {a2 : Option Addr} {cap3 : Nat} {xs1 : (List GFile)} {x5 : Str} (h4 : SR F0 (.slice a2 xs1.length cap3) xs1) {res : (Int)} (hr : f_spec_l09File xs1 x5 = some res) :
    C Try.prog Δ n0 40 [.slice a2 xs1.length cap3, str x5] n0 H0 (fun v n H => St n0 n H F0 ∧ v = .int .i64 res) := by
  refine C.body Try.func40 rfl rfl ?_
  unfold f_spec_l09File at hr
  have hS0 : St n0 n0 H0 F0 := hS.low (Nat.le_refl _)
  have hE0 := Ext.refl n0 F0
  have hlo0 := hS0.lo
  with_reducible refine W.seq ?_
  with_reducible refine W.region ?_
  refine WL.assign .nil rfl rfl rfl rfl ?_
  with_reducible refine WL.nil ?_
  with_reducible refine Ex.thn_norm ?_
  with_reducible refine W.seq ?_
  with_reducible refine W.seq ?_
  with_reducible refine W.region ?_
  refine WL.assign .nil rfl rfl rfl rfl ?_
  with_reducible refine WL.nil ?_
  with_reducible refine Ex.thn_norm ?_
  with_reducible refine W.block ?_
  refine W.loopF (fun k0 fr n H => ∃ (x67 : Int) (F : Heap), fr = [(0, .slice a2 xs1.length cap3), (1, str x5), (5, .int .i64 x67)] ∧ St n0 n H F ∧ Ext n0 F0 n F ∧ SR F (.slice a2 xs1.length cap3) xs1 ∧ f_spec_l09File_L0 xs1 x5 k0 x67 = some res) BIG (fr0 := [(0, .slice a2 xs1.length cap3), (1, str x5), (5, .int .i64 0)]) (Fr.le_cons rfl (Fr.le_cons rfl (Fr.le_cons rfl Fr.le_nil))) ?_ ?_ ?_
  · exact ⟨0, F0, rfl, hS0, hE0, h4, hr⟩
  · intro fr n H hI
    obtain ⟨x67, F63, hfr, hS64, hE65, h66, hr⟩ := hI
    rw [f_spec_l09File_L0] at hr
    cases hr
  · intro k0 _ n61 H62 hI
    obtain ⟨x67, F63, rfl, hS64, hE65, h66, hr⟩ := hI
    have hlen61 := hE65.le
    have hlon61 := hS64.lo
    rw [f_spec_l09File_L0] at hr
    with_reducible refine W.seq ?_
    with_reducible refine W.seq ?_
    with_reducible refine W.region ?_
    refine WL.move .nil rfl rfl rfl rfl ?_
    refine WL.move .nil rfl rfl rfl rfl ?_
    refine WL.len .nil rfl rfl rfl Try.underlying23 rfl ?_
    refine WL.bin .nil rfl rfl rfl rfl rfl rfl ?_
    with_reducible refine WL.nil ?_
    with_reducible refine Ex.thn_norm ?_
    refine W.condD rfl (fun hc69 => ?_) (fun hc69 => ?_)
    · replace hr := ite_pos hr hc69
      with_reducible refine W.skip ?_
      with_reducible refine Ex.thn_norm ?_
      with_reducible refine W.seq ?_
      with_reducible refine W.block ?_
      with_reducible refine W.seq ?_
      with_reducible refine W.region ?_
      refine WL.move .nil rfl rfl rfl rfl ?_
      refine WL.move .nil rfl rfl rfl rfl ?_
      obtain ⟨x79, hx79, hr⟩ := bnd_some hr
      refine GL.index .nil rfl rfl rfl Try.underlying23 info50 rfl rfl h66 hS64.fh rfl hx79 (fun b80 kp81 c82 ecs83 hrow84 hwin85 hR86 => ?_)
      obtain ⟨rfl⟩ := GFile.ofR hR86
      refine WL.fieldAddr .nil rfl rfl rfl Try.underlying50 rfl info9 rfl rfl ?_
      refine WL.load1 .nil rfl rfl rfl Try.underlying9 rfl rfl hrow84 ((win_get0 hwin85 (show (0 : Nat) < 3 by decide)).trans rfl) ?_
      refine WL.move .nil rfl rfl rfl rfl ?_
      refine GL.strCmp .nil rfl rfl rfl rfl rfl (by decide) rfl ?_
      with_reducible refine WL.nil ?_
      with_reducible refine Ex.thn_norm ?_
      refine W.condD (p := lst x79.Name = lst x5) rfl (fun hc87 => ?_) (fun hc87 => ?_)
      · replace hr := ite_pos hr hc87
        with_reducible refine W.seq ?_
        with_reducible refine W.region ?_
        refine WL.move .nil rfl rfl rfl rfl ?_
        refine WL.assign .nil rfl rfl rfl rfl ?_
        with_reducible refine WL.nil ?_
        with_reducible refine Ex.thn_norm ?_
        with_reducible refine W.ret ?_
        with_reducible refine Ex.blk_ret ?_
        with_reducible refine Ex.thn_ret ?_
        with_reducible refine Ex.thn_ret ?_
        with_reducible refine Ex.blk_ret ?_
        with_reducible refine Ex.thn_ret ?_
        obtain rfl := Option.some.inj hr
        exact ⟨.inr rfl, _, (.cons (.tmp rfl) .nil), ⟨(Ext.st hE65 hS64), rfl⟩⟩
      · replace hr := ite_neg hr hc87
        with_reducible refine W.skip ?_
        with_reducible refine Ex.blk_norm ?_
        with_reducible refine Ex.thn_norm ?_
        with_reducible refine W.region ?_
        refine WL.move .nil rfl rfl rfl rfl ?_
        obtain ⟨hc88, hr⟩ := chk_some hr
        refine WL.addI .nil rfl rfl rfl rfl rfl hc88.1 hc88.2 ?_
        refine WL.assign .nil rfl rfl rfl rfl ?_
        with_reducible refine WL.nil ?_
        with_reducible refine Ex.thn_norm ?_
        exact ⟨[(0, .slice a2 xs1.length cap3), (1, str x5), (5, .int .i64 (x67 + 1))], (Fr.le_cons rfl (Fr.le_cons rfl (Fr.le_cons rfl Fr.le_nil))), (x67 + 1), F63, rfl, hS64, hE65, h66, hr⟩
    · replace hr := ite_neg hr hc69
      with_reducible refine W.exit ?_
      with_reducible refine Ex.thn_ex ?_
      with_reducible refine Ex.thn_ex ?_
      with_reducible refine Ex.blk_here ?_
      with_reducible refine Ex.thn_norm ?_
      with_reducible refine W.seq ?_
      with_reducible refine W.region ?_
      refine WL.assign .nil rfl rfl rfl rfl ?_
      with_reducible refine WL.nil ?_
      with_reducible refine Ex.thn_norm ?_
      with_reducible refine W.ret ?_
      obtain rfl := Option.some.inj hr
      exact ⟨.inr rfl, _, (.cons (.tmp rfl) .nil), ⟨(Ext.st hE65 hS64), rfl⟩⟩
theorem f_spec_l02In_k {Δ : Prims} (g : Env Try.prog Δ) {lo n0 : Nat} {H0 F0 : Heap} (hS : St lo n0 H0 F0) {x1 : Int} {x2 : Int} {x3 : Int} {res : (Bool)} (hr : f_spec_l02In x1 x2 x3 = some res) :
    C Try.prog Δ n0 41 [.int .i64 x1, .int .i64 x2, .int .i64 x3] n0 H0 (fun v n H => St n0 n H F0 ∧ v = .bool res) := by
  refine C.body Try.func41 rfl rfl ?_
  unfold f_spec_l02In at hr
  have hS0 : St n0 n0 H0 F0 := hS.low (Nat.le_refl _)
  have hE0 := Ext.refl n0 F0
  have hlo0 := hS0.lo
  with_reducible refine W.seq ?_
  with_reducible refine W.region ?_
  refine WL.assign .nil rfl rfl rfl rfl ?_
  with_reducible refine WL.nil ?_
  with_reducible refine Ex.thn_norm ?_
  with_reducible refine W.seq ?_
  with_reducible refine W.region ?_
  refine WL.move .nil rfl rfl rfl rfl ?_
  refine WL.move .nil rfl rfl rfl rfl ?_
  refine WL.bin .nil rfl rfl rfl rfl rfl rfl ?_
  refine WL.move .nil rfl rfl rfl rfl ?_
  refine WL.guardD rfl rfl rfl (fun hg4 => ?_) (fun hg4 => ?_)
  · replace hr := ite_pos hr hg4
    refine WL.move .nil rfl rfl rfl rfl ?_
    refine WL.move .nil rfl rfl rfl rfl ?_
    refine WL.bin .nil rfl rfl rfl rfl rfl rfl ?_
    refine WL.pick .nil rfl rfl rfl rfl rfl ?_
    refine WL.assign .nil rfl rfl rfl rfl ?_
    with_reducible refine WL.nil ?_
    with_reducible refine Ex.thn_norm ?_
    with_reducible refine W.ret ?_
    obtain rfl := Option.some.inj hr
    exact ⟨.inr rfl, _, (.cons (.tmp rfl) .nil), ⟨(Ext.st hE0 hS0), rfl⟩⟩
  · replace hr := ite_neg hr hg4
    refine WL.skip .nil rfl rfl ?_
    refine WL.skip .nil rfl rfl ?_
    refine WL.skip .nil rfl rfl ?_
    refine WL.pick .nil rfl rfl rfl rfl rfl ?_
    refine WL.assign .nil rfl rfl rfl rfl ?_
    with_reducible refine WL.nil ?_
    with_reducible refine Ex.thn_norm ?_
    with_reducible refine W.ret ?_
    obtain rfl := Option.some.inj hr
    exact ⟨.inr rfl, _, (.cons (.tmp rfl) .nil), ⟨(Ext.st hE0 hS0), rfl⟩⟩
theorem f_spec_l09Session_k {Δ : Prims} (g : Env Try.prog Δ) {lo n0 : Nat} {H0 F0 : Heap} (hS : St lo n0 H0 F0) {a2 : Option Addr} {cap3 : Nat} {xs1 : (List GSession)} {x5 : Int} (h4 : SR F0 (.slice a2 xs1.length cap3) xs1) {res : (Int)} (hr : f_spec_l09Session xs1 x5 = some res) :
    C Try.prog Δ n0 42 [.slice a2 xs1.length cap3, .int .i64 x5] n0 H0 (fun v n H => St n0 n H F0 ∧ v = .int .i64 res) := by
  refine C.body Try.func42 rfl rfl ?_
  unfold f_spec_l09Session at hr
  have hS0 : St n0 n0 H0 F0 := hS.low (Nat.le_refl _)
  have hE0 := Ext.refl n0 F0
  have hlo0 := hS0.lo
  with_reducible refine W.seq ?_
  with_reducible refine W.region ?_
  refine WL.assign .nil rfl rfl rfl rfl ?_
  with_reducible refine WL.nil ?_
  with_reducible refine Ex.thn_norm ?_
  with_reducible refine W.seq ?_
  with_reducible refine W.seq ?_
  with_reducible refine W.region ?_
  refine WL.assign .nil rfl rfl rfl rfl ?_
  with_reducible refine WL.nil ?_
  with_reducible refine Ex.thn_norm ?_
  with_reducible refine W.block ?_
  refine W.loopF (fun k0 fr n H => ∃ (x67 : Int) (F : Heap), fr = [(0, .slice a2 xs1.length cap3), (1, .int .i64 x5), (5, .int .i64 x67)] ∧ St n0 n H F ∧ Ext n0 F0 n F ∧ SR F (.slice a2 xs1.length cap3) xs1 ∧ f_spec_l09Session_L0 xs1 x5 k0 x67 = some res) BIG (fr0 := [(0, .slice a2 xs1.length cap3), (1, .int .i64 x5), (5, .int .i64 0)]) (Fr.le_cons rfl (Fr.le_cons rfl (Fr.le_cons rfl Fr.le_nil))) ?_ ?_ ?_
  · exact ⟨0, F0, rfl, hS0, hE0, h4, hr⟩
  · intro fr n H hI
    obtain ⟨x67, F63, hfr, hS64, hE65, h66, hr⟩ := hI
    rw [f_spec_l09Session_L0] at hr
    cases hr
  · intro k0 _ n61 H62 hI
    obtain ⟨x67, F63, rfl, hS64, hE65, h66, hr⟩ := hI
    have hlen61 := hE65.le
    have hlon61 := hS64.lo
    rw [f_spec_l09Session_L0] at hr
    with_reducible refine W.seq ?_
    with_reducible refine W.seq ?_
    with_reducible refine W.region ?_
    refine WL.move .nil rfl rfl rfl rfl ?_
    refine WL.move .nil rfl rfl rfl rfl ?_
    refine WL.len .nil rfl rfl rfl Try.underlying24 rfl ?_
    refine WL.bin .nil rfl rfl rfl rfl rfl rfl ?_
    with_reducible refine WL.nil ?_
    with_reducible refine Ex.thn_norm ?_
    refine W.condD rfl (fun hc69 => ?_) (fun hc69 => ?_)
    · replace hr := ite_pos hr hc69
      with_reducible refine W.skip ?_
      with_reducible refine Ex.thn_norm ?_
      with_reducible refine W.seq ?_
      with_reducible refine W.block ?_
      with_reducible refine W.seq ?_
      with_reducible refine W.region ?_
      refine WL.move .nil rfl rfl rfl rfl ?_
      refine WL.move .nil rfl rfl rfl rfl ?_
      obtain ⟨x79, hx79, hr⟩ := bnd_some hr
      refine GL.index .nil rfl rfl rfl Try.underlying24 info54 rfl rfl h66 hS64.fh rfl hx79 (fun b80 kp81 c82 ecs83 hrow84 hwin85 hR86 => ?_)
      obtain ⟨rfl⟩ := GSession.ofR hR86
      refine WL.fieldAddr .nil rfl rfl rfl Try.underlying54 rfl info3 rfl rfl ?_
      refine WL.load1 .nil rfl rfl rfl Try.underlying3 rfl rfl hrow84 ((win_get0 hwin85 (show (0 : Nat) < 5 by decide)).trans rfl) ?_
      refine WL.move .nil rfl rfl rfl rfl ?_
      refine WL.bin .nil rfl rfl rfl rfl rfl rfl ?_
      with_reducible refine WL.nil ?_
      with_reducible refine Ex.thn_norm ?_
      refine W.condD rfl (fun hc87 => ?_) (fun hc87 => ?_)
      · replace hr := ite_pos hr hc87
        with_reducible refine W.seq ?_
        with_reducible refine W.region ?_
        refine WL.move .nil rfl rfl rfl rfl ?_
        refine WL.assign .nil rfl rfl rfl rfl ?_
        with_reducible refine WL.nil ?_
        with_reducible refine Ex.thn_norm ?_
        with_reducible refine W.ret ?_
        with_reducible refine Ex.blk_ret ?_
        with_reducible refine Ex.thn_ret ?_
        with_reducible refine Ex.thn_ret ?_
        with_reducible refine Ex.blk_ret ?_
        with_reducible refine Ex.thn_ret ?_
        obtain rfl := Option.some.inj hr
        exact ⟨.inr rfl, _, (.cons (.tmp rfl) .nil), ⟨(Ext.st hE65 hS64), rfl⟩⟩
      · replace hr := ite_neg hr hc87
        with_reducible refine W.skip ?_
        with_reducible refine Ex.blk_norm ?_
        with_reducible refine Ex.thn_norm ?_
        with_reducible refine W.region ?_
        refine WL.move .nil rfl rfl rfl rfl ?_
        obtain ⟨hc88, hr⟩ := chk_some hr
        refine WL.addI .nil rfl rfl rfl rfl rfl hc88.1 hc88.2 ?_
        refine WL.assign .nil rfl rfl rfl rfl ?_
        with_reducible refine WL.nil ?_
        with_reducible refine Ex.thn_norm ?_
        exact ⟨[(0, .slice a2 xs1.length cap3), (1, .int .i64 x5), (5, .int .i64 (x67 + 1))], (Fr.le_cons rfl (Fr.le_cons rfl (Fr.le_cons rfl Fr.le_nil))), (x67 + 1), F63, rfl, hS64, hE65, h66, hr⟩
    · replace hr := ite_neg hr hc69
      with_reducible refine W.exit ?_
      with_reducible refine Ex.thn_ex ?_
      with_reducible refine Ex.thn_ex ?_
      with_reducible refine Ex.blk_here ?_
      with_reducible refine Ex.thn_norm ?_
      with_reducible refine W.seq ?_
      with_reducible refine W.region ?_
      refine WL.assign .nil rfl rfl rfl rfl ?_
      with_reducible refine WL.nil ?_
      with_reducible refine Ex.thn_norm ?_
      with_reducible refine W.ret ?_
      obtain rfl := Option.some.inj hr
      exact ⟨.inr rfl, _, (.cons (.tmp rfl) .nil), ⟨(Ext.st hE65 hS64), rfl⟩⟩
theorem f_spec_l09Sha_k {Δ : Prims} (g : Env Try.prog Δ) {lo n0 : Nat} {H0 F0 : Heap} (hS : St lo n0 H0 F0) {x1 : Str} {res : (Bool)} (hr : f_spec_l09Sha x1 = some res) :
    C Try.prog Δ n0 62 [str x1] n0 H0 (fun v n H => St n0 n H F0 ∧ v = .bool res) := by
  refine C.body Try.func62 rfl rfl ?_
  unfold f_spec_l09Sha at hr
  have hS0 : St n0 n0 H0 F0 := hS.low (Nat.le_refl _)
  have hE0 := Ext.refl n0 F0
  have hlo0 := hS0.lo
  with_reducible refine W.seq ?_
  with_reducible refine W.region ?_
  refine WL.assign .nil rfl rfl rfl rfl ?_
  with_reducible refine WL.nil ?_
  with_reducible refine Ex.thn_norm ?_
  with_reducible refine W.seq ?_
  with_reducible refine W.seq ?_
  with_reducible refine W.region ?_
  refine WL.assign .nil rfl rfl rfl rfl ?_
  with_reducible refine WL.nil ?_
  with_reducible refine Ex.thn_norm ?_
  with_reducible refine W.block ?_
  refine W.loopF (fun k0 fr n H => ∃ (x380 : Int) (F : Heap), fr = [(0, str x1), (3, .int .i64 x380)] ∧ St n0 n H F ∧ Ext n0 F0 n F ∧ f_spec_l09Sha_L0 x1 k0 x380 = some res) BIG (fr0 := [(0, str x1), (3, .int .i64 0)]) (Fr.le_cons rfl (Fr.le_cons rfl Fr.le_nil)) ?_ ?_ ?_
  · exact ⟨0, F0, rfl, hS0, hE0, hr⟩
  · intro fr n H hI
    obtain ⟨x380, F377, hfr, hS378, hE379, hr⟩ := hI
    rw [f_spec_l09Sha_L0] at hr
    cases hr
  · intro k0 _ n375 H376 hI
    obtain ⟨x380, F377, rfl, hS378, hE379, hr⟩ := hI
    have hlen375 := hE379.le
    have hlon375 := hS378.lo
    rw [f_spec_l09Sha_L0] at hr
    with_reducible refine W.seq ?_
    with_reducible refine W.seq ?_
    with_reducible refine W.region ?_
    refine WL.move .nil rfl rfl rfl rfl ?_
    refine WL.move .nil rfl rfl rfl rfl ?_
    refine GL.lenStr .nil rfl rfl rfl Try.underlying9 rfl ?_
    refine WL.bin .nil rfl rfl rfl rfl rfl rfl ?_
    with_reducible refine WL.nil ?_
    with_reducible refine Ex.thn_norm ?_
    refine W.condD rfl (fun hc382 => ?_) (fun hc382 => ?_)
    · replace hr := ite_pos hr hc382
      with_reducible refine W.skip ?_
      with_reducible refine Ex.thn_norm ?_
      with_reducible refine W.seq ?_
      with_reducible refine W.block ?_
      with_reducible refine W.seq ?_
      refine W.cut (fun fr n H => ∃ (x434 : Bool) (F : Heap), fr = [(0, str x1), (3, .int .i64 x380), (26, .bool x434)] ∧ St n0 n H F ∧ Ext n0 F0 n F ∧ f_spec_l09Sha_J1 x380 (f_spec_l09Sha_L0 x1 k0) x434 = some res) ?_ ?_
      · with_reducible refine W.region ?_
        refine WL.move .nil rfl rfl rfl rfl ?_
        refine WL.move .nil rfl rfl rfl rfl ?_
        obtain ⟨x437, hx437, hr⟩ := bnd_some hr
        refine GL.strIdx .nil rfl rfl rfl Try.underlying9 rfl rfl hx437 ?_
        obtain ⟨x438, hx438, hr⟩ := bnd_some hr
        refine GL.callP g.good .nil rfl rfl rfl rfl rfl rfl Try.func74 rfl rfl hS378.lo (f_spec_l00Digit_k  g hS378 hx438) (fun v n439 H440 hn441 hk442 hp443 => ?_)
        obtain ⟨hS444, rfl⟩ := hp443
        have hS445 : St n0 n439 H440 F377 := ⟨by have := hS378.lo; omega, hS444.hb, hS444.fh⟩
        have hlon439 := hS445.lo
        refine WL.not .nil rfl rfl rfl rfl ?_
        refine WL.move .nil rfl rfl rfl rfl ?_
        refine WL.guard rfl rfl rfl (fun hg446 => ?_) (fun hg446 => ?_)
        · replace hr := iteB_pos hr hg446
          refine WL.move .nil rfl rfl rfl rfl ?_
          refine WL.move .nil rfl rfl rfl rfl ?_
          obtain ⟨x447, hx447, hr⟩ := bnd_some hr
          refine GL.strIdx .nil rfl rfl rfl Try.underlying9 rfl rfl hx447 ?_
          refine WL.bin .nil rfl rfl rfl rfl rfl rfl ?_
          refine WL.move .nil rfl rfl rfl rfl ?_
          refine WL.guardD rfl rfl rfl (fun hg448 => ?_) (fun hg448 => ?_)
          · replace hr := ite_pos hr hg448
            refine WL.skip .nil rfl rfl ?_
            refine WL.skip .nil rfl rfl ?_
            refine WL.skip .nil rfl rfl ?_
            refine WL.skip .nil rfl rfl ?_
            refine WL.pick .nil rfl rfl rfl rfl rfl ?_
            refine WL.pick .nil rfl rfl rfl rfl rfl ?_
            with_reducible refine WL.nil ?_
            with_reducible refine Ex.thn_norm ?_
            exact ⟨[(0, str x1), (3, .int .i64 x380), (26, .bool true)], (Fr.le_cons rfl (Fr.le_cons rfl (Fr.le_cons rfl Fr.le_nil))), true, F377, rfl, hS445, (hE379.up (by omega)), hr⟩
          · replace hr := ite_neg hr hg448
            refine WL.move .nil rfl rfl rfl rfl ?_
            refine WL.move .nil rfl rfl rfl rfl ?_
            obtain ⟨x449, hx449, hr⟩ := bnd_some hr
            refine GL.strIdx .nil rfl rfl rfl Try.underlying9 rfl rfl hx449 ?_
            refine WL.bin .nil rfl rfl rfl rfl rfl rfl ?_
            refine WL.pick .nil rfl rfl rfl rfl rfl ?_
            refine WL.pick .nil rfl rfl rfl rfl rfl ?_
            with_reducible refine WL.nil ?_
            with_reducible refine Ex.thn_norm ?_
            exact ⟨[(0, str x1), (3, .int .i64 x380), (26, .bool (decide ((102 : Int) < (x449.toNat : Int))))], (Fr.le_cons rfl (Fr.le_cons rfl (Fr.le_cons rfl Fr.le_nil))), (decide ((102 : Int) < (x449.toNat : Int))), F377, rfl, hS445, (hE379.up (by omega)), hr⟩
        · replace hr := iteB_neg hr hg446
          refine WL.skip .nil rfl rfl ?_
          refine WL.skip .nil rfl rfl ?_
          refine WL.skip .nil rfl rfl ?_
          refine WL.skip .nil rfl rfl ?_
          refine WL.skip .nil rfl rfl ?_
          refine WL.skip .nil rfl rfl ?_
          refine WL.skip .nil rfl rfl ?_
          refine WL.skip .nil rfl rfl ?_
          refine WL.skip .nil rfl rfl ?_
          refine WL.skip .nil rfl rfl ?_
          refine WL.pick .nil rfl rfl rfl rfl rfl ?_
          with_reducible refine WL.nil ?_
          with_reducible refine Ex.thn_norm ?_
          exact ⟨[(0, str x1), (3, .int .i64 x380), (26, .bool false)], (Fr.le_cons rfl (Fr.le_cons rfl (Fr.le_cons rfl Fr.le_nil))), false, F377, rfl, hS445, (hE379.up (by omega)), hr⟩
      · intro _ n429 H430 hI
        obtain ⟨x434, F431, rfl, hS432, hE433, hr⟩ := hI
        have hlen429 := hE433.le
        have hlon429 := hS432.lo
        unfold f_spec_l09Sha_J1 at hr
        refine W.cond rfl (fun hc435 => ?_) (fun hc435 => ?_)
        · replace hr := iteB_pos hr hc435
          with_reducible refine W.seq ?_
          with_reducible refine W.region ?_
          refine WL.assign .nil rfl rfl rfl rfl ?_
          with_reducible refine WL.nil ?_
          with_reducible refine Ex.thn_norm ?_
          with_reducible refine W.ret ?_
          with_reducible refine Ex.blk_ret ?_
          with_reducible refine Ex.thn_ret ?_
          with_reducible refine Ex.thn_ret ?_
          with_reducible refine Ex.blk_ret ?_
          with_reducible refine Ex.thn_ret ?_
          obtain rfl := Option.some.inj hr
          exact ⟨.inr rfl, _, (.cons (.tmp rfl) .nil), ⟨(Ext.st hE433 hS432), rfl⟩⟩
        · replace hr := iteB_neg hr hc435
          with_reducible refine W.skip ?_
          with_reducible refine Ex.blk_norm ?_
          with_reducible refine Ex.thn_norm ?_
          with_reducible refine W.region ?_
          refine WL.move .nil rfl rfl rfl rfl ?_
          obtain ⟨hc436, hr⟩ := chk_some hr
          refine WL.addI .nil rfl rfl rfl rfl rfl hc436.1 hc436.2 ?_
          refine WL.assign .nil rfl rfl rfl rfl ?_
          with_reducible refine WL.nil ?_
          with_reducible refine Ex.thn_norm ?_
          exact ⟨[(0, str x1), (3, .int .i64 (x380 + 1))], (Fr.le_cons rfl (Fr.le_cons rfl Fr.le_nil)), (x380 + 1), F431, rfl, hS432, hE433, hr⟩
    · replace hr := ite_neg hr hc382
      with_reducible refine W.exit ?_
      with_reducible refine Ex.thn_ex ?_
      with_reducible refine Ex.thn_ex ?_
      with_reducible refine Ex.blk_here ?_
      with_reducible refine Ex.thn_norm ?_
      with_reducible refine W.seq ?_
      with_reducible refine W.region ?_
      refine WL.move .nil rfl rfl rfl rfl ?_
      refine GL.lenStr .nil rfl rfl rfl Try.underlying9 rfl ?_
      refine WL.bin .nil rfl rfl rfl rfl rfl rfl ?_
      refine WL.move .nil rfl rfl rfl rfl ?_
      refine WL.guardD rfl rfl rfl (fun hg450 => ?_) (fun hg450 => ?_)
      · replace hr := ite_pos hr hg450
        refine WL.skip .nil rfl rfl ?_
        refine WL.skip .nil rfl rfl ?_
        refine WL.skip .nil rfl rfl ?_
        refine WL.pick .nil rfl rfl rfl rfl rfl ?_
        refine WL.assign .nil rfl rfl rfl rfl ?_
        with_reducible refine WL.nil ?_
        with_reducible refine Ex.thn_norm ?_
        with_reducible refine W.ret ?_
        obtain rfl := Option.some.inj hr
        exact ⟨.inr rfl, _, (.cons (.tmp rfl) .nil), ⟨(Ext.st hE379 hS378), rfl⟩⟩
      · replace hr := ite_neg hr hg450
        refine WL.move .nil rfl rfl rfl rfl ?_
        refine GL.lenStr .nil rfl rfl rfl Try.underlying9 rfl ?_
        refine WL.bin .nil rfl rfl rfl rfl rfl rfl ?_
        refine WL.pick .nil rfl rfl rfl rfl rfl ?_
        refine WL.assign .nil rfl rfl rfl rfl ?_
        with_reducible refine WL.nil ?_
        with_reducible refine Ex.thn_norm ?_
        with_reducible refine W.ret ?_
        obtain rfl := Option.some.inj hr
        exact ⟨.inr rfl, _, (.cons (.tmp rfl) .nil), ⟨(Ext.st hE379 hS378), rfl⟩⟩
theorem f_spec_l09Reply_k {Δ : Prims} (g : Env Try.prog Δ) {lo n0 : Nat} {H0 F0 : Heap} (hS : St lo n0 H0 F0) {x1 : GReply} {res : (Bool)} (hr : f_spec_l09Reply x1 = some res) :
    C Try.prog Δ n0 43 [.agg [.int .i64 x1.Code, .int .i64 x1.Version, str x1.Sha].toArray] n0 H0 (fun v n H => St n0 n H F0 ∧ v = .bool res) := by
  refine C.body Try.func43 rfl rfl ?_
  unfold f_spec_l09Reply at hr
  have hS0 : St n0 n0 H0 F0 := hS.low (Nat.le_refl _)
  have hE0 := Ext.refl n0 F0
  have hlo0 := hS0.lo
  with_reducible refine W.seq ?_
  with_reducible refine W.region ?_
  refine GL.box hS0 .nil (vc := [.int .i64 x1.Code, .int .i64 x1.Version, str x1.Sha]) rfl rfl rfl rfl rfl (by repeat' (first | exact List.forall_mem_nil _ | refine List.forall_mem_cons.2 ⟨?_, ?_⟩ | rfl)) (fun H2 hS3 ho4 hk5 => ?_)
  have fo6 := hS0.fnone (Nat.le_refl _)
  have hlon01 := hS3.lo
  have lt7 : n0 < (n0 + 1) := by omega
  refine WL.assign .nil rfl rfl rfl rfl ?_
  with_reducible refine WL.nil ?_
  with_reducible refine Ex.thn_norm ?_
  with_reducible refine W.seq ?_
  with_reducible refine W.region ?_
  refine WL.fieldAddr .nil rfl rfl rfl Try.underlying52 rfl info3 rfl rfl ?_
  refine WL.load1 .nil rfl rfl rfl Try.underlying3 rfl rfl ho4 rfl ?_
  obtain ⟨x8, hx8, hr⟩ := bnd_some hr
  refine GL.callP g.good .nil rfl rfl rfl rfl rfl rfl Try.func41 rfl rfl hS3.lo (f_spec_l02In_k  g hS3 hx8) (fun v n9 H10 hn11 hk12 hp13 => ?_)
  obtain ⟨hS14, rfl⟩ := hp13
  have ho15 := (hk12 _ (by have := lt7; omega)).trans ho4
  have hS16 : St n0 n9 H10 F0 := ⟨by have := hS3.lo; omega, hS14.hb, hS14.fh⟩
  have hlon9 := hS16.lo
  refine WL.move .nil rfl rfl rfl rfl ?_
  refine WL.guard rfl rfl rfl (fun hg17 => ?_) (fun hg17 => ?_)
  · replace hr := iteB_pos hr hg17
    refine WL.fieldAddr .nil rfl rfl rfl Try.underlying52 rfl info3 rfl rfl ?_
    refine WL.load1 .nil rfl rfl rfl Try.underlying3 rfl rfl ho15 rfl ?_
    obtain ⟨x18, hx18, hr⟩ := bnd_some hr
    refine GL.callP g.good .nil rfl rfl rfl rfl rfl rfl Try.func41 rfl rfl hS16.lo (f_spec_l02In_k  g hS16 hx18) (fun v n19 H20 hn21 hk22 hp23 => ?_)
    obtain ⟨hS24, rfl⟩ := hp23
    have ho25 := (hk22 _ (by have := lt7; omega)).trans ho15
    have hS26 : St n0 n19 H20 F0 := ⟨by have := hS16.lo; omega, hS24.hb, hS24.fh⟩
    have hlon19 := hS26.lo
    refine WL.pick .nil rfl rfl rfl rfl rfl ?_
    refine WL.move .nil rfl rfl rfl rfl ?_
    refine WL.guard rfl rfl rfl (fun hg27 => ?_) (fun hg27 => ?_)
    · replace hr := iteB_pos hr hg27
      refine WL.fieldAddr .nil rfl rfl rfl Try.underlying52 rfl info9 rfl rfl ?_
      refine WL.load1 .nil rfl rfl rfl Try.underlying9 rfl rfl ho25 rfl ?_
      obtain ⟨x28, hx28, hr⟩ := bnd_some hr
      refine GL.callP g.good .nil rfl rfl rfl rfl rfl rfl Try.func62 rfl rfl hS26.lo (f_spec_l09Sha_k  g hS26 hx28) (fun v n29 H30 hn31 hk32 hp33 => ?_)
      obtain ⟨hS34, rfl⟩ := hp33
      have ho35 := (hk32 _ (by have := lt7; omega)).trans ho25
      have hS36 : St n0 n29 H30 F0 := ⟨by have := hS26.lo; omega, hS34.hb, hS34.fh⟩
      have hlon29 := hS36.lo
      refine WL.pick .nil rfl rfl rfl rfl rfl ?_
      refine WL.move .nil rfl rfl rfl rfl ?_
      refine WL.guard rfl rfl rfl (fun hg37 => ?_) (fun hg37 => ?_)
      · replace hr := iteB_pos hr hg37
        refine WL.fieldAddr .nil rfl rfl rfl Try.underlying52 rfl info3 rfl rfl ?_
        refine WL.load1 .nil rfl rfl rfl Try.underlying3 rfl rfl ho35 rfl ?_
        refine WL.bin .nil rfl rfl rfl rfl rfl rfl ?_
        refine WL.fieldAddr .nil rfl rfl rfl Try.underlying52 rfl info9 rfl rfl ?_
        refine WL.load1 .nil rfl rfl rfl Try.underlying9 rfl rfl ho35 rfl ?_
        refine GL.strCmp .nil rfl rfl rfl rfl rfl (by decide) rfl ?_
        refine WL.eqBool .nil rfl rfl rfl (by decide) Try.underlying4 rfl rfl ?_
        refine WL.pick .nil rfl rfl rfl rfl rfl ?_
        refine WL.move .nil rfl rfl rfl rfl ?_
        refine WL.guard rfl rfl rfl (fun hg38 => ?_) (fun hg38 => ?_)
        · replace hr := iteB_pos hr hg38
          refine WL.fieldAddr .nil rfl rfl rfl Try.underlying52 rfl info3 rfl rfl ?_
          refine WL.load1 .nil rfl rfl rfl Try.underlying3 rfl rfl ho35 rfl ?_
          refine WL.bin .nil rfl rfl rfl rfl rfl rfl ?_
          refine WL.fieldAddr .nil rfl rfl rfl Try.underlying52 rfl info3 rfl rfl ?_
          refine WL.load1 .nil rfl rfl rfl Try.underlying3 rfl rfl ho35 rfl ?_
          refine WL.bin .nil rfl rfl rfl rfl rfl rfl ?_
          refine WL.eqBool .nil rfl rfl rfl (by decide) Try.underlying4 rfl rfl ?_
          refine WL.pick .nil rfl rfl rfl rfl rfl ?_
          refine WL.assign .nil rfl rfl rfl rfl ?_
          with_reducible refine WL.nil ?_
          with_reducible refine Ex.thn_norm ?_
          with_reducible refine W.ret ?_
          obtain rfl := Option.some.inj hr
          exact ⟨.inr rfl, _, (.cons (.tmp rfl) .nil), ⟨(Ext.st hE0 hS36), rfl⟩⟩
        · replace hr := iteB_neg hr hg38
          refine WL.skip .nil rfl rfl ?_
          refine WL.skip .nil rfl rfl ?_
          refine WL.skip .nil rfl rfl ?_
          refine WL.skip .nil rfl rfl ?_
          refine WL.skip .nil rfl rfl ?_
          refine WL.skip .nil rfl rfl ?_
          refine WL.skip .nil rfl rfl ?_
          refine WL.pick .nil rfl rfl rfl rfl rfl ?_
          refine WL.assign .nil rfl rfl rfl rfl ?_
          with_reducible refine WL.nil ?_
          with_reducible refine Ex.thn_norm ?_
          with_reducible refine W.ret ?_
          obtain rfl := Option.some.inj hr
          exact ⟨.inr rfl, _, (.cons (.tmp rfl) .nil), ⟨(Ext.st hE0 hS36), rfl⟩⟩
      · replace hr := iteB_neg hr hg37
        refine WL.skip .nil rfl rfl ?_
        refine WL.skip .nil rfl rfl ?_
        refine WL.skip .nil rfl rfl ?_
        refine WL.skip .nil rfl rfl ?_
        refine WL.skip .nil rfl rfl ?_
        refine WL.skip .nil rfl rfl ?_
        refine WL.skip .nil rfl rfl ?_
        refine WL.pick .nil rfl rfl rfl rfl rfl ?_
        refine WL.move .nil rfl rfl rfl rfl ?_
        refine WL.skip .nil rfl rfl ?_
        refine WL.skip .nil rfl rfl ?_
        refine WL.skip .nil rfl rfl ?_
        refine WL.skip .nil rfl rfl ?_
        refine WL.skip .nil rfl rfl ?_
        refine WL.skip .nil rfl rfl ?_
        refine WL.skip .nil rfl rfl ?_
        refine WL.pick .nil rfl rfl rfl rfl rfl ?_
        refine WL.assign .nil rfl rfl rfl rfl ?_
        with_reducible refine WL.nil ?_
        with_reducible refine Ex.thn_norm ?_
        with_reducible refine W.ret ?_
        obtain rfl := Option.some.inj hr
        exact ⟨.inr rfl, _, (.cons (.tmp rfl) .nil), ⟨(Ext.st hE0 hS36), rfl⟩⟩
    · replace hr := iteB_neg hr hg27
      refine WL.skip .nil rfl rfl ?_
      refine WL.skip .nil rfl rfl ?_
      refine WL.skip .nil rfl rfl ?_
      refine WL.pick .nil rfl rfl rfl rfl rfl ?_
      refine WL.move .nil rfl rfl rfl rfl ?_
      refine WL.skip .nil rfl rfl ?_
      refine WL.skip .nil rfl rfl ?_
      refine WL.skip .nil rfl rfl ?_
      refine WL.skip .nil rfl rfl ?_
      refine WL.skip .nil rfl rfl ?_
      refine WL.skip .nil rfl rfl ?_
      refine WL.skip .nil rfl rfl ?_
      refine WL.pick .nil rfl rfl rfl rfl rfl ?_
      refine WL.move .nil rfl rfl rfl rfl ?_
      refine WL.skip .nil rfl rfl ?_
      refine WL.skip .nil rfl rfl ?_
      refine WL.skip .nil rfl rfl ?_
      refine WL.skip .nil rfl rfl ?_
      refine WL.skip .nil rfl rfl ?_
      refine WL.skip .nil rfl rfl ?_
      refine WL.skip .nil rfl rfl ?_
      refine WL.pick .nil rfl rfl rfl rfl rfl ?_
      refine WL.assign .nil rfl rfl rfl rfl ?_
      with_reducible refine WL.nil ?_
      with_reducible refine Ex.thn_norm ?_
      with_reducible refine W.ret ?_
      obtain rfl := Option.some.inj hr
      exact ⟨.inr rfl, _, (.cons (.tmp rfl) .nil), ⟨(Ext.st hE0 hS26), rfl⟩⟩
  · replace hr := iteB_neg hr hg17
    refine WL.skip .nil rfl rfl ?_
    refine WL.skip .nil rfl rfl ?_
    refine WL.skip .nil rfl rfl ?_
    refine WL.pick .nil rfl rfl rfl rfl rfl ?_
    refine WL.move .nil rfl rfl rfl rfl ?_
    refine WL.skip .nil rfl rfl ?_
    refine WL.skip .nil rfl rfl ?_
    refine WL.skip .nil rfl rfl ?_
    refine WL.pick .nil rfl rfl rfl rfl rfl ?_
    refine WL.move .nil rfl rfl rfl rfl ?_
    refine WL.skip .nil rfl rfl ?_
    refine WL.skip .nil rfl rfl ?_
    refine WL.skip .nil rfl rfl ?_
    refine WL.skip .nil rfl rfl ?_
    refine WL.skip .nil rfl rfl ?_
    refine WL.skip .nil rfl rfl ?_
    refine WL.skip .nil rfl rfl ?_
    refine WL.pick .nil rfl rfl rfl rfl rfl ?_
    refine WL.move .nil rfl rfl rfl rfl ?_
    refine WL.skip .nil rfl rfl ?_
    refine WL.skip .nil rfl rfl ?_
    refine WL.skip .nil rfl rfl ?_
    refine WL.skip .nil rfl rfl ?_
    refine WL.skip .nil rfl rfl ?_
    refine WL.skip .nil rfl rfl ?_
    refine WL.skip .nil rfl rfl ?_
    refine WL.pick .nil rfl rfl rfl rfl rfl ?_
    refine WL.assign .nil rfl rfl rfl rfl ?_
    with_reducible refine WL.nil ?_
    with_reducible refine Ex.thn_norm ?_
    with_reducible refine W.ret ?_
    obtain rfl := Option.some.inj hr
    exact ⟨.inr rfl, _, (.cons (.tmp rfl) .nil), ⟨(Ext.st hE0 hS16), rfl⟩⟩
theorem f_spec_StateOK_k {Δ : Prims} (g : Env Try.prog Δ) {lo n0 : Nat} {H0 F0 : Heap} (hS : St lo n0 H0 F0) {x1 : GState} {a2 : Option Addr} {cap3 : Nat} {a5 : Option Addr} {cap6 : Nat} (h4 : SR F0 (.slice a2 x1.Files.length cap3) x1.Files) (h7 : SR F0 (.slice a5 x1.Sessions.length cap6) x1.Sessions) {res : (Bool)} (hr : f_spec_StateOK x1 = some res) :
    C Try.prog Δ n0 20 [.agg [.slice a2 x1.Files.length cap3, .slice a5 x1.Sessions.length cap6].toArray] n0 H0 (fun v n H => St n0 n H F0 ∧ v = .bool res) := by
  refine C.body Try.func20 rfl rfl ?_
  unfold f_spec_StateOK at hr
  have hS0 : St n0 n0 H0 F0 := hS.low (Nat.le_refl _)
  have hE0 := Ext.refl n0 F0
  have hlo0 := hS0.lo
  with_reducible refine W.seq ?_
  with_reducible refine W.region ?_
  refine GL.box hS0 .nil (vc := [.slice a2 x1.Files.length cap3, .slice a5 x1.Sessions.length cap6]) rfl rfl rfl rfl rfl (by repeat' (first | exact List.forall_mem_nil _ | refine List.forall_mem_cons.2 ⟨?_, ?_⟩ | rfl)) (fun H8 hS9 ho10 hk11 => ?_)
  have fo12 := hS0.fnone (Nat.le_refl _)
  have hlon01 := hS9.lo
  have lt13 : n0 < (n0 + 1) := by omega
  refine WL.assign .nil rfl rfl rfl rfl ?_
  with_reducible refine WL.nil ?_
  with_reducible refine Ex.thn_norm ?_
  with_reducible refine W.seq ?_
  with_reducible refine W.seq ?_
  refine W.cut (fun fr n H => ∃ (x20 : Bool) (F : Heap), fr = [(1, .pointer (some ⟨n0, 0, none⟩)), (16, .bool x20)] ∧ St n0 n H F ∧ Ext n0 F0 n F ∧ H n0 = some (.row 1 [.slice a2 x1.Files.length cap3, .slice a5 x1.Sessions.length cap6]) ∧ F n0 = none ∧ SR F (.slice a2 x1.Files.length cap3) x1.Files ∧ SR F (.slice a5 x1.Sessions.length cap6) x1.Sessions ∧ f_spec_StateOK_J0 x1 x20 = some res) ?_ ?_
  · with_reducible refine W.region ?_
    refine WL.fieldAddr .nil rfl rfl rfl Try.underlying26 rfl info23 rfl rfl ?_
    refine WL.load1 .nil rfl rfl rfl Try.underlying23 rfl rfl ho10 rfl ?_
    refine WL.len .nil rfl rfl rfl Try.underlying23 rfl ?_
    refine WL.bin .nil rfl rfl rfl rfl rfl rfl ?_
    refine WL.move .nil rfl rfl rfl rfl ?_
    refine WL.guardD rfl rfl rfl (fun hg2215 => ?_) (fun hg2215 => ?_)
    · replace hr := ite_pos hr hg2215
      refine WL.skip .nil rfl rfl ?_
      refine WL.skip .nil rfl rfl ?_
      refine WL.skip .nil rfl rfl ?_
      refine WL.skip .nil rfl rfl ?_
      refine WL.pick .nil rfl rfl rfl rfl rfl ?_
      with_reducible refine WL.nil ?_
      with_reducible refine Ex.thn_norm ?_
      exact ⟨[(1, .pointer (some ⟨n0, 0, none⟩)), (16, .bool true)], (Fr.le_cons rfl (Fr.le_cons rfl Fr.le_nil)), true, F0, rfl, hS9, (hE0.up (by omega)), ho10, fo12, h4, h7, hr⟩
    · replace hr := ite_neg hr hg2215
      refine WL.fieldAddr .nil rfl rfl rfl Try.underlying26 rfl info24 rfl rfl ?_
      refine WL.load1 .nil rfl rfl rfl Try.underlying24 rfl rfl ho10 rfl ?_
      refine WL.len .nil rfl rfl rfl Try.underlying24 rfl ?_
      refine WL.bin .nil rfl rfl rfl rfl rfl rfl ?_
      refine WL.pick .nil rfl rfl rfl rfl rfl ?_
      with_reducible refine WL.nil ?_
      with_reducible refine Ex.thn_norm ?_
      exact ⟨[(1, .pointer (some ⟨n0, 0, none⟩)), (16, .bool (decide ((200 : Int) < (x1.Sessions.length : Int))))], (Fr.le_cons rfl (Fr.le_cons rfl Fr.le_nil)), (decide ((200 : Int) < (x1.Sessions.length : Int))), F0, rfl, hS9, (hE0.up (by omega)), ho10, fo12, h4, h7, hr⟩
  · intro _ n15 H16 hI
    obtain ⟨x20, F17, rfl, hS18, hE19, ho23, fo24, h21, h22, hr⟩ := hI
    have lt25 := hS18.lt ho23
    have hlen15 := hE19.le
    have hlon15 := hS18.lo
    unfold f_spec_StateOK_J0 at hr
    refine W.cond rfl (fun hc27 => ?_) (fun hc27 => ?_)
    · replace hr := iteB_pos hr hc27
      with_reducible refine W.seq ?_
      with_reducible refine W.region ?_
      refine WL.assign .nil rfl rfl rfl rfl ?_
      with_reducible refine WL.nil ?_
      with_reducible refine Ex.thn_norm ?_
      with_reducible refine W.ret ?_
      with_reducible refine Ex.thn_ret ?_
      obtain rfl := Option.some.inj hr
      exact ⟨.inr rfl, _, (.cons (.tmp rfl) .nil), ⟨(Ext.st hE19 hS18), rfl⟩⟩
    · replace hr := iteB_neg hr hc27
      with_reducible refine W.skip ?_
      with_reducible refine Ex.thn_norm ?_
      with_reducible refine W.seq ?_
      with_reducible refine W.seq ?_
      with_reducible refine W.region ?_
      refine WL.assign .nil rfl rfl rfl rfl ?_
      with_reducible refine WL.nil ?_
      with_reducible refine Ex.thn_norm ?_
      with_reducible refine W.block ?_
      refine W.loopF (fun k1 fr n H => ∃ (x1181 : Int) (F : Heap), fr = [(1, .pointer (some ⟨n0, 0, none⟩)), (3, .int .i64 x1181)] ∧ St n0 n H F ∧ Ext n0 F0 n F ∧ H n0 = some (.row 1 [.slice a2 x1.Files.length cap3, .slice a5 x1.Sessions.length cap6]) ∧ F n0 = none ∧ SR F (.slice a2 x1.Files.length cap3) x1.Files ∧ SR F (.slice a5 x1.Sessions.length cap6) x1.Sessions ∧ f_spec_StateOK_L1 x1 k1 x1181 = some res) BIG (fr0 := [(1, .pointer (some ⟨n0, 0, none⟩)), (3, .int .i64 0)]) (Fr.le_cons rfl (Fr.le_cons rfl Fr.le_nil)) ?_ ?_ ?_
      · exact ⟨0, F17, rfl, hS18, hE19, ho23, fo24, h21, h22, hr⟩
      · intro fr n H hI
        obtain ⟨x1181, F1178, hfr, hS1179, hE1180, ho1184, fo1185, h1182, h1183, hr⟩ := hI
        rw [f_spec_StateOK_L1] at hr
        cases hr
      · intro k1 _ n1176 H1177 hI
        obtain ⟨x1181, F1178, rfl, hS1179, hE1180, ho1184, fo1185, h1182, h1183, hr⟩ := hI
        have lt1186 := hS1179.lt ho1184
        have hlen1176 := hE1180.le
        have hlon1176 := hS1179.lo
        rw [f_spec_StateOK_L1] at hr
        with_reducible refine W.seq ?_
        with_reducible refine W.seq ?_
        with_reducible refine W.region ?_
        refine WL.move .nil rfl rfl rfl rfl ?_
        refine WL.fieldAddr .nil rfl rfl rfl Try.underlying26 rfl info23 rfl rfl ?_
        refine WL.load1 .nil rfl rfl rfl Try.underlying23 rfl rfl ho1184 rfl ?_
        refine WL.len .nil rfl rfl rfl Try.underlying23 rfl ?_
        refine WL.bin .nil rfl rfl rfl rfl rfl rfl ?_
        with_reducible refine WL.nil ?_
        with_reducible refine Ex.thn_norm ?_
        refine W.condD rfl (fun hc1188 => ?_) (fun hc1188 => ?_)
        · replace hr := ite_pos hr hc1188
          with_reducible refine W.skip ?_
          with_reducible refine Ex.thn_norm ?_
          with_reducible refine W.seq ?_
          with_reducible refine W.block ?_
          with_reducible refine W.seq ?_
          with_reducible refine W.region ?_
          refine WL.fieldAddr .nil rfl rfl rfl Try.underlying26 rfl info23 rfl rfl ?_
          refine WL.load1 .nil rfl rfl rfl Try.underlying23 rfl rfl ho1184 rfl ?_
          refine WL.move .nil rfl rfl rfl rfl ?_
          obtain ⟨x1297, hx1297, hr⟩ := bnd_some hr
          refine GL.index .nil rfl rfl rfl Try.underlying23 info50 rfl rfl h1182 hS1179.fh rfl hx1297 (fun b1298 kp1299 c1300 ecs1301 hrow1302 hwin1303 hR1304 => ?_)
          obtain ⟨rfl⟩ := GFile.ofR hR1304
          refine WL.loadN .nil (l' := [str x1297.Name, .int .i64 x1297.Version, str x1297.Text]) rfl rfl rfl Try.underlying50 rfl info50 rfl hrow1302 hwin1303 rfl ?_
          refine GL.alloc hS1179 .nil (zc := [str ([] : List UInt8), .int .i64 0, str ([] : List UInt8)]) rfl rfl rfl info50 rfl rfl rfl (fun H1305 hS1306 ho1307 hk1308 => ?_)
          have fo1309 := hS1179.fnone (Nat.le_refl _)
          have ho1311 := (hk1308 _ (by have := lt1186; omega)).trans ho1184
          have hlon11761 := hS1306.lo
          have lt1310 : n1176 < (n1176 + 1) := by omega
          refine GL.store hS1306 .nil (vc := [str x1297.Name, .int .i64 x1297.Version, str x1297.Text]) (c' := [str x1297.Name, .int .i64 x1297.Version, str x1297.Text]) rfl rfl rfl info50 rfl rfl rfl rfl ho1307 fo1309 (Nat.le_of_ble_eq_true rfl) (by omega) (by repeat' (first | exact List.forall_mem_nil _ | refine List.forall_mem_cons.2 ⟨?_, ?_⟩ | rfl)) rfl (fun H1312 hS1313 ho1314 hk1315 => ?_)
          have ho1316 := (hk1315 _ (by omega)).trans ho1311
          with_reducible refine WL.nil ?_
          with_reducible refine Ex.thn_norm ?_
          with_reducible refine W.seq ?_
          refine W.cut (fun fr n H => ∃ (x1360 : Bool) (F : Heap), fr = [(1, .pointer (some ⟨n0, 0, none⟩)), (3, .int .i64 x1181), (54, .bool x1360)] ∧ St n0 n H F ∧ Ext n0 F0 n F ∧ H n0 = some (.row 1 [.slice a2 x1.Files.length cap3, .slice a5 x1.Sessions.length cap6]) ∧ F n0 = none ∧ SR F (.slice a2 x1.Files.length cap3) x1.Files ∧ SR F (.slice a5 x1.Sessions.length cap6) x1.Sessions ∧ f_spec_StateOK_J2 x1181 (f_spec_StateOK_L1 x1 k1) x1360 = some res) ?_ ?_
          · refine W.regionD [0, 1, 2, 3, 4, 5, 6, 7, 8, 9, 10, 11, 12, 13, 14, 15, 16, 17, 18, 19, 20, 21, 22, 23, 24, 25] [false, false, false, false, false, false, false, false, false, false, false, false, false, false, false, false, false, false, false, false, false, false, false, false, false, false] rfl rfl (by kernel_rfl) (by kernel_rfl) (by (conv => lhs; simp only [List.map_cons, List.map_nil, List.getD_cons_zero, List.getD_cons_succ]) <;> rfl) ?_
            refine WL.fieldAddr .r rfl rfl rfl Try.underlying50 rfl info9 rfl rfl ?_
            refine WL.load1 .r rfl rfl rfl Try.underlying9 rfl rfl ho1314 rfl ?_
            obtain ⟨x1368, hx1368, hr⟩ := bnd_some hr
            refine GL.callP g.good .r rfl rfl rfl rfl rfl rfl Try.func39 rfl rfl (Nat.le_refl _) (f_spec_NameOK_k  g hS1313 hx1368) (fun v n1369 H1370 hn1371 hk1372 hp1373 => ?_)
            obtain ⟨hS1374, rfl⟩ := hp1373
            have ho1375 := (hk1372 _ (by have := lt1186; omega)).trans ho1316
            have ho1376 := (hk1372 _ (by have := lt1310; omega)).trans ho1314
            have hS1377 : St n0 n1369 H1370 F1178 := ⟨by have := hS1313.lo; omega, hS1374.hb, hS1374.fh⟩
            have hlon1369 := hS1377.lo
            refine WL.not .r rfl rfl rfl rfl ?_
            refine WL.move .r rfl rfl rfl rfl ?_
            refine WL.guard rfl rfl rfl (fun hg1378 => ?_) (fun hg1378 => ?_)
            · replace hr := iteB_pos hr hg1378
              refine WL.skip .r rfl rfl ?_
              refine WL.skip .r rfl rfl ?_
              refine WL.skip .r rfl rfl ?_
              refine WL.skip .r rfl rfl ?_
              refine WL.skip .r rfl rfl ?_
              refine WL.skip .r rfl rfl ?_
              refine WL.skip .r rfl rfl ?_
              refine WL.skip .r rfl rfl ?_
              refine WL.pick .r rfl rfl rfl rfl rfl ?_
              refine WL.move .r rfl rfl rfl rfl ?_
              refine WL.skip .r rfl rfl ?_
              refine WL.skip .r rfl rfl ?_
              refine WL.skip .r rfl rfl ?_
              refine WL.skip .r rfl rfl ?_
              refine WL.pick .r rfl rfl rfl rfl rfl ?_
              refine WL.move .r rfl rfl rfl rfl ?_
              refine WL.skip .r rfl rfl ?_
              refine WL.skip .r rfl rfl ?_
              refine WL.skip .r rfl rfl ?_
              refine WL.skip .r rfl rfl ?_
              refine WL.pick .r rfl rfl rfl rfl rfl ?_
              with_reducible refine WL.nil ?_
              with_reducible refine Ex.thn_norm ?_
              exact ⟨[(1, .pointer (some ⟨n0, 0, none⟩)), (3, .int .i64 x1181), (54, .bool true)], (Fr.le_cons rfl (Fr.le_cons rfl (Fr.le_cons rfl Fr.le_nil))), true, F1178, rfl, hS1377, (hE1180.up (by omega)), ho1375, fo1185, h1182, h1183, hr⟩
            · replace hr := iteB_neg hr hg1378
              refine WL.fieldAddr .r rfl rfl rfl Try.underlying26 rfl info23 rfl rfl ?_
              refine WL.load1 .r rfl rfl rfl Try.underlying23 rfl rfl ho1375 rfl ?_
              refine WL.move .r rfl rfl rfl rfl ?_
              obtain ⟨xs1379, hxs1379, hr⟩ := bnd_some hr
              refine GL.slice .r rfl rfl rfl Try.underlying23 info50 rfl rfl h1182 hS1377.fh rfl ⟨_, rfl⟩ hxs1379 (fun a1380 cap1381 hid1382 h1383 => ?_)
              refine WL.fieldAddr .r rfl rfl rfl Try.underlying50 rfl info9 rfl rfl ?_
              refine WL.load1 .r rfl rfl rfl Try.underlying9 rfl rfl ho1376 rfl ?_
              obtain ⟨x1384, hx1384, hr⟩ := bnd_some hr
              refine GL.callP g.good .r rfl rfl rfl rfl rfl rfl Try.func40 rfl rfl (Nat.le_refl _) (f_spec_l09File_k  g hS1377 h1383 hx1384) (fun v n1385 H1386 hn1387 hk1388 hp1389 => ?_)
              obtain ⟨hS1390, rfl⟩ := hp1389
              have ho1391 := (hk1388 _ (by have := lt1186; omega)).trans ho1375
              have ho1392 := (hk1388 _ (by have := lt1310; omega)).trans ho1376
              have hS1393 : St n0 n1385 H1386 F1178 := ⟨by have := hS1377.lo; omega, hS1390.hb, hS1390.fh⟩
              have hlon1385 := hS1393.lo
              refine WL.bin .r rfl rfl rfl rfl rfl rfl ?_
              refine WL.pick .r rfl rfl rfl rfl rfl ?_
              refine WL.move .r rfl rfl rfl rfl ?_
              refine WL.guardD rfl rfl rfl (fun hg1394 => ?_) (fun hg1394 => ?_)
              · replace hr := ite_pos hr hg1394
                refine WL.skip .r rfl rfl ?_
                refine WL.skip .r rfl rfl ?_
                refine WL.skip .r rfl rfl ?_
                refine WL.skip .r rfl rfl ?_
                refine WL.pick .r rfl rfl rfl rfl rfl ?_
                refine WL.move .r rfl rfl rfl rfl ?_
                refine WL.skip .r rfl rfl ?_
                refine WL.skip .r rfl rfl ?_
                refine WL.skip .r rfl rfl ?_
                refine WL.skip .r rfl rfl ?_
                refine WL.pick .r rfl rfl rfl rfl rfl ?_
                with_reducible refine WL.nil ?_
                with_reducible refine Ex.thn_norm ?_
                exact ⟨[(1, .pointer (some ⟨n0, 0, none⟩)), (3, .int .i64 x1181), (54, .bool true)], (Fr.le_cons rfl (Fr.le_cons rfl (Fr.le_cons rfl Fr.le_nil))), true, F1178, rfl, hS1393, (hE1180.up (by omega)), ho1391, fo1185, h1182, h1183, hr⟩
              · replace hr := ite_neg hr hg1394
                refine WL.fieldAddr .r rfl rfl rfl Try.underlying50 rfl info3 rfl rfl ?_
                refine WL.load1 .r rfl rfl rfl Try.underlying3 rfl rfl ho1392 rfl ?_
                obtain ⟨x1395, hx1395, hr⟩ := bnd_some hr
                refine GL.callP g.good .r rfl rfl rfl rfl rfl rfl Try.func41 rfl rfl (Nat.le_refl _) (f_spec_l02In_k  g hS1393 hx1395) (fun v n1396 H1397 hn1398 hk1399 hp1400 => ?_)
                obtain ⟨hS1401, rfl⟩ := hp1400
                have ho1402 := (hk1399 _ (by have := lt1186; omega)).trans ho1391
                have ho1403 := (hk1399 _ (by have := lt1310; omega)).trans ho1392
                have hS1404 : St n0 n1396 H1397 F1178 := ⟨by have := hS1393.lo; omega, hS1401.hb, hS1401.fh⟩
                have hlon1396 := hS1404.lo
                refine WL.not .r rfl rfl rfl rfl ?_
                refine WL.pick .r rfl rfl rfl rfl rfl ?_
                refine WL.move .r rfl rfl rfl rfl ?_
                refine WL.guard rfl rfl rfl (fun hg1405 => ?_) (fun hg1405 => ?_)
                · replace hr := iteB_pos hr hg1405
                  refine WL.skip .r rfl rfl ?_
                  refine WL.skip .r rfl rfl ?_
                  refine WL.skip .r rfl rfl ?_
                  refine WL.skip .r rfl rfl ?_
                  refine WL.pick .r rfl rfl rfl rfl rfl ?_
                  with_reducible refine WL.nil ?_
                  with_reducible refine Ex.thn_norm ?_
                  exact ⟨[(1, .pointer (some ⟨n0, 0, none⟩)), (3, .int .i64 x1181), (54, .bool true)], (Fr.le_cons rfl (Fr.le_cons rfl (Fr.le_cons rfl Fr.le_nil))), true, F1178, rfl, hS1404, (hE1180.up (by omega)), ho1402, fo1185, h1182, h1183, hr⟩
                · replace hr := iteB_neg hr hg1405
                  refine WL.fieldAddr .r rfl rfl rfl Try.underlying50 rfl info9 rfl rfl ?_
                  refine WL.load1 .r rfl rfl rfl Try.underlying9 rfl rfl ho1403 rfl ?_
                  refine GL.lenStr .r rfl rfl rfl Try.underlying9 rfl ?_
                  refine WL.bin .r rfl rfl rfl rfl rfl rfl ?_
                  refine WL.pick .r rfl rfl rfl rfl rfl ?_
                  with_reducible refine WL.nil ?_
                  with_reducible refine Ex.thn_norm ?_
                  exact ⟨[(1, .pointer (some ⟨n0, 0, none⟩)), (3, .int .i64 x1181), (54, .bool (decide ((8000 : Int) < (x1297.Text.length : Int))))], (Fr.le_cons rfl (Fr.le_cons rfl (Fr.le_cons rfl Fr.le_nil))), (decide ((8000 : Int) < (x1297.Text.length : Int))), F1178, rfl, hS1404, (hE1180.up (by omega)), ho1402, fo1185, h1182, h1183, hr⟩
          · intro _ n1355 H1356 hI
            obtain ⟨x1360, F1357, rfl, hS1358, hE1359, ho1363, fo1364, h1361, h1362, hr⟩ := hI
            have lt1365 := hS1358.lt ho1363
            have hlen1355 := hE1359.le
            have hlon1355 := hS1358.lo
            unfold f_spec_StateOK_J2 at hr
            refine W.cond rfl (fun hc1366 => ?_) (fun hc1366 => ?_)
            · replace hr := iteB_pos hr hc1366
              with_reducible refine W.seq ?_
              with_reducible refine W.region ?_
              refine WL.assign .nil rfl rfl rfl rfl ?_
              with_reducible refine WL.nil ?_
              with_reducible refine Ex.thn_norm ?_
              with_reducible refine W.ret ?_
              with_reducible refine Ex.blk_ret ?_
              with_reducible refine Ex.thn_ret ?_
              with_reducible refine Ex.thn_ret ?_
              with_reducible refine Ex.blk_ret ?_
              with_reducible refine Ex.thn_ret ?_
              obtain rfl := Option.some.inj hr
              exact ⟨.inr rfl, _, (.cons (.tmp rfl) .nil), ⟨(Ext.st hE1359 hS1358), rfl⟩⟩
            · replace hr := iteB_neg hr hc1366
              with_reducible refine W.skip ?_
              with_reducible refine Ex.blk_norm ?_
              with_reducible refine Ex.thn_norm ?_
              with_reducible refine W.region ?_
              refine WL.move .nil rfl rfl rfl rfl ?_
              obtain ⟨hc1367, hr⟩ := chk_some hr
              refine WL.addI .nil rfl rfl rfl rfl rfl hc1367.1 hc1367.2 ?_
              refine WL.assign .nil rfl rfl rfl rfl ?_
              with_reducible refine WL.nil ?_
              with_reducible refine Ex.thn_norm ?_
              exact ⟨[(1, .pointer (some ⟨n0, 0, none⟩)), (3, .int .i64 (x1181 + 1))], (Fr.le_cons rfl (Fr.le_cons rfl Fr.le_nil)), (x1181 + 1), F1357, rfl, hS1358, hE1359, ho1363, fo1364, h1361, h1362, hr⟩
        · replace hr := ite_neg hr hc1188
          with_reducible refine W.exit ?_
          with_reducible refine Ex.thn_ex ?_
          with_reducible refine Ex.thn_ex ?_
          with_reducible refine Ex.blk_here ?_
          with_reducible refine Ex.thn_norm ?_
          with_reducible refine W.seq ?_
          with_reducible refine W.seq ?_
          with_reducible refine W.region ?_
          refine WL.assign .nil rfl rfl rfl rfl ?_
          with_reducible refine WL.nil ?_
          with_reducible refine Ex.thn_norm ?_
          with_reducible refine W.block ?_
          refine W.loopF (fun k3 fr n H => ∃ (x1950 : Int) (F : Heap), fr = [(1, .pointer (some ⟨n0, 0, none⟩)), (5, .int .i64 x1950)] ∧ St n0 n H F ∧ Ext n0 F0 n F ∧ H n0 = some (.row 1 [.slice a2 x1.Files.length cap3, .slice a5 x1.Sessions.length cap6]) ∧ F n0 = none ∧ SR F (.slice a2 x1.Files.length cap3) x1.Files ∧ SR F (.slice a5 x1.Sessions.length cap6) x1.Sessions ∧ f_spec_StateOK_L3 x1 k3 x1950 = some res) BIG (fr0 := [(1, .pointer (some ⟨n0, 0, none⟩)), (5, .int .i64 0)]) (Fr.le_cons rfl (Fr.le_cons rfl Fr.le_nil)) ?_ ?_ ?_
          · exact ⟨0, F1178, rfl, hS1179, hE1180, ho1184, fo1185, h1182, h1183, hr⟩
          · intro fr n H hI
            obtain ⟨x1950, F1947, hfr, hS1948, hE1949, ho1953, fo1954, h1951, h1952, hr⟩ := hI
            rw [f_spec_StateOK_L3] at hr
            cases hr
          · intro k3 _ n1945 H1946 hI
            obtain ⟨x1950, F1947, rfl, hS1948, hE1949, ho1953, fo1954, h1951, h1952, hr⟩ := hI
            have lt1955 := hS1948.lt ho1953
            have hlen1945 := hE1949.le
            have hlon1945 := hS1948.lo
            rw [f_spec_StateOK_L3] at hr
            with_reducible refine W.seq ?_
            with_reducible refine W.seq ?_
            with_reducible refine W.region ?_
            refine WL.move .nil rfl rfl rfl rfl ?_
            refine WL.fieldAddr .nil rfl rfl rfl Try.underlying26 rfl info24 rfl rfl ?_
            refine WL.load1 .nil rfl rfl rfl Try.underlying24 rfl rfl ho1953 rfl ?_
            refine WL.len .nil rfl rfl rfl Try.underlying24 rfl ?_
            refine WL.bin .nil rfl rfl rfl rfl rfl rfl ?_
            with_reducible refine WL.nil ?_
            with_reducible refine Ex.thn_norm ?_
            refine W.condD rfl (fun hc1957 => ?_) (fun hc1957 => ?_)
            · replace hr := ite_pos hr hc1957
              with_reducible refine W.skip ?_
              with_reducible refine Ex.thn_norm ?_
              with_reducible refine W.seq ?_
              with_reducible refine W.block ?_
              with_reducible refine W.seq ?_
              with_reducible refine W.region ?_
              refine WL.fieldAddr .nil rfl rfl rfl Try.underlying26 rfl info24 rfl rfl ?_
              refine WL.load1 .nil rfl rfl rfl Try.underlying24 rfl rfl ho1953 rfl ?_
              refine WL.move .nil rfl rfl rfl rfl ?_
              obtain ⟨x2086, hx2086, hr⟩ := bnd_some hr
              refine GL.index .nil rfl rfl rfl Try.underlying24 info54 rfl rfl h1952 hS1948.fh rfl hx2086 (fun b2087 kp2088 c2089 ecs2090 hrow2091 hwin2092 hR2093 => ?_)
              obtain ⟨rfl⟩ := GSession.ofR hR2093
              refine WL.loadN .nil (l' := [.int .i64 x2086.Client, .int .i64 x2086.Seq, .int .i64 x2086.Reply.Code, .int .i64 x2086.Reply.Version, str x2086.Reply.Sha]) rfl rfl rfl Try.underlying54 rfl info54 rfl hrow2091 hwin2092 rfl ?_
              refine GL.alloc hS1948 .nil (zc := [.int .i64 0, .int .i64 0, .int .i64 0, .int .i64 0, str ([] : List UInt8)]) rfl rfl rfl info54 rfl rfl rfl (fun H2094 hS2095 ho2096 hk2097 => ?_)
              have fo2098 := hS1948.fnone (Nat.le_refl _)
              have ho2100 := (hk2097 _ (by have := lt1955; omega)).trans ho1953
              have hlon19451 := hS2095.lo
              have lt2099 : n1945 < (n1945 + 1) := by omega
              refine GL.store hS2095 .nil (vc := [.int .i64 x2086.Client, .int .i64 x2086.Seq, .int .i64 x2086.Reply.Code, .int .i64 x2086.Reply.Version, str x2086.Reply.Sha]) (c' := [.int .i64 x2086.Client, .int .i64 x2086.Seq, .int .i64 x2086.Reply.Code, .int .i64 x2086.Reply.Version, str x2086.Reply.Sha]) rfl rfl rfl info54 rfl rfl rfl rfl ho2096 fo2098 (Nat.le_of_ble_eq_true rfl) (by omega) (by repeat' (first | exact List.forall_mem_nil _ | refine List.forall_mem_cons.2 ⟨?_, ?_⟩ | rfl)) rfl (fun H2101 hS2102 ho2103 hk2104 => ?_)
              have ho2105 := (hk2104 _ (by omega)).trans ho2100
              with_reducible refine WL.nil ?_
              with_reducible refine Ex.thn_norm ?_
              with_reducible refine W.seq ?_
              refine W.cut (fun fr n H => ∃ (x2159 : Bool) (F : Heap), fr = [(1, .pointer (some ⟨n0, 0, none⟩)), (5, .int .i64 x1950), (92, .bool x2159)] ∧ St n0 n H F ∧ Ext n0 F0 n F ∧ H n0 = some (.row 1 [.slice a2 x1.Files.length cap3, .slice a5 x1.Sessions.length cap6]) ∧ F n0 = none ∧ SR F (.slice a2 x1.Files.length cap3) x1.Files ∧ SR F (.slice a5 x1.Sessions.length cap6) x1.Sessions ∧ f_spec_StateOK_J4 x1950 (f_spec_StateOK_L3 x1 k3) x2159 = some res) ?_ ?_
              · refine W.regionD [0, 1, 2, 3, 4, 5, 6, 7, 8, 9, 10, 11, 12, 13, 14, 15, 16, 17, 18, 19, 20, 21, 22, 23, 24, 25] [false, false, false, false, false, false, false, false, false, false, false, false, false, false, false, false, false, false, false, false, false, false, false, false, false, false] rfl rfl (by kernel_rfl) (by kernel_rfl) (by (conv => lhs; simp only [List.map_cons, List.map_nil, List.getD_cons_zero, List.getD_cons_succ]) <;> rfl) ?_
                refine WL.fieldAddr .r rfl rfl rfl Try.underlying54 rfl info3 rfl rfl ?_
                refine WL.load1 .r rfl rfl rfl Try.underlying3 rfl rfl ho2103 rfl ?_
                obtain ⟨x2167, hx2167, hr⟩ := bnd_some hr
                refine GL.callP g.good .r rfl rfl rfl rfl rfl rfl Try.func41 rfl rfl (Nat.le_refl _) (f_spec_l02In_k  g hS2102 hx2167) (fun v n2168 H2169 hn2170 hk2171 hp2172 => ?_)
                obtain ⟨hS2173, rfl⟩ := hp2172
                have ho2174 := (hk2171 _ (by have := lt1955; omega)).trans ho2105
                have ho2175 := (hk2171 _ (by have := lt2099; omega)).trans ho2103
                have hS2176 : St n0 n2168 H2169 F1947 := ⟨by have := hS2102.lo; omega, hS2173.hb, hS2173.fh⟩
                have hlon2168 := hS2176.lo
                refine WL.not .r rfl rfl rfl rfl ?_
                refine WL.move .r rfl rfl rfl rfl ?_
                refine WL.guard rfl rfl rfl (fun hg2177 => ?_) (fun hg2177 => ?_)
                · replace hr := iteB_pos hr hg2177
                  refine WL.skip .r rfl rfl ?_
                  refine WL.skip .r rfl rfl ?_
                  refine WL.skip .r rfl rfl ?_
                  refine WL.skip .r rfl rfl ?_
                  refine WL.pick .r rfl rfl rfl rfl rfl ?_
                  refine WL.move .r rfl rfl rfl rfl ?_
                  refine WL.skip .r rfl rfl ?_
                  refine WL.skip .r rfl rfl ?_
                  refine WL.skip .r rfl rfl ?_
                  refine WL.skip .r rfl rfl ?_
                  refine WL.skip .r rfl rfl ?_
                  refine WL.skip .r rfl rfl ?_
                  refine WL.skip .r rfl rfl ?_
                  refine WL.skip .r rfl rfl ?_
                  refine WL.pick .r rfl rfl rfl rfl rfl ?_
                  refine WL.move .r rfl rfl rfl rfl ?_
                  refine WL.skip .r rfl rfl ?_
                  refine WL.skip .r rfl rfl ?_
                  refine WL.skip .r rfl rfl ?_
                  refine WL.skip .r rfl rfl ?_
                  refine WL.pick .r rfl rfl rfl rfl rfl ?_
                  with_reducible refine WL.nil ?_
                  with_reducible refine Ex.thn_norm ?_
                  exact ⟨[(1, .pointer (some ⟨n0, 0, none⟩)), (5, .int .i64 x1950), (92, .bool true)], (Fr.le_cons rfl (Fr.le_cons rfl (Fr.le_cons rfl Fr.le_nil))), true, F1947, rfl, hS2176, (hE1949.up (by omega)), ho2174, fo1954, h1951, h1952, hr⟩
                · replace hr := iteB_neg hr hg2177
                  refine WL.fieldAddr .r rfl rfl rfl Try.underlying54 rfl info3 rfl rfl ?_
                  refine WL.load1 .r rfl rfl rfl Try.underlying3 rfl rfl ho2175 rfl ?_
                  obtain ⟨x2178, hx2178, hr⟩ := bnd_some hr
                  refine GL.callP g.good .r rfl rfl rfl rfl rfl rfl Try.func41 rfl rfl (Nat.le_refl _) (f_spec_l02In_k  g hS2176 hx2178) (fun v n2179 H2180 hn2181 hk2182 hp2183 => ?_)
                  obtain ⟨hS2184, rfl⟩ := hp2183
                  have ho2185 := (hk2182 _ (by have := lt1955; omega)).trans ho2174
                  have ho2186 := (hk2182 _ (by have := lt2099; omega)).trans ho2175
                  have hS2187 : St n0 n2179 H2180 F1947 := ⟨by have := hS2176.lo; omega, hS2184.hb, hS2184.fh⟩
                  have hlon2179 := hS2187.lo
                  refine WL.not .r rfl rfl rfl rfl ?_
                  refine WL.pick .r rfl rfl rfl rfl rfl ?_
                  refine WL.move .r rfl rfl rfl rfl ?_
                  refine WL.guard rfl rfl rfl (fun hg2188 => ?_) (fun hg2188 => ?_)
                  · replace hr := iteB_pos hr hg2188
                    refine WL.skip .r rfl rfl ?_
                    refine WL.skip .r rfl rfl ?_
                    refine WL.skip .r rfl rfl ?_
                    refine WL.skip .r rfl rfl ?_
                    refine WL.skip .r rfl rfl ?_
                    refine WL.skip .r rfl rfl ?_
                    refine WL.skip .r rfl rfl ?_
                    refine WL.skip .r rfl rfl ?_
                    refine WL.pick .r rfl rfl rfl rfl rfl ?_
                    refine WL.move .r rfl rfl rfl rfl ?_
                    refine WL.skip .r rfl rfl ?_
                    refine WL.skip .r rfl rfl ?_
                    refine WL.skip .r rfl rfl ?_
                    refine WL.skip .r rfl rfl ?_
                    refine WL.pick .r rfl rfl rfl rfl rfl ?_
                    with_reducible refine WL.nil ?_
                    with_reducible refine Ex.thn_norm ?_
                    exact ⟨[(1, .pointer (some ⟨n0, 0, none⟩)), (5, .int .i64 x1950), (92, .bool true)], (Fr.le_cons rfl (Fr.le_cons rfl (Fr.le_cons rfl Fr.le_nil))), true, F1947, rfl, hS2187, (hE1949.up (by omega)), ho2185, fo1954, h1951, h1952, hr⟩
                  · replace hr := iteB_neg hr hg2188
                    refine WL.fieldAddr .r rfl rfl rfl Try.underlying26 rfl info24 rfl rfl ?_
                    refine WL.load1 .r rfl rfl rfl Try.underlying24 rfl rfl ho2185 rfl ?_
                    refine WL.move .r rfl rfl rfl rfl ?_
                    obtain ⟨xs2189, hxs2189, hr⟩ := bnd_some hr
                    refine GL.slice .r rfl rfl rfl Try.underlying24 info54 rfl rfl h1952 hS2187.fh rfl ⟨_, rfl⟩ hxs2189 (fun a2190 cap2191 hid2192 h2193 => ?_)
                    refine WL.fieldAddr .r rfl rfl rfl Try.underlying54 rfl info3 rfl rfl ?_
                    refine WL.load1 .r rfl rfl rfl Try.underlying3 rfl rfl ho2186 rfl ?_
                    obtain ⟨x2194, hx2194, hr⟩ := bnd_some hr
                    refine GL.callP g.good .r rfl rfl rfl rfl rfl rfl Try.func42 rfl rfl (Nat.le_refl _) (f_spec_l09Session_k  g hS2187 h2193 hx2194) (fun v n2195 H2196 hn2197 hk2198 hp2199 => ?_)
                    obtain ⟨hS2200, rfl⟩ := hp2199
                    have ho2201 := (hk2198 _ (by have := lt1955; omega)).trans ho2185
                    have ho2202 := (hk2198 _ (by have := lt2099; omega)).trans ho2186
                    have hS2203 : St n0 n2195 H2196 F1947 := ⟨by have := hS2187.lo; omega, hS2200.hb, hS2200.fh⟩
                    have hlon2195 := hS2203.lo
                    refine WL.bin .r rfl rfl rfl rfl rfl rfl ?_
                    refine WL.pick .r rfl rfl rfl rfl rfl ?_
                    refine WL.move .r rfl rfl rfl rfl ?_
                    refine WL.guardD rfl rfl rfl (fun hg2204 => ?_) (fun hg2204 => ?_)
                    · replace hr := ite_pos hr hg2204
                      refine WL.skip .r rfl rfl ?_
                      refine WL.skip .r rfl rfl ?_
                      refine WL.skip .r rfl rfl ?_
                      refine WL.skip .r rfl rfl ?_
                      refine WL.pick .r rfl rfl rfl rfl rfl ?_
                      with_reducible refine WL.nil ?_
                      with_reducible refine Ex.thn_norm ?_
                      exact ⟨[(1, .pointer (some ⟨n0, 0, none⟩)), (5, .int .i64 x1950), (92, .bool true)], (Fr.le_cons rfl (Fr.le_cons rfl (Fr.le_cons rfl Fr.le_nil))), true, F1947, rfl, hS2203, (hE1949.up (by omega)), ho2201, fo1954, h1951, h1952, hr⟩
                    · replace hr := ite_neg hr hg2204
                      refine WL.fieldAddr .r rfl rfl rfl Try.underlying54 rfl info52 rfl rfl ?_
                      refine WL.loadN .r (l' := [.int .i64 x2086.Reply.Code, .int .i64 x2086.Reply.Version, str x2086.Reply.Sha]) rfl rfl rfl Try.underlying52 rfl info52 rfl ho2202 rfl rfl ?_
                      obtain ⟨x2205, hx2205, hr⟩ := bnd_some hr
                      refine GL.callP g.good .r rfl rfl rfl rfl rfl rfl Try.func43 rfl rfl (Nat.le_refl _) (f_spec_l09Reply_k  g hS2203 hx2205) (fun v n2206 H2207 hn2208 hk2209 hp2210 => ?_)
                      obtain ⟨hS2211, rfl⟩ := hp2210
                      have ho2212 := (hk2209 _ (by have := lt1955; omega)).trans ho2201
                      have ho2213 := (hk2209 _ (by have := lt2099; omega)).trans ho2202
                      have hS2214 : St n0 n2206 H2207 F1947 := ⟨by have := hS2203.lo; omega, hS2211.hb, hS2211.fh⟩
                      have hlon2206 := hS2214.lo
                      refine WL.not .r rfl rfl rfl rfl ?_
                      refine WL.pick .r rfl rfl rfl rfl rfl ?_
                      with_reducible refine WL.nil ?_
                      with_reducible refine Ex.thn_norm ?_
                      exact ⟨[(1, .pointer (some ⟨n0, 0, none⟩)), (5, .int .i64 x1950), (92, .bool (!x2205))], (Fr.le_cons rfl (Fr.le_cons rfl (Fr.le_cons rfl Fr.le_nil))), (!x2205), F1947, rfl, hS2214, (hE1949.up (by omega)), ho2212, fo1954, h1951, h1952, hr⟩
              · intro _ n2154 H2155 hI
                obtain ⟨x2159, F2156, rfl, hS2157, hE2158, ho2162, fo2163, h2160, h2161, hr⟩ := hI
                have lt2164 := hS2157.lt ho2162
                have hlen2154 := hE2158.le
                have hlon2154 := hS2157.lo
                unfold f_spec_StateOK_J4 at hr
                refine W.cond rfl (fun hc2165 => ?_) (fun hc2165 => ?_)
                · replace hr := iteB_pos hr hc2165
                  with_reducible refine W.seq ?_
                  with_reducible refine W.region ?_
                  refine WL.assign .nil rfl rfl rfl rfl ?_
                  with_reducible refine WL.nil ?_
                  with_reducible refine Ex.thn_norm ?_
                  with_reducible refine W.ret ?_
                  with_reducible refine Ex.blk_ret ?_
                  with_reducible refine Ex.thn_ret ?_
                  with_reducible refine Ex.thn_ret ?_
                  with_reducible refine Ex.blk_ret ?_
                  with_reducible refine Ex.thn_ret ?_
                  obtain rfl := Option.some.inj hr
                  exact ⟨.inr rfl, _, (.cons (.tmp rfl) .nil), ⟨(Ext.st hE2158 hS2157), rfl⟩⟩
                · replace hr := iteB_neg hr hc2165
                  with_reducible refine W.skip ?_
                  with_reducible refine Ex.blk_norm ?_
                  with_reducible refine Ex.thn_norm ?_
                  with_reducible refine W.region ?_
                  refine WL.move .nil rfl rfl rfl rfl ?_
                  obtain ⟨hc2166, hr⟩ := chk_some hr
                  refine WL.addI .nil rfl rfl rfl rfl rfl hc2166.1 hc2166.2 ?_
                  refine WL.assign .nil rfl rfl rfl rfl ?_
                  with_reducible refine WL.nil ?_
                  with_reducible refine Ex.thn_norm ?_
                  exact ⟨[(1, .pointer (some ⟨n0, 0, none⟩)), (5, .int .i64 (x1950 + 1))], (Fr.le_cons rfl (Fr.le_cons rfl Fr.le_nil)), (x1950 + 1), F2156, rfl, hS2157, hE2158, ho2162, fo2163, h2160, h2161, hr⟩
            · replace hr := ite_neg hr hc1957
              with_reducible refine W.exit ?_
              with_reducible refine Ex.thn_ex ?_
              with_reducible refine Ex.thn_ex ?_
              with_reducible refine Ex.blk_here ?_
              with_reducible refine Ex.thn_norm ?_
              with_reducible refine W.seq ?_
              with_reducible refine W.region ?_
              refine WL.assign .nil rfl rfl rfl rfl ?_
              with_reducible refine WL.nil ?_
              with_reducible refine Ex.thn_norm ?_
              with_reducible refine W.ret ?_
              obtain rfl := Option.some.inj hr
              exact ⟨.inr rfl, _, (.cons (.tmp rfl) .nil), ⟨(Ext.st hE1949 hS1948), rfl⟩⟩
theorem f_spec_l01Put_k {Δ : Prims} (g : Env Try.prog Δ) {lo n0 : Nat} {H0 F0 : Heap} (hS : St lo n0 H0 F0) {x1 : Int} {res : ((List UInt8))} (hr : f_spec_l01Put x1 = some res) :
    C Try.prog Δ n0 33 [.int .i64 x1] n0 H0 (fun v n H => ∃ (ra1 : Option Addr) (rcap2 : Nat), St n0 n H F0 ∧ v = .slice ra1 res.length rcap2 ∧ OW n0 n H F0 (.slice ra1 res.length rcap2) res) := by
  refine C.body Try.func33 rfl rfl ?_
  unfold f_spec_l01Put at hr
  have hS0 : St n0 n0 H0 F0 := hS.low (Nat.le_refl _)
  have hE0 := Ext.refl n0 F0
  have hlo0 := hS0.lo
  with_reducible refine W.seq ?_
  with_reducible refine W.region ?_
  refine WL.assign .nil rfl rfl rfl rfl ?_
  with_reducible refine WL.nil ?_
  with_reducible refine Ex.thn_norm ?_
  with_reducible refine W.seq ?_
  with_reducible refine W.region ?_
  refine GL.lit (cs := []) (xs := ([] : List UInt8)) hS0 .nil rfl rfl rfl Try.underlying22 info5 rfl rfl rfl (by decide) (by decide) rfl rfl rfl rfl rfl RA.nil rfl (fun H2 hS3 hO4 hk5 => ?_)
  have h6 := OW.lower (lo' := n0) hO4 (by omega)
  have hlon01 := hS3.lo
  refine WL.assign .nil rfl rfl rfl rfl ?_
  with_reducible refine WL.nil ?_
  with_reducible refine Ex.thn_norm ?_
  with_reducible refine W.seq ?_
  with_reducible refine W.block ?_
  refine W.loopF (fun k0 fr n H => ∃ (x198 : Int) (a199 : Option Addr) (cap200 : Nat) (xs201 : (List UInt8)) (F : Heap), fr = [(0, .int .i64 x198), (3, .slice a199 xs201.length cap200)] ∧ St n0 n H F ∧ Ext n0 F0 n F ∧ OW n0 n H F (.slice a199 xs201.length cap200) xs201 ∧ f_spec_l01Put_L0 k0 x198 xs201 = some res) BIG (fr0 := [(0, .int .i64 x1), (3, .slice (some ⟨n0, 0, none⟩) ([] : List UInt8).length 0)]) (Fr.le_cons rfl (Fr.le_cons rfl Fr.le_nil)) ?_ ?_ ?_
  · exact ⟨x1, (some ⟨n0, 0, none⟩), 0, ([] : List UInt8), F0, rfl, hS3, (hE0.up (by omega)), h6, hr⟩
  · intro fr n H hI
    obtain ⟨x198, a199, cap200, xs201, F195, hfr, hS196, hE197, h202, hr⟩ := hI
    rw [f_spec_l01Put_L0] at hr
    cases hr
  · intro k0 _ n193 H194 hI
    obtain ⟨x198, a199, cap200, xs201, F195, rfl, hS196, hE197, h202, hr⟩ := hI
    have hlen193 := hE197.le
    have hlon193 := hS196.lo
    rw [f_spec_l01Put_L0] at hr
    with_reducible refine W.seq ?_
    with_reducible refine W.seq ?_
    with_reducible refine W.region ?_
    refine WL.move .nil rfl rfl rfl rfl ?_
    refine WL.bin .nil rfl rfl rfl rfl rfl rfl ?_
    with_reducible refine WL.nil ?_
    with_reducible refine Ex.thn_norm ?_
    refine W.condD rfl (fun hc205 => ?_) (fun hc205 => ?_)
    · replace hr := ite_pos hr hc205
      with_reducible refine W.skip ?_
      with_reducible refine Ex.thn_norm ?_
      with_reducible refine W.block ?_
      with_reducible refine W.seq ?_
      with_reducible refine W.region ?_
      refine WL.move .nil rfl rfl rfl rfl ?_
      refine WL.move .nil rfl rfl rfl rfl ?_
      obtain ⟨hc206, hr⟩ := chk_some hr
      refine WL.remI .nil rfl rfl rfl rfl rfl hc206.1 hc206.2 ?_
      refine WL.convB .nil rfl rfl rfl Try.underlying3 Try.underlying5 rfl ?_
      refine GL.u8or .nil (byteOf (x198 % 128)) (128 : UInt8) rfl rfl rfl rfl rfl ?_
      have hb211 := fun b hb => (OW.id_lt (i := b) h202 hb).2
      refine GL.lit (cs := [u8 ((byteOf (x198 % 128)) ||| (128 : UInt8))]) (xs := ([((byteOf (x198 % 128)) ||| (128 : UInt8))] : List UInt8)) hS196 .nil rfl rfl rfl Try.underlying22 info5 rfl rfl rfl (by decide) (by decide) rfl rfl rfl rfl rfl (RA.cons (cs := [u8 ((byteOf (x198 % 128)) ||| (128 : UInt8))]) (a := (((byteOf (x198 % 128)) ||| (128 : UInt8)) : UInt8)) rfl RA.nil) rfl (fun H207 hS208 hO209 hk210 => ?_)
      have h212 := OW.keep (n' := (n193 + 1)) h202 (by omega) (fun i hi => hk210 i (OW.id_lt h202 hi).2)
      have h213 := OW.lower (lo' := n0) hO209 (by omega)
      have hlon1931 := hS208.lo
      have ap215 : ∀ b, idOf (.slice (some ⟨n193, 0, none⟩) ([((byteOf (x198 % 128)) ||| (128 : UInt8))] : List UInt8).length 1) = some b → idOf (.slice a199 xs201.length cap200) ≠ some b := fun b hj hi => by have := (OW.id_lt hO209 hj).1; have := hb211 b hi; omega
      obtain ⟨hc216, hr⟩ := chk_some hr
      have hb226 := fun b hb => (OW.id_lt (i := b) h212 hb).2
      have hb227 := fun b hb => (OW.id_lt (i := b) h213 hb).2
      refine GL.append (α := UInt8) hS208 .nil rfl rfl rfl Try.underlying22 Try.underlying22 rfl info5 rfl rfl rfl (by decide) rfl rfl h212 (by omega) (by omega) (OW.src h213) hc216 (fun a217 cap218 n219 H220 hS221 hn222 hO223 hk224 hid225 => ?_)
      have h228 := OW.keep h213 hn222 (fun i hi => hk224 i (OW.id_lt h213 hi).2 (fun hj => (fun b h1 h2 => ap215 b h2 h1) _ hj hi))
      have ap230 : ∀ b, idOf (.slice a217 (xs201 ++ ([((byteOf (x198 % 128)) ||| (128 : UInt8))] : List UInt8)).length cap218) = some b → idOf (.slice (some ⟨n193, 0, none⟩) ([((byteOf (x198 % 128)) ||| (128 : UInt8))] : List UInt8).length 1) ≠ some b := fun b hj hi => (hid225 _ hj).elim (fun h => by have := hb227 b hi; omega) (fun h => (fun b h1 h2 => ap215 b h2 h1) _ h hi)
      have hlon219 := hS221.lo
      refine WL.assign .nil rfl rfl rfl rfl ?_
      with_reducible refine WL.nil ?_
      with_reducible refine Ex.thn_norm ?_
      with_reducible refine W.region ?_
      refine WL.move .nil rfl rfl rfl rfl ?_
      obtain ⟨hc231, hr⟩ := chk_some hr
      refine WL.quoI .nil rfl rfl rfl rfl rfl hc231.1 hc231.2.1 hc231.2.2 ?_
      refine WL.assign .nil rfl rfl rfl rfl ?_
      with_reducible refine WL.nil ?_
      with_reducible refine Ex.blk_norm ?_
      with_reducible refine Ex.thn_norm ?_
      exact ⟨[(0, .int .i64 (x198 / 128)), (3, .slice a217 (xs201 ++ ([((byteOf (x198 % 128)) ||| (128 : UInt8))] : List UInt8)).length cap218)], (Fr.le_cons rfl (Fr.le_cons rfl Fr.le_nil)), (x198 / 128), a217, cap218, (xs201 ++ ([((byteOf (x198 % 128)) ||| (128 : UInt8))] : List UInt8)), F195, rfl, hS221, (hE197.up (by omega)), hO223, hr⟩
    · replace hr := ite_neg hr hc205
      with_reducible refine W.exit ?_
      with_reducible refine Ex.thn_ex ?_
      with_reducible refine Ex.thn_ex ?_
      with_reducible refine Ex.blk_here ?_
      with_reducible refine Ex.thn_norm ?_
      with_reducible refine W.seq ?_
      with_reducible refine W.region ?_
      refine WL.move .nil rfl rfl rfl rfl ?_
      refine WL.move .nil rfl rfl rfl rfl ?_
      refine WL.convB .nil rfl rfl rfl Try.underlying3 Try.underlying5 rfl ?_
      have hb236 := fun b hb => (OW.id_lt (i := b) h202 hb).2
      refine GL.lit (cs := [u8 (byteOf x198)]) (xs := ([(byteOf x198)] : List UInt8)) hS196 .nil rfl rfl rfl Try.underlying22 info5 rfl rfl rfl (by decide) (by decide) rfl rfl rfl rfl rfl (RA.cons (cs := [u8 (byteOf x198)]) (a := ((byteOf x198) : UInt8)) rfl RA.nil) rfl (fun H232 hS233 hO234 hk235 => ?_)
      have h237 := OW.keep (n' := (n193 + 1)) h202 (by omega) (fun i hi => hk235 i (OW.id_lt h202 hi).2)
      have h238 := OW.lower (lo' := n0) hO234 (by omega)
      have hlon1931 := hS233.lo
      have ap240 : ∀ b, idOf (.slice (some ⟨n193, 0, none⟩) ([(byteOf x198)] : List UInt8).length 1) = some b → idOf (.slice a199 xs201.length cap200) ≠ some b := fun b hj hi => by have := (OW.id_lt hO234 hj).1; have := hb236 b hi; omega
      obtain ⟨hc241, hr⟩ := chk_some hr
      have hb251 := fun b hb => (OW.id_lt (i := b) h237 hb).2
      have hb252 := fun b hb => (OW.id_lt (i := b) h238 hb).2
      refine GL.append (α := UInt8) hS233 .nil rfl rfl rfl Try.underlying22 Try.underlying22 rfl info5 rfl rfl rfl (by decide) rfl rfl h237 (by omega) (by omega) (OW.src h238) hc241 (fun a242 cap243 n244 H245 hS246 hn247 hO248 hk249 hid250 => ?_)
      have h253 := OW.keep h238 hn247 (fun i hi => hk249 i (OW.id_lt h238 hi).2 (fun hj => (fun b h1 h2 => ap240 b h2 h1) _ hj hi))
      have ap255 : ∀ b, idOf (.slice a242 (xs201 ++ ([(byteOf x198)] : List UInt8)).length cap243) = some b → idOf (.slice (some ⟨n193, 0, none⟩) ([(byteOf x198)] : List UInt8).length 1) ≠ some b := fun b hj hi => (hid250 _ hj).elim (fun h => by have := hb252 b hi; omega) (fun h => (fun b h1 h2 => ap240 b h2 h1) _ h hi)
      have hlon244 := hS246.lo
      refine WL.assign .nil rfl rfl rfl rfl ?_
      with_reducible refine WL.nil ?_
      with_reducible refine Ex.thn_norm ?_
      with_reducible refine W.ret ?_
      obtain rfl := Option.some.inj hr
      exact ⟨.inr rfl, _, (.cons (.tmp rfl) .nil), ⟨a242, cap243, (Ext.st hE197 hS246), rfl, (OW.downFl hE197.sub hO248)⟩⟩
theorem f_spec_l09Text_k {Δ : Prims} (g : Env Try.prog Δ) {lo n0 : Nat} {H0 F0 : Heap} (hS : St lo n0 H0 F0) {x1 : Str} {res : ((List UInt8))} (hr : f_spec_l09Text x1 = some res) :
    C Try.prog Δ n0 34 [str x1] n0 H0 (fun v n H => ∃ (ra1 : Option Addr) (rcap2 : Nat), St n0 n H F0 ∧ v = .slice ra1 res.length rcap2 ∧ OW n0 n H F0 (.slice ra1 res.length rcap2) res) := by
  refine C.body Try.func34 rfl rfl ?_
  unfold f_spec_l09Text at hr
  have hS0 : St n0 n0 H0 F0 := hS.low (Nat.le_refl _)
  have hE0 := Ext.refl n0 F0
  have hlo0 := hS0.lo
  with_reducible refine W.seq ?_
  with_reducible refine W.region ?_
  refine WL.assign .nil rfl rfl rfl rfl ?_
  with_reducible refine WL.nil ?_
  with_reducible refine Ex.thn_norm ?_
  with_reducible refine W.seq ?_
  with_reducible refine W.region ?_
  refine WL.move .nil rfl rfl rfl rfl ?_
  refine GL.lenStr .nil rfl rfl rfl Try.underlying9 rfl ?_
  obtain ⟨x2, hx2, hr⟩ := bnd_some hr
  refine GL.callP g.good .nil rfl rfl rfl rfl rfl rfl Try.func33 rfl rfl hS0.lo (f_spec_l01Put_k  g hS0 hx2) (fun v n3 H4 hn5 hk6 hp7 => ?_)
  obtain ⟨a8, cap9, hS11, rfl, h10⟩ := hp7
  have hS12 : St n0 n3 H4 F0 := ⟨by have := hS0.lo; omega, hS11.hb, hS11.fh⟩
  have hlon3 := hS12.lo
  have h13 := OW.lower (lo' := n0) h10 (by omega)
  refine WL.move .nil rfl rfl rfl rfl ?_
  obtain ⟨hc15, hr⟩ := chk_some hr
  have hb25 := fun b hb => (OW.id_lt (i := b) h13 hb).2
  refine GL.appendStr (ys := x1) hS12 .nil rfl rfl rfl Try.underlying22 Try.underlying9 rfl info5 rfl rfl rfl (by decide) rfl rfl h13 (by omega) (by omega) hc15 (fun a16 cap17 n18 H19 hS20 hn21 hO22 hk23 hid24 => ?_)
  have hlon18 := hS20.lo
  refine WL.assign .nil rfl rfl rfl rfl ?_
  with_reducible refine WL.nil ?_
  with_reducible refine Ex.thn_norm ?_
  with_reducible refine W.ret ?_
  obtain rfl := Option.some.inj hr
  exact ⟨.inr rfl, _, (.cons (.tmp rfl) .nil), ⟨a16, cap17, (Ext.st hE0 hS20), rfl, (OW.downFl hE0.sub hO22)⟩⟩
theorem f_spec_StateBytes_k {Δ : Prims} (g : Env Try.prog Δ) {lo n0 : Nat} {H0 F0 : Heap} (hS : St lo n0 H0 F0) {x1 : GState} {a2 : Option Addr} {cap3 : Nat} {a5 : Option Addr} {cap6 : Nat} (h4 : SR F0 (.slice a2 x1.Files.length cap3) x1.Files) (h7 : SR F0 (.slice a5 x1.Sessions.length cap6) x1.Sessions) {res : ((List UInt8) × Int)} (hr : f_spec_StateBytes x1 = some res) :
    C Try.prog Δ n0 14 [.agg [.slice a2 x1.Files.length cap3, .slice a5 x1.Sessions.length cap6].toArray] n0 H0 (fun v n H => ∃ (ra1 : Option Addr) (rcap2 : Nat), St n0 n H F0 ∧ v = .tuple #[.slice ra1 res.1.length rcap2, .int .i64 res.2] ∧ OW n0 n H F0 (.slice ra1 res.1.length rcap2) res.1) := by
  refine C.body Try.func14 rfl rfl ?_
  unfold f_spec_StateBytes at hr
  have hS0 : St n0 n0 H0 F0 := hS.low (Nat.le_refl _)
  have hE0 := Ext.refl n0 F0
  have hlo0 := hS0.lo
  with_reducible refine W.seq ?_
  with_reducible refine W.region ?_
  refine GL.box hS0 .nil (vc := [.slice a2 x1.Files.length cap3, .slice a5 x1.Sessions.length cap6]) rfl rfl rfl rfl rfl (by repeat' (first | exact List.forall_mem_nil _ | refine List.forall_mem_cons.2 ⟨?_, ?_⟩ | rfl)) (fun H8 hS9 ho10 hk11 => ?_)
  have fo12 := hS0.fnone (Nat.le_refl _)
  have hlon01 := hS9.lo
  have lt13 : n0 < (n0 + 1) := by omega
  refine WL.assign .nil rfl rfl rfl rfl ?_
  refine WL.assign .nil rfl rfl rfl rfl ?_
  with_reducible refine WL.nil ?_
  with_reducible refine Ex.thn_norm ?_
  with_reducible refine W.seq ?_
  with_reducible refine W.seq ?_
  with_reducible refine W.region ?_
  refine WL.loadN .nil (l' := [.slice a2 x1.Files.length cap3, .slice a5 x1.Sessions.length cap6]) rfl rfl rfl Try.underlying26 rfl info26 rfl ho10 rfl rfl ?_
  obtain ⟨x14, hx14, hr⟩ := bnd_some hr
  refine GL.callP g.good .nil rfl rfl rfl rfl rfl rfl Try.func20 rfl rfl hS9.lo (f_spec_StateOK_k  g hS9 h4 h7 hx14) (fun v n15 H16 hn17 hk18 hp19 => ?_)
  obtain ⟨hS20, rfl⟩ := hp19
  have ho21 := (hk18 _ (by have := lt13; omega)).trans ho10
  have hS22 : St n0 n15 H16 F0 := ⟨by have := hS9.lo; omega, hS20.hb, hS20.fh⟩
  have hlon15 := hS22.lo
  refine WL.not .nil rfl rfl rfl rfl ?_
  with_reducible refine WL.nil ?_
  with_reducible refine Ex.thn_norm ?_
  refine W.cond rfl (fun hc32 => ?_) (fun hc32 => ?_)
  · replace hr := iteB_pos hr hc32
    with_reducible refine W.seq ?_
    with_reducible refine W.region ?_
    refine GL.lit (cs := []) (xs := ([] : List UInt8)) hS22 .nil rfl rfl rfl Try.underlying22 info5 rfl rfl rfl (by decide) (by decide) rfl rfl rfl rfl rfl RA.nil rfl (fun H33 hS34 hO35 hk36 => ?_)
    have ho37 := (hk36 _ (by have := lt13; omega)).trans ho21
    have h38 := OW.lower (lo' := n0) hO35 (by omega)
    have hlon151 := hS34.lo
    have ap40 : idOf (.slice (some ⟨n15, 0, none⟩) ([] : List UInt8).length 0) ≠ some n0 := fun hj => by have := (OW.id_lt hO35 hj).1; have := lt13; omega
    refine WL.assign .nil rfl rfl rfl rfl ?_
    refine WL.assign .nil rfl rfl rfl rfl ?_
    with_reducible refine WL.nil ?_
    with_reducible refine Ex.thn_norm ?_
    with_reducible refine W.ret ?_
    with_reducible refine Ex.thn_ret ?_
    obtain rfl := Option.some.inj hr
    exact ⟨.inr rfl, _, (.cons (.tmp rfl) (.cons (.tmp rfl) .nil)), ⟨(some ⟨n15, 0, none⟩), 0, (Ext.st hE0 hS34), rfl, (OW.downFl hE0.sub h38)⟩⟩
  · replace hr := iteB_neg hr hc32
    with_reducible refine W.skip ?_
    with_reducible refine Ex.thn_norm ?_
    with_reducible refine W.seq ?_
    with_reducible refine W.region ?_
    refine WL.fieldAddr .nil rfl rfl rfl Try.underlying26 rfl info23 rfl rfl ?_
    refine WL.load1 .nil rfl rfl rfl Try.underlying23 rfl rfl ho21 rfl ?_
    refine WL.len .nil rfl rfl rfl Try.underlying23 rfl ?_
    obtain ⟨x41, hx41, hr⟩ := bnd_some hr
    refine GL.callP g.good .nil rfl rfl rfl rfl rfl rfl Try.func33 rfl rfl hS22.lo (f_spec_l01Put_k  g hS22 hx41) (fun v n42 H43 hn44 hk45 hp46 => ?_)
    obtain ⟨a47, cap48, hS50, rfl, h49⟩ := hp46
    have ho51 := (hk45 _ (by have := lt13; omega)).trans ho21
    have hS52 : St n0 n42 H43 F0 := ⟨by have := hS22.lo; omega, hS50.hb, hS50.fh⟩
    have hlon42 := hS52.lo
    have h53 := OW.lower (lo' := n0) h49 (by omega)
    have ap55 : idOf (.slice a47 x41.length cap48) ≠ some n0 := fun hj => by have := (OW.id_lt h49 hj).1; have := lt13; omega
    refine WL.assign .nil rfl rfl rfl rfl ?_
    with_reducible refine WL.nil ?_
    with_reducible refine Ex.thn_norm ?_
    with_reducible refine W.seq ?_
    with_reducible refine W.seq ?_
    with_reducible refine W.region ?_
    refine WL.assign .nil rfl rfl rfl rfl ?_
    with_reducible refine WL.nil ?_
    with_reducible refine Ex.thn_norm ?_
    with_reducible refine W.block ?_
    refine W.loopF (fun k0 fr n H => ∃ (a1621 : Option Addr) (cap1622 : Nat) (xs1623 : (List UInt8)) (x1626 : Int) (F : Heap), fr = [(1, .pointer (some ⟨n0, 0, none⟩)), (4, .slice a1621 xs1623.length cap1622), (5, .int .i64 x1626)] ∧ St n0 n H F ∧ Ext n0 F0 n F ∧ H n0 = some (.row 1 [.slice a2 x1.Files.length cap3, .slice a5 x1.Sessions.length cap6]) ∧ F n0 = none ∧ OW n0 n H F (.slice a1621 xs1623.length cap1622) xs1623 ∧ SR F (.slice a2 x1.Files.length cap3) x1.Files ∧ SR F (.slice a5 x1.Sessions.length cap6) x1.Sessions ∧ idOf (.slice a1621 xs1623.length cap1622) ≠ some n0 ∧ f_spec_StateBytes_L0 x1 k0 xs1623 x1626 = some res) BIG (fr0 := [(1, .pointer (some ⟨n0, 0, none⟩)), (4, .slice a47 x41.length cap48), (5, .int .i64 0)]) (Fr.le_cons rfl (Fr.le_cons rfl (Fr.le_cons rfl Fr.le_nil))) ?_ ?_ ?_
    · exact ⟨a47, cap48, x41, 0, F0, rfl, hS52, (hE0.up (by omega)), ho51, fo12, h53, h4, h7, ap55, hr⟩
    · intro fr n H hI
      obtain ⟨a1621, cap1622, xs1623, x1626, F1618, hfr, hS1619, hE1620, ho1629, fo1630, h1624, h1627, h1628, ap1631, hr⟩ := hI
      rw [f_spec_StateBytes_L0] at hr
      cases hr
    · intro k0 _ n1616 H1617 hI
      obtain ⟨a1621, cap1622, xs1623, x1626, F1618, rfl, hS1619, hE1620, ho1629, fo1630, h1624, h1627, h1628, ap1631, hr⟩ := hI
      have lt1632 := hS1619.lt ho1629
      have hlen1616 := hE1620.le
      have hlon1616 := hS1619.lo
      rw [f_spec_StateBytes_L0] at hr
      with_reducible refine W.seq ?_
      with_reducible refine W.seq ?_
      with_reducible refine W.region ?_
      refine WL.move .nil rfl rfl rfl rfl ?_
      refine WL.fieldAddr .nil rfl rfl rfl Try.underlying26 rfl info23 rfl rfl ?_
      refine WL.load1 .nil rfl rfl rfl Try.underlying23 rfl rfl ho1629 rfl ?_
      refine WL.len .nil rfl rfl rfl Try.underlying23 rfl ?_
      refine WL.bin .nil rfl rfl rfl rfl rfl rfl ?_
      with_reducible refine WL.nil ?_
      with_reducible refine Ex.thn_norm ?_
      refine W.condD rfl (fun hc1634 => ?_) (fun hc1634 => ?_)
      · replace hr := ite_pos hr hc1634
        with_reducible refine W.skip ?_
        with_reducible refine Ex.thn_norm ?_
        with_reducible refine W.seq ?_
        with_reducible refine W.block ?_
        with_reducible refine W.seq ?_
        with_reducible refine W.region ?_
        refine WL.move .nil rfl rfl rfl rfl ?_
        refine WL.fieldAddr .nil rfl rfl rfl Try.underlying26 rfl info23 rfl rfl ?_
        refine WL.load1 .nil rfl rfl rfl Try.underlying23 rfl rfl ho1629 rfl ?_
        refine WL.move .nil rfl rfl rfl rfl ?_
        obtain ⟨x1782, hx1782, hr⟩ := bnd_some hr
        refine GL.index .nil rfl rfl rfl Try.underlying23 info50 rfl rfl h1627 hS1619.fh rfl hx1782 (fun b1783 kp1784 c1785 ecs1786 hrow1787 hwin1788 hR1789 => ?_)
        obtain ⟨rfl⟩ := GFile.ofR hR1789
        refine WL.fieldAddr .nil rfl rfl rfl Try.underlying50 rfl info9 rfl rfl ?_
        refine WL.load1 .nil rfl rfl rfl Try.underlying9 rfl rfl hrow1787 ((win_get0 hwin1788 (show (0 : Nat) < 3 by decide)).trans rfl) ?_
        obtain ⟨x1790, hx1790, hr⟩ := bnd_some hr
        have hb1796 := fun b hb => (OW.id_lt (i := b) h1624 hb).2
        refine GL.callP g.good .nil rfl rfl rfl rfl rfl rfl Try.func34 rfl rfl hS1619.lo (f_spec_l09Text_k  g hS1619 hx1790) (fun v n1791 H1792 hn1793 hk1794 hp1795 => ?_)
        obtain ⟨a1797, cap1798, hS1800, rfl, h1799⟩ := hp1795
        have ho1801 := (hk1794 _ (by have := lt1632; omega)).trans ho1629
        have h1802 := OW.keep (n' := n1791) h1624 (by omega) (fun i hi => hk1794 i (OW.id_lt h1624 hi).2)
        have hS1803 : St n0 n1791 H1792 F1618 := ⟨by have := hS1619.lo; omega, hS1800.hb, hS1800.fh⟩
        have hlon1791 := hS1803.lo
        have h1804 := OW.lower (lo' := n0) h1799 (by omega)
        have ap1806 : idOf (.slice a1797 x1790.length cap1798) ≠ some n0 := fun hj => by have := (OW.id_lt h1799 hj).1; have := lt1632; omega
        have ap1807 : ∀ b, idOf (.slice a1797 x1790.length cap1798) = some b → idOf (.slice a1621 xs1623.length cap1622) ≠ some b := fun b hj hi => by have := (OW.id_lt h1799 hj).1; have := hb1796 b hi; omega
        obtain ⟨hc1808, hr⟩ := chk_some hr
        have hb1818 := fun b hb => (OW.id_lt (i := b) h1802 hb).2
        have hb1819 := fun b hb => (OW.id_lt (i := b) h1804 hb).2
        refine GL.append (α := UInt8) hS1803 .nil rfl rfl rfl Try.underlying22 Try.underlying22 rfl info5 rfl rfl rfl (by decide) rfl rfl h1802 (by omega) (by omega) (OW.src h1804) hc1808 (fun a1809 cap1810 n1811 H1812 hS1813 hn1814 hO1815 hk1816 hid1817 => ?_)
        have ho1820 := (hk1816 _ (by have := lt1632; omega) ap1631).trans ho1801
        have h1821 := OW.keep h1804 hn1814 (fun i hi => hk1816 i (OW.id_lt h1804 hi).2 (fun hj => (fun b h1 h2 => ap1807 b h2 h1) _ hj hi))
        have ap1823 : idOf (.slice a1809 (xs1623 ++ x1790).length cap1810) ≠ some n0 := fun hj => (hid1817 _ hj).elim (fun h => by have := lt1632; omega) ap1631
        have ap1824 : ∀ b, idOf (.slice a1809 (xs1623 ++ x1790).length cap1810) = some b → idOf (.slice a1797 x1790.length cap1798) ≠ some b := fun b hj hi => (hid1817 _ hj).elim (fun h => by have := hb1819 b hi; omega) (fun h => (fun b h1 h2 => ap1807 b h2 h1) _ h hi)
        have hlon1811 := hS1813.lo
        refine WL.assign .nil rfl rfl rfl rfl ?_
        with_reducible refine WL.nil ?_
        with_reducible refine Ex.thn_norm ?_
        with_reducible refine W.seq ?_
        with_reducible refine W.region ?_
        refine WL.move .nil rfl rfl rfl rfl ?_
        refine WL.fieldAddr .nil rfl rfl rfl Try.underlying26 rfl info23 rfl rfl ?_
        refine WL.load1 .nil rfl rfl rfl Try.underlying23 rfl rfl ho1820 rfl ?_
        refine WL.move .nil rfl rfl rfl rfl ?_
        obtain ⟨x1825, hx1825, hr⟩ := bnd_some hr
        refine GL.index .nil rfl rfl rfl Try.underlying23 info50 rfl rfl h1627 hS1813.fh rfl hx1825 (fun b1826 kp1827 c1828 ecs1829 hrow1830 hwin1831 hR1832 => ?_)
        obtain ⟨rfl⟩ := GFile.ofR hR1832
        refine WL.fieldAddr .nil rfl rfl rfl Try.underlying50 rfl info3 rfl rfl ?_
        refine WL.load1 .nil rfl rfl rfl Try.underlying3 rfl rfl hrow1830 ((win_get (m := 1) hwin1831 (show (1 : Nat) < 3 by decide)).trans rfl) ?_
        obtain ⟨x1833, hx1833, hr⟩ := bnd_some hr
        have hb1839 := fun b hb => (OW.id_lt (i := b) h1821 hb).2
        have hb1840 := fun b hb => (OW.id_lt (i := b) hO1815 hb).2
        refine GL.callP g.good .nil rfl rfl rfl rfl rfl rfl Try.func33 rfl rfl hS1813.lo (f_spec_l01Put_k  g hS1813 hx1833) (fun v n1834 H1835 hn1836 hk1837 hp1838 => ?_)
        obtain ⟨a1841, cap1842, hS1844, rfl, h1843⟩ := hp1838
        have ho1845 := (hk1837 _ (by have := lt1632; omega)).trans ho1820
        have h1846 := OW.keep (n' := n1834) h1821 (by omega) (fun i hi => hk1837 i (OW.id_lt h1821 hi).2)
        have h1847 := OW.keep (n' := n1834) hO1815 (by omega) (fun i hi => hk1837 i (OW.id_lt hO1815 hi).2)
        have hS1848 : St n0 n1834 H1835 F1618 := ⟨by have := hS1813.lo; omega, hS1844.hb, hS1844.fh⟩
        have hlon1834 := hS1848.lo
        have h1849 := OW.lower (lo' := n0) h1843 (by omega)
        have ap1851 : idOf (.slice a1841 x1833.length cap1842) ≠ some n0 := fun hj => by have := (OW.id_lt h1843 hj).1; have := lt1632; omega
        have ap1852 : ∀ b, idOf (.slice a1841 x1833.length cap1842) = some b → idOf (.slice a1797 x1790.length cap1798) ≠ some b := fun b hj hi => by have := (OW.id_lt h1843 hj).1; have := hb1839 b hi; omega
        have ap1853 : ∀ b, idOf (.slice a1841 x1833.length cap1842) = some b → idOf (.slice a1809 (xs1623 ++ x1790).length cap1810) ≠ some b := fun b hj hi => by have := (OW.id_lt h1843 hj).1; have := hb1840 b hi; omega
        obtain ⟨hc1854, hr⟩ := chk_some hr
        have hb1864 := fun b hb => (OW.id_lt (i := b) h1846 hb).2
        have hb1865 := fun b hb => (OW.id_lt (i := b) h1847 hb).2
        have hb1866 := fun b hb => (OW.id_lt (i := b) h1849 hb).2
        refine GL.append (α := UInt8) hS1848 .nil rfl rfl rfl Try.underlying22 Try.underlying22 rfl info5 rfl rfl rfl (by decide) rfl rfl h1847 (by omega) (by omega) (OW.src h1849) hc1854 (fun a1855 cap1856 n1857 H1858 hS1859 hn1860 hO1861 hk1862 hid1863 => ?_)
        have ho1867 := (hk1862 _ (by have := lt1632; omega) ap1823).trans ho1845
        have h1868 := OW.keep h1846 hn1860 (fun i hi => hk1862 i (OW.id_lt h1846 hi).2 (fun hj => ap1824 _ hj hi))
        have h1869 := OW.keep h1849 hn1860 (fun i hi => hk1862 i (OW.id_lt h1849 hi).2 (fun hj => (fun b h1 h2 => ap1853 b h2 h1) _ hj hi))
        have ap1871 : idOf (.slice a1855 ((xs1623 ++ x1790) ++ x1833).length cap1856) ≠ some n0 := fun hj => (hid1863 _ hj).elim (fun h => by have := lt1632; omega) ap1823
        have ap1872 : ∀ b, idOf (.slice a1855 ((xs1623 ++ x1790) ++ x1833).length cap1856) = some b → idOf (.slice a1797 x1790.length cap1798) ≠ some b := fun b hj hi => (hid1863 _ hj).elim (fun h => by have := hb1864 b hi; omega) (fun h => ap1824 _ h hi)
        have ap1873 : ∀ b, idOf (.slice a1855 ((xs1623 ++ x1790) ++ x1833).length cap1856) = some b → idOf (.slice a1841 x1833.length cap1842) ≠ some b := fun b hj hi => (hid1863 _ hj).elim (fun h => by have := hb1866 b hi; omega) (fun h => (fun b h1 h2 => ap1853 b h2 h1) _ h hi)
        have hlon1857 := hS1859.lo
        refine WL.assign .nil rfl rfl rfl rfl ?_
        with_reducible refine WL.nil ?_
        with_reducible refine Ex.thn_norm ?_
        with_reducible refine W.region ?_
        refine WL.move .nil rfl rfl rfl rfl ?_
        refine WL.fieldAddr .nil rfl rfl rfl Try.underlying26 rfl info23 rfl rfl ?_
        refine WL.load1 .nil rfl rfl rfl Try.underlying23 rfl rfl ho1867 rfl ?_
        refine WL.move .nil rfl rfl rfl rfl ?_
        obtain ⟨x1874, hx1874, hr⟩ := bnd_some hr
        refine GL.index .nil rfl rfl rfl Try.underlying23 info50 rfl rfl h1627 hS1859.fh rfl hx1874 (fun b1875 kp1876 c1877 ecs1878 hrow1879 hwin1880 hR1881 => ?_)
        obtain ⟨rfl⟩ := GFile.ofR hR1881
        refine WL.fieldAddr .nil rfl rfl rfl Try.underlying50 rfl info9 rfl rfl ?_
        refine WL.load1 .nil rfl rfl rfl Try.underlying9 rfl rfl hrow1879 ((win_get (m := 2) hwin1880 (show (2 : Nat) < 3 by decide)).trans rfl) ?_
        obtain ⟨x1882, hx1882, hr⟩ := bnd_some hr
        have hb1888 := fun b hb => (OW.id_lt (i := b) h1868 hb).2
        have hb1889 := fun b hb => (OW.id_lt (i := b) h1869 hb).2
        have hb1890 := fun b hb => (OW.id_lt (i := b) hO1861 hb).2
        refine GL.callP g.good .nil rfl rfl rfl rfl rfl rfl Try.func34 rfl rfl hS1859.lo (f_spec_l09Text_k  g hS1859 hx1882) (fun v n1883 H1884 hn1885 hk1886 hp1887 => ?_)
        obtain ⟨a1891, cap1892, hS1894, rfl, h1893⟩ := hp1887
        have ho1895 := (hk1886 _ (by have := lt1632; omega)).trans ho1867
        have h1896 := OW.keep (n' := n1883) h1868 (by omega) (fun i hi => hk1886 i (OW.id_lt h1868 hi).2)
        have h1897 := OW.keep (n' := n1883) h1869 (by omega) (fun i hi => hk1886 i (OW.id_lt h1869 hi).2)
        have h1898 := OW.keep (n' := n1883) hO1861 (by omega) (fun i hi => hk1886 i (OW.id_lt hO1861 hi).2)
        have hS1899 : St n0 n1883 H1884 F1618 := ⟨by have := hS1859.lo; omega, hS1894.hb, hS1894.fh⟩
        have hlon1883 := hS1899.lo
        have h1900 := OW.lower (lo' := n0) h1893 (by omega)
        have ap1902 : idOf (.slice a1891 x1882.length cap1892) ≠ some n0 := fun hj => by have := (OW.id_lt h1893 hj).1; have := lt1632; omega
        have ap1903 : ∀ b, idOf (.slice a1891 x1882.length cap1892) = some b → idOf (.slice a1797 x1790.length cap1798) ≠ some b := fun b hj hi => by have := (OW.id_lt h1893 hj).1; have := hb1888 b hi; omega
        have ap1904 : ∀ b, idOf (.slice a1891 x1882.length cap1892) = some b → idOf (.slice a1841 x1833.length cap1842) ≠ some b := fun b hj hi => by have := (OW.id_lt h1893 hj).1; have := hb1889 b hi; omega
        have ap1905 : ∀ b, idOf (.slice a1891 x1882.length cap1892) = some b → idOf (.slice a1855 ((xs1623 ++ x1790) ++ x1833).length cap1856) ≠ some b := fun b hj hi => by have := (OW.id_lt h1893 hj).1; have := hb1890 b hi; omega
        obtain ⟨hc1906, hr⟩ := chk_some hr
        have hb1916 := fun b hb => (OW.id_lt (i := b) h1896 hb).2
        have hb1917 := fun b hb => (OW.id_lt (i := b) h1897 hb).2
        have hb1918 := fun b hb => (OW.id_lt (i := b) h1898 hb).2
        have hb1919 := fun b hb => (OW.id_lt (i := b) h1900 hb).2
        refine GL.append (α := UInt8) hS1899 .nil rfl rfl rfl Try.underlying22 Try.underlying22 rfl info5 rfl rfl rfl (by decide) rfl rfl h1898 (by omega) (by omega) (OW.src h1900) hc1906 (fun a1907 cap1908 n1909 H1910 hS1911 hn1912 hO1913 hk1914 hid1915 => ?_)
        have ho1920 := (hk1914 _ (by have := lt1632; omega) ap1871).trans ho1895
        have h1921 := OW.keep h1896 hn1912 (fun i hi => hk1914 i (OW.id_lt h1896 hi).2 (fun hj => ap1872 _ hj hi))
        have h1922 := OW.keep h1897 hn1912 (fun i hi => hk1914 i (OW.id_lt h1897 hi).2 (fun hj => ap1873 _ hj hi))
        have h1923 := OW.keep h1900 hn1912 (fun i hi => hk1914 i (OW.id_lt h1900 hi).2 (fun hj => (fun b h1 h2 => ap1905 b h2 h1) _ hj hi))
        have ap1925 : idOf (.slice a1907 (((xs1623 ++ x1790) ++ x1833) ++ x1882).length cap1908) ≠ some n0 := fun hj => (hid1915 _ hj).elim (fun h => by have := lt1632; omega) ap1871
        have ap1926 : ∀ b, idOf (.slice a1907 (((xs1623 ++ x1790) ++ x1833) ++ x1882).length cap1908) = some b → idOf (.slice a1797 x1790.length cap1798) ≠ some b := fun b hj hi => (hid1915 _ hj).elim (fun h => by have := hb1916 b hi; omega) (fun h => ap1872 _ h hi)
        have ap1927 : ∀ b, idOf (.slice a1907 (((xs1623 ++ x1790) ++ x1833) ++ x1882).length cap1908) = some b → idOf (.slice a1841 x1833.length cap1842) ≠ some b := fun b hj hi => (hid1915 _ hj).elim (fun h => by have := hb1917 b hi; omega) (fun h => ap1873 _ h hi)
        have ap1928 : ∀ b, idOf (.slice a1907 (((xs1623 ++ x1790) ++ x1833) ++ x1882).length cap1908) = some b → idOf (.slice a1891 x1882.length cap1892) ≠ some b := fun b hj hi => (hid1915 _ hj).elim (fun h => by have := hb1919 b hi; omega) (fun h => (fun b h1 h2 => ap1905 b h2 h1) _ h hi)
        have hlon1909 := hS1911.lo
        refine WL.assign .nil rfl rfl rfl rfl ?_
        with_reducible refine WL.nil ?_
        with_reducible refine Ex.blk_norm ?_
        with_reducible refine Ex.thn_norm ?_
        with_reducible refine W.region ?_
        refine WL.move .nil rfl rfl rfl rfl ?_
        obtain ⟨hc1929, hr⟩ := chk_some hr
        refine WL.addI .nil rfl rfl rfl rfl rfl hc1929.1 hc1929.2 ?_
        refine WL.assign .nil rfl rfl rfl rfl ?_
        with_reducible refine WL.nil ?_
        with_reducible refine Ex.thn_norm ?_
        exact ⟨[(1, .pointer (some ⟨n0, 0, none⟩)), (4, .slice a1907 (((xs1623 ++ x1790) ++ x1833) ++ x1882).length cap1908), (5, .int .i64 (x1626 + 1))], (Fr.le_cons rfl (Fr.le_cons rfl (Fr.le_cons rfl Fr.le_nil))), a1907, cap1908, (((xs1623 ++ x1790) ++ x1833) ++ x1882), (x1626 + 1), F1618, rfl, hS1911, (hE1620.up (by omega)), ho1920, fo1630, hO1913, h1627, h1628, ap1925, hr⟩
      · replace hr := ite_neg hr hc1634
        with_reducible refine W.exit ?_
        with_reducible refine Ex.thn_ex ?_
        with_reducible refine Ex.thn_ex ?_
        with_reducible refine Ex.blk_here ?_
        with_reducible refine Ex.thn_norm ?_
        with_reducible refine W.seq ?_
        with_reducible refine W.region ?_
        refine WL.move .nil rfl rfl rfl rfl ?_
        refine WL.fieldAddr .nil rfl rfl rfl Try.underlying26 rfl info24 rfl rfl ?_
        refine WL.load1 .nil rfl rfl rfl Try.underlying24 rfl rfl ho1629 rfl ?_
        refine WL.len .nil rfl rfl rfl Try.underlying24 rfl ?_
        obtain ⟨x1930, hx1930, hr⟩ := bnd_some hr
        have hb1936 := fun b hb => (OW.id_lt (i := b) h1624 hb).2
        refine GL.callP g.good .nil rfl rfl rfl rfl rfl rfl Try.func33 rfl rfl hS1619.lo (f_spec_l01Put_k  g hS1619 hx1930) (fun v n1931 H1932 hn1933 hk1934 hp1935 => ?_)
        obtain ⟨a1937, cap1938, hS1940, rfl, h1939⟩ := hp1935
        have ho1941 := (hk1934 _ (by have := lt1632; omega)).trans ho1629
        have h1942 := OW.keep (n' := n1931) h1624 (by omega) (fun i hi => hk1934 i (OW.id_lt h1624 hi).2)
        have hS1943 : St n0 n1931 H1932 F1618 := ⟨by have := hS1619.lo; omega, hS1940.hb, hS1940.fh⟩
        have hlon1931 := hS1943.lo
        have h1944 := OW.lower (lo' := n0) h1939 (by omega)
        have ap1946 : idOf (.slice a1937 x1930.length cap1938) ≠ some n0 := fun hj => by have := (OW.id_lt h1939 hj).1; have := lt1632; omega
        have ap1947 : ∀ b, idOf (.slice a1937 x1930.length cap1938) = some b → idOf (.slice a1621 xs1623.length cap1622) ≠ some b := fun b hj hi => by have := (OW.id_lt h1939 hj).1; have := hb1936 b hi; omega
        obtain ⟨hc1948, hr⟩ := chk_some hr
        have hb1958 := fun b hb => (OW.id_lt (i := b) h1942 hb).2
        have hb1959 := fun b hb => (OW.id_lt (i := b) h1944 hb).2
        refine GL.append (α := UInt8) hS1943 .nil rfl rfl rfl Try.underlying22 Try.underlying22 rfl info5 rfl rfl rfl (by decide) rfl rfl h1942 (by omega) (by omega) (OW.src h1944) hc1948 (fun a1949 cap1950 n1951 H1952 hS1953 hn1954 hO1955 hk1956 hid1957 => ?_)
        have ho1960 := (hk1956 _ (by have := lt1632; omega) ap1631).trans ho1941
        have h1961 := OW.keep h1944 hn1954 (fun i hi => hk1956 i (OW.id_lt h1944 hi).2 (fun hj => (fun b h1 h2 => ap1947 b h2 h1) _ hj hi))
        have ap1963 : idOf (.slice a1949 (xs1623 ++ x1930).length cap1950) ≠ some n0 := fun hj => (hid1957 _ hj).elim (fun h => by have := lt1632; omega) ap1631
        have ap1964 : ∀ b, idOf (.slice a1949 (xs1623 ++ x1930).length cap1950) = some b → idOf (.slice a1937 x1930.length cap1938) ≠ some b := fun b hj hi => (hid1957 _ hj).elim (fun h => by have := hb1959 b hi; omega) (fun h => (fun b h1 h2 => ap1947 b h2 h1) _ h hi)
        have hlon1951 := hS1953.lo
        refine WL.assign .nil rfl rfl rfl rfl ?_
        with_reducible refine WL.nil ?_
        with_reducible refine Ex.thn_norm ?_
        with_reducible refine W.seq ?_
        with_reducible refine W.seq ?_
        with_reducible refine W.region ?_
        refine WL.assign .nil rfl rfl rfl rfl ?_
        with_reducible refine WL.nil ?_
        with_reducible refine Ex.thn_norm ?_
        with_reducible refine W.block ?_
        refine W.loopF (fun k1 fr n H => ∃ (a4840 : Option Addr) (cap4841 : Nat) (xs4842 : (List UInt8)) (x4845 : Int) (F : Heap), fr = [(1, .pointer (some ⟨n0, 0, none⟩)), (4, .slice a4840 xs4842.length cap4841), (6, .int .i64 x4845)] ∧ St n0 n H F ∧ Ext n0 F0 n F ∧ H n0 = some (.row 1 [.slice a2 x1.Files.length cap3, .slice a5 x1.Sessions.length cap6]) ∧ F n0 = none ∧ OW n0 n H F (.slice a4840 xs4842.length cap4841) xs4842 ∧ SR F (.slice a2 x1.Files.length cap3) x1.Files ∧ SR F (.slice a5 x1.Sessions.length cap6) x1.Sessions ∧ idOf (.slice a4840 xs4842.length cap4841) ≠ some n0 ∧ f_spec_StateBytes_L1 x1 k1 xs4842 x4845 = some res) BIG (fr0 := [(1, .pointer (some ⟨n0, 0, none⟩)), (4, .slice a1949 (xs1623 ++ x1930).length cap1950), (6, .int .i64 0)]) (Fr.le_cons rfl (Fr.le_cons rfl (Fr.le_cons rfl Fr.le_nil))) ?_ ?_ ?_
        · exact ⟨a1949, cap1950, (xs1623 ++ x1930), 0, F1618, rfl, hS1953, (hE1620.up (by omega)), ho1960, fo1630, hO1955, h1627, h1628, ap1963, hr⟩
        · intro fr n H hI
          obtain ⟨a4840, cap4841, xs4842, x4845, F4837, hfr, hS4838, hE4839, ho4848, fo4849, h4843, h4846, h4847, ap4850, hr⟩ := hI
          rw [f_spec_StateBytes_L1] at hr
          cases hr
        · intro k1 _ n4835 H4836 hI
          obtain ⟨a4840, cap4841, xs4842, x4845, F4837, rfl, hS4838, hE4839, ho4848, fo4849, h4843, h4846, h4847, ap4850, hr⟩ := hI
          have lt4851 := hS4838.lt ho4848
          have hlen4835 := hE4839.le
          have hlon4835 := hS4838.lo
          rw [f_spec_StateBytes_L1] at hr
          with_reducible refine W.seq ?_
          with_reducible refine W.seq ?_
          with_reducible refine W.region ?_
          refine WL.move .nil rfl rfl rfl rfl ?_
          refine WL.fieldAddr .nil rfl rfl rfl Try.underlying26 rfl info24 rfl rfl ?_
          refine WL.load1 .nil rfl rfl rfl Try.underlying24 rfl rfl ho4848 rfl ?_
          refine WL.len .nil rfl rfl rfl Try.underlying24 rfl ?_
          refine WL.bin .nil rfl rfl rfl rfl rfl rfl ?_
          with_reducible refine WL.nil ?_
          with_reducible refine Ex.thn_norm ?_
          refine W.condD rfl (fun hc4853 => ?_) (fun hc4853 => ?_)
          · replace hr := ite_pos hr hc4853
            with_reducible refine W.skip ?_
            with_reducible refine Ex.thn_norm ?_
            with_reducible refine W.seq ?_
            with_reducible refine W.block ?_
            with_reducible refine W.seq ?_
            with_reducible refine W.region ?_
            refine WL.fieldAddr .nil rfl rfl rfl Try.underlying26 rfl info24 rfl rfl ?_
            refine WL.load1 .nil rfl rfl rfl Try.underlying24 rfl rfl ho4848 rfl ?_
            refine WL.move .nil rfl rfl rfl rfl ?_
            obtain ⟨x5132, hx5132, hr⟩ := bnd_some hr
            refine GL.index .nil rfl rfl rfl Try.underlying24 info54 rfl rfl h4847 hS4838.fh rfl hx5132 (fun b5133 kp5134 c5135 ecs5136 hrow5137 hwin5138 hR5139 => ?_)
            obtain ⟨rfl⟩ := GSession.ofR hR5139
            refine WL.loadN .nil (l' := [.int .i64 x5132.Client, .int .i64 x5132.Seq, .int .i64 x5132.Reply.Code, .int .i64 x5132.Reply.Version, str x5132.Reply.Sha]) rfl rfl rfl Try.underlying54 rfl info54 rfl hrow5137 hwin5138 rfl ?_
            refine GL.alloc hS4838 .nil (zc := [.int .i64 0, .int .i64 0, .int .i64 0, .int .i64 0, str ([] : List UInt8)]) rfl rfl rfl info54 rfl rfl rfl (fun H5140 hS5141 ho5142 hk5143 => ?_)
            have fo5144 := hS4838.fnone (Nat.le_refl _)
            have ap5146 : idOf (.slice a4840 xs4842.length cap4841) ≠ some n4835 := fun hj => by have := OW.id_lt h4843 hj; omega
            have ho5147 := (hk5143 _ (by have := lt4851; omega)).trans ho4848
            have h5148 := OW.keep (n' := (n4835 + 1)) h4843 (by omega) (fun i hi => hk5143 i (OW.id_lt h4843 hi).2)
            have hlon48351 := hS5141.lo
            have lt5145 : n4835 < (n4835 + 1) := by omega
            refine GL.store hS5141 .nil (vc := [.int .i64 x5132.Client, .int .i64 x5132.Seq, .int .i64 x5132.Reply.Code, .int .i64 x5132.Reply.Version, str x5132.Reply.Sha]) (c' := [.int .i64 x5132.Client, .int .i64 x5132.Seq, .int .i64 x5132.Reply.Code, .int .i64 x5132.Reply.Version, str x5132.Reply.Sha]) rfl rfl rfl info54 rfl rfl rfl rfl ho5142 fo5144 (Nat.le_of_ble_eq_true rfl) (by omega) (by repeat' (first | exact List.forall_mem_nil _ | refine List.forall_mem_cons.2 ⟨?_, ?_⟩ | rfl)) rfl (fun H5149 hS5150 ho5151 hk5152 => ?_)
            have ho5153 := (hk5152 _ (by omega)).trans ho5147
            have h5154 := OW.keep h5148 (Nat.le_refl _) (fun i hi => hk5152 i (fun hj => ap5146 (hj ▸ hi)))
            with_reducible refine WL.nil ?_
            with_reducible refine Ex.thn_norm ?_
            with_reducible refine W.seq ?_
            with_reducible refine W.region ?_
            refine WL.move .nil rfl rfl rfl rfl ?_
            refine WL.fieldAddr .nil rfl rfl rfl Try.underlying54 rfl info3 rfl rfl ?_
            refine WL.load1 .nil rfl rfl rfl Try.underlying3 rfl rfl ho5151 rfl ?_
            obtain ⟨x5155, hx5155, hr⟩ := bnd_some hr
            have hb5161 := fun b hb => (OW.id_lt (i := b) h5154 hb).2
            refine GL.callP g.good .nil rfl rfl rfl rfl rfl rfl Try.func33 rfl rfl hS5150.lo (f_spec_l01Put_k  g hS5150 hx5155) (fun v n5156 H5157 hn5158 hk5159 hp5160 => ?_)
            obtain ⟨a5162, cap5163, hS5165, rfl, h5164⟩ := hp5160
            have ho5166 := (hk5159 _ (by have := lt4851; omega)).trans ho5153
            have ho5167 := (hk5159 _ (by have := lt5145; omega)).trans ho5151
            have h5168 := OW.keep (n' := n5156) h5154 (by omega) (fun i hi => hk5159 i (OW.id_lt h5154 hi).2)
            have hS5169 : St n0 n5156 H5157 F4837 := ⟨by have := hS5150.lo; omega, hS5165.hb, hS5165.fh⟩
            have hlon5156 := hS5169.lo
            have h5170 := OW.lower (lo' := n0) h5164 (by omega)
            have ap5172 : idOf (.slice a5162 x5155.length cap5163) ≠ some n0 := fun hj => by have := (OW.id_lt h5164 hj).1; have := lt4851; omega
            have ap5173 : idOf (.slice a5162 x5155.length cap5163) ≠ some n4835 := fun hj => by have := (OW.id_lt h5164 hj).1; have := lt5145; omega
            have ap5174 : ∀ b, idOf (.slice a5162 x5155.length cap5163) = some b → idOf (.slice a4840 xs4842.length cap4841) ≠ some b := fun b hj hi => by have := (OW.id_lt h5164 hj).1; have := hb5161 b hi; omega
            obtain ⟨hc5175, hr⟩ := chk_some hr
            have hb5185 := fun b hb => (OW.id_lt (i := b) h5168 hb).2
            have hb5186 := fun b hb => (OW.id_lt (i := b) h5170 hb).2
            refine GL.append (α := UInt8) hS5169 .nil rfl rfl rfl Try.underlying22 Try.underlying22 rfl info5 rfl rfl rfl (by decide) rfl rfl h5168 (by omega) (by omega) (OW.src h5170) hc5175 (fun a5176 cap5177 n5178 H5179 hS5180 hn5181 hO5182 hk5183 hid5184 => ?_)
            have ho5187 := (hk5183 _ (by have := lt4851; omega) ap4850).trans ho5166
            have ho5188 := (hk5183 _ (by have := lt5145; omega) ap5146).trans ho5167
            have h5189 := OW.keep h5170 hn5181 (fun i hi => hk5183 i (OW.id_lt h5170 hi).2 (fun hj => (fun b h1 h2 => ap5174 b h2 h1) _ hj hi))
            have ap5191 : idOf (.slice a5176 (xs4842 ++ x5155).length cap5177) ≠ some n0 := fun hj => (hid5184 _ hj).elim (fun h => by have := lt4851; omega) ap4850
            have ap5192 : idOf (.slice a5176 (xs4842 ++ x5155).length cap5177) ≠ some n4835 := fun hj => (hid5184 _ hj).elim (fun h => by have := lt5145; omega) ap5146
            have ap5193 : ∀ b, idOf (.slice a5176 (xs4842 ++ x5155).length cap5177) = some b → idOf (.slice a5162 x5155.length cap5163) ≠ some b := fun b hj hi => (hid5184 _ hj).elim (fun h => by have := hb5186 b hi; omega) (fun h => (fun b h1 h2 => ap5174 b h2 h1) _ h hi)
            have hlon5178 := hS5180.lo
            refine WL.assign .nil rfl rfl rfl rfl ?_
            with_reducible refine WL.nil ?_
            with_reducible refine Ex.thn_norm ?_
            with_reducible refine W.seq ?_
            with_reducible refine W.region ?_
            refine WL.move .nil rfl rfl rfl rfl ?_
            refine WL.fieldAddr .nil rfl rfl rfl Try.underlying54 rfl info3 rfl rfl ?_
            refine WL.load1 .nil rfl rfl rfl Try.underlying3 rfl rfl ho5188 rfl ?_
            obtain ⟨x5194, hx5194, hr⟩ := bnd_some hr
            have hb5200 := fun b hb => (OW.id_lt (i := b) h5189 hb).2
            have hb5201 := fun b hb => (OW.id_lt (i := b) hO5182 hb).2
            refine GL.callP g.good .nil rfl rfl rfl rfl rfl rfl Try.func33 rfl rfl hS5180.lo (f_spec_l01Put_k  g hS5180 hx5194) (fun v n5195 H5196 hn5197 hk5198 hp5199 => ?_)
            obtain ⟨a5202, cap5203, hS5205, rfl, h5204⟩ := hp5199
            have ho5206 := (hk5198 _ (by have := lt4851; omega)).trans ho5187
            have ho5207 := (hk5198 _ (by have := lt5145; omega)).trans ho5188
            have h5208 := OW.keep (n' := n5195) h5189 (by omega) (fun i hi => hk5198 i (OW.id_lt h5189 hi).2)
            have h5209 := OW.keep (n' := n5195) hO5182 (by omega) (fun i hi => hk5198 i (OW.id_lt hO5182 hi).2)
            have hS5210 : St n0 n5195 H5196 F4837 := ⟨by have := hS5180.lo; omega, hS5205.hb, hS5205.fh⟩
            have hlon5195 := hS5210.lo
            have h5211 := OW.lower (lo' := n0) h5204 (by omega)
            have ap5213 : idOf (.slice a5202 x5194.length cap5203) ≠ some n0 := fun hj => by have := (OW.id_lt h5204 hj).1; have := lt4851; omega
            have ap5214 : idOf (.slice a5202 x5194.length cap5203) ≠ some n4835 := fun hj => by have := (OW.id_lt h5204 hj).1; have := lt5145; omega
            have ap5215 : ∀ b, idOf (.slice a5202 x5194.length cap5203) = some b → idOf (.slice a5162 x5155.length cap5163) ≠ some b := fun b hj hi => by have := (OW.id_lt h5204 hj).1; have := hb5200 b hi; omega
            have ap5216 : ∀ b, idOf (.slice a5202 x5194.length cap5203) = some b → idOf (.slice a5176 (xs4842 ++ x5155).length cap5177) ≠ some b := fun b hj hi => by have := (OW.id_lt h5204 hj).1; have := hb5201 b hi; omega
            obtain ⟨hc5217, hr⟩ := chk_some hr
            have hb5227 := fun b hb => (OW.id_lt (i := b) h5208 hb).2
            have hb5228 := fun b hb => (OW.id_lt (i := b) h5209 hb).2
            have hb5229 := fun b hb => (OW.id_lt (i := b) h5211 hb).2
            refine GL.append (α := UInt8) hS5210 .nil rfl rfl rfl Try.underlying22 Try.underlying22 rfl info5 rfl rfl rfl (by decide) rfl rfl h5209 (by omega) (by omega) (OW.src h5211) hc5217 (fun a5218 cap5219 n5220 H5221 hS5222 hn5223 hO5224 hk5225 hid5226 => ?_)
            have ho5230 := (hk5225 _ (by have := lt4851; omega) ap5191).trans ho5206
            have ho5231 := (hk5225 _ (by have := lt5145; omega) ap5192).trans ho5207
            have h5232 := OW.keep h5208 hn5223 (fun i hi => hk5225 i (OW.id_lt h5208 hi).2 (fun hj => ap5193 _ hj hi))
            have h5233 := OW.keep h5211 hn5223 (fun i hi => hk5225 i (OW.id_lt h5211 hi).2 (fun hj => (fun b h1 h2 => ap5216 b h2 h1) _ hj hi))
            have ap5235 : idOf (.slice a5218 ((xs4842 ++ x5155) ++ x5194).length cap5219) ≠ some n0 := fun hj => (hid5226 _ hj).elim (fun h => by have := lt4851; omega) ap5191
            have ap5236 : idOf (.slice a5218 ((xs4842 ++ x5155) ++ x5194).length cap5219) ≠ some n4835 := fun hj => (hid5226 _ hj).elim (fun h => by have := lt5145; omega) ap5192
            have ap5237 : ∀ b, idOf (.slice a5218 ((xs4842 ++ x5155) ++ x5194).length cap5219) = some b → idOf (.slice a5162 x5155.length cap5163) ≠ some b := fun b hj hi => (hid5226 _ hj).elim (fun h => by have := hb5227 b hi; omega) (fun h => ap5193 _ h hi)
            have ap5238 : ∀ b, idOf (.slice a5218 ((xs4842 ++ x5155) ++ x5194).length cap5219) = some b → idOf (.slice a5202 x5194.length cap5203) ≠ some b := fun b hj hi => (hid5226 _ hj).elim (fun h => by have := hb5229 b hi; omega) (fun h => (fun b h1 h2 => ap5216 b h2 h1) _ h hi)
            have hlon5220 := hS5222.lo
            refine WL.assign .nil rfl rfl rfl rfl ?_
            with_reducible refine WL.nil ?_
            with_reducible refine Ex.thn_norm ?_
            with_reducible refine W.seq ?_
            with_reducible refine W.region ?_
            refine WL.move .nil rfl rfl rfl rfl ?_
            refine WL.fieldAddr .nil rfl rfl rfl Try.underlying54 rfl info52 rfl rfl ?_
            refine WL.fieldAddr .nil rfl rfl rfl Try.underlying52 rfl info3 rfl rfl ?_
            refine WL.load1 .nil rfl rfl rfl Try.underlying3 rfl rfl ho5231 rfl ?_
            obtain ⟨x5239, hx5239, hr⟩ := bnd_some hr
            have hb5245 := fun b hb => (OW.id_lt (i := b) h5232 hb).2
            have hb5246 := fun b hb => (OW.id_lt (i := b) h5233 hb).2
            have hb5247 := fun b hb => (OW.id_lt (i := b) hO5224 hb).2
            refine GL.callP g.good .nil rfl rfl rfl rfl rfl rfl Try.func33 rfl rfl hS5222.lo (f_spec_l01Put_k  g hS5222 hx5239) (fun v n5240 H5241 hn5242 hk5243 hp5244 => ?_)
            obtain ⟨a5248, cap5249, hS5251, rfl, h5250⟩ := hp5244
            have ho5252 := (hk5243 _ (by have := lt4851; omega)).trans ho5230
            have ho5253 := (hk5243 _ (by have := lt5145; omega)).trans ho5231
            have h5254 := OW.keep (n' := n5240) h5232 (by omega) (fun i hi => hk5243 i (OW.id_lt h5232 hi).2)
            have h5255 := OW.keep (n' := n5240) h5233 (by omega) (fun i hi => hk5243 i (OW.id_lt h5233 hi).2)
            have h5256 := OW.keep (n' := n5240) hO5224 (by omega) (fun i hi => hk5243 i (OW.id_lt hO5224 hi).2)
            have hS5257 : St n0 n5240 H5241 F4837 := ⟨by have := hS5222.lo; omega, hS5251.hb, hS5251.fh⟩
            have hlon5240 := hS5257.lo
            have h5258 := OW.lower (lo' := n0) h5250 (by omega)
            have ap5260 : idOf (.slice a5248 x5239.length cap5249) ≠ some n0 := fun hj => by have := (OW.id_lt h5250 hj).1; have := lt4851; omega
            have ap5261 : idOf (.slice a5248 x5239.length cap5249) ≠ some n4835 := fun hj => by have := (OW.id_lt h5250 hj).1; have := lt5145; omega
            have ap5262 : ∀ b, idOf (.slice a5248 x5239.length cap5249) = some b → idOf (.slice a5162 x5155.length cap5163) ≠ some b := fun b hj hi => by have := (OW.id_lt h5250 hj).1; have := hb5245 b hi; omega
            have ap5263 : ∀ b, idOf (.slice a5248 x5239.length cap5249) = some b → idOf (.slice a5202 x5194.length cap5203) ≠ some b := fun b hj hi => by have := (OW.id_lt h5250 hj).1; have := hb5246 b hi; omega
            have ap5264 : ∀ b, idOf (.slice a5248 x5239.length cap5249) = some b → idOf (.slice a5218 ((xs4842 ++ x5155) ++ x5194).length cap5219) ≠ some b := fun b hj hi => by have := (OW.id_lt h5250 hj).1; have := hb5247 b hi; omega
            obtain ⟨hc5265, hr⟩ := chk_some hr
            have hb5275 := fun b hb => (OW.id_lt (i := b) h5254 hb).2
            have hb5276 := fun b hb => (OW.id_lt (i := b) h5255 hb).2
            have hb5277 := fun b hb => (OW.id_lt (i := b) h5256 hb).2
            have hb5278 := fun b hb => (OW.id_lt (i := b) h5258 hb).2
            refine GL.append (α := UInt8) hS5257 .nil rfl rfl rfl Try.underlying22 Try.underlying22 rfl info5 rfl rfl rfl (by decide) rfl rfl h5256 (by omega) (by omega) (OW.src h5258) hc5265 (fun a5266 cap5267 n5268 H5269 hS5270 hn5271 hO5272 hk5273 hid5274 => ?_)
            have ho5279 := (hk5273 _ (by have := lt4851; omega) ap5235).trans ho5252
            have ho5280 := (hk5273 _ (by have := lt5145; omega) ap5236).trans ho5253
            have h5281 := OW.keep h5254 hn5271 (fun i hi => hk5273 i (OW.id_lt h5254 hi).2 (fun hj => ap5237 _ hj hi))
            have h5282 := OW.keep h5255 hn5271 (fun i hi => hk5273 i (OW.id_lt h5255 hi).2 (fun hj => ap5238 _ hj hi))
            have h5283 := OW.keep h5258 hn5271 (fun i hi => hk5273 i (OW.id_lt h5258 hi).2 (fun hj => (fun b h1 h2 => ap5264 b h2 h1) _ hj hi))
            have ap5285 : idOf (.slice a5266 (((xs4842 ++ x5155) ++ x5194) ++ x5239).length cap5267) ≠ some n0 := fun hj => (hid5274 _ hj).elim (fun h => by have := lt4851; omega) ap5235
            have ap5286 : idOf (.slice a5266 (((xs4842 ++ x5155) ++ x5194) ++ x5239).length cap5267) ≠ some n4835 := fun hj => (hid5274 _ hj).elim (fun h => by have := lt5145; omega) ap5236
            have ap5287 : ∀ b, idOf (.slice a5266 (((xs4842 ++ x5155) ++ x5194) ++ x5239).length cap5267) = some b → idOf (.slice a5162 x5155.length cap5163) ≠ some b := fun b hj hi => (hid5274 _ hj).elim (fun h => by have := hb5275 b hi; omega) (fun h => ap5237 _ h hi)
            have ap5288 : ∀ b, idOf (.slice a5266 (((xs4842 ++ x5155) ++ x5194) ++ x5239).length cap5267) = some b → idOf (.slice a5202 x5194.length cap5203) ≠ some b := fun b hj hi => (hid5274 _ hj).elim (fun h => by have := hb5276 b hi; omega) (fun h => ap5238 _ h hi)
            have ap5289 : ∀ b, idOf (.slice a5266 (((xs4842 ++ x5155) ++ x5194) ++ x5239).length cap5267) = some b → idOf (.slice a5248 x5239.length cap5249) ≠ some b := fun b hj hi => (hid5274 _ hj).elim (fun h => by have := hb5278 b hi; omega) (fun h => (fun b h1 h2 => ap5264 b h2 h1) _ h hi)
            have hlon5268 := hS5270.lo
            refine WL.assign .nil rfl rfl rfl rfl ?_
            with_reducible refine WL.nil ?_
            with_reducible refine Ex.thn_norm ?_
            with_reducible refine W.seq ?_
            with_reducible refine W.region ?_
            refine WL.move .nil rfl rfl rfl rfl ?_
            refine WL.fieldAddr .nil rfl rfl rfl Try.underlying54 rfl info52 rfl rfl ?_
            refine WL.fieldAddr .nil rfl rfl rfl Try.underlying52 rfl info3 rfl rfl ?_
            refine WL.load1 .nil rfl rfl rfl Try.underlying3 rfl rfl ho5280 rfl ?_
            obtain ⟨x5290, hx5290, hr⟩ := bnd_some hr
            have hb5296 := fun b hb => (OW.id_lt (i := b) h5281 hb).2
            have hb5297 := fun b hb => (OW.id_lt (i := b) h5282 hb).2
            have hb5298 := fun b hb => (OW.id_lt (i := b) h5283 hb).2
            have hb5299 := fun b hb => (OW.id_lt (i := b) hO5272 hb).2
            refine GL.callP g.good .nil rfl rfl rfl rfl rfl rfl Try.func33 rfl rfl hS5270.lo (f_spec_l01Put_k  g hS5270 hx5290) (fun v n5291 H5292 hn5293 hk5294 hp5295 => ?_)
            obtain ⟨a5300, cap5301, hS5303, rfl, h5302⟩ := hp5295
            have ho5304 := (hk5294 _ (by have := lt4851; omega)).trans ho5279
            have ho5305 := (hk5294 _ (by have := lt5145; omega)).trans ho5280
            have h5306 := OW.keep (n' := n5291) h5281 (by omega) (fun i hi => hk5294 i (OW.id_lt h5281 hi).2)
            have h5307 := OW.keep (n' := n5291) h5282 (by omega) (fun i hi => hk5294 i (OW.id_lt h5282 hi).2)
            have h5308 := OW.keep (n' := n5291) h5283 (by omega) (fun i hi => hk5294 i (OW.id_lt h5283 hi).2)
            have h5309 := OW.keep (n' := n5291) hO5272 (by omega) (fun i hi => hk5294 i (OW.id_lt hO5272 hi).2)
            have hS5310 : St n0 n5291 H5292 F4837 := ⟨by have := hS5270.lo; omega, hS5303.hb, hS5303.fh⟩
            have hlon5291 := hS5310.lo
            have h5311 := OW.lower (lo' := n0) h5302 (by omega)
            have ap5313 : idOf (.slice a5300 x5290.length cap5301) ≠ some n0 := fun hj => by have := (OW.id_lt h5302 hj).1; have := lt4851; omega
            have ap5314 : idOf (.slice a5300 x5290.length cap5301) ≠ some n4835 := fun hj => by have := (OW.id_lt h5302 hj).1; have := lt5145; omega
            have ap5315 : ∀ b, idOf (.slice a5300 x5290.length cap5301) = some b → idOf (.slice a5162 x5155.length cap5163) ≠ some b := fun b hj hi => by have := (OW.id_lt h5302 hj).1; have := hb5296 b hi; omega
            have ap5316 : ∀ b, idOf (.slice a5300 x5290.length cap5301) = some b → idOf (.slice a5202 x5194.length cap5203) ≠ some b := fun b hj hi => by have := (OW.id_lt h5302 hj).1; have := hb5297 b hi; omega
            have ap5317 : ∀ b, idOf (.slice a5300 x5290.length cap5301) = some b → idOf (.slice a5248 x5239.length cap5249) ≠ some b := fun b hj hi => by have := (OW.id_lt h5302 hj).1; have := hb5298 b hi; omega
            have ap5318 : ∀ b, idOf (.slice a5300 x5290.length cap5301) = some b → idOf (.slice a5266 (((xs4842 ++ x5155) ++ x5194) ++ x5239).length cap5267) ≠ some b := fun b hj hi => by have := (OW.id_lt h5302 hj).1; have := hb5299 b hi; omega
            obtain ⟨hc5319, hr⟩ := chk_some hr
            have hb5329 := fun b hb => (OW.id_lt (i := b) h5306 hb).2
            have hb5330 := fun b hb => (OW.id_lt (i := b) h5307 hb).2
            have hb5331 := fun b hb => (OW.id_lt (i := b) h5308 hb).2
            have hb5332 := fun b hb => (OW.id_lt (i := b) h5309 hb).2
            have hb5333 := fun b hb => (OW.id_lt (i := b) h5311 hb).2
            refine GL.append (α := UInt8) hS5310 .nil rfl rfl rfl Try.underlying22 Try.underlying22 rfl info5 rfl rfl rfl (by decide) rfl rfl h5309 (by omega) (by omega) (OW.src h5311) hc5319 (fun a5320 cap5321 n5322 H5323 hS5324 hn5325 hO5326 hk5327 hid5328 => ?_)
            have ho5334 := (hk5327 _ (by have := lt4851; omega) ap5285).trans ho5304
            have ho5335 := (hk5327 _ (by have := lt5145; omega) ap5286).trans ho5305
            have h5336 := OW.keep h5306 hn5325 (fun i hi => hk5327 i (OW.id_lt h5306 hi).2 (fun hj => ap5287 _ hj hi))
            have h5337 := OW.keep h5307 hn5325 (fun i hi => hk5327 i (OW.id_lt h5307 hi).2 (fun hj => ap5288 _ hj hi))
            have h5338 := OW.keep h5308 hn5325 (fun i hi => hk5327 i (OW.id_lt h5308 hi).2 (fun hj => ap5289 _ hj hi))
            have h5339 := OW.keep h5311 hn5325 (fun i hi => hk5327 i (OW.id_lt h5311 hi).2 (fun hj => (fun b h1 h2 => ap5318 b h2 h1) _ hj hi))
            have ap5341 : idOf (.slice a5320 ((((xs4842 ++ x5155) ++ x5194) ++ x5239) ++ x5290).length cap5321) ≠ some n0 := fun hj => (hid5328 _ hj).elim (fun h => by have := lt4851; omega) ap5285
            have ap5342 : idOf (.slice a5320 ((((xs4842 ++ x5155) ++ x5194) ++ x5239) ++ x5290).length cap5321) ≠ some n4835 := fun hj => (hid5328 _ hj).elim (fun h => by have := lt5145; omega) ap5286
            have ap5343 : ∀ b, idOf (.slice a5320 ((((xs4842 ++ x5155) ++ x5194) ++ x5239) ++ x5290).length cap5321) = some b → idOf (.slice a5162 x5155.length cap5163) ≠ some b := fun b hj hi => (hid5328 _ hj).elim (fun h => by have := hb5329 b hi; omega) (fun h => ap5287 _ h hi)
            have ap5344 : ∀ b, idOf (.slice a5320 ((((xs4842 ++ x5155) ++ x5194) ++ x5239) ++ x5290).length cap5321) = some b → idOf (.slice a5202 x5194.length cap5203) ≠ some b := fun b hj hi => (hid5328 _ hj).elim (fun h => by have := hb5330 b hi; omega) (fun h => ap5288 _ h hi)
            have ap5345 : ∀ b, idOf (.slice a5320 ((((xs4842 ++ x5155) ++ x5194) ++ x5239) ++ x5290).length cap5321) = some b → idOf (.slice a5248 x5239.length cap5249) ≠ some b := fun b hj hi => (hid5328 _ hj).elim (fun h => by have := hb5331 b hi; omega) (fun h => ap5289 _ h hi)
            have ap5346 : ∀ b, idOf (.slice a5320 ((((xs4842 ++ x5155) ++ x5194) ++ x5239) ++ x5290).length cap5321) = some b → idOf (.slice a5300 x5290.length cap5301) ≠ some b := fun b hj hi => (hid5328 _ hj).elim (fun h => by have := hb5333 b hi; omega) (fun h => (fun b h1 h2 => ap5318 b h2 h1) _ h hi)
            have hlon5322 := hS5324.lo
            refine WL.assign .nil rfl rfl rfl rfl ?_
            with_reducible refine WL.nil ?_
            with_reducible refine Ex.thn_norm ?_
            with_reducible refine W.region ?_
            refine WL.move .nil rfl rfl rfl rfl ?_
            refine WL.fieldAddr .nil rfl rfl rfl Try.underlying54 rfl info52 rfl rfl ?_
            refine WL.fieldAddr .nil rfl rfl rfl Try.underlying52 rfl info9 rfl rfl ?_
            refine WL.load1 .nil rfl rfl rfl Try.underlying9 rfl rfl ho5335 rfl ?_
            obtain ⟨x5347, hx5347, hr⟩ := bnd_some hr
            have hb5353 := fun b hb => (OW.id_lt (i := b) h5336 hb).2
            have hb5354 := fun b hb => (OW.id_lt (i := b) h5337 hb).2
            have hb5355 := fun b hb => (OW.id_lt (i := b) h5338 hb).2
            have hb5356 := fun b hb => (OW.id_lt (i := b) h5339 hb).2
            have hb5357 := fun b hb => (OW.id_lt (i := b) hO5326 hb).2
            refine GL.callP g.good .nil rfl rfl rfl rfl rfl rfl Try.func34 rfl rfl hS5324.lo (f_spec_l09Text_k  g hS5324 hx5347) (fun v n5348 H5349 hn5350 hk5351 hp5352 => ?_)
            obtain ⟨a5358, cap5359, hS5361, rfl, h5360⟩ := hp5352
            have ho5362 := (hk5351 _ (by have := lt4851; omega)).trans ho5334
            have ho5363 := (hk5351 _ (by have := lt5145; omega)).trans ho5335
            have h5364 := OW.keep (n' := n5348) h5336 (by omega) (fun i hi => hk5351 i (OW.id_lt h5336 hi).2)
            have h5365 := OW.keep (n' := n5348) h5337 (by omega) (fun i hi => hk5351 i (OW.id_lt h5337 hi).2)
            have h5366 := OW.keep (n' := n5348) h5338 (by omega) (fun i hi => hk5351 i (OW.id_lt h5338 hi).2)
            have h5367 := OW.keep (n' := n5348) h5339 (by omega) (fun i hi => hk5351 i (OW.id_lt h5339 hi).2)
            have h5368 := OW.keep (n' := n5348) hO5326 (by omega) (fun i hi => hk5351 i (OW.id_lt hO5326 hi).2)
            have hS5369 : St n0 n5348 H5349 F4837 := ⟨by have := hS5324.lo; omega, hS5361.hb, hS5361.fh⟩
            have hlon5348 := hS5369.lo
            have h5370 := OW.lower (lo' := n0) h5360 (by omega)
            have ap5372 : idOf (.slice a5358 x5347.length cap5359) ≠ some n0 := fun hj => by have := (OW.id_lt h5360 hj).1; have := lt4851; omega
            have ap5373 : idOf (.slice a5358 x5347.length cap5359) ≠ some n4835 := fun hj => by have := (OW.id_lt h5360 hj).1; have := lt5145; omega
            have ap5374 : ∀ b, idOf (.slice a5358 x5347.length cap5359) = some b → idOf (.slice a5162 x5155.length cap5163) ≠ some b := fun b hj hi => by have := (OW.id_lt h5360 hj).1; have := hb5353 b hi; omega
            have ap5375 : ∀ b, idOf (.slice a5358 x5347.length cap5359) = some b → idOf (.slice a5202 x5194.length cap5203) ≠ some b := fun b hj hi => by have := (OW.id_lt h5360 hj).1; have := hb5354 b hi; omega
            have ap5376 : ∀ b, idOf (.slice a5358 x5347.length cap5359) = some b → idOf (.slice a5248 x5239.length cap5249) ≠ some b := fun b hj hi => by have := (OW.id_lt h5360 hj).1; have := hb5355 b hi; omega
            have ap5377 : ∀ b, idOf (.slice a5358 x5347.length cap5359) = some b → idOf (.slice a5300 x5290.length cap5301) ≠ some b := fun b hj hi => by have := (OW.id_lt h5360 hj).1; have := hb5356 b hi; omega
            have ap5378 : ∀ b, idOf (.slice a5358 x5347.length cap5359) = some b → idOf (.slice a5320 ((((xs4842 ++ x5155) ++ x5194) ++ x5239) ++ x5290).length cap5321) ≠ some b := fun b hj hi => by have := (OW.id_lt h5360 hj).1; have := hb5357 b hi; omega
            obtain ⟨hc5379, hr⟩ := chk_some hr
            have hb5389 := fun b hb => (OW.id_lt (i := b) h5364 hb).2
            have hb5390 := fun b hb => (OW.id_lt (i := b) h5365 hb).2
            have hb5391 := fun b hb => (OW.id_lt (i := b) h5366 hb).2
            have hb5392 := fun b hb => (OW.id_lt (i := b) h5367 hb).2
            have hb5393 := fun b hb => (OW.id_lt (i := b) h5368 hb).2
            have hb5394 := fun b hb => (OW.id_lt (i := b) h5370 hb).2
            refine GL.append (α := UInt8) hS5369 .nil rfl rfl rfl Try.underlying22 Try.underlying22 rfl info5 rfl rfl rfl (by decide) rfl rfl h5368 (by omega) (by omega) (OW.src h5370) hc5379 (fun a5380 cap5381 n5382 H5383 hS5384 hn5385 hO5386 hk5387 hid5388 => ?_)
            have ho5395 := (hk5387 _ (by have := lt4851; omega) ap5341).trans ho5362
            have ho5396 := (hk5387 _ (by have := lt5145; omega) ap5342).trans ho5363
            have h5397 := OW.keep h5364 hn5385 (fun i hi => hk5387 i (OW.id_lt h5364 hi).2 (fun hj => ap5343 _ hj hi))
            have h5398 := OW.keep h5365 hn5385 (fun i hi => hk5387 i (OW.id_lt h5365 hi).2 (fun hj => ap5344 _ hj hi))
            have h5399 := OW.keep h5366 hn5385 (fun i hi => hk5387 i (OW.id_lt h5366 hi).2 (fun hj => ap5345 _ hj hi))
            have h5400 := OW.keep h5367 hn5385 (fun i hi => hk5387 i (OW.id_lt h5367 hi).2 (fun hj => ap5346 _ hj hi))
            have h5401 := OW.keep h5370 hn5385 (fun i hi => hk5387 i (OW.id_lt h5370 hi).2 (fun hj => (fun b h1 h2 => ap5378 b h2 h1) _ hj hi))
            have ap5403 : idOf (.slice a5380 (((((xs4842 ++ x5155) ++ x5194) ++ x5239) ++ x5290) ++ x5347).length cap5381) ≠ some n0 := fun hj => (hid5388 _ hj).elim (fun h => by have := lt4851; omega) ap5341
            have ap5404 : idOf (.slice a5380 (((((xs4842 ++ x5155) ++ x5194) ++ x5239) ++ x5290) ++ x5347).length cap5381) ≠ some n4835 := fun hj => (hid5388 _ hj).elim (fun h => by have := lt5145; omega) ap5342
            have ap5405 : ∀ b, idOf (.slice a5380 (((((xs4842 ++ x5155) ++ x5194) ++ x5239) ++ x5290) ++ x5347).length cap5381) = some b → idOf (.slice a5162 x5155.length cap5163) ≠ some b := fun b hj hi => (hid5388 _ hj).elim (fun h => by have := hb5389 b hi; omega) (fun h => ap5343 _ h hi)
            have ap5406 : ∀ b, idOf (.slice a5380 (((((xs4842 ++ x5155) ++ x5194) ++ x5239) ++ x5290) ++ x5347).length cap5381) = some b → idOf (.slice a5202 x5194.length cap5203) ≠ some b := fun b hj hi => (hid5388 _ hj).elim (fun h => by have := hb5390 b hi; omega) (fun h => ap5344 _ h hi)
            have ap5407 : ∀ b, idOf (.slice a5380 (((((xs4842 ++ x5155) ++ x5194) ++ x5239) ++ x5290) ++ x5347).length cap5381) = some b → idOf (.slice a5248 x5239.length cap5249) ≠ some b := fun b hj hi => (hid5388 _ hj).elim (fun h => by have := hb5391 b hi; omega) (fun h => ap5345 _ h hi)
            have ap5408 : ∀ b, idOf (.slice a5380 (((((xs4842 ++ x5155) ++ x5194) ++ x5239) ++ x5290) ++ x5347).length cap5381) = some b → idOf (.slice a5300 x5290.length cap5301) ≠ some b := fun b hj hi => (hid5388 _ hj).elim (fun h => by have := hb5392 b hi; omega) (fun h => ap5346 _ h hi)
            have ap5409 : ∀ b, idOf (.slice a5380 (((((xs4842 ++ x5155) ++ x5194) ++ x5239) ++ x5290) ++ x5347).length cap5381) = some b → idOf (.slice a5358 x5347.length cap5359) ≠ some b := fun b hj hi => (hid5388 _ hj).elim (fun h => by have := hb5394 b hi; omega) (fun h => (fun b h1 h2 => ap5378 b h2 h1) _ h hi)
            have hlon5382 := hS5384.lo
            refine WL.assign .nil rfl rfl rfl rfl ?_
            with_reducible refine WL.nil ?_
            with_reducible refine Ex.blk_norm ?_
            with_reducible refine Ex.thn_norm ?_
            with_reducible refine W.region ?_
            refine WL.move .nil rfl rfl rfl rfl ?_
            obtain ⟨hc5410, hr⟩ := chk_some hr
            refine WL.addI .nil rfl rfl rfl rfl rfl hc5410.1 hc5410.2 ?_
            refine WL.assign .nil rfl rfl rfl rfl ?_
            with_reducible refine WL.nil ?_
            with_reducible refine Ex.thn_norm ?_
            exact ⟨[(1, .pointer (some ⟨n0, 0, none⟩)), (4, .slice a5380 (((((xs4842 ++ x5155) ++ x5194) ++ x5239) ++ x5290) ++ x5347).length cap5381), (6, .int .i64 (x4845 + 1))], (Fr.le_cons rfl (Fr.le_cons rfl (Fr.le_cons rfl Fr.le_nil))), a5380, cap5381, (((((xs4842 ++ x5155) ++ x5194) ++ x5239) ++ x5290) ++ x5347), (x4845 + 1), F4837, rfl, hS5384, (hE4839.up (by omega)), ho5395, fo4849, hO5386, h4846, h4847, ap5403, hr⟩
          · replace hr := ite_neg hr hc4853
            with_reducible refine W.exit ?_
            with_reducible refine Ex.thn_ex ?_
            with_reducible refine Ex.thn_ex ?_
            with_reducible refine Ex.blk_here ?_
            with_reducible refine Ex.thn_norm ?_
            with_reducible refine W.seq ?_
            with_reducible refine W.seq ?_
            with_reducible refine W.region ?_
            refine WL.move .nil rfl rfl rfl rfl ?_
            refine WL.len .nil rfl rfl rfl Try.underlying22 rfl ?_
            refine WL.bin .nil rfl rfl rfl rfl rfl rfl ?_
            with_reducible refine WL.nil ?_
            with_reducible refine Ex.thn_norm ?_
            refine W.condD rfl (fun hc5411 => ?_) (fun hc5411 => ?_)
            · replace hr := ite_pos hr hc5411
              with_reducible refine W.seq ?_
              with_reducible refine W.region ?_
              have hb5416 := fun b hb => (OW.id_lt (i := b) h4843 hb).2
              refine GL.lit (cs := []) (xs := ([] : List UInt8)) hS4838 .nil rfl rfl rfl Try.underlying22 info5 rfl rfl rfl (by decide) (by decide) rfl rfl rfl rfl rfl RA.nil rfl (fun H5412 hS5413 hO5414 hk5415 => ?_)
              have ho5417 := (hk5415 _ (by have := lt4851; omega)).trans ho4848
              have h5418 := OW.keep (n' := (n4835 + 1)) h4843 (by omega) (fun i hi => hk5415 i (OW.id_lt h4843 hi).2)
              have h5419 := OW.lower (lo' := n0) hO5414 (by omega)
              have hlon48351 := hS5413.lo
              have ap5421 : idOf (.slice (some ⟨n4835, 0, none⟩) ([] : List UInt8).length 0) ≠ some n0 := fun hj => by have := (OW.id_lt hO5414 hj).1; have := lt4851; omega
              have ap5422 : ∀ b, idOf (.slice (some ⟨n4835, 0, none⟩) ([] : List UInt8).length 0) = some b → idOf (.slice a4840 xs4842.length cap4841) ≠ some b := fun b hj hi => by have := (OW.id_lt hO5414 hj).1; have := hb5416 b hi; omega
              refine WL.assign .nil rfl rfl rfl rfl ?_
              refine WL.assign .nil rfl rfl rfl rfl ?_
              with_reducible refine WL.nil ?_
              with_reducible refine Ex.thn_norm ?_
              with_reducible refine W.ret ?_
              with_reducible refine Ex.thn_ret ?_
              obtain rfl := Option.some.inj hr
              exact ⟨.inr rfl, _, (.cons (.tmp rfl) (.cons (.tmp rfl) .nil)), ⟨(some ⟨n4835, 0, none⟩), 0, (Ext.st hE4839 hS5413), rfl, (OW.downFl hE4839.sub h5419)⟩⟩
            · replace hr := ite_neg hr hc5411
              with_reducible refine W.skip ?_
              with_reducible refine Ex.thn_norm ?_
              with_reducible refine W.seq ?_
              with_reducible refine W.region ?_
              refine WL.move .nil rfl rfl rfl rfl ?_
              refine WL.assign .nil rfl rfl rfl rfl ?_
              refine WL.assign .nil rfl rfl rfl rfl ?_
              with_reducible refine WL.nil ?_
              with_reducible refine Ex.thn_norm ?_
              with_reducible refine W.ret ?_
              obtain rfl := Option.some.inj hr
              exact ⟨.inr rfl, _, (.cons (.tmp rfl) (.cons (.tmp rfl) .nil)), ⟨a4840, cap4841, (Ext.st hE4839 hS4838), rfl, (OW.downFl hE4839.sub h4843)⟩⟩
theorem f_impl_within_k {Δ : Prims} (g : Env Try.prog Δ) {lo n0 : Nat} {H0 F0 : Heap} (hS : St lo n0 H0 F0) {x1 : Int} {x2 : Int} {x3 : Int} {res : (Bool)} (hr : f_impl_within x1 x2 x3 = some res) :
    C Try.prog Δ n0 63 [.int .i64 x1, .int .i64 x2, .int .i64 x3] n0 H0 (fun v n H => St n0 n H F0 ∧ v = .bool res) := by
  refine C.body Try.func63 rfl rfl ?_
  unfold f_impl_within at hr
  have hS0 : St n0 n0 H0 F0 := hS.low (Nat.le_refl _)
  have hE0 := Ext.refl n0 F0
  have hlo0 := hS0.lo
  with_reducible refine W.seq ?_
  with_reducible refine W.region ?_
  refine WL.assign .nil rfl rfl rfl rfl ?_
  with_reducible refine WL.nil ?_
  with_reducible refine Ex.thn_norm ?_
  with_reducible refine W.seq ?_
  with_reducible refine W.region ?_
  refine WL.move .nil rfl rfl rfl rfl ?_
  refine WL.move .nil rfl rfl rfl rfl ?_
  refine WL.bin .nil rfl rfl rfl rfl rfl rfl ?_
  refine WL.move .nil rfl rfl rfl rfl ?_
  refine WL.guardD rfl rfl rfl (fun hg4 => ?_) (fun hg4 => ?_)
  · replace hr := ite_pos hr hg4
    refine WL.move .nil rfl rfl rfl rfl ?_
    refine WL.move .nil rfl rfl rfl rfl ?_
    refine WL.bin .nil rfl rfl rfl rfl rfl rfl ?_
    refine WL.pick .nil rfl rfl rfl rfl rfl ?_
    refine WL.assign .nil rfl rfl rfl rfl ?_
    with_reducible refine WL.nil ?_
    with_reducible refine Ex.thn_norm ?_
    with_reducible refine W.ret ?_
    obtain rfl := Option.some.inj hr
    exact ⟨.inr rfl, _, (.cons (.tmp rfl) .nil), ⟨(Ext.st hE0 hS0), rfl⟩⟩
  · replace hr := ite_neg hr hg4
    refine WL.skip .nil rfl rfl ?_
    refine WL.skip .nil rfl rfl ?_
    refine WL.skip .nil rfl rfl ?_
    refine WL.pick .nil rfl rfl rfl rfl rfl ?_
    refine WL.assign .nil rfl rfl rfl rfl ?_
    with_reducible refine WL.nil ?_
    with_reducible refine Ex.thn_norm ?_
    with_reducible refine W.ret ?_
    obtain rfl := Option.some.inj hr
    exact ⟨.inr rfl, _, (.cons (.tmp rfl) .nil), ⟨(Ext.st hE0 hS0), rfl⟩⟩
theorem f_impl_NameOK_k {Δ : Prims} (g : Env Try.prog Δ) {lo n0 : Nat} {H0 F0 : Heap} (hS : St lo n0 H0 F0) {x1 : Str} {res : (Bool)} (hr : f_impl_NameOK x1 = some res) :
    C Try.prog Δ n0 46 [str x1] n0 H0 (fun v n H => St n0 n H F0 ∧ v = .bool res) := by
  refine C.body Try.func46 rfl rfl ?_
  unfold f_impl_NameOK at hr
  have hS0 : St n0 n0 H0 F0 := hS.low (Nat.le_refl _)
  have hE0 := Ext.refl n0 F0
  have hlo0 := hS0.lo
  with_reducible refine W.seq ?_
  with_reducible refine W.region ?_
  refine WL.assign .nil rfl rfl rfl rfl ?_
  with_reducible refine WL.nil ?_
  with_reducible refine Ex.thn_norm ?_
  with_reducible refine W.seq ?_
  with_reducible refine W.seq ?_
  with_reducible refine W.region ?_
  refine WL.assign .nil rfl rfl rfl rfl ?_
  with_reducible refine WL.nil ?_
  with_reducible refine Ex.thn_norm ?_
  with_reducible refine W.block ?_
  refine W.loopF (fun k0 fr n H => ∃ (x410 : Int) (F : Heap), fr = [(0, str x1), (3, .int .i64 x410)] ∧ St n0 n H F ∧ Ext n0 F0 n F ∧ f_impl_NameOK_L0 x1 k0 x410 = some res) BIG (fr0 := [(0, str x1), (3, .int .i64 0)]) (Fr.le_cons rfl (Fr.le_cons rfl Fr.le_nil)) ?_ ?_ ?_
  · exact ⟨0, F0, rfl, hS0, hE0, hr⟩
  · intro fr n H hI
    obtain ⟨x410, F407, hfr, hS408, hE409, hr⟩ := hI
    rw [f_impl_NameOK_L0] at hr
    cases hr
  · intro k0 _ n405 H406 hI
    obtain ⟨x410, F407, rfl, hS408, hE409, hr⟩ := hI
    have hlen405 := hE409.le
    have hlon405 := hS408.lo
    rw [f_impl_NameOK_L0] at hr
    with_reducible refine W.seq ?_
    with_reducible refine W.seq ?_
    refine W.cut (fun fr n H => ∃ (x417 : Bool) (F : Heap), fr = [(0, str x1), (3, .int .i64 x410), (13, .bool x417)] ∧ St n0 n H F ∧ Ext n0 F0 n F ∧ f_impl_NameOK_J1 x1 x410 (f_impl_NameOK_L0 x1 k0) x417 = some res) ?_ ?_
    · with_reducible refine W.region ?_
      refine WL.move .nil rfl rfl rfl rfl ?_
      refine WL.move .nil rfl rfl rfl rfl ?_
      refine GL.lenStr .nil rfl rfl rfl Try.underlying9 rfl ?_
      refine WL.bin .nil rfl rfl rfl rfl rfl rfl ?_
      refine WL.move .nil rfl rfl rfl rfl ?_
      refine WL.guardD rfl rfl rfl (fun hg493 => ?_) (fun hg493 => ?_)
      · replace hr := ite_pos hr hg493
        refine WL.move .nil rfl rfl rfl rfl ?_
        refine WL.bin .nil rfl rfl rfl rfl rfl rfl ?_
        refine WL.pick .nil rfl rfl rfl rfl rfl ?_
        with_reducible refine WL.nil ?_
        with_reducible refine Ex.thn_norm ?_
        exact ⟨[(0, str x1), (3, .int .i64 x410), (13, .bool (decide (x410 < 100)))], (Fr.le_cons rfl (Fr.le_cons rfl (Fr.le_cons rfl Fr.le_nil))), (decide (x410 < 100)), F407, rfl, hS408, hE409, hr⟩
      · replace hr := ite_neg hr hg493
        refine WL.skip .nil rfl rfl ?_
        refine WL.skip .nil rfl rfl ?_
        refine WL.pick .nil rfl rfl rfl rfl rfl ?_
        with_reducible refine WL.nil ?_
        with_reducible refine Ex.thn_norm ?_
        exact ⟨[(0, str x1), (3, .int .i64 x410), (13, .bool false)], (Fr.le_cons rfl (Fr.le_cons rfl (Fr.le_cons rfl Fr.le_nil))), false, F407, rfl, hS408, hE409, hr⟩
    · intro _ n412 H413 hI
      obtain ⟨x417, F414, rfl, hS415, hE416, hr⟩ := hI
      have hlen412 := hE416.le
      have hlon412 := hS415.lo
      unfold f_impl_NameOK_J1 at hr
      refine W.cond rfl (fun hc419 => ?_) (fun hc419 => ?_)
      · replace hr := iteB_pos hr hc419
        with_reducible refine W.skip ?_
        with_reducible refine Ex.thn_norm ?_
        with_reducible refine W.seq ?_
        with_reducible refine W.block ?_
        with_reducible refine W.seq ?_
        with_reducible refine W.region ?_
        refine WL.move .nil rfl rfl rfl rfl ?_
        refine WL.move .nil rfl rfl rfl rfl ?_
        obtain ⟨x452, hx452, hr⟩ := bnd_some hr
        refine GL.strIdx .nil rfl rfl rfl Try.underlying9 rfl rfl hx452 ?_
        refine WL.assign .nil rfl rfl rfl rfl ?_
        with_reducible refine WL.nil ?_
        with_reducible refine Ex.thn_norm ?_
        with_reducible refine W.seq ?_
        refine W.cut (fun fr n H => ∃ (x464 : Bool) (F : Heap), fr = [(0, str x1), (3, .int .i64 x410), (4, u8 x452), (5, .bool x464)] ∧ St n0 n H F ∧ Ext n0 F0 n F ∧ f_impl_NameOK_J2 x410 (f_impl_NameOK_L0 x1 k0) x452 x464 = some res) ?_ ?_
        · with_reducible refine W.region ?_
          refine WL.move .nil rfl rfl rfl rfl ?_
          refine WL.bin .nil rfl rfl rfl rfl rfl rfl ?_
          refine WL.move .nil rfl rfl rfl rfl ?_
          refine WL.guardD rfl rfl rfl (fun hg479 => ?_) (fun hg479 => ?_)
          · replace hr := ite_pos hr hg479
            refine WL.move .nil rfl rfl rfl rfl ?_
            refine WL.bin .nil rfl rfl rfl rfl rfl rfl ?_
            refine WL.pick .nil rfl rfl rfl rfl rfl ?_
            refine WL.move .nil rfl rfl rfl rfl ?_
            refine WL.guardD rfl rfl rfl (fun hg480 => ?_) (fun hg480 => ?_)
            · replace hr := ite_pos hr hg480
              refine WL.skip .nil rfl rfl ?_
              refine WL.skip .nil rfl rfl ?_
              refine WL.skip .nil rfl rfl ?_
              refine WL.skip .nil rfl rfl ?_
              refine WL.skip .nil rfl rfl ?_
              refine WL.skip .nil rfl rfl ?_
              refine WL.pick .nil rfl rfl rfl rfl rfl ?_
              refine WL.move .nil rfl rfl rfl rfl ?_
              refine WL.skip .nil rfl rfl ?_
              refine WL.skip .nil rfl rfl ?_
              refine WL.pick .nil rfl rfl rfl rfl rfl ?_
              refine WL.assign .nil rfl rfl rfl rfl ?_
              with_reducible refine WL.nil ?_
              with_reducible refine Ex.thn_norm ?_
              exact ⟨[(0, str x1), (3, .int .i64 x410), (4, u8 x452), (5, .bool true)], (Fr.le_cons rfl (Fr.le_cons rfl (Fr.le_cons rfl (Fr.le_cons rfl Fr.le_nil)))), true, F414, rfl, hS415, hE416, hr⟩
            · replace hr := ite_neg hr hg480
              refine WL.move .nil rfl rfl rfl rfl ?_
              refine WL.bin .nil rfl rfl rfl rfl rfl rfl ?_
              refine WL.move .nil rfl rfl rfl rfl ?_
              refine WL.guardD rfl rfl rfl (fun hg481 => ?_) (fun hg481 => ?_)
              · replace hr := ite_pos hr hg481
                refine WL.move .nil rfl rfl rfl rfl ?_
                refine WL.bin .nil rfl rfl rfl rfl rfl rfl ?_
                refine WL.pick .nil rfl rfl rfl rfl rfl ?_
                refine WL.pick .nil rfl rfl rfl rfl rfl ?_
                refine WL.move .nil rfl rfl rfl rfl ?_
                refine WL.guardD rfl rfl rfl (fun hg482 => ?_) (fun hg482 => ?_)
                · replace hr := ite_pos hr hg482
                  refine WL.skip .nil rfl rfl ?_
                  refine WL.skip .nil rfl rfl ?_
                  refine WL.pick .nil rfl rfl rfl rfl rfl ?_
                  refine WL.assign .nil rfl rfl rfl rfl ?_
                  with_reducible refine WL.nil ?_
                  with_reducible refine Ex.thn_norm ?_
                  exact ⟨[(0, str x1), (3, .int .i64 x410), (4, u8 x452), (5, .bool true)], (Fr.le_cons rfl (Fr.le_cons rfl (Fr.le_cons rfl (Fr.le_cons rfl Fr.le_nil)))), true, F414, rfl, hS415, hE416, hr⟩
                · replace hr := ite_neg hr hg482
                  refine WL.move .nil rfl rfl rfl rfl ?_
                  refine WL.bin .nil rfl rfl rfl rfl rfl rfl ?_
                  refine WL.pick .nil rfl rfl rfl rfl rfl ?_
                  refine WL.assign .nil rfl rfl rfl rfl ?_
                  with_reducible refine WL.nil ?_
                  with_reducible refine Ex.thn_norm ?_
                  exact ⟨[(0, str x1), (3, .int .i64 x410), (4, u8 x452), (5, .bool (decide ((x452.toNat : Int) = (95 : Int))))], (Fr.le_cons rfl (Fr.le_cons rfl (Fr.le_cons rfl (Fr.le_cons rfl Fr.le_nil)))), (decide ((x452.toNat : Int) = (95 : Int))), F414, rfl, hS415, hE416, hr⟩
              · replace hr := ite_neg hr hg481
                refine WL.skip .nil rfl rfl ?_
                refine WL.skip .nil rfl rfl ?_
                refine WL.pick .nil rfl rfl rfl rfl rfl ?_
                refine WL.pick .nil rfl rfl rfl rfl rfl ?_
                refine WL.move .nil rfl rfl rfl rfl ?_
                refine WL.move .nil rfl rfl rfl rfl ?_
                refine WL.bin .nil rfl rfl rfl rfl rfl rfl ?_
                refine WL.pick .nil rfl rfl rfl rfl rfl ?_
                refine WL.assign .nil rfl rfl rfl rfl ?_
                with_reducible refine WL.nil ?_
                with_reducible refine Ex.thn_norm ?_
                exact ⟨[(0, str x1), (3, .int .i64 x410), (4, u8 x452), (5, .bool (decide ((x452.toNat : Int) = (95 : Int))))], (Fr.le_cons rfl (Fr.le_cons rfl (Fr.le_cons rfl (Fr.le_cons rfl Fr.le_nil)))), (decide ((x452.toNat : Int) = (95 : Int))), F414, rfl, hS415, hE416, hr⟩
          · replace hr := ite_neg hr hg479
            refine WL.skip .nil rfl rfl ?_
            refine WL.skip .nil rfl rfl ?_
            refine WL.pick .nil rfl rfl rfl rfl rfl ?_
            refine WL.move .nil rfl rfl rfl rfl ?_
            refine WL.move .nil rfl rfl rfl rfl ?_
            refine WL.bin .nil rfl rfl rfl rfl rfl rfl ?_
            refine WL.move .nil rfl rfl rfl rfl ?_
            refine WL.guardD rfl rfl rfl (fun hg483 => ?_) (fun hg483 => ?_)
            · replace hr := ite_pos hr hg483
              refine WL.move .nil rfl rfl rfl rfl ?_
              refine WL.bin .nil rfl rfl rfl rfl rfl rfl ?_
              refine WL.pick .nil rfl rfl rfl rfl rfl ?_
              refine WL.pick .nil rfl rfl rfl rfl rfl ?_
              refine WL.move .nil rfl rfl rfl rfl ?_
              refine WL.guardD rfl rfl rfl (fun hg484 => ?_) (fun hg484 => ?_)
              · replace hr := ite_pos hr hg484
                refine WL.skip .nil rfl rfl ?_
                refine WL.skip .nil rfl rfl ?_
                refine WL.pick .nil rfl rfl rfl rfl rfl ?_
                refine WL.assign .nil rfl rfl rfl rfl ?_
                with_reducible refine WL.nil ?_
                with_reducible refine Ex.thn_norm ?_
                exact ⟨[(0, str x1), (3, .int .i64 x410), (4, u8 x452), (5, .bool true)], (Fr.le_cons rfl (Fr.le_cons rfl (Fr.le_cons rfl (Fr.le_cons rfl Fr.le_nil)))), true, F414, rfl, hS415, hE416, hr⟩
              · replace hr := ite_neg hr hg484
                refine WL.move .nil rfl rfl rfl rfl ?_
                refine WL.bin .nil rfl rfl rfl rfl rfl rfl ?_
                refine WL.pick .nil rfl rfl rfl rfl rfl ?_
                refine WL.assign .nil rfl rfl rfl rfl ?_
                with_reducible refine WL.nil ?_
                with_reducible refine Ex.thn_norm ?_
                exact ⟨[(0, str x1), (3, .int .i64 x410), (4, u8 x452), (5, .bool (decide ((x452.toNat : Int) = (95 : Int))))], (Fr.le_cons rfl (Fr.le_cons rfl (Fr.le_cons rfl (Fr.le_cons rfl Fr.le_nil)))), (decide ((x452.toNat : Int) = (95 : Int))), F414, rfl, hS415, hE416, hr⟩
            · replace hr := ite_neg hr hg483
              refine WL.skip .nil rfl rfl ?_
              refine WL.skip .nil rfl rfl ?_
              refine WL.pick .nil rfl rfl rfl rfl rfl ?_
              refine WL.pick .nil rfl rfl rfl rfl rfl ?_
              refine WL.move .nil rfl rfl rfl rfl ?_
              refine WL.move .nil rfl rfl rfl rfl ?_
              refine WL.bin .nil rfl rfl rfl rfl rfl rfl ?_
              refine WL.pick .nil rfl rfl rfl rfl rfl ?_
              refine WL.assign .nil rfl rfl rfl rfl ?_
              with_reducible refine WL.nil ?_
              with_reducible refine Ex.thn_norm ?_
              exact ⟨[(0, str x1), (3, .int .i64 x410), (4, u8 x452), (5, .bool (decide ((x452.toNat : Int) = (95 : Int))))], (Fr.le_cons rfl (Fr.le_cons rfl (Fr.le_cons rfl (Fr.le_cons rfl Fr.le_nil)))), (decide ((x452.toNat : Int) = (95 : Int))), F414, rfl, hS415, hE416, hr⟩
        · intro _ n459 H460 hI
          obtain ⟨x464, F461, rfl, hS462, hE463, hr⟩ := hI
          have hlen459 := hE463.le
          have hlon459 := hS462.lo
          unfold f_impl_NameOK_J2 at hr
          with_reducible refine W.seq ?_
          refine W.cut (fun fr n H => ∃ (x473 : Bool) (F : Heap), fr = [(0, str x1), (3, .int .i64 x410), (50, .bool x473)] ∧ St n0 n H F ∧ Ext n0 F0 n F ∧ f_impl_NameOK_J3 x410 (f_impl_NameOK_L0 x1 k0) x473 = some res) ?_ ?_
          · with_reducible refine W.region ?_
            refine WL.move .nil rfl rfl rfl rfl ?_
            refine WL.not .nil rfl rfl rfl rfl ?_
            refine WL.move .nil rfl rfl rfl rfl ?_
            refine WL.guard rfl rfl rfl (fun hg476 => ?_) (fun hg476 => ?_)
            · replace hr := iteB_pos hr hg476
              refine WL.move .nil rfl rfl rfl rfl ?_
              refine WL.bin .nil rfl rfl rfl rfl rfl rfl ?_
              refine WL.move .nil rfl rfl rfl rfl ?_
              refine WL.guardD rfl rfl rfl (fun hg477 => ?_) (fun hg477 => ?_)
              · replace hr := ite_pos hr hg477
                refine WL.skip .nil rfl rfl ?_
                refine WL.skip .nil rfl rfl ?_
                refine WL.pick .nil rfl rfl rfl rfl rfl ?_
                refine WL.move .nil rfl rfl rfl rfl ?_
                refine WL.skip .nil rfl rfl ?_
                refine WL.skip .nil rfl rfl ?_
                refine WL.pick .nil rfl rfl rfl rfl rfl ?_
                refine WL.pick .nil rfl rfl rfl rfl rfl ?_
                with_reducible refine WL.nil ?_
                with_reducible refine Ex.thn_norm ?_
                exact ⟨[(0, str x1), (3, .int .i64 x410), (50, .bool true)], (Fr.le_cons rfl (Fr.le_cons rfl (Fr.le_cons rfl Fr.le_nil))), true, F461, rfl, hS462, hE463, hr⟩
              · replace hr := ite_neg hr hg477
                refine WL.move .nil rfl rfl rfl rfl ?_
                refine WL.bin .nil rfl rfl rfl rfl rfl rfl ?_
                refine WL.pick .nil rfl rfl rfl rfl rfl ?_
                refine WL.move .nil rfl rfl rfl rfl ?_
                refine WL.guardD rfl rfl rfl (fun hg478 => ?_) (fun hg478 => ?_)
                · replace hr := ite_pos hr hg478
                  refine WL.skip .nil rfl rfl ?_
                  refine WL.skip .nil rfl rfl ?_
                  refine WL.pick .nil rfl rfl rfl rfl rfl ?_
                  refine WL.pick .nil rfl rfl rfl rfl rfl ?_
                  with_reducible refine WL.nil ?_
                  with_reducible refine Ex.thn_norm ?_
                  exact ⟨[(0, str x1), (3, .int .i64 x410), (50, .bool true)], (Fr.le_cons rfl (Fr.le_cons rfl (Fr.le_cons rfl Fr.le_nil))), true, F461, rfl, hS462, hE463, hr⟩
                · replace hr := ite_neg hr hg478
                  refine WL.move .nil rfl rfl rfl rfl ?_
                  refine WL.bin .nil rfl rfl rfl rfl rfl rfl ?_
                  refine WL.pick .nil rfl rfl rfl rfl rfl ?_
                  refine WL.pick .nil rfl rfl rfl rfl rfl ?_
                  with_reducible refine WL.nil ?_
                  with_reducible refine Ex.thn_norm ?_
                  exact ⟨[(0, str x1), (3, .int .i64 x410), (50, .bool (decide ((57 : Int) < (x452.toNat : Int))))], (Fr.le_cons rfl (Fr.le_cons rfl (Fr.le_cons rfl Fr.le_nil))), (decide ((57 : Int) < (x452.toNat : Int))), F461, rfl, hS462, hE463, hr⟩
            · replace hr := iteB_neg hr hg476
              refine WL.skip .nil rfl rfl ?_
              refine WL.skip .nil rfl rfl ?_
              refine WL.skip .nil rfl rfl ?_
              refine WL.skip .nil rfl rfl ?_
              refine WL.skip .nil rfl rfl ?_
              refine WL.skip .nil rfl rfl ?_
              refine WL.skip .nil rfl rfl ?_
              refine WL.skip .nil rfl rfl ?_
              refine WL.skip .nil rfl rfl ?_
              refine WL.skip .nil rfl rfl ?_
              refine WL.pick .nil rfl rfl rfl rfl rfl ?_
              with_reducible refine WL.nil ?_
              with_reducible refine Ex.thn_norm ?_
              exact ⟨[(0, str x1), (3, .int .i64 x410), (50, .bool false)], (Fr.le_cons rfl (Fr.le_cons rfl (Fr.le_cons rfl Fr.le_nil))), false, F461, rfl, hS462, hE463, hr⟩
          · intro _ n468 H469 hI
            obtain ⟨x473, F470, rfl, hS471, hE472, hr⟩ := hI
            have hlen468 := hE472.le
            have hlon468 := hS471.lo
            unfold f_impl_NameOK_J3 at hr
            refine W.cond rfl (fun hc474 => ?_) (fun hc474 => ?_)
            · replace hr := iteB_pos hr hc474
              with_reducible refine W.seq ?_
              with_reducible refine W.region ?_
              refine WL.assign .nil rfl rfl rfl rfl ?_
              with_reducible refine WL.nil ?_
              with_reducible refine Ex.thn_norm ?_
              with_reducible refine W.ret ?_
              with_reducible refine Ex.blk_ret ?_
              with_reducible refine Ex.thn_ret ?_
              with_reducible refine Ex.thn_ret ?_
              with_reducible refine Ex.blk_ret ?_
              with_reducible refine Ex.thn_ret ?_
              obtain rfl := Option.some.inj hr
              exact ⟨.inr rfl, _, (.cons (.tmp rfl) .nil), ⟨(Ext.st hE472 hS471), rfl⟩⟩
            · replace hr := iteB_neg hr hc474
              with_reducible refine W.skip ?_
              with_reducible refine Ex.blk_norm ?_
              with_reducible refine Ex.thn_norm ?_
              with_reducible refine W.region ?_
              refine WL.move .nil rfl rfl rfl rfl ?_
              obtain ⟨hc475, hr⟩ := chk_some hr
              refine WL.addI .nil rfl rfl rfl rfl rfl hc475.1 hc475.2 ?_
              refine WL.assign .nil rfl rfl rfl rfl ?_
              with_reducible refine WL.nil ?_
              with_reducible refine Ex.thn_norm ?_
              exact ⟨[(0, str x1), (3, .int .i64 (x410 + 1))], (Fr.le_cons rfl (Fr.le_cons rfl Fr.le_nil)), (x410 + 1), F470, rfl, hS471, hE472, hr⟩
      · replace hr := iteB_neg hr hc419
        with_reducible refine W.exit ?_
        with_reducible refine Ex.thn_ex ?_
        with_reducible refine Ex.thn_ex ?_
        with_reducible refine Ex.blk_here ?_
        with_reducible refine Ex.thn_norm ?_
        with_reducible refine W.seq ?_
        with_reducible refine W.region ?_
        refine WL.move .nil rfl rfl rfl rfl ?_
        refine GL.lenStr .nil rfl rfl rfl Try.underlying9 rfl ?_
        obtain ⟨x485, hx485, hr⟩ := bnd_some hr
        refine GL.callP g.good .nil rfl rfl rfl rfl rfl rfl Try.func63 rfl rfl hS415.lo (f_impl_within_k  g hS415 hx485) (fun v n486 H487 hn488 hk489 hp490 => ?_)
        obtain ⟨hS491, rfl⟩ := hp490
        have hS492 : St n0 n486 H487 F414 := ⟨by have := hS415.lo; omega, hS491.hb, hS491.fh⟩
        have hlon486 := hS492.lo
        refine WL.assign .nil rfl rfl rfl rfl ?_
        with_reducible refine WL.nil ?_
        with_reducible refine Ex.thn_norm ?_
        with_reducible refine W.ret ?_
        obtain rfl := Option.some.inj hr
        exact ⟨.inr rfl, _, (.cons (.tmp rfl) .nil), ⟨(Ext.st hE416 hS492), rfl⟩⟩
theorem f_impl_isCount_k {Δ : Prims} (g : Env Try.prog Δ) {lo n0 : Nat} {H0 F0 : Heap} (hS : St lo n0 H0 F0) {x1 : Int} {res : (Bool)} (hr : f_impl_isCount x1 = some res) :
    C Try.prog Δ n0 47 [.int .i64 x1] n0 H0 (fun v n H => St n0 n H F0 ∧ v = .bool res) := by
  refine C.body Try.func47 rfl rfl ?_
  unfold f_impl_isCount at hr
  have hS0 : St n0 n0 H0 F0 := hS.low (Nat.le_refl _)
  have hE0 := Ext.refl n0 F0
  have hlo0 := hS0.lo
  with_reducible refine W.seq ?_
  with_reducible refine W.region ?_
  refine WL.assign .nil rfl rfl rfl rfl ?_
  with_reducible refine WL.nil ?_
  with_reducible refine Ex.thn_norm ?_
  with_reducible refine W.seq ?_
  with_reducible refine W.region ?_
  refine WL.move .nil rfl rfl rfl rfl ?_
  obtain ⟨x2, hx2, hr⟩ := bnd_some hr
  refine GL.callP g.good .nil rfl rfl rfl rfl rfl rfl Try.func63 rfl rfl hS0.lo (f_impl_within_k  g hS0 hx2) (fun v n3 H4 hn5 hk6 hp7 => ?_)
  obtain ⟨hS8, rfl⟩ := hp7
  have hS9 : St n0 n3 H4 F0 := ⟨by have := hS0.lo; omega, hS8.hb, hS8.fh⟩
  have hlon3 := hS9.lo
  refine WL.assign .nil rfl rfl rfl rfl ?_
  with_reducible refine WL.nil ?_
  with_reducible refine Ex.thn_norm ?_
  with_reducible refine W.ret ?_
  obtain rfl := Option.some.inj hr
  exact ⟨.inr rfl, _, (.cons (.tmp rfl) .nil), ⟨(Ext.st hE0 hS9), rfl⟩⟩
theorem f__impl_State_file_k {Δ : Prims} (g : Env Try.prog Δ) {lo n0 : Nat} {H0 F0 : Heap} (hS : St lo n0 H0 F0) {x1 : GState} {a2 : Option Addr} {cap3 : Nat} {a5 : Option Addr} {cap6 : Nat} {x8 : Str} (h4 : SR F0 (.slice a2 x1.Files.length cap3) x1.Files) (h7 : SR F0 (.slice a5 x1.Sessions.length cap6) x1.Sessions) {res : (Int)} (hr : f__impl_State_file x1 x8 = some res) :
    C Try.prog Δ n0 48 [.agg [.slice a2 x1.Files.length cap3, .slice a5 x1.Sessions.length cap6].toArray, str x8] n0 H0 (fun v n H => St n0 n H F0 ∧ v = .int .i64 res) := by
  refine C.body Try.func48 rfl rfl ?_
  unfold f__impl_State_file at hr
  have hS0 : St n0 n0 H0 F0 := hS.low (Nat.le_refl _)
  have hE0 := Ext.refl n0 F0
  have hlo0 := hS0.lo
  with_reducible refine W.seq ?_
  with_reducible refine W.region ?_
  refine GL.box hS0 .nil (vc := [.slice a2 x1.Files.length cap3, .slice a5 x1.Sessions.length cap6]) rfl rfl rfl rfl rfl (by repeat' (first | exact List.forall_mem_nil _ | refine List.forall_mem_cons.2 ⟨?_, ?_⟩ | rfl)) (fun H9 hS10 ho11 hk12 => ?_)
  have fo13 := hS0.fnone (Nat.le_refl _)
  have hlon01 := hS10.lo
  have lt14 : n0 < (n0 + 1) := by omega
  refine GL.box hS10 .nil (vc := [str x8]) rfl rfl rfl rfl rfl (by repeat' (first | exact List.forall_mem_nil _ | refine List.forall_mem_cons.2 ⟨?_, ?_⟩ | rfl)) (fun H15 hS16 ho17 hk18 => ?_)
  have fo19 := hS10.fnone (Nat.le_refl _)
  have ho21 := (hk18 _ (by have := lt14; omega)).trans ho11
  have hlon011 := hS16.lo
  have lt20 : (n0 + 1) < ((n0 + 1) + 1) := by omega
  refine WL.assign .nil rfl rfl rfl rfl ?_
  with_reducible refine WL.nil ?_
  with_reducible refine Ex.thn_norm ?_
  with_reducible refine W.seq ?_
  with_reducible refine W.region ?_
  refine WL.fieldAddr .nil rfl rfl rfl Try.underlying26 rfl info23 rfl rfl ?_
  refine WL.load1 .nil rfl rfl rfl Try.underlying23 rfl rfl ho21 rfl ?_
  refine WL.mkFunc .nil rfl rfl rfl rfl rfl ?_
  refine GL.callIn (args := [.slice a2 x1.Files.length cap3, .func (.func 65) [].toArray [.pointer (some ⟨(n0 + 1), 0, none⟩)].toArray]) .nil n0 rfl rfl rfl rfl rfl rfl Try.func64 rfl rfl (Nat.le_refl _) hS16.lo ?_
  refine C.body Try.func64 rfl rfl ?_
  with_reducible refine W.seq ?_
  with_reducible refine W.region ?_
  refine WL.assign .nil rfl rfl rfl rfl ?_
  with_reducible refine WL.nil ?_
  with_reducible refine Ex.thn_norm ?_
  with_reducible refine W.seq ?_
  with_reducible refine W.seq ?_
  with_reducible refine W.region ?_
  refine WL.move .nil rfl rfl rfl rfl ?_
  refine WL.len .nil rfl rfl rfl Try.underlying23 rfl ?_
  refine WL.move .nil rfl rfl rfl rfl ?_
  with_reducible refine WL.nil ?_
  with_reducible refine Ex.thn_norm ?_
  with_reducible refine W.block ?_
  refine W.loopF (fun k0 fr n H => ∃ (x117 : Int) (F : Heap), fr = [(0, .slice a2 x1.Files.length cap3), (1, .func (.func 65) [].toArray [.pointer (some ⟨(n0 + 1), 0, none⟩)].toArray), (7, .int .i64 (x1.Files.length : Int)), (8, .int .i64 x117)] ∧ St n0 n H F ∧ Ext n0 F0 n F ∧ H (n0 + 1) = some (.row 1 [str x8]) ∧ F (n0 + 1) = none ∧ SR F (.slice a2 x1.Files.length cap3) x1.Files ∧ f__impl_State_file_L0 x1 x8 k0 x117 = some res) BIG (fr0 := [(0, .slice a2 x1.Files.length cap3), (1, .func (.func 65) [].toArray [.pointer (some ⟨(n0 + 1), 0, none⟩)].toArray), (7, .int .i64 (x1.Files.length : Int)), (8, .int .i64 0)]) (Fr.le_cons rfl (Fr.le_cons rfl (Fr.le_cons rfl (Fr.le_cons rfl Fr.le_nil)))) ?_ ?_ ?_
  · exact ⟨0, F0, rfl, hS16, (hE0.up (by omega)), ho17, fo19, h4, hr⟩
  · intro fr n H hI
    obtain ⟨x117, F113, hfr, hS114, hE115, ho118, fo119, h116, hr⟩ := hI
    rw [f__impl_State_file_L0] at hr
    cases hr
  · intro k0 _ n111 H112 hI
    obtain ⟨x117, F113, rfl, hS114, hE115, ho118, fo119, h116, hr⟩ := hI
    have lt120 := hS114.lt ho118
    have hlen111 := hE115.le
    have hlon111 := hS114.lo
    rw [f__impl_State_file_L0] at hr
    with_reducible refine W.seq ?_
    with_reducible refine W.region ?_
    refine WL.bin .nil rfl rfl rfl rfl rfl rfl ?_
    with_reducible refine WL.nil ?_
    with_reducible refine Ex.thn_norm ?_
    with_reducible refine W.seq ?_
    refine W.condD rfl (fun hc122 => ?_) (fun hc122 => ?_)
    · replace hr := ite_pos hr hc122
      with_reducible refine W.skip ?_
      with_reducible refine Ex.thn_norm ?_
      with_reducible refine W.seq ?_
      with_reducible refine W.block ?_
      with_reducible refine W.seq ?_
      with_reducible refine W.region ?_
      refine WL.move .nil rfl rfl rfl rfl ?_
      refine WL.assign .nil rfl rfl rfl rfl ?_
      with_reducible refine WL.nil ?_
      with_reducible refine Ex.thn_norm ?_
      with_reducible refine W.seq ?_
      with_reducible refine W.region ?_
      refine WL.move .nil rfl rfl rfl rfl ?_
      refine WL.move .nil rfl rfl rfl rfl ?_
      refine WL.move .nil rfl rfl rfl rfl ?_
      obtain ⟨x139, hx139, hr⟩ := bnd_some hr
      refine GL.index .nil rfl rfl rfl Try.underlying23 info50 rfl rfl h116 hS114.fh rfl hx139 (fun b140 kp141 c142 ecs143 hrow144 hwin145 hR146 => ?_)
      obtain ⟨rfl⟩ := GFile.ofR hR146
      refine WL.loadN .nil (l' := [str x139.Name, .int .i64 x139.Version, str x139.Text]) rfl rfl rfl Try.underlying50 rfl info50 rfl hrow144 hwin145 rfl ?_
      refine GL.callIn (args := [.agg [str x139.Name, .int .i64 x139.Version, str x139.Text].toArray, .pointer (some ⟨(n0 + 1), 0, none⟩)]) .nil n0 rfl rfl rfl rfl rfl rfl Try.func65 rfl rfl (Nat.le_refl _) hS114.lo ?_
      refine C.body Try.func65 rfl rfl ?_
      with_reducible refine W.seq ?_
      with_reducible refine W.region ?_
      refine GL.box hS114 .nil (vc := [str x139.Name, .int .i64 x139.Version, str x139.Text]) rfl rfl rfl rfl rfl (by repeat' (first | exact List.forall_mem_nil _ | refine List.forall_mem_cons.2 ⟨?_, ?_⟩ | rfl)) (fun H147 hS148 ho149 hk150 => ?_)
      have fo151 := hS114.fnone (Nat.le_refl _)
      have ho153 := (hk150 _ (by have := lt120; omega)).trans ho118
      have hlon1111 := hS148.lo
      have lt152 : n111 < (n111 + 1) := by omega
      refine WL.assign .nil rfl rfl rfl rfl ?_
      with_reducible refine WL.nil ?_
      with_reducible refine Ex.thn_norm ?_
      with_reducible refine W.seq ?_
      with_reducible refine W.region ?_
      refine WL.fieldAddr .nil rfl rfl rfl Try.underlying50 rfl info9 rfl rfl ?_
      refine WL.load1 .nil rfl rfl rfl Try.underlying9 rfl rfl ho149 rfl ?_
      refine WL.load1 .nil rfl rfl rfl Try.underlying9 rfl rfl ho153 rfl ?_
      refine GL.strCmp .nil rfl rfl rfl rfl rfl (by decide) rfl ?_
      refine WL.assign .nil rfl rfl rfl rfl ?_
      with_reducible refine WL.nil ?_
      with_reducible refine Ex.thn_norm ?_
      with_reducible refine W.ret ?_
      refine ⟨.inr rfl, _, (.cons (.tmp rfl) .nil), ?_⟩
      with_reducible refine WL.nil ?_
      with_reducible refine Ex.thn_norm ?_
      refine W.condD (p := lst x139.Name = lst x8) rfl (fun hc154 => ?_) (fun hc154 => ?_)
      · replace hr := ite_pos hr hc154
        with_reducible refine W.seq ?_
        with_reducible refine W.region ?_
        refine WL.move .nil rfl rfl rfl rfl ?_
        refine WL.assign .nil rfl rfl rfl rfl ?_
        with_reducible refine WL.nil ?_
        with_reducible refine Ex.thn_norm ?_
        with_reducible refine W.ret ?_
        with_reducible refine Ex.blk_ret ?_
        with_reducible refine Ex.thn_ret ?_
        with_reducible refine Ex.thn_ret ?_
        with_reducible refine Ex.blk_ret ?_
        with_reducible refine Ex.thn_ret ?_
        refine ⟨.inr rfl, _, (.cons (.tmp rfl) .nil), ?_⟩
        refine WL.assign .nil rfl rfl rfl rfl ?_
        with_reducible refine WL.nil ?_
        with_reducible refine Ex.thn_norm ?_
        with_reducible refine W.ret ?_
        obtain rfl := Option.some.inj hr
        exact ⟨.inr rfl, _, (.cons (.tmp rfl) .nil), ⟨(Ext.st hE115 hS148), rfl⟩⟩
      · replace hr := ite_neg hr hc154
        with_reducible refine W.skip ?_
        with_reducible refine Ex.blk_norm ?_
        with_reducible refine Ex.thn_norm ?_
        with_reducible refine W.region ?_
        obtain ⟨hc155, hr⟩ := chk_some hr
        refine WL.addI .nil rfl rfl rfl rfl rfl hc155.1 hc155.2 ?_
        refine WL.move .nil rfl rfl rfl rfl ?_
        with_reducible refine WL.nil ?_
        with_reducible refine Ex.thn_norm ?_
        exact ⟨[(0, .slice a2 x1.Files.length cap3), (1, .func (.func 65) [].toArray [.pointer (some ⟨(n0 + 1), 0, none⟩)].toArray), (7, .int .i64 (x1.Files.length : Int)), (8, .int .i64 (x117 + 1))], (Fr.le_cons rfl (Fr.le_cons rfl (Fr.le_cons rfl (Fr.le_cons rfl Fr.le_nil)))), (x117 + 1), F113, rfl, hS148, (hE115.up (by omega)), ho153, fo119, h116, hr⟩
    · replace hr := ite_neg hr hc122
      with_reducible refine W.exit ?_
      with_reducible refine Ex.thn_ex ?_
      with_reducible refine Ex.thn_ex ?_
      with_reducible refine Ex.blk_here ?_
      with_reducible refine Ex.thn_norm ?_
      with_reducible refine W.seq ?_
      with_reducible refine W.region ?_
      refine WL.assign .nil rfl rfl rfl rfl ?_
      with_reducible refine WL.nil ?_
      with_reducible refine Ex.thn_norm ?_
      with_reducible refine W.ret ?_
      refine ⟨.inr rfl, _, (.cons (.tmp rfl) .nil), ?_⟩
      refine WL.assign .nil rfl rfl rfl rfl ?_
      with_reducible refine WL.nil ?_
      with_reducible refine Ex.thn_norm ?_
      with_reducible refine W.ret ?_
      obtain rfl := Option.some.inj hr
      exact ⟨.inr rfl, _, (.cons (.tmp rfl) .nil), ⟨(Ext.st hE115 hS114), rfl⟩⟩
theorem f_impl_contains_k {Δ : Prims} (g : Env Try.prog Δ) {lo n0 : Nat} {H0 F0 : Heap} (hS : St lo n0 H0 F0) {x1 : Str} {x2 : UInt8} {res : (Bool)} (hr : f_impl_contains x1 x2 = some res) :
    C Try.prog Δ n0 75 [str x1, u8 x2] n0 H0 (fun v n H => St n0 n H F0 ∧ v = .bool res) := by
  refine C.body Try.func75 rfl rfl ?_
  unfold f_impl_contains at hr
  have hS0 : St n0 n0 H0 F0 := hS.low (Nat.le_refl _)
  have hE0 := Ext.refl n0 F0
  have hlo0 := hS0.lo
  with_reducible refine W.seq ?_
  with_reducible refine W.region ?_
  refine WL.assign .nil rfl rfl rfl rfl ?_
  with_reducible refine WL.nil ?_
  with_reducible refine Ex.thn_norm ?_
  with_reducible refine W.seq ?_
  with_reducible refine W.seq ?_
  with_reducible refine W.region ?_
  refine WL.move .nil rfl rfl rfl rfl ?_
  refine GL.lenStr .nil rfl rfl rfl Try.underlying9 rfl ?_
  refine WL.move .nil rfl rfl rfl rfl ?_
  with_reducible refine WL.nil ?_
  with_reducible refine Ex.thn_norm ?_
  with_reducible refine W.block ?_
  refine W.loopF (fun k0 fr n H => ∃ (x33 : Int) (F : Heap), fr = [(0, str x1), (1, u8 x2), (7, .int .i64 (x1.length : Int)), (8, .int .i64 x33)] ∧ St n0 n H F ∧ Ext n0 F0 n F ∧ f_impl_contains_L0 x1 x2 k0 x33 = some res) BIG (fr0 := [(0, str x1), (1, u8 x2), (7, .int .i64 (x1.length : Int)), (8, .int .i64 0)]) (Fr.le_cons rfl (Fr.le_cons rfl (Fr.le_cons rfl (Fr.le_cons rfl Fr.le_nil)))) ?_ ?_ ?_
  · exact ⟨0, F0, rfl, hS0, hE0, hr⟩
  · intro fr n H hI
    obtain ⟨x33, F30, hfr, hS31, hE32, hr⟩ := hI
    rw [f_impl_contains_L0] at hr
    cases hr
  · intro k0 _ n28 H29 hI
    obtain ⟨x33, F30, rfl, hS31, hE32, hr⟩ := hI
    have hlen28 := hE32.le
    have hlon28 := hS31.lo
    rw [f_impl_contains_L0] at hr
    with_reducible refine W.seq ?_
    with_reducible refine W.region ?_
    refine WL.bin .nil rfl rfl rfl rfl rfl rfl ?_
    with_reducible refine WL.nil ?_
    with_reducible refine Ex.thn_norm ?_
    with_reducible refine W.seq ?_
    refine W.condD rfl (fun hc35 => ?_) (fun hc35 => ?_)
    · replace hr := ite_pos hr hc35
      with_reducible refine W.skip ?_
      with_reducible refine Ex.thn_norm ?_
      with_reducible refine W.seq ?_
      with_reducible refine W.block ?_
      with_reducible refine W.seq ?_
      with_reducible refine W.region ?_
      refine WL.move .nil rfl rfl rfl rfl ?_
      refine WL.assign .nil rfl rfl rfl rfl ?_
      with_reducible refine WL.nil ?_
      with_reducible refine Ex.thn_norm ?_
      with_reducible refine W.seq ?_
      with_reducible refine W.region ?_
      refine WL.move .nil rfl rfl rfl rfl ?_
      refine WL.move .nil rfl rfl rfl rfl ?_
      obtain ⟨x38, hx38, hr⟩ := bnd_some hr
      refine GL.strIdx .nil rfl rfl rfl Try.underlying9 rfl rfl hx38 ?_
      refine WL.move .nil rfl rfl rfl rfl ?_
      refine WL.bin .nil rfl rfl rfl rfl rfl rfl ?_
      with_reducible refine WL.nil ?_
      with_reducible refine Ex.thn_norm ?_
      refine W.condD rfl (fun hc39 => ?_) (fun hc39 => ?_)
      · replace hr := ite_pos hr hc39
        with_reducible refine W.seq ?_
        with_reducible refine W.region ?_
        refine WL.assign .nil rfl rfl rfl rfl ?_
        with_reducible refine WL.nil ?_
        with_reducible refine Ex.thn_norm ?_
        with_reducible refine W.ret ?_
        with_reducible refine Ex.blk_ret ?_
        with_reducible refine Ex.thn_ret ?_
        with_reducible refine Ex.thn_ret ?_
        with_reducible refine Ex.blk_ret ?_
        with_reducible refine Ex.thn_ret ?_
        obtain rfl := Option.some.inj hr
        exact ⟨.inr rfl, _, (.cons (.tmp rfl) .nil), ⟨(Ext.st hE32 hS31), rfl⟩⟩
      · replace hr := ite_neg hr hc39
        with_reducible refine W.skip ?_
        with_reducible refine Ex.blk_norm ?_
        with_reducible refine Ex.thn_norm ?_
        with_reducible refine W.region ?_
        obtain ⟨hc40, hr⟩ := chk_some hr
        refine WL.addI .nil rfl rfl rfl rfl rfl hc40.1 hc40.2 ?_
        refine WL.move .nil rfl rfl rfl rfl ?_
        with_reducible refine WL.nil ?_
        with_reducible refine Ex.thn_norm ?_
        exact ⟨[(0, str x1), (1, u8 x2), (7, .int .i64 (x1.length : Int)), (8, .int .i64 (x33 + 1))], (Fr.le_cons rfl (Fr.le_cons rfl (Fr.le_cons rfl (Fr.le_cons rfl Fr.le_nil)))), (x33 + 1), F30, rfl, hS31, hE32, hr⟩
    · replace hr := ite_neg hr hc35
      with_reducible refine W.exit ?_
      with_reducible refine Ex.thn_ex ?_
      with_reducible refine Ex.thn_ex ?_
      with_reducible refine Ex.blk_here ?_
      with_reducible refine Ex.thn_norm ?_
      with_reducible refine W.seq ?_
      with_reducible refine W.region ?_
      refine WL.assign .nil rfl rfl rfl rfl ?_
      with_reducible refine WL.nil ?_
      with_reducible refine Ex.thn_norm ?_
      with_reducible refine W.ret ?_
      obtain rfl := Option.some.inj hr
      exact ⟨.inr rfl, _, (.cons (.tmp rfl) .nil), ⟨(Ext.st hE32 hS31), rfl⟩⟩
theorem f_impl_shaOK_k {Δ : Prims} (g : Env Try.prog Δ) {lo n0 : Nat} {H0 F0 : Heap} (hS : St lo n0 H0 F0) {x1 : Str} {res : (Bool)} (hr : f_impl_shaOK x1 = some res) :
    C Try.prog Δ n0 66 [str x1] n0 H0 (fun v n H => St n0 n H F0 ∧ v = .bool res) := by
  refine C.body Try.func66 rfl rfl ?_
  unfold f_impl_shaOK at hr
  have hS0 : St n0 n0 H0 F0 := hS.low (Nat.le_refl _)
  have hE0 := Ext.refl n0 F0
  have hlo0 := hS0.lo
  with_reducible refine W.seq ?_
  with_reducible refine W.region ?_
  refine WL.assign .nil rfl rfl rfl rfl ?_
  with_reducible refine WL.nil ?_
  with_reducible refine Ex.thn_norm ?_
  with_reducible refine W.seq ?_
  with_reducible refine W.seq ?_
  with_reducible refine W.region ?_
  refine WL.move .nil rfl rfl rfl rfl ?_
  refine GL.lenStr .nil rfl rfl rfl Try.underlying9 rfl ?_
  refine WL.move .nil rfl rfl rfl rfl ?_
  with_reducible refine WL.nil ?_
  with_reducible refine Ex.thn_norm ?_
  with_reducible refine W.block ?_
  refine W.loopF (fun k0 fr n H => ∃ (x150 : Int) (F : Heap), fr = [(0, str x1), (5, .int .i64 (x1.length : Int)), (6, .int .i64 x150)] ∧ St n0 n H F ∧ Ext n0 F0 n F ∧ f_impl_shaOK_L0 x1 k0 x150 = some res) BIG (fr0 := [(0, str x1), (5, .int .i64 (x1.length : Int)), (6, .int .i64 0)]) (Fr.le_cons rfl (Fr.le_cons rfl (Fr.le_cons rfl Fr.le_nil))) ?_ ?_ ?_
  · exact ⟨0, F0, rfl, hS0, hE0, hr⟩
  · intro fr n H hI
    obtain ⟨x150, F147, hfr, hS148, hE149, hr⟩ := hI
    rw [f_impl_shaOK_L0] at hr
    cases hr
  · intro k0 _ n145 H146 hI
    obtain ⟨x150, F147, rfl, hS148, hE149, hr⟩ := hI
    have hlen145 := hE149.le
    have hlon145 := hS148.lo
    rw [f_impl_shaOK_L0] at hr
    with_reducible refine W.seq ?_
    with_reducible refine W.region ?_
    refine WL.bin .nil rfl rfl rfl rfl rfl rfl ?_
    with_reducible refine WL.nil ?_
    with_reducible refine Ex.thn_norm ?_
    with_reducible refine W.seq ?_
    refine W.condD rfl (fun hc152 => ?_) (fun hc152 => ?_)
    · replace hr := ite_pos hr hc152
      with_reducible refine W.skip ?_
      with_reducible refine Ex.thn_norm ?_
      with_reducible refine W.seq ?_
      with_reducible refine W.block ?_
      with_reducible refine W.seq ?_
      with_reducible refine W.region ?_
      refine WL.move .nil rfl rfl rfl rfl ?_
      refine WL.assign .nil rfl rfl rfl rfl ?_
      with_reducible refine WL.nil ?_
      with_reducible refine Ex.thn_norm ?_
      with_reducible refine W.seq ?_
      with_reducible refine W.region ?_
      refine WL.move .nil rfl rfl rfl rfl ?_
      refine WL.move .nil rfl rfl rfl rfl ?_
      obtain ⟨x163, hx163, hr⟩ := bnd_some hr
      refine GL.strIdx .nil rfl rfl rfl Try.underlying9 rfl rfl hx163 ?_
      obtain ⟨x164, hx164, hr⟩ := bnd_some hr
      refine GL.callP g.good .nil rfl rfl rfl rfl rfl rfl Try.func75 rfl rfl hS148.lo (f_impl_contains_k  g hS148 hx164) (fun v n165 H166 hn167 hk168 hp169 => ?_)
      obtain ⟨hS170, rfl⟩ := hp169
      have hS171 : St n0 n165 H166 F147 := ⟨by have := hS148.lo; omega, hS170.hb, hS170.fh⟩
      have hlon165 := hS171.lo
      refine WL.not .nil rfl rfl rfl rfl ?_
      with_reducible refine WL.nil ?_
      with_reducible refine Ex.thn_norm ?_
      refine W.cond rfl (fun hc172 => ?_) (fun hc172 => ?_)
      · replace hr := iteB_pos hr hc172
        with_reducible refine W.seq ?_
        with_reducible refine W.region ?_
        refine WL.assign .nil rfl rfl rfl rfl ?_
        with_reducible refine WL.nil ?_
        with_reducible refine Ex.thn_norm ?_
        with_reducible refine W.ret ?_
        with_reducible refine Ex.blk_ret ?_
        with_reducible refine Ex.thn_ret ?_
        with_reducible refine Ex.thn_ret ?_
        with_reducible refine Ex.blk_ret ?_
        with_reducible refine Ex.thn_ret ?_
        obtain rfl := Option.some.inj hr
        exact ⟨.inr rfl, _, (.cons (.tmp rfl) .nil), ⟨(Ext.st hE149 hS171), rfl⟩⟩
      · replace hr := iteB_neg hr hc172
        with_reducible refine W.skip ?_
        with_reducible refine Ex.blk_norm ?_
        with_reducible refine Ex.thn_norm ?_
        with_reducible refine W.region ?_
        obtain ⟨hc173, hr⟩ := chk_some hr
        refine WL.addI .nil rfl rfl rfl rfl rfl hc173.1 hc173.2 ?_
        refine WL.move .nil rfl rfl rfl rfl ?_
        with_reducible refine WL.nil ?_
        with_reducible refine Ex.thn_norm ?_
        exact ⟨[(0, str x1), (5, .int .i64 (x1.length : Int)), (6, .int .i64 (x150 + 1))], (Fr.le_cons rfl (Fr.le_cons rfl (Fr.le_cons rfl Fr.le_nil))), (x150 + 1), F147, rfl, hS171, (hE149.up (by omega)), hr⟩
    · replace hr := ite_neg hr hc152
      with_reducible refine W.exit ?_
      with_reducible refine Ex.thn_ex ?_
      with_reducible refine Ex.thn_ex ?_
      with_reducible refine Ex.blk_here ?_
      with_reducible refine Ex.thn_norm ?_
      with_reducible refine W.seq ?_
      with_reducible refine W.region ?_
      refine WL.move .nil rfl rfl rfl rfl ?_
      refine GL.lenStr .nil rfl rfl rfl Try.underlying9 rfl ?_
      refine WL.bin .nil rfl rfl rfl rfl rfl rfl ?_
      refine WL.assign .nil rfl rfl rfl rfl ?_
      with_reducible refine WL.nil ?_
      with_reducible refine Ex.thn_norm ?_
      with_reducible refine W.ret ?_
      obtain rfl := Option.some.inj hr
      exact ⟨.inr rfl, _, (.cons (.tmp rfl) .nil), ⟨(Ext.st hE149 hS148), rfl⟩⟩
theorem f_impl_replyOK_k {Δ : Prims} (g : Env Try.prog Δ) {lo n0 : Nat} {H0 F0 : Heap} (hS : St lo n0 H0 F0) {x1 : GReply} {res : (Bool)} (hr : f_impl_replyOK x1 = some res) :
    C Try.prog Δ n0 49 [.agg [.int .i64 x1.Code, .int .i64 x1.Version, str x1.Sha].toArray] n0 H0 (fun v n H => St n0 n H F0 ∧ v = .bool res) := by
  refine C.body Try.func49 rfl rfl ?_
  unfold f_impl_replyOK at hr
  have hS0 : St n0 n0 H0 F0 := hS.low (Nat.le_refl _)
  have hE0 := Ext.refl n0 F0
  have hlo0 := hS0.lo
  with_reducible refine W.seq ?_
  with_reducible refine W.region ?_
  refine GL.box hS0 .nil (vc := [.int .i64 x1.Code, .int .i64 x1.Version, str x1.Sha]) rfl rfl rfl rfl rfl (by repeat' (first | exact List.forall_mem_nil _ | refine List.forall_mem_cons.2 ⟨?_, ?_⟩ | rfl)) (fun H2 hS3 ho4 hk5 => ?_)
  have fo6 := hS0.fnone (Nat.le_refl _)
  have hlon01 := hS3.lo
  have lt7 : n0 < (n0 + 1) := by omega
  refine WL.assign .nil rfl rfl rfl rfl ?_
  with_reducible refine WL.nil ?_
  with_reducible refine Ex.thn_norm ?_
  with_reducible refine W.seq ?_
  with_reducible refine W.seq ?_
  with_reducible refine W.region ?_
  refine WL.fieldAddr .nil rfl rfl rfl Try.underlying52 rfl info3 rfl rfl ?_
  refine WL.load1 .nil rfl rfl rfl Try.underlying3 rfl rfl ho4 rfl ?_
  refine WL.bin .nil rfl rfl rfl rfl rfl rfl ?_
  with_reducible refine WL.nil ?_
  with_reducible refine Ex.thn_norm ?_
  refine W.condD rfl (fun hc28 => ?_) (fun hc28 => ?_)
  · replace hr := ite_pos hr hc28
    with_reducible refine W.seq ?_
    with_reducible refine W.region ?_
    refine WL.fieldAddr .nil rfl rfl rfl Try.underlying52 rfl info3 rfl rfl ?_
    refine WL.load1 .nil rfl rfl rfl Try.underlying3 rfl rfl ho4 rfl ?_
    obtain ⟨x29, hx29, hr⟩ := bnd_some hr
    refine GL.callP g.good .nil rfl rfl rfl rfl rfl rfl Try.func47 rfl rfl hS3.lo (f_impl_isCount_k  g hS3 hx29) (fun v n30 H31 hn32 hk33 hp34 => ?_)
    obtain ⟨hS35, rfl⟩ := hp34
    have ho36 := (hk33 _ (by have := lt7; omega)).trans ho4
    have hS37 : St n0 n30 H31 F0 := ⟨by have := hS3.lo; omega, hS35.hb, hS35.fh⟩
    have hlon30 := hS37.lo
    refine WL.move .nil rfl rfl rfl rfl ?_
    refine WL.guard rfl rfl rfl (fun hg38 => ?_) (fun hg38 => ?_)
    · replace hr := iteB_pos hr hg38
      refine WL.fieldAddr .nil rfl rfl rfl Try.underlying52 rfl info9 rfl rfl ?_
      refine WL.load1 .nil rfl rfl rfl Try.underlying9 rfl rfl ho36 rfl ?_
      obtain ⟨x39, hx39, hr⟩ := bnd_some hr
      refine GL.callP g.good .nil rfl rfl rfl rfl rfl rfl Try.func66 rfl rfl hS37.lo (f_impl_shaOK_k  g hS37 hx39) (fun v n40 H41 hn42 hk43 hp44 => ?_)
      obtain ⟨hS45, rfl⟩ := hp44
      have ho46 := (hk43 _ (by have := lt7; omega)).trans ho36
      have hS47 : St n0 n40 H41 F0 := ⟨by have := hS37.lo; omega, hS45.hb, hS45.fh⟩
      have hlon40 := hS47.lo
      refine WL.pick .nil rfl rfl rfl rfl rfl ?_
      refine WL.assign .nil rfl rfl rfl rfl ?_
      with_reducible refine WL.nil ?_
      with_reducible refine Ex.thn_norm ?_
      with_reducible refine W.ret ?_
      with_reducible refine Ex.thn_ret ?_
      obtain rfl := Option.some.inj hr
      exact ⟨.inr rfl, _, (.cons (.tmp rfl) .nil), ⟨(Ext.st hE0 hS47), rfl⟩⟩
    · replace hr := iteB_neg hr hg38
      refine WL.skip .nil rfl rfl ?_
      refine WL.skip .nil rfl rfl ?_
      refine WL.skip .nil rfl rfl ?_
      refine WL.pick .nil rfl rfl rfl rfl rfl ?_
      refine WL.assign .nil rfl rfl rfl rfl ?_
      with_reducible refine WL.nil ?_
      with_reducible refine Ex.thn_norm ?_
      with_reducible refine W.ret ?_
      with_reducible refine Ex.thn_ret ?_
      obtain rfl := Option.some.inj hr
      exact ⟨.inr rfl, _, (.cons (.tmp rfl) .nil), ⟨(Ext.st hE0 hS37), rfl⟩⟩
  · replace hr := ite_neg hr hc28
    with_reducible refine W.skip ?_
    with_reducible refine Ex.thn_norm ?_
    with_reducible refine W.seq ?_
    with_reducible refine W.region ?_
    refine WL.fieldAddr .nil rfl rfl rfl Try.underlying52 rfl info3 rfl rfl ?_
    refine WL.load1 .nil rfl rfl rfl Try.underlying3 rfl rfl ho4 rfl ?_
    obtain ⟨x48, hx48, hr⟩ := bnd_some hr
    refine GL.callP g.good .nil rfl rfl rfl rfl rfl rfl Try.func63 rfl rfl hS3.lo (f_impl_within_k  g hS3 hx48) (fun v n49 H50 hn51 hk52 hp53 => ?_)
    obtain ⟨hS54, rfl⟩ := hp53
    have ho55 := (hk52 _ (by have := lt7; omega)).trans ho4
    have hS56 : St n0 n49 H50 F0 := ⟨by have := hS3.lo; omega, hS54.hb, hS54.fh⟩
    have hlon49 := hS56.lo
    refine WL.move .nil rfl rfl rfl rfl ?_
    refine WL.guard rfl rfl rfl (fun hg57 => ?_) (fun hg57 => ?_)
    · replace hr := iteB_pos hr hg57
      refine WL.fieldAddr .nil rfl rfl rfl Try.underlying52 rfl info3 rfl rfl ?_
      refine WL.load1 .nil rfl rfl rfl Try.underlying3 rfl rfl ho55 rfl ?_
      refine WL.bin .nil rfl rfl rfl rfl rfl rfl ?_
      refine WL.pick .nil rfl rfl rfl rfl rfl ?_
      refine WL.move .nil rfl rfl rfl rfl ?_
      refine WL.guardD rfl rfl rfl (fun hg58 => ?_) (fun hg58 => ?_)
      · replace hr := ite_pos hr hg58
        refine WL.fieldAddr .nil rfl rfl rfl Try.underlying52 rfl info9 rfl rfl ?_
        refine WL.load1 .nil rfl rfl rfl Try.underlying9 rfl rfl ho55 rfl ?_
        refine GL.strCmp .nil rfl rfl rfl rfl rfl (by decide) rfl ?_
        refine WL.pick .nil rfl rfl rfl rfl rfl ?_
        refine WL.assign .nil rfl rfl rfl rfl ?_
        with_reducible refine WL.nil ?_
        with_reducible refine Ex.thn_norm ?_
        with_reducible refine W.ret ?_
        obtain rfl := Option.some.inj hr
        exact ⟨.inr rfl, _, (.cons (.tmp rfl) .nil), ⟨(Ext.st hE0 hS56), rfl⟩⟩
      · replace hr := ite_neg hr hg58
        refine WL.skip .nil rfl rfl ?_
        refine WL.skip .nil rfl rfl ?_
        refine WL.skip .nil rfl rfl ?_
        refine WL.pick .nil rfl rfl rfl rfl rfl ?_
        refine WL.assign .nil rfl rfl rfl rfl ?_
        with_reducible refine WL.nil ?_
        with_reducible refine Ex.thn_norm ?_
        with_reducible refine W.ret ?_
        obtain rfl := Option.some.inj hr
        exact ⟨.inr rfl, _, (.cons (.tmp rfl) .nil), ⟨(Ext.st hE0 hS56), rfl⟩⟩
    · replace hr := iteB_neg hr hg57
      refine WL.skip .nil rfl rfl ?_
      refine WL.skip .nil rfl rfl ?_
      refine WL.skip .nil rfl rfl ?_
      refine WL.pick .nil rfl rfl rfl rfl rfl ?_
      refine WL.move .nil rfl rfl rfl rfl ?_
      refine WL.skip .nil rfl rfl ?_
      refine WL.skip .nil rfl rfl ?_
      refine WL.skip .nil rfl rfl ?_
      refine WL.pick .nil rfl rfl rfl rfl rfl ?_
      refine WL.assign .nil rfl rfl rfl rfl ?_
      with_reducible refine WL.nil ?_
      with_reducible refine Ex.thn_norm ?_
      with_reducible refine W.ret ?_
      obtain rfl := Option.some.inj hr
      exact ⟨.inr rfl, _, (.cons (.tmp rfl) .nil), ⟨(Ext.st hE0 hS56), rfl⟩⟩
end Go.Proofs.YtmodhnkjimpkbaaAb
