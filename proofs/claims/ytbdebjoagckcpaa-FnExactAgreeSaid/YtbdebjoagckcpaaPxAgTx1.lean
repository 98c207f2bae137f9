import Derived.Test.YtbdebjoagckcpaaPxAgTx0
import Derived.Test.YtbdebjoagckcpaaPxAgD
import Derived.Test.YtbdebjoagckcpaaAbInfo
import Derived.KernelRfl
set_option linter.all false
set_option maxRecDepth 20000
namespace Go.Proofs.YtbdebjoagckcpaaAb
open Go Go.Proofs
theorem f_laws_eqPeer_k {Δ : Prims} (g : Env Try.prog Δ) {lo n0 : Nat} {H0 F0 : Heap} (hS : St lo n0 H0 F0) {x1 : GPeer} {a2 : Option Addr} {cap3 : Nat} {a5 : Option Addr} {cap6 : Nat} {a8 : Option Addr} {cap9 : Nat} {a11 : Option Addr} {cap12 : Nat} {x14 : GPeer} {a15 : Option Addr} {cap16 : Nat} {a18 : Option Addr} {cap19 : Nat} {a21 : Option Addr} {cap22 : Nat} {a24 : Option Addr} {cap25 : Nat} (h4 : SR F0 (.slice a2 x1.Log.length cap3) x1.Log) (h7 : SR F0 (.slice a5 x1.Votes.length cap6) x1.Votes) (h10 : SR F0 (.slice a8 x1.Next.length cap9) x1.Next) (h13 : SR F0 (.slice a11 x1.Match.length cap12) x1.Match) (h17 : SR F0 (.slice a15 x14.Log.length cap16) x14.Log) (h20 : SR F0 (.slice a18 x14.Votes.length cap19) x14.Votes) (h23 : SR F0 (.slice a21 x14.Next.length cap22) x14.Next) (h26 : SR F0 (.slice a24 x14.Match.length cap25) x14.Match) {res : (Bool)} (hr : f_laws_eqPeer x1 x14 = some res) :
    C Try.prog Δ n0 100 [.agg [.bool x1.Up, .int .i64 x1.Term, .int .i64 x1.Vote, .int .i64 x1.Commit, .int .i64 x1.Role, .slice a2 x1.Log.length cap3, .slice a5 x1.Votes.length cap6, .slice a8 x1.Next.length cap9, .slice a11 x1.Match.length cap12].toArray, .agg [.bool x14.Up, .int .i64 x14.Term, .int .i64 x14.Vote, .int .i64 x14.Commit, .int .i64 x14.Role, .slice a15 x14.Log.length cap16, .slice a18 x14.Votes.length cap19, .slice a21 x14.Next.length cap22, .slice a24 x14.Match.length cap25].toArray] n0 H0 (fun v n H => St n0 n H F0 ∧ v = .bool res) := by
  refine C.body Try.func100 rfl rfl ?_
  unfold f_laws_eqPeer at hr
  have hS0 : St n0 n0 H0 F0 := hS.low (Nat.le_refl _)
  have hE0 := Ext.refl n0 F0
  have hlo0 := hS0.lo
  with_reducible refine W.seq ?_
  with_reducible refine W.region ?_
  refine GL.box hS0 .nil (vc := [.bool x1.Up, .int .i64 x1.Term, .int .i64 x1.Vote, .int .i64 x1.Commit, .int .i64 x1.Role, .slice a2 x1.Log.length cap3, .slice a5 x1.Votes.length cap6, .slice a8 x1.Next.length cap9, .slice a11 x1.Match.length cap12]) rfl rfl rfl rfl rfl (by repeat' (first | exact List.forall_mem_nil _ | refine List.forall_mem_cons.2 ⟨?_, ?_⟩ | rfl)) (fun H27 hS28 ho29 hk30 => ?_)
  have fo31 := hS0.fnone (Nat.le_refl _)
  have hlon01 := hS28.lo
  have lt32 : n0 < (n0 + 1) := by omega
  refine GL.box hS28 .nil (vc := [.bool x14.Up, .int .i64 x14.Term, .int .i64 x14.Vote, .int .i64 x14.Commit, .int .i64 x14.Role, .slice a15 x14.Log.length cap16, .slice a18 x14.Votes.length cap19, .slice a21 x14.Next.length cap22, .slice a24 x14.Match.length cap25]) rfl rfl rfl rfl rfl (by repeat' (first | exact List.forall_mem_nil _ | refine List.forall_mem_cons.2 ⟨?_, ?_⟩ | rfl)) (fun H33 hS34 ho35 hk36 => ?_)
  have fo37 := hS28.fnone (Nat.le_refl _)
  have ho39 := (hk36 _ (by have := lt32; omega)).trans ho29
  have hlon011 := hS34.lo
  have lt38 : (n0 + 1) < ((n0 + 1) + 1) := by omega
  refine WL.assign .nil rfl rfl rfl rfl ?_
  with_reducible refine WL.nil ?_
  with_reducible refine Ex.thn_norm ?_
  with_reducible refine W.seq ?_
  with_reducible refine W.seq ?_
  with_reducible refine W.region ?_
  refine WL.fieldAddr .nil rfl rfl rfl Try.underlying88 rfl info4 rfl rfl ?_
  refine WL.load1 .nil rfl rfl rfl Try.underlying4 rfl rfl ho39 rfl ?_
  refine WL.fieldAddr .nil rfl rfl rfl Try.underlying88 rfl info4 rfl rfl ?_
  refine WL.load1 .nil rfl rfl rfl Try.underlying4 rfl rfl ho35 rfl ?_
  refine WL.eqBool .nil rfl rfl rfl (by decide) Try.underlying4 rfl rfl ?_
  with_reducible refine WL.nil ?_
  with_reducible refine Ex.thn_norm ?_
  refine W.cond rfl (fun hc41 => ?_) (fun hc41 => ?_)
  · replace hr := iteB_pos hr hc41
    with_reducible refine W.seq ?_
    with_reducible refine W.region ?_
    refine WL.assign .nil rfl rfl rfl rfl ?_
    with_reducible refine WL.nil ?_
    with_reducible refine Ex.thn_norm ?_
    with_reducible refine W.ret ?_
    with_reducible refine Ex.thn_ret ?_
    obtain rfl := Option.some.inj hr
    exact ⟨.inr rfl, _, (.cons (.tmp rfl) .nil), ⟨(Ext.st hE0 hS34), rfl⟩⟩
  · replace hr := iteB_neg hr hc41
    with_reducible refine W.skip ?_
    with_reducible refine Ex.thn_norm ?_
    with_reducible refine W.seq ?_
    with_reducible refine W.seq ?_
    with_reducible refine W.region ?_
    refine WL.fieldAddr .nil rfl rfl rfl Try.underlying88 rfl info3 rfl rfl ?_
    refine WL.load1 .nil rfl rfl rfl Try.underlying3 rfl rfl ho39 rfl ?_
    refine WL.fieldAddr .nil rfl rfl rfl Try.underlying88 rfl info3 rfl rfl ?_
    refine WL.load1 .nil rfl rfl rfl Try.underlying3 rfl rfl ho35 rfl ?_
    refine WL.bin .nil rfl rfl rfl rfl rfl rfl ?_
    with_reducible refine WL.nil ?_
    with_reducible refine Ex.thn_norm ?_
    refine W.condN rfl (fun hc43 => ?_) (fun hc43 => ?_)
    · replace hr := ite_neg hr hc43
      with_reducible refine W.seq ?_
      with_reducible refine W.region ?_
      refine WL.assign .nil rfl rfl rfl rfl ?_
      with_reducible refine WL.nil ?_
      with_reducible refine Ex.thn_norm ?_
      with_reducible refine W.ret ?_
      with_reducible refine Ex.thn_ret ?_
      obtain rfl := Option.some.inj hr
      exact ⟨.inr rfl, _, (.cons (.tmp rfl) .nil), ⟨(Ext.st hE0 hS34), rfl⟩⟩
    · replace hr := ite_pos hr hc43
      with_reducible refine W.skip ?_
      with_reducible refine Ex.thn_norm ?_
      with_reducible refine W.seq ?_
      with_reducible refine W.seq ?_
      with_reducible refine W.region ?_
      refine WL.fieldAddr .nil rfl rfl rfl Try.underlying88 rfl info3 rfl rfl ?_
      refine WL.load1 .nil rfl rfl rfl Try.underlying3 rfl rfl ho39 rfl ?_
      refine WL.fieldAddr .nil rfl rfl rfl Try.underlying88 rfl info3 rfl rfl ?_
      refine WL.load1 .nil rfl rfl rfl Try.underlying3 rfl rfl ho35 rfl ?_
      refine WL.bin .nil rfl rfl rfl rfl rfl rfl ?_
      with_reducible refine WL.nil ?_
      with_reducible refine Ex.thn_norm ?_
      refine W.condN rfl (fun hc45 => ?_) (fun hc45 => ?_)
      · replace hr := ite_neg hr hc45
        with_reducible refine W.seq ?_
        with_reducible refine W.region ?_
        refine WL.assign .nil rfl rfl rfl rfl ?_
        with_reducible refine WL.nil ?_
        with_reducible refine Ex.thn_norm ?_
        with_reducible refine W.ret ?_
        with_reducible refine Ex.thn_ret ?_
        obtain rfl := Option.some.inj hr
        exact ⟨.inr rfl, _, (.cons (.tmp rfl) .nil), ⟨(Ext.st hE0 hS34), rfl⟩⟩
      · replace hr := ite_pos hr hc45
        with_reducible refine W.skip ?_
        with_reducible refine Ex.thn_norm ?_
        with_reducible refine W.seq ?_
        with_reducible refine W.seq ?_
        with_reducible refine W.region ?_
        refine WL.fieldAddr .nil rfl rfl rfl Try.underlying88 rfl info3 rfl rfl ?_
        refine WL.load1 .nil rfl rfl rfl Try.underlying3 rfl rfl ho39 rfl ?_
        refine WL.fieldAddr .nil rfl rfl rfl Try.underlying88 rfl info3 rfl rfl ?_
        refine WL.load1 .nil rfl rfl rfl Try.underlying3 rfl rfl ho35 rfl ?_
        refine WL.bin .nil rfl rfl rfl rfl rfl rfl ?_
        with_reducible refine WL.nil ?_
        with_reducible refine Ex.thn_norm ?_
        refine W.condN rfl (fun hc47 => ?_) (fun hc47 => ?_)
        · replace hr := ite_neg hr hc47
          with_reducible refine W.seq ?_
          with_reducible refine W.region ?_
          refine WL.assign .nil rfl rfl rfl rfl ?_
          with_reducible refine WL.nil ?_
          with_reducible refine Ex.thn_norm ?_
          with_reducible refine W.ret ?_
          with_reducible refine Ex.thn_ret ?_
          obtain rfl := Option.some.inj hr
          exact ⟨.inr rfl, _, (.cons (.tmp rfl) .nil), ⟨(Ext.st hE0 hS34), rfl⟩⟩
        · replace hr := ite_pos hr hc47
          with_reducible refine W.skip ?_
          with_reducible refine Ex.thn_norm ?_
          with_reducible refine W.seq ?_
          with_reducible refine W.seq ?_
          with_reducible refine W.region ?_
          refine WL.fieldAddr .nil rfl rfl rfl Try.underlying88 rfl info3 rfl rfl ?_
          refine WL.load1 .nil rfl rfl rfl Try.underlying3 rfl rfl ho39 rfl ?_
          refine WL.fieldAddr .nil rfl rfl rfl Try.underlying88 rfl info3 rfl rfl ?_
          refine WL.load1 .nil rfl rfl rfl Try.underlying3 rfl rfl ho35 rfl ?_
          refine WL.bin .nil rfl rfl rfl rfl rfl rfl ?_
          with_reducible refine WL.nil ?_
          with_reducible refine Ex.thn_norm ?_
          refine W.condN rfl (fun hc49 => ?_) (fun hc49 => ?_)
          · replace hr := ite_neg hr hc49
            with_reducible refine W.seq ?_
            with_reducible refine W.region ?_
            refine WL.assign .nil rfl rfl rfl rfl ?_
            with_reducible refine WL.nil ?_
            with_reducible refine Ex.thn_norm ?_
            with_reducible refine W.ret ?_
            with_reducible refine Ex.thn_ret ?_
            obtain rfl := Option.some.inj hr
            exact ⟨.inr rfl, _, (.cons (.tmp rfl) .nil), ⟨(Ext.st hE0 hS34), rfl⟩⟩
          · replace hr := ite_pos hr hc49
            with_reducible refine W.skip ?_
            with_reducible refine Ex.thn_norm ?_
            with_reducible refine W.seq ?_
            with_reducible refine W.seq ?_
            with_reducible refine W.region ?_
            refine WL.fieldAddr .nil rfl rfl rfl Try.underlying88 rfl info30 rfl rfl ?_
            refine WL.load1 .nil rfl rfl rfl Try.underlying30 rfl rfl ho39 rfl ?_
            refine WL.fieldAddr .nil rfl rfl rfl Try.underlying88 rfl info30 rfl rfl ?_
            refine WL.load1 .nil rfl rfl rfl Try.underlying30 rfl rfl ho35 rfl ?_
            obtain ⟨x50, hx50, hr⟩ := bnd_some hr
            refine GL.callP g.good .nil rfl rfl rfl rfl rfl rfl Try.func50 rfl rfl hS34.lo (f_laws_eqRecS_k  g hS34 h4 h17 hx50) (fun v n51 H52 hn53 hk54 hp55 => ?_)
            obtain ⟨hS56, rfl⟩ := hp55
            have ho57 := (hk54 _ (by have := lt32; omega)).trans ho39
            have ho58 := (hk54 _ (by have := lt38; omega)).trans ho35
            have hS59 : St n0 n51 H52 F0 := ⟨by have := hS34.lo; omega, hS56.hb, hS56.fh⟩
            have hlon51 := hS59.lo
            refine WL.not .nil rfl rfl rfl rfl ?_
            with_reducible refine WL.nil ?_
            with_reducible refine Ex.thn_norm ?_
            refine W.cond rfl (fun hc61 => ?_) (fun hc61 => ?_)
            · replace hr := iteB_pos hr hc61
              with_reducible refine W.seq ?_
              with_reducible refine W.region ?_
              refine WL.assign .nil rfl rfl rfl rfl ?_
              with_reducible refine WL.nil ?_
              with_reducible refine Ex.thn_norm ?_
              with_reducible refine W.ret ?_
              with_reducible refine Ex.thn_ret ?_
              obtain rfl := Option.some.inj hr
              exact ⟨.inr rfl, _, (.cons (.tmp rfl) .nil), ⟨(Ext.st hE0 hS59), rfl⟩⟩
            · replace hr := iteB_neg hr hc61
              with_reducible refine W.skip ?_
              with_reducible refine Ex.thn_norm ?_
              with_reducible refine W.seq ?_
              with_reducible refine W.seq ?_
              with_reducible refine W.region ?_
              refine WL.fieldAddr .nil rfl rfl rfl Try.underlying88 rfl info86 rfl rfl ?_
              refine WL.load1 .nil rfl rfl rfl Try.underlying86 rfl rfl ho57 rfl ?_
              refine WL.fieldAddr .nil rfl rfl rfl Try.underlying88 rfl info86 rfl rfl ?_
              refine WL.load1 .nil rfl rfl rfl Try.underlying86 rfl rfl ho58 rfl ?_
              obtain ⟨x62, hx62, hr⟩ := bnd_some hr
              refine GL.callP g.good .nil rfl rfl rfl rfl rfl rfl Try.func126 rfl rfl hS59.lo (f_laws_eqBoolS_k  g hS59 h7 h20 hx62) (fun v n63 H64 hn65 hk66 hp67 => ?_)
              obtain ⟨hS68, rfl⟩ := hp67
              have ho69 := (hk66 _ (by have := lt32; omega)).trans ho57
              have ho70 := (hk66 _ (by have := lt38; omega)).trans ho58
              have hS71 : St n0 n63 H64 F0 := ⟨by have := hS59.lo; omega, hS68.hb, hS68.fh⟩
              have hlon63 := hS71.lo
              refine WL.not .nil rfl rfl rfl rfl ?_
              with_reducible refine WL.nil ?_
              with_reducible refine Ex.thn_norm ?_
              refine W.cond rfl (fun hc73 => ?_) (fun hc73 => ?_)
              · replace hr := iteB_pos hr hc73
                with_reducible refine W.seq ?_
                with_reducible refine W.region ?_
                refine WL.assign .nil rfl rfl rfl rfl ?_
                with_reducible refine WL.nil ?_
                with_reducible refine Ex.thn_norm ?_
                with_reducible refine W.ret ?_
                with_reducible refine Ex.thn_ret ?_
                obtain rfl := Option.some.inj hr
                exact ⟨.inr rfl, _, (.cons (.tmp rfl) .nil), ⟨(Ext.st hE0 hS71), rfl⟩⟩
              · replace hr := iteB_neg hr hc73
                with_reducible refine W.skip ?_
                with_reducible refine Ex.thn_norm ?_
                with_reducible refine W.seq ?_
                with_reducible refine W.seq ?_
                with_reducible refine W.region ?_
                refine WL.fieldAddr .nil rfl rfl rfl Try.underlying88 rfl info33 rfl rfl ?_
                refine WL.load1 .nil rfl rfl rfl Try.underlying33 rfl rfl ho69 rfl ?_
                refine WL.fieldAddr .nil rfl rfl rfl Try.underlying88 rfl info33 rfl rfl ?_
                refine WL.load1 .nil rfl rfl rfl Try.underlying33 rfl rfl ho70 rfl ?_
                obtain ⟨x74, hx74, hr⟩ := bnd_some hr
                refine GL.callP g.good .nil rfl rfl rfl rfl rfl rfl Try.func127 rfl rfl hS71.lo (f_laws_eqIntS_k  g hS71 h10 h23 hx74) (fun v n75 H76 hn77 hk78 hp79 => ?_)
                obtain ⟨hS80, rfl⟩ := hp79
                have ho81 := (hk78 _ (by have := lt32; omega)).trans ho69
                have ho82 := (hk78 _ (by have := lt38; omega)).trans ho70
                have hS83 : St n0 n75 H76 F0 := ⟨by have := hS71.lo; omega, hS80.hb, hS80.fh⟩
                have hlon75 := hS83.lo
                refine WL.not .nil rfl rfl rfl rfl ?_
                with_reducible refine WL.nil ?_
                with_reducible refine Ex.thn_norm ?_
                refine W.cond rfl (fun hc85 => ?_) (fun hc85 => ?_)
                · replace hr := iteB_pos hr hc85
                  with_reducible refine W.seq ?_
                  with_reducible refine W.region ?_
                  refine WL.assign .nil rfl rfl rfl rfl ?_
                  with_reducible refine WL.nil ?_
                  with_reducible refine Ex.thn_norm ?_
                  with_reducible refine W.ret ?_
                  with_reducible refine Ex.thn_ret ?_
                  obtain rfl := Option.some.inj hr
                  exact ⟨.inr rfl, _, (.cons (.tmp rfl) .nil), ⟨(Ext.st hE0 hS83), rfl⟩⟩
                · replace hr := iteB_neg hr hc85
                  with_reducible refine W.skip ?_
                  with_reducible refine Ex.thn_norm ?_
                  with_reducible refine W.seq ?_
                  with_reducible refine W.seq ?_
                  with_reducible refine W.region ?_
                  refine WL.fieldAddr .nil rfl rfl rfl Try.underlying88 rfl info33 rfl rfl ?_
                  refine WL.load1 .nil rfl rfl rfl Try.underlying33 rfl rfl ho81 rfl ?_
                  refine WL.fieldAddr .nil rfl rfl rfl Try.underlying88 rfl info33 rfl rfl ?_
                  refine WL.load1 .nil rfl rfl rfl Try.underlying33 rfl rfl ho82 rfl ?_
                  obtain ⟨x86, hx86, hr⟩ := bnd_some hr
                  refine GL.callP g.good .nil rfl rfl rfl rfl rfl rfl Try.func127 rfl rfl hS83.lo (f_laws_eqIntS_k  g hS83 h13 h26 hx86) (fun v n87 H88 hn89 hk90 hp91 => ?_)
                  obtain ⟨hS92, rfl⟩ := hp91
                  have ho93 := (hk90 _ (by have := lt32; omega)).trans ho81
                  have ho94 := (hk90 _ (by have := lt38; omega)).trans ho82
                  have hS95 : St n0 n87 H88 F0 := ⟨by have := hS83.lo; omega, hS92.hb, hS92.fh⟩
                  have hlon87 := hS95.lo
                  refine WL.not .nil rfl rfl rfl rfl ?_
                  with_reducible refine WL.nil ?_
                  with_reducible refine Ex.thn_norm ?_
                  refine W.cond rfl (fun hc96 => ?_) (fun hc96 => ?_)
                  · replace hr := iteB_pos hr hc96
                    with_reducible refine W.seq ?_
                    with_reducible refine W.region ?_
                    refine WL.assign .nil rfl rfl rfl rfl ?_
                    with_reducible refine WL.nil ?_
                    with_reducible refine Ex.thn_norm ?_
                    with_reducible refine W.ret ?_
                    with_reducible refine Ex.thn_ret ?_
                    obtain rfl := Option.some.inj hr
                    exact ⟨.inr rfl, _, (.cons (.tmp rfl) .nil), ⟨(Ext.st hE0 hS95), rfl⟩⟩
                  · replace hr := iteB_neg hr hc96
                    with_reducible refine W.skip ?_
                    with_reducible refine Ex.thn_norm ?_
                    with_reducible refine W.seq ?_
                    with_reducible refine W.region ?_
                    refine WL.assign .nil rfl rfl rfl rfl ?_
                    with_reducible refine WL.nil ?_
                    with_reducible refine Ex.thn_norm ?_
                    with_reducible refine W.ret ?_
                    obtain rfl := Option.some.inj hr
                    exact ⟨.inr rfl, _, (.cons (.tmp rfl) .nil), ⟨(Ext.st hE0 hS95), rfl⟩⟩
theorem f_laws_eqPeerS_k {Δ : Prims} (g : Env Try.prog Δ) {lo n0 : Nat} {H0 F0 : Heap} (hS : St lo n0 H0 F0) {a2 : Option Addr} {cap3 : Nat} {xs1 : (List GPeer)} {a6 : Option Addr} {cap7 : Nat} {xs5 : (List GPeer)} (h4 : SR F0 (.slice a2 xs1.length cap3) xs1) (h8 : SR F0 (.slice a6 xs5.length cap7) xs5) {res : (Bool)} (hr : f_laws_eqPeerS xs1 xs5 = some res) :
    C Try.prog Δ n0 62 [.slice a2 xs1.length cap3, .slice a6 xs5.length cap7] n0 H0 (fun v n H => St n0 n H F0 ∧ v = .bool res) := by
  refine C.body Try.func62 rfl rfl ?_
  unfold f_laws_eqPeerS at hr
  have hS0 : St n0 n0 H0 F0 := hS.low (Nat.le_refl _)
  have hE0 := Ext.refl n0 F0
  have hlo0 := hS0.lo
  with_reducible refine W.seq ?_
  with_reducible refine W.region ?_
  refine WL.assign .nil rfl rfl rfl rfl ?_
  with_reducible refine WL.nil ?_
  with_reducible refine Ex.thn_norm ?_
  with_reducible refine W.seq ?_
  with_reducible refine W.seq ?_
  with_reducible refine W.region ?_
  refine WL.move .nil rfl rfl rfl rfl ?_
  refine WL.len .nil rfl rfl rfl Try.underlying28 rfl ?_
  refine WL.move .nil rfl rfl rfl rfl ?_
  refine WL.len .nil rfl rfl rfl Try.underlying28 rfl ?_
  refine WL.bin .nil rfl rfl rfl rfl rfl rfl ?_
  with_reducible refine WL.nil ?_
  with_reducible refine Ex.thn_norm ?_
  refine W.condN rfl (fun hc10 => ?_) (fun hc10 => ?_)
  · replace hr := ite_neg hr hc10
    with_reducible refine W.seq ?_
    with_reducible refine W.region ?_
    refine WL.assign .nil rfl rfl rfl rfl ?_
    with_reducible refine WL.nil ?_
    with_reducible refine Ex.thn_norm ?_
    with_reducible refine W.ret ?_
    with_reducible refine Ex.thn_ret ?_
    obtain rfl := Option.some.inj hr
    exact ⟨.inr rfl, _, (.cons (.tmp rfl) .nil), ⟨(Ext.st hE0 hS0), rfl⟩⟩
  · replace hr := ite_pos hr hc10
    with_reducible refine W.skip ?_
    with_reducible refine Ex.thn_norm ?_
    with_reducible refine W.seq ?_
    with_reducible refine W.seq ?_
    with_reducible refine W.region ?_
    refine WL.assign .nil rfl rfl rfl rfl ?_
    with_reducible refine WL.nil ?_
    with_reducible refine Ex.thn_norm ?_
    with_reducible refine W.block ?_
    refine W.loopF (fun k0 fr n H => ∃ (x235 : Int) (F : Heap), fr = [(0, .slice a2 xs1.length cap3), (1, .slice a6 xs5.length cap7), (5, .int .i64 x235)] ∧ St n0 n H F ∧ Ext n0 F0 n F ∧ SR F (.slice a2 xs1.length cap3) xs1 ∧ SR F (.slice a6 xs5.length cap7) xs5 ∧ f_laws_eqPeerS_L0 xs1 xs5 k0 x235 = some res) BIG (fr0 := [(0, .slice a2 xs1.length cap3), (1, .slice a6 xs5.length cap7), (5, .int .i64 0)]) (Fr.le_cons rfl (Fr.le_cons rfl (Fr.le_cons rfl Fr.le_nil))) ?_ ?_ ?_
    · exact ⟨0, F0, rfl, hS0, hE0, h4, h8, hr⟩
    · intro fr n H hI
      obtain ⟨x235, F230, hfr, hS231, hE232, h233, h234, hr⟩ := hI
      rw [f_laws_eqPeerS_L0] at hr
      cases hr
    · intro k0 _ n228 H229 hI
      obtain ⟨x235, F230, rfl, hS231, hE232, h233, h234, hr⟩ := hI
      have hlen228 := hE232.le
      have hlon228 := hS231.lo
      rw [f_laws_eqPeerS_L0] at hr
      with_reducible refine W.seq ?_
      with_reducible refine W.seq ?_
      with_reducible refine W.region ?_
      refine WL.move .nil rfl rfl rfl rfl ?_
      refine WL.move .nil rfl rfl rfl rfl ?_
      refine WL.len .nil rfl rfl rfl Try.underlying28 rfl ?_
      refine WL.bin .nil rfl rfl rfl rfl rfl rfl ?_
      with_reducible refine WL.nil ?_
      with_reducible refine Ex.thn_norm ?_
      refine W.condD rfl (fun hc237 => ?_) (fun hc237 => ?_)
      · replace hr := ite_pos hr hc237
        with_reducible refine W.skip ?_
        with_reducible refine Ex.thn_norm ?_
        with_reducible refine W.seq ?_
        with_reducible refine W.block ?_
        with_reducible refine W.seq ?_
        refine W.regionD [0, 1, 2, 3, 4, 5, 6, 7, 8, 9] [false, false, false, false, false, false, false, false, false, false] rfl rfl (by kernel_rfl) (by kernel_rfl) (by (conv => lhs; simp only [List.map_cons, List.map_nil, List.getD_cons_zero, List.getD_cons_succ]) <;> rfl) ?_
        refine WL.move .r rfl rfl rfl rfl ?_
        refine WL.move .r rfl rfl rfl rfl ?_
        obtain ⟨x287, hx287, hr⟩ := bnd_some hr
        refine GL.index .r rfl rfl rfl Try.underlying28 info88 rfl rfl h233 hS231.fh rfl hx287 (fun b288 kp289 c290 ecs291 hrow292 hwin293 hR294 => ?_)
        obtain ⟨a295, cap296, a298, cap299, a301, cap302, a304, cap305, rfl, h297, h300, h303, h306⟩ := GPeer.ofR hR294
        refine WL.loadN .r (l' := [.bool x287.Up, .int .i64 x287.Term, .int .i64 x287.Vote, .int .i64 x287.Commit, .int .i64 x287.Role, .slice a295 x287.Log.length cap296, .slice a298 x287.Votes.length cap299, .slice a301 x287.Next.length cap302, .slice a304 x287.Match.length cap305]) rfl rfl rfl Try.underlying88 rfl info88 rfl hrow292 hwin293 rfl ?_
        refine WL.move .r rfl rfl rfl rfl ?_
        refine WL.move .r rfl rfl rfl rfl ?_
        obtain ⟨x307, hx307, hr⟩ := bnd_some hr
        refine GL.index .r rfl rfl rfl Try.underlying28 info88 rfl rfl h234 hS231.fh rfl hx307 (fun b308 kp309 c310 ecs311 hrow312 hwin313 hR314 => ?_)
        obtain ⟨a315, cap316, a318, cap319, a321, cap322, a324, cap325, rfl, h317, h320, h323, h326⟩ := GPeer.ofR hR314
        refine WL.loadN .r (l' := [.bool x307.Up, .int .i64 x307.Term, .int .i64 x307.Vote, .int .i64 x307.Commit, .int .i64 x307.Role, .slice a315 x307.Log.length cap316, .slice a318 x307.Votes.length cap319, .slice a321 x307.Next.length cap322, .slice a324 x307.Match.length cap325]) rfl rfl rfl Try.underlying88 rfl info88 rfl hrow312 hwin313 rfl ?_
        obtain ⟨x327, hx327, hr⟩ := bnd_some hr
        refine GL.callP g.good .r rfl rfl rfl rfl rfl rfl Try.func100 rfl rfl (Nat.le_refl _) (f_laws_eqPeer_k  g hS231 h297 h300 h303 h306 h317 h320 h323 h326 hx327) (fun v n328 H329 hn330 hk331 hp332 => ?_)
        obtain ⟨hS333, rfl⟩ := hp332
        have hS334 : St n0 n328 H329 F230 := ⟨by have := hS231.lo; omega, hS333.hb, hS333.fh⟩
        have hlon328 := hS334.lo
        refine WL.not .r rfl rfl rfl rfl ?_
        with_reducible refine WL.nil ?_
        with_reducible refine Ex.thn_norm ?_
        refine W.cond rfl (fun hc335 => ?_) (fun hc335 => ?_)
        · replace hr := iteB_pos hr hc335
          with_reducible refine W.seq ?_
          with_reducible refine W.region ?_
          refine WL.assign .nil rfl rfl rfl rfl ?_
          with_reducible refine WL.nil ?_
          with_reducible refine Ex.thn_norm ?_
          with_reducible refine W.ret ?_
          with_reducible refine Ex.blk_ret ?_
          with_reducible refine Ex.thn_ret ?_
          with_reducible refine Ex.thn_ret ?_
          with_reducible refine Ex.blk_ret ?_
          with_reducible refine Ex.thn_ret ?_
          obtain rfl := Option.some.inj hr
          exact ⟨.inr rfl, _, (.cons (.tmp rfl) .nil), ⟨(Ext.st hE232 hS334), rfl⟩⟩
        · replace hr := iteB_neg hr hc335
          with_reducible refine W.skip ?_
          with_reducible refine Ex.blk_norm ?_
          with_reducible refine Ex.thn_norm ?_
          with_reducible refine W.region ?_
          refine WL.move .nil rfl rfl rfl rfl ?_
          obtain ⟨hc336, hr⟩ := chk_some hr
          refine WL.addI .nil rfl rfl rfl rfl rfl hc336.1 hc336.2 ?_
          refine WL.assign .nil rfl rfl rfl rfl ?_
          with_reducible refine WL.nil ?_
          with_reducible refine Ex.thn_norm ?_
          exact ⟨[(0, .slice a2 xs1.length cap3), (1, .slice a6 xs5.length cap7), (5, .int .i64 (x235 + 1))], (Fr.le_cons rfl (Fr.le_cons rfl (Fr.le_cons rfl Fr.le_nil))), (x235 + 1), F230, rfl, hS334, (hE232.up (by omega)), h233, h234, hr⟩
      · replace hr := ite_neg hr hc237
        with_reducible refine W.exit ?_
        with_reducible refine Ex.thn_ex ?_
        with_reducible refine Ex.thn_ex ?_
        with_reducible refine Ex.blk_here ?_
        with_reducible refine Ex.thn_norm ?_
        with_reducible refine W.seq ?_
        with_reducible refine W.region ?_
        refine WL.assign .nil rfl rfl rfl rfl ?_
        with_reducible refine WL.nil ?_
        with_reducible refine Ex.thn_norm ?_
        with_reducible refine W.ret ?_
        obtain rfl := Option.some.inj hr
        exact ⟨.inr rfl, _, (.cons (.tmp rfl) .nil), ⟨(Ext.st hE232 hS231), rfl⟩⟩
theorem f_laws_eqMsg_k {Δ : Prims} (g : Env Try.prog Δ) {lo n0 : Nat} {H0 F0 : Heap} (hS : St lo n0 H0 F0) {x1 : GMsg} {a2 : Option Addr} {cap3 : Nat} {x5 : GMsg} {a6 : Option Addr} {cap7 : Nat} (h4 : SR F0 (.slice a2 x1.Log.length cap3) x1.Log) (h8 : SR F0 (.slice a6 x5.Log.length cap7) x5.Log) {res : (Bool)} (hr : f_laws_eqMsg x1 x5 = some res) :
    C Try.prog Δ n0 101 [.agg [.int .i64 x1.Kind, .int .i64 x1.From, .int .i64 x1.To, .int .i64 x1.Term, .int .i64 x1.A, .int .i64 x1.B, .int .i64 x1.C, .bool x1.Ok, .slice a2 x1.Log.length cap3].toArray, .agg [.int .i64 x5.Kind, .int .i64 x5.From, .int .i64 x5.To, .int .i64 x5.Term, .int .i64 x5.A, .int .i64 x5.B, .int .i64 x5.C, .bool x5.Ok, .slice a6 x5.Log.length cap7].toArray] n0 H0 (fun v n H => St n0 n H F0 ∧ v = .bool res) := by
  refine C.body Try.func101 rfl rfl ?_
  unfold f_laws_eqMsg at hr
  have hS0 : St n0 n0 H0 F0 := hS.low (Nat.le_refl _)
  have hE0 := Ext.refl n0 F0
  have hlo0 := hS0.lo
  with_reducible refine W.seq ?_
  with_reducible refine W.region ?_
  refine GL.box hS0 .nil (vc := [.int .i64 x1.Kind, .int .i64 x1.From, .int .i64 x1.To, .int .i64 x1.Term, .int .i64 x1.A, .int .i64 x1.B, .int .i64 x1.C, .bool x1.Ok, .slice a2 x1.Log.length cap3]) rfl rfl rfl rfl rfl (by repeat' (first | exact List.forall_mem_nil _ | refine List.forall_mem_cons.2 ⟨?_, ?_⟩ | rfl)) (fun H9 hS10 ho11 hk12 => ?_)
  have fo13 := hS0.fnone (Nat.le_refl _)
  have hlon01 := hS10.lo
  have lt14 : n0 < (n0 + 1) := by omega
  refine GL.box hS10 .nil (vc := [.int .i64 x5.Kind, .int .i64 x5.From, .int .i64 x5.To, .int .i64 x5.Term, .int .i64 x5.A, .int .i64 x5.B, .int .i64 x5.C, .bool x5.Ok, .slice a6 x5.Log.length cap7]) rfl rfl rfl rfl rfl (by repeat' (first | exact List.forall_mem_nil _ | refine List.forall_mem_cons.2 ⟨?_, ?_⟩ | rfl)) (fun H15 hS16 ho17 hk18 => ?_)
  have fo19 := hS10.fnone (Nat.le_refl _)
  have ho21 := (hk18 _ (by have := lt14; omega)).trans ho11
  have hlon011 := hS16.lo
  have lt20 : (n0 + 1) < ((n0 + 1) + 1) := by omega
  refine WL.assign .nil rfl rfl rfl rfl ?_
  with_reducible refine WL.nil ?_
  with_reducible refine Ex.thn_norm ?_
  with_reducible refine W.seq ?_
  with_reducible refine W.seq ?_
  with_reducible refine W.region ?_
  refine WL.fieldAddr .nil rfl rfl rfl Try.underlying97 rfl info3 rfl rfl ?_
  refine WL.load1 .nil rfl rfl rfl Try.underlying3 rfl rfl ho21 rfl ?_
  refine WL.fieldAddr .nil rfl rfl rfl Try.underlying97 rfl info3 rfl rfl ?_
  refine WL.load1 .nil rfl rfl rfl Try.underlying3 rfl rfl ho17 rfl ?_
  refine WL.bin .nil rfl rfl rfl rfl rfl rfl ?_
  with_reducible refine WL.nil ?_
  with_reducible refine Ex.thn_norm ?_
  refine W.condN rfl (fun hc23 => ?_) (fun hc23 => ?_)
  · replace hr := ite_neg hr hc23
    with_reducible refine W.seq ?_
    with_reducible refine W.region ?_
    refine WL.assign .nil rfl rfl rfl rfl ?_
    with_reducible refine WL.nil ?_
    with_reducible refine Ex.thn_norm ?_
    with_reducible refine W.ret ?_
    with_reducible refine Ex.thn_ret ?_
    obtain rfl := Option.some.inj hr
    exact ⟨.inr rfl, _, (.cons (.tmp rfl) .nil), ⟨(Ext.st hE0 hS16), rfl⟩⟩
  · replace hr := ite_pos hr hc23
    with_reducible refine W.skip ?_
    with_reducible refine Ex.thn_norm ?_
    with_reducible refine W.seq ?_
    with_reducible refine W.seq ?_
    with_reducible refine W.region ?_
    refine WL.fieldAddr .nil rfl rfl rfl Try.underlying97 rfl info3 rfl rfl ?_
    refine WL.load1 .nil rfl rfl rfl Try.underlying3 rfl rfl ho21 rfl ?_
    refine WL.fieldAddr .nil rfl rfl rfl Try.underlying97 rfl info3 rfl rfl ?_
    refine WL.load1 .nil rfl rfl rfl Try.underlying3 rfl rfl ho17 rfl ?_
    refine WL.bin .nil rfl rfl rfl rfl rfl rfl ?_
    with_reducible refine WL.nil ?_
    with_reducible refine Ex.thn_norm ?_
    refine W.condN rfl (fun hc25 => ?_) (fun hc25 => ?_)
    · replace hr := ite_neg hr hc25
      with_reducible refine W.seq ?_
      with_reducible refine W.region ?_
      refine WL.assign .nil rfl rfl rfl rfl ?_
      with_reducible refine WL.nil ?_
      with_reducible refine Ex.thn_norm ?_
      with_reducible refine W.ret ?_
      with_reducible refine Ex.thn_ret ?_
      obtain rfl := Option.some.inj hr
      exact ⟨.inr rfl, _, (.cons (.tmp rfl) .nil), ⟨(Ext.st hE0 hS16), rfl⟩⟩
    · replace hr := ite_pos hr hc25
      with_reducible refine W.skip ?_
      with_reducible refine Ex.thn_norm ?_
      with_reducible refine W.seq ?_
      with_reducible refine W.seq ?_
      with_reducible refine W.region ?_
      refine WL.fieldAddr .nil rfl rfl rfl Try.underlying97 rfl info3 rfl rfl ?_
      refine WL.load1 .nil rfl rfl rfl Try.underlying3 rfl rfl ho21 rfl ?_
      refine WL.fieldAddr .nil rfl rfl rfl Try.underlying97 rfl info3 rfl rfl ?_
      refine WL.load1 .nil rfl rfl rfl Try.underlying3 rfl rfl ho17 rfl ?_
      refine WL.bin .nil rfl rfl rfl rfl rfl rfl ?_
      with_reducible refine WL.nil ?_
      with_reducible refine Ex.thn_norm ?_
      refine W.condN rfl (fun hc27 => ?_) (fun hc27 => ?_)
      · replace hr := ite_neg hr hc27
        with_reducible refine W.seq ?_
        with_reducible refine W.region ?_
        refine WL.assign .nil rfl rfl rfl rfl ?_
        with_reducible refine WL.nil ?_
        with_reducible refine Ex.thn_norm ?_
        with_reducible refine W.ret ?_
        with_reducible refine Ex.thn_ret ?_
        obtain rfl := Option.some.inj hr
        exact ⟨.inr rfl, _, (.cons (.tmp rfl) .nil), ⟨(Ext.st hE0 hS16), rfl⟩⟩
      · replace hr := ite_pos hr hc27
        with_reducible refine W.skip ?_
        with_reducible refine Ex.thn_norm ?_
        with_reducible refine W.seq ?_
        with_reducible refine W.seq ?_
        with_reducible refine W.region ?_
        refine WL.fieldAddr .nil rfl rfl rfl Try.underlying97 rfl info3 rfl rfl ?_
        refine WL.load1 .nil rfl rfl rfl Try.underlying3 rfl rfl ho21 rfl ?_
        refine WL.fieldAddr .nil rfl rfl rfl Try.underlying97 rfl info3 rfl rfl ?_
        refine WL.load1 .nil rfl rfl rfl Try.underlying3 rfl rfl ho17 rfl ?_
        refine WL.bin .nil rfl rfl rfl rfl rfl rfl ?_
        with_reducible refine WL.nil ?_
        with_reducible refine Ex.thn_norm ?_
        refine W.condN rfl (fun hc29 => ?_) (fun hc29 => ?_)
        · replace hr := ite_neg hr hc29
          with_reducible refine W.seq ?_
          with_reducible refine W.region ?_
          refine WL.assign .nil rfl rfl rfl rfl ?_
          with_reducible refine WL.nil ?_
          with_reducible refine Ex.thn_norm ?_
          with_reducible refine W.ret ?_
          with_reducible refine Ex.thn_ret ?_
          obtain rfl := Option.some.inj hr
          exact ⟨.inr rfl, _, (.cons (.tmp rfl) .nil), ⟨(Ext.st hE0 hS16), rfl⟩⟩
        · replace hr := ite_pos hr hc29
          with_reducible refine W.skip ?_
          with_reducible refine Ex.thn_norm ?_
          with_reducible refine W.seq ?_
          with_reducible refine W.seq ?_
          with_reducible refine W.region ?_
          refine WL.fieldAddr .nil rfl rfl rfl Try.underlying97 rfl info3 rfl rfl ?_
          refine WL.load1 .nil rfl rfl rfl Try.underlying3 rfl rfl ho21 rfl ?_
          refine WL.fieldAddr .nil rfl rfl rfl Try.underlying97 rfl info3 rfl rfl ?_
          refine WL.load1 .nil rfl rfl rfl Try.underlying3 rfl rfl ho17 rfl ?_
          refine WL.bin .nil rfl rfl rfl rfl rfl rfl ?_
          with_reducible refine WL.nil ?_
          with_reducible refine Ex.thn_norm ?_
          refine W.condN rfl (fun hc31 => ?_) (fun hc31 => ?_)
          · replace hr := ite_neg hr hc31
            with_reducible refine W.seq ?_
            with_reducible refine W.region ?_
            refine WL.assign .nil rfl rfl rfl rfl ?_
            with_reducible refine WL.nil ?_
            with_reducible refine Ex.thn_norm ?_
            with_reducible refine W.ret ?_
            with_reducible refine Ex.thn_ret ?_
            obtain rfl := Option.some.inj hr
            exact ⟨.inr rfl, _, (.cons (.tmp rfl) .nil), ⟨(Ext.st hE0 hS16), rfl⟩⟩
          · replace hr := ite_pos hr hc31
            with_reducible refine W.skip ?_
            with_reducible refine Ex.thn_norm ?_
            with_reducible refine W.seq ?_
            with_reducible refine W.seq ?_
            with_reducible refine W.region ?_
            refine WL.fieldAddr .nil rfl rfl rfl Try.underlying97 rfl info3 rfl rfl ?_
            refine WL.load1 .nil rfl rfl rfl Try.underlying3 rfl rfl ho21 rfl ?_
            refine WL.fieldAddr .nil rfl rfl rfl Try.underlying97 rfl info3 rfl rfl ?_
            refine WL.load1 .nil rfl rfl rfl Try.underlying3 rfl rfl ho17 rfl ?_
            refine WL.bin .nil rfl rfl rfl rfl rfl rfl ?_
            with_reducible refine WL.nil ?_
            with_reducible refine Ex.thn_norm ?_
            refine W.condN rfl (fun hc33 => ?_) (fun hc33 => ?_)
            · replace hr := ite_neg hr hc33
              with_reducible refine W.seq ?_
              with_reducible refine W.region ?_
              refine WL.assign .nil rfl rfl rfl rfl ?_
              with_reducible refine WL.nil ?_
              with_reducible refine Ex.thn_norm ?_
              with_reducible refine W.ret ?_
              with_reducible refine Ex.thn_ret ?_
              obtain rfl := Option.some.inj hr
              exact ⟨.inr rfl, _, (.cons (.tmp rfl) .nil), ⟨(Ext.st hE0 hS16), rfl⟩⟩
            · replace hr := ite_pos hr hc33
              with_reducible refine W.skip ?_
              with_reducible refine Ex.thn_norm ?_
              with_reducible refine W.seq ?_
              with_reducible refine W.seq ?_
              with_reducible refine W.region ?_
              refine WL.fieldAddr .nil rfl rfl rfl Try.underlying97 rfl info3 rfl rfl ?_
              refine WL.load1 .nil rfl rfl rfl Try.underlying3 rfl rfl ho21 rfl ?_
              refine WL.fieldAddr .nil rfl rfl rfl Try.underlying97 rfl info3 rfl rfl ?_
              refine WL.load1 .nil rfl rfl rfl Try.underlying3 rfl rfl ho17 rfl ?_
              refine WL.bin .nil rfl rfl rfl rfl rfl rfl ?_
              with_reducible refine WL.nil ?_
              with_reducible refine Ex.thn_norm ?_
              refine W.condN rfl (fun hc35 => ?_) (fun hc35 => ?_)
              · replace hr := ite_neg hr hc35
                with_reducible refine W.seq ?_
                with_reducible refine W.region ?_
                refine WL.assign .nil rfl rfl rfl rfl ?_
                with_reducible refine WL.nil ?_
                with_reducible refine Ex.thn_norm ?_
                with_reducible refine W.ret ?_
                with_reducible refine Ex.thn_ret ?_
                obtain rfl := Option.some.inj hr
                exact ⟨.inr rfl, _, (.cons (.tmp rfl) .nil), ⟨(Ext.st hE0 hS16), rfl⟩⟩
              · replace hr := ite_pos hr hc35
                with_reducible refine W.skip ?_
                with_reducible refine Ex.thn_norm ?_
                with_reducible refine W.seq ?_
                with_reducible refine W.seq ?_
                with_reducible refine W.region ?_
                refine WL.fieldAddr .nil rfl rfl rfl Try.underlying97 rfl info4 rfl rfl ?_
                refine WL.load1 .nil rfl rfl rfl Try.underlying4 rfl rfl ho21 rfl ?_
                refine WL.fieldAddr .nil rfl rfl rfl Try.underlying97 rfl info4 rfl rfl ?_
                refine WL.load1 .nil rfl rfl rfl Try.underlying4 rfl rfl ho17 rfl ?_
                refine WL.eqBool .nil rfl rfl rfl (by decide) Try.underlying4 rfl rfl ?_
                with_reducible refine WL.nil ?_
                with_reducible refine Ex.thn_norm ?_
                refine W.cond rfl (fun hc37 => ?_) (fun hc37 => ?_)
                · replace hr := iteB_pos hr hc37
                  with_reducible refine W.seq ?_
                  with_reducible refine W.region ?_
                  refine WL.assign .nil rfl rfl rfl rfl ?_
                  with_reducible refine WL.nil ?_
                  with_reducible refine Ex.thn_norm ?_
                  with_reducible refine W.ret ?_
                  with_reducible refine Ex.thn_ret ?_
                  obtain rfl := Option.some.inj hr
                  exact ⟨.inr rfl, _, (.cons (.tmp rfl) .nil), ⟨(Ext.st hE0 hS16), rfl⟩⟩
                · replace hr := iteB_neg hr hc37
                  with_reducible refine W.skip ?_
                  with_reducible refine Ex.thn_norm ?_
                  with_reducible refine W.seq ?_
                  with_reducible refine W.seq ?_
                  with_reducible refine W.region ?_
                  refine WL.fieldAddr .nil rfl rfl rfl Try.underlying97 rfl info30 rfl rfl ?_
                  refine WL.load1 .nil rfl rfl rfl Try.underlying30 rfl rfl ho21 rfl ?_
                  refine WL.fieldAddr .nil rfl rfl rfl Try.underlying97 rfl info30 rfl rfl ?_
                  refine WL.load1 .nil rfl rfl rfl Try.underlying30 rfl rfl ho17 rfl ?_
                  obtain ⟨x38, hx38, hr⟩ := bnd_some hr
                  refine GL.callP g.good .nil rfl rfl rfl rfl rfl rfl Try.func50 rfl rfl hS16.lo (f_laws_eqRecS_k  g hS16 h4 h8 hx38) (fun v n39 H40 hn41 hk42 hp43 => ?_)
                  obtain ⟨hS44, rfl⟩ := hp43
                  have ho45 := (hk42 _ (by have := lt14; omega)).trans ho21
                  have ho46 := (hk42 _ (by have := lt20; omega)).trans ho17
                  have hS47 : St n0 n39 H40 F0 := ⟨by have := hS16.lo; omega, hS44.hb, hS44.fh⟩
                  have hlon39 := hS47.lo
                  refine WL.not .nil rfl rfl rfl rfl ?_
                  with_reducible refine WL.nil ?_
                  with_reducible refine Ex.thn_norm ?_
                  refine W.cond rfl (fun hc48 => ?_) (fun hc48 => ?_)
                  · replace hr := iteB_pos hr hc48
                    with_reducible refine W.seq ?_
                    with_reducible refine W.region ?_
                    refine WL.assign .nil rfl rfl rfl rfl ?_
                    with_reducible refine WL.nil ?_
                    with_reducible refine Ex.thn_norm ?_
                    with_reducible refine W.ret ?_
                    with_reducible refine Ex.thn_ret ?_
                    obtain rfl := Option.some.inj hr
                    exact ⟨.inr rfl, _, (.cons (.tmp rfl) .nil), ⟨(Ext.st hE0 hS47), rfl⟩⟩
                  · replace hr := iteB_neg hr hc48
                    with_reducible refine W.skip ?_
                    with_reducible refine Ex.thn_norm ?_
                    with_reducible refine W.seq ?_
                    with_reducible refine W.region ?_
                    refine WL.assign .nil rfl rfl rfl rfl ?_
                    with_reducible refine WL.nil ?_
                    with_reducible refine Ex.thn_norm ?_
                    with_reducible refine W.ret ?_
                    obtain rfl := Option.some.inj hr
                    exact ⟨.inr rfl, _, (.cons (.tmp rfl) .nil), ⟨(Ext.st hE0 hS47), rfl⟩⟩
theorem f_laws_eqMsgS_k {Δ : Prims} (g : Env Try.prog Δ) {lo n0 : Nat} {H0 F0 : Heap} (hS : St lo n0 H0 F0) {a2 : Option Addr} {cap3 : Nat} {xs1 : (List GMsg)} {a6 : Option Addr} {cap7 : Nat} {xs5 : (List GMsg)} (h4 : SR F0 (.slice a2 xs1.length cap3) xs1) (h8 : SR F0 (.slice a6 xs5.length cap7) xs5) {res : (Bool)} (hr : f_laws_eqMsgS xs1 xs5 = some res) :
    C Try.prog Δ n0 63 [.slice a2 xs1.length cap3, .slice a6 xs5.length cap7] n0 H0 (fun v n H => St n0 n H F0 ∧ v = .bool res) := by
  refine C.body Try.func63 rfl rfl ?_
  unfold f_laws_eqMsgS at hr
  have hS0 : St n0 n0 H0 F0 := hS.low (Nat.le_refl _)
  have hE0 := Ext.refl n0 F0
  have hlo0 := hS0.lo
  with_reducible refine W.seq ?_
  with_reducible refine W.region ?_
  refine WL.assign .nil rfl rfl rfl rfl ?_
  with_reducible refine WL.nil ?_
  with_reducible refine Ex.thn_norm ?_
  with_reducible refine W.seq ?_
  with_reducible refine W.seq ?_
  with_reducible refine W.region ?_
  refine WL.move .nil rfl rfl rfl rfl ?_
  refine WL.len .nil rfl rfl rfl Try.underlying29 rfl ?_
  refine WL.move .nil rfl rfl rfl rfl ?_
  refine WL.len .nil rfl rfl rfl Try.underlying29 rfl ?_
  refine WL.bin .nil rfl rfl rfl rfl rfl rfl ?_
  with_reducible refine WL.nil ?_
  with_reducible refine Ex.thn_norm ?_
  refine W.condN rfl (fun hc10 => ?_) (fun hc10 => ?_)
  · replace hr := ite_neg hr hc10
    with_reducible refine W.seq ?_
    with_reducible refine W.region ?_
    refine WL.assign .nil rfl rfl rfl rfl ?_
    with_reducible refine WL.nil ?_
    with_reducible refine Ex.thn_norm ?_
    with_reducible refine W.ret ?_
    with_reducible refine Ex.thn_ret ?_
    obtain rfl := Option.some.inj hr
    exact ⟨.inr rfl, _, (.cons (.tmp rfl) .nil), ⟨(Ext.st hE0 hS0), rfl⟩⟩
  · replace hr := ite_pos hr hc10
    with_reducible refine W.skip ?_
    with_reducible refine Ex.thn_norm ?_
    with_reducible refine W.seq ?_
    with_reducible refine W.seq ?_
    with_reducible refine W.region ?_
    refine WL.assign .nil rfl rfl rfl rfl ?_
    with_reducible refine WL.nil ?_
    with_reducible refine Ex.thn_norm ?_
    with_reducible refine W.block ?_
    refine W.loopF (fun k0 fr n H => ∃ (x163 : Int) (F : Heap), fr = [(0, .slice a2 xs1.length cap3), (1, .slice a6 xs5.length cap7), (5, .int .i64 x163)] ∧ St n0 n H F ∧ Ext n0 F0 n F ∧ SR F (.slice a2 xs1.length cap3) xs1 ∧ SR F (.slice a6 xs5.length cap7) xs5 ∧ f_laws_eqMsgS_L0 xs1 xs5 k0 x163 = some res) BIG (fr0 := [(0, .slice a2 xs1.length cap3), (1, .slice a6 xs5.length cap7), (5, .int .i64 0)]) (Fr.le_cons rfl (Fr.le_cons rfl (Fr.le_cons rfl Fr.le_nil))) ?_ ?_ ?_
    · exact ⟨0, F0, rfl, hS0, hE0, h4, h8, hr⟩
    · intro fr n H hI
      obtain ⟨x163, F158, hfr, hS159, hE160, h161, h162, hr⟩ := hI
      rw [f_laws_eqMsgS_L0] at hr
      cases hr
    · intro k0 _ n156 H157 hI
      obtain ⟨x163, F158, rfl, hS159, hE160, h161, h162, hr⟩ := hI
      have hlen156 := hE160.le
      have hlon156 := hS159.lo
      rw [f_laws_eqMsgS_L0] at hr
      with_reducible refine W.seq ?_
      with_reducible refine W.seq ?_
      with_reducible refine W.region ?_
      refine WL.move .nil rfl rfl rfl rfl ?_
      refine WL.move .nil rfl rfl rfl rfl ?_
      refine WL.len .nil rfl rfl rfl Try.underlying29 rfl ?_
      refine WL.bin .nil rfl rfl rfl rfl rfl rfl ?_
      with_reducible refine WL.nil ?_
      with_reducible refine Ex.thn_norm ?_
      refine W.condD rfl (fun hc165 => ?_) (fun hc165 => ?_)
      · replace hr := ite_pos hr hc165
        with_reducible refine W.skip ?_
        with_reducible refine Ex.thn_norm ?_
        with_reducible refine W.seq ?_
        with_reducible refine W.block ?_
        with_reducible refine W.seq ?_
        refine W.regionD [0, 1, 2, 3, 4, 5, 6, 7, 8, 9] [false, false, false, false, false, false, false, false, false, false] rfl rfl (by kernel_rfl) (by kernel_rfl) (by (conv => lhs; simp only [List.map_cons, List.map_nil, List.getD_cons_zero, List.getD_cons_succ]) <;> rfl) ?_
        refine WL.move .r rfl rfl rfl rfl ?_
        refine WL.move .r rfl rfl rfl rfl ?_
        obtain ⟨x197, hx197, hr⟩ := bnd_some hr
        refine GL.index .r rfl rfl rfl Try.underlying29 info97 rfl rfl h161 hS159.fh rfl hx197 (fun b198 kp199 c200 ecs201 hrow202 hwin203 hR204 => ?_)
        obtain ⟨a205, cap206, rfl, h207⟩ := GMsg.ofR hR204
        refine WL.loadN .r (l' := [.int .i64 x197.Kind, .int .i64 x197.From, .int .i64 x197.To, .int .i64 x197.Term, .int .i64 x197.A, .int .i64 x197.B, .int .i64 x197.C, .bool x197.Ok, .slice a205 x197.Log.length cap206]) rfl rfl rfl Try.underlying97 rfl info97 rfl hrow202 hwin203 rfl ?_
        refine WL.move .r rfl rfl rfl rfl ?_
        refine WL.move .r rfl rfl rfl rfl ?_
        obtain ⟨x208, hx208, hr⟩ := bnd_some hr
        refine GL.index .r rfl rfl rfl Try.underlying29 info97 rfl rfl h162 hS159.fh rfl hx208 (fun b209 kp210 c211 ecs212 hrow213 hwin214 hR215 => ?_)
        obtain ⟨a216, cap217, rfl, h218⟩ := GMsg.ofR hR215
        refine WL.loadN .r (l' := [.int .i64 x208.Kind, .int .i64 x208.From, .int .i64 x208.To, .int .i64 x208.Term, .int .i64 x208.A, .int .i64 x208.B, .int .i64 x208.C, .bool x208.Ok, .slice a216 x208.Log.length cap217]) rfl rfl rfl Try.underlying97 rfl info97 rfl hrow213 hwin214 rfl ?_
        obtain ⟨x219, hx219, hr⟩ := bnd_some hr
        refine GL.callP g.good .r rfl rfl rfl rfl rfl rfl Try.func101 rfl rfl (Nat.le_refl _) (f_laws_eqMsg_k  g hS159 h207 h218 hx219) (fun v n220 H221 hn222 hk223 hp224 => ?_)
        obtain ⟨hS225, rfl⟩ := hp224
        have hS226 : St n0 n220 H221 F158 := ⟨by have := hS159.lo; omega, hS225.hb, hS225.fh⟩
        have hlon220 := hS226.lo
        refine WL.not .r rfl rfl rfl rfl ?_
        with_reducible refine WL.nil ?_
        with_reducible refine Ex.thn_norm ?_
        refine W.cond rfl (fun hc227 => ?_) (fun hc227 => ?_)
        · replace hr := iteB_pos hr hc227
          with_reducible refine W.seq ?_
          with_reducible refine W.region ?_
          refine WL.assign .nil rfl rfl rfl rfl ?_
          with_reducible refine WL.nil ?_
          with_reducible refine Ex.thn_norm ?_
          with_reducible refine W.ret ?_
          with_reducible refine Ex.blk_ret ?_
          with_reducible refine Ex.thn_ret ?_
          with_reducible refine Ex.thn_ret ?_
          with_reducible refine Ex.blk_ret ?_
          with_reducible refine Ex.thn_ret ?_
          obtain rfl := Option.some.inj hr
          exact ⟨.inr rfl, _, (.cons (.tmp rfl) .nil), ⟨(Ext.st hE160 hS226), rfl⟩⟩
        · replace hr := iteB_neg hr hc227
          with_reducible refine W.skip ?_
          with_reducible refine Ex.blk_norm ?_
          with_reducible refine Ex.thn_norm ?_
          with_reducible refine W.region ?_
          refine WL.move .nil rfl rfl rfl rfl ?_
          obtain ⟨hc228, hr⟩ := chk_some hr
          refine WL.addI .nil rfl rfl rfl rfl rfl hc228.1 hc228.2 ?_
          refine WL.assign .nil rfl rfl rfl rfl ?_
          with_reducible refine WL.nil ?_
          with_reducible refine Ex.thn_norm ?_
          exact ⟨[(0, .slice a2 xs1.length cap3), (1, .slice a6 xs5.length cap7), (5, .int .i64 (x163 + 1))], (Fr.le_cons rfl (Fr.le_cons rfl (Fr.le_cons rfl Fr.le_nil))), (x163 + 1), F158, rfl, hS226, (hE160.up (by omega)), h161, h162, hr⟩
      · replace hr := ite_neg hr hc165
        with_reducible refine W.exit ?_
        with_reducible refine Ex.thn_ex ?_
        with_reducible refine Ex.thn_ex ?_
        with_reducible refine Ex.blk_here ?_
        with_reducible refine Ex.thn_norm ?_
        with_reducible refine W.seq ?_
        with_reducible refine W.region ?_
        refine WL.assign .nil rfl rfl rfl rfl ?_
        with_reducible refine WL.nil ?_
        with_reducible refine Ex.thn_norm ?_
        with_reducible refine W.ret ?_
        obtain rfl := Option.some.inj hr
        exact ⟨.inr rfl, _, (.cons (.tmp rfl) .nil), ⟨(Ext.st hE160 hS159), rfl⟩⟩
theorem f_laws_eqCluster_k {Δ : Prims} (g : Env Try.prog Δ) {lo n0 : Nat} {H0 F0 : Heap} (hS : St lo n0 H0 F0) {x1 : GCluster} {a2 : Option Addr} {cap3 : Nat} {a5 : Option Addr} {cap6 : Nat} {a8 : Option Addr} {cap9 : Nat} {x11 : GCluster} {a12 : Option Addr} {cap13 : Nat} {a15 : Option Addr} {cap16 : Nat} {a18 : Option Addr} {cap19 : Nat} (h4 : SR F0 (.slice a2 x1.Peers.length cap3) x1.Peers) (h7 : SR F0 (.slice a5 x1.Net.length cap6) x1.Net) (h10 : SR F0 (.slice a8 x1.Chosen.length cap9) x1.Chosen) (h14 : SR F0 (.slice a12 x11.Peers.length cap13) x11.Peers) (h17 : SR F0 (.slice a15 x11.Net.length cap16) x11.Net) (h20 : SR F0 (.slice a18 x11.Chosen.length cap19) x11.Chosen) {res : (Bool)} (hr : f_laws_eqCluster x1 x11 = some res) :
    C Try.prog Δ n0 30 [.agg [.slice a2 x1.Peers.length cap3, .slice a5 x1.Net.length cap6, .slice a8 x1.Chosen.length cap9, .bool x1.Conflict].toArray, .agg [.slice a12 x11.Peers.length cap13, .slice a15 x11.Net.length cap16, .slice a18 x11.Chosen.length cap19, .bool x11.Conflict].toArray] n0 H0 (fun v n H => St n0 n H F0 ∧ v = .bool res) := by
  refine C.body Try.func30 rfl rfl ?_
  unfold f_laws_eqCluster at hr
  have hS0 : St n0 n0 H0 F0 := hS.low (Nat.le_refl _)
  have hE0 := Ext.refl n0 F0
  have hlo0 := hS0.lo
  with_reducible refine W.seq ?_
  with_reducible refine W.region ?_
  refine GL.box hS0 .nil (vc := [.slice a2 x1.Peers.length cap3, .slice a5 x1.Net.length cap6, .slice a8 x1.Chosen.length cap9, .bool x1.Conflict]) rfl rfl rfl rfl rfl (by repeat' (first | exact List.forall_mem_nil _ | refine List.forall_mem_cons.2 ⟨?_, ?_⟩ | rfl)) (fun H21 hS22 ho23 hk24 => ?_)
  have fo25 := hS0.fnone (Nat.le_refl _)
  have hlon01 := hS22.lo
  have lt26 : n0 < (n0 + 1) := by omega
  refine GL.box hS22 .nil (vc := [.slice a12 x11.Peers.length cap13, .slice a15 x11.Net.length cap16, .slice a18 x11.Chosen.length cap19, .bool x11.Conflict]) rfl rfl rfl rfl rfl (by repeat' (first | exact List.forall_mem_nil _ | refine List.forall_mem_cons.2 ⟨?_, ?_⟩ | rfl)) (fun H27 hS28 ho29 hk30 => ?_)
  have fo31 := hS22.fnone (Nat.le_refl _)
  have ho33 := (hk30 _ (by have := lt26; omega)).trans ho23
  have hlon011 := hS28.lo
  have lt32 : (n0 + 1) < ((n0 + 1) + 1) := by omega
  refine WL.assign .nil rfl rfl rfl rfl ?_
  with_reducible refine WL.nil ?_
  with_reducible refine Ex.thn_norm ?_
  with_reducible refine W.seq ?_
  with_reducible refine W.seq ?_
  with_reducible refine W.region ?_
  refine WL.fieldAddr .nil rfl rfl rfl Try.underlying32 rfl info28 rfl rfl ?_
  refine WL.load1 .nil rfl rfl rfl Try.underlying28 rfl rfl ho33 rfl ?_
  refine WL.fieldAddr .nil rfl rfl rfl Try.underlying32 rfl info28 rfl rfl ?_
  refine WL.load1 .nil rfl rfl rfl Try.underlying28 rfl rfl ho29 rfl ?_
  obtain ⟨x34, hx34, hr⟩ := bnd_some hr
  refine GL.callP g.good .nil rfl rfl rfl rfl rfl rfl Try.func62 rfl rfl hS28.lo (f_laws_eqPeerS_k  g hS28 h4 h14 hx34) (fun v n35 H36 hn37 hk38 hp39 => ?_)
  obtain ⟨hS40, rfl⟩ := hp39
  have ho41 := (hk38 _ (by have := lt26; omega)).trans ho33
  have ho42 := (hk38 _ (by have := lt32; omega)).trans ho29
  have hS43 : St n0 n35 H36 F0 := ⟨by have := hS28.lo; omega, hS40.hb, hS40.fh⟩
  have hlon35 := hS43.lo
  refine WL.not .nil rfl rfl rfl rfl ?_
  with_reducible refine WL.nil ?_
  with_reducible refine Ex.thn_norm ?_
  refine W.cond rfl (fun hc45 => ?_) (fun hc45 => ?_)
  · replace hr := iteB_pos hr hc45
    with_reducible refine W.seq ?_
    with_reducible refine W.region ?_
    refine WL.assign .nil rfl rfl rfl rfl ?_
    with_reducible refine WL.nil ?_
    with_reducible refine Ex.thn_norm ?_
    with_reducible refine W.ret ?_
    with_reducible refine Ex.thn_ret ?_
    obtain rfl := Option.some.inj hr
    exact ⟨.inr rfl, _, (.cons (.tmp rfl) .nil), ⟨(Ext.st hE0 hS43), rfl⟩⟩
  · replace hr := iteB_neg hr hc45
    with_reducible refine W.skip ?_
    with_reducible refine Ex.thn_norm ?_
    with_reducible refine W.seq ?_
    with_reducible refine W.seq ?_
    with_reducible refine W.region ?_
    refine WL.fieldAddr .nil rfl rfl rfl Try.underlying32 rfl info29 rfl rfl ?_
    refine WL.load1 .nil rfl rfl rfl Try.underlying29 rfl rfl ho41 rfl ?_
    refine WL.fieldAddr .nil rfl rfl rfl Try.underlying32 rfl info29 rfl rfl ?_
    refine WL.load1 .nil rfl rfl rfl Try.underlying29 rfl rfl ho42 rfl ?_
    obtain ⟨x46, hx46, hr⟩ := bnd_some hr
    refine GL.callP g.good .nil rfl rfl rfl rfl rfl rfl Try.func63 rfl rfl hS43.lo (f_laws_eqMsgS_k  g hS43 h7 h17 hx46) (fun v n47 H48 hn49 hk50 hp51 => ?_)
    obtain ⟨hS52, rfl⟩ := hp51
    have ho53 := (hk50 _ (by have := lt26; omega)).trans ho41
    have ho54 := (hk50 _ (by have := lt32; omega)).trans ho42
    have hS55 : St n0 n47 H48 F0 := ⟨by have := hS43.lo; omega, hS52.hb, hS52.fh⟩
    have hlon47 := hS55.lo
    refine WL.not .nil rfl rfl rfl rfl ?_
    with_reducible refine WL.nil ?_
    with_reducible refine Ex.thn_norm ?_
    refine W.cond rfl (fun hc57 => ?_) (fun hc57 => ?_)
    · replace hr := iteB_pos hr hc57
      with_reducible refine W.seq ?_
      with_reducible refine W.region ?_
      refine WL.assign .nil rfl rfl rfl rfl ?_
      with_reducible refine WL.nil ?_
      with_reducible refine Ex.thn_norm ?_
      with_reducible refine W.ret ?_
      with_reducible refine Ex.thn_ret ?_
      obtain rfl := Option.some.inj hr
      exact ⟨.inr rfl, _, (.cons (.tmp rfl) .nil), ⟨(Ext.st hE0 hS55), rfl⟩⟩
    · replace hr := iteB_neg hr hc57
      with_reducible refine W.skip ?_
      with_reducible refine Ex.thn_norm ?_
      with_reducible refine W.seq ?_
      with_reducible refine W.seq ?_
      with_reducible refine W.region ?_
      refine WL.fieldAddr .nil rfl rfl rfl Try.underlying32 rfl info30 rfl rfl ?_
      refine WL.load1 .nil rfl rfl rfl Try.underlying30 rfl rfl ho53 rfl ?_
      refine WL.fieldAddr .nil rfl rfl rfl Try.underlying32 rfl info30 rfl rfl ?_
      refine WL.load1 .nil rfl rfl rfl Try.underlying30 rfl rfl ho54 rfl ?_
      obtain ⟨x58, hx58, hr⟩ := bnd_some hr
      refine GL.callP g.good .nil rfl rfl rfl rfl rfl rfl Try.func50 rfl rfl hS55.lo (f_laws_eqRecS_k  g hS55 h10 h20 hx58) (fun v n59 H60 hn61 hk62 hp63 => ?_)
      obtain ⟨hS64, rfl⟩ := hp63
      have ho65 := (hk62 _ (by have := lt26; omega)).trans ho53
      have ho66 := (hk62 _ (by have := lt32; omega)).trans ho54
      have hS67 : St n0 n59 H60 F0 := ⟨by have := hS55.lo; omega, hS64.hb, hS64.fh⟩
      have hlon59 := hS67.lo
      refine WL.not .nil rfl rfl rfl rfl ?_
      with_reducible refine WL.nil ?_
      with_reducible refine Ex.thn_norm ?_
      refine W.cond rfl (fun hc69 => ?_) (fun hc69 => ?_)
      · replace hr := iteB_pos hr hc69
        with_reducible refine W.seq ?_
        with_reducible refine W.region ?_
        refine WL.assign .nil rfl rfl rfl rfl ?_
        with_reducible refine WL.nil ?_
        with_reducible refine Ex.thn_norm ?_
        with_reducible refine W.ret ?_
        with_reducible refine Ex.thn_ret ?_
        obtain rfl := Option.some.inj hr
        exact ⟨.inr rfl, _, (.cons (.tmp rfl) .nil), ⟨(Ext.st hE0 hS67), rfl⟩⟩
      · replace hr := iteB_neg hr hc69
        with_reducible refine W.skip ?_
        with_reducible refine Ex.thn_norm ?_
        with_reducible refine W.seq ?_
        with_reducible refine W.seq ?_
        with_reducible refine W.region ?_
        refine WL.fieldAddr .nil rfl rfl rfl Try.underlying32 rfl info4 rfl rfl ?_
        refine WL.load1 .nil rfl rfl rfl Try.underlying4 rfl rfl ho65 rfl ?_
        refine WL.fieldAddr .nil rfl rfl rfl Try.underlying32 rfl info4 rfl rfl ?_
        refine WL.load1 .nil rfl rfl rfl Try.underlying4 rfl rfl ho66 rfl ?_
        refine WL.eqBool .nil rfl rfl rfl (by decide) Try.underlying4 rfl rfl ?_
        with_reducible refine WL.nil ?_
        with_reducible refine Ex.thn_norm ?_
        refine W.cond rfl (fun hc70 => ?_) (fun hc70 => ?_)
        · replace hr := iteB_pos hr hc70
          with_reducible refine W.seq ?_
          with_reducible refine W.region ?_
          refine WL.assign .nil rfl rfl rfl rfl ?_
          with_reducible refine WL.nil ?_
          with_reducible refine Ex.thn_norm ?_
          with_reducible refine W.ret ?_
          with_reducible refine Ex.thn_ret ?_
          obtain rfl := Option.some.inj hr
          exact ⟨.inr rfl, _, (.cons (.tmp rfl) .nil), ⟨(Ext.st hE0 hS67), rfl⟩⟩
        · replace hr := iteB_neg hr hc70
          with_reducible refine W.skip ?_
          with_reducible refine Ex.thn_norm ?_
          with_reducible refine W.seq ?_
          with_reducible refine W.region ?_
          refine WL.assign .nil rfl rfl rfl rfl ?_
          with_reducible refine WL.nil ?_
          with_reducible refine Ex.thn_norm ?_
          with_reducible refine W.ret ?_
          obtain rfl := Option.some.inj hr
          exact ⟨.inr rfl, _, (.cons (.tmp rfl) .nil), ⟨(Ext.st hE0 hS67), rfl⟩⟩
theorem f_laws_FnExactAgree_k {Δ : Prims} (g : Env Try.prog Δ) {lo n0 : Nat} {H0 F0 : Heap} (hS : St lo n0 H0 F0) {x1 : GCluster} {a2 : Option Addr} {cap3 : Nat} {a5 : Option Addr} {cap6 : Nat} {a8 : Option Addr} {cap9 : Nat} (h4 : SR F0 (.slice a2 x1.Peers.length cap3) x1.Peers) (h7 : SR F0 (.slice a5 x1.Net.length cap6) x1.Net) (h10 : SR F0 (.slice a8 x1.Chosen.length cap9) x1.Chosen) {res : (Bool)} (hr : f_laws_FnExactAgree x1 = some res) :
    C Try.prog Δ n0 8 [.agg [.slice a2 x1.Peers.length cap3, .slice a5 x1.Net.length cap6, .slice a8 x1.Chosen.length cap9, .bool x1.Conflict].toArray] n0 H0 (fun v n H => St n0 n H F0 ∧ v = .bool res) := by
  refine C.body Try.func8 rfl rfl ?_
  unfold f_laws_FnExactAgree at hr
  have hS0 : St n0 n0 H0 F0 := hS.low (Nat.le_refl _)
  have hE0 := Ext.refl n0 F0
  have hlo0 := hS0.lo
  with_reducible refine W.seq ?_
  with_reducible refine W.region ?_
  refine GL.box hS0 .nil (vc := [.slice a2 x1.Peers.length cap3, .slice a5 x1.Net.length cap6, .slice a8 x1.Chosen.length cap9, .bool x1.Conflict]) rfl rfl rfl rfl rfl (by repeat' (first | exact List.forall_mem_nil _ | refine List.forall_mem_cons.2 ⟨?_, ?_⟩ | rfl)) (fun H11 hS12 ho13 hk14 => ?_)
  have fo15 := hS0.fnone (Nat.le_refl _)
  have hlon01 := hS12.lo
  have lt16 : n0 < (n0 + 1) := by omega
  refine WL.assign .nil rfl rfl rfl rfl ?_
  with_reducible refine WL.nil ?_
  with_reducible refine Ex.thn_norm ?_
  with_reducible refine W.seq ?_
  with_reducible refine W.region ?_
  refine WL.assign .nil rfl rfl rfl rfl ?_
  with_reducible refine WL.nil ?_
  with_reducible refine Ex.thn_norm ?_
  with_reducible refine W.seq ?_
  with_reducible refine W.region ?_
  refine WL.loadN .nil (l' := [.slice a2 x1.Peers.length cap3, .slice a5 x1.Net.length cap6, .slice a8 x1.Chosen.length cap9, .bool x1.Conflict]) rfl rfl rfl Try.underlying59 rfl info59 rfl ho13 rfl rfl ?_
  refine WL.move .nil rfl rfl rfl rfl ?_
  obtain ⟨x17, hx17, hr⟩ := bnd_some hr
  refine GL.callP g.good .nil rfl rfl rfl rfl rfl rfl Try.func26 rfl rfl hS12.lo (f_laws_szCluster_k  g hS12 h4 h7 h10 hx17) (fun v n18 H19 hn20 hk21 hp22 => ?_)
  obtain ⟨hS23, rfl⟩ := hp22
  have ho24 := (hk21 _ (by have := lt16; omega)).trans ho13
  have hS25 : St n0 n18 H19 F0 := ⟨by have := hS12.lo; omega, hS23.hb, hS23.fh⟩
  have hlon18 := hS25.lo
  refine WL.assign .nil rfl rfl rfl rfl ?_
  with_reducible refine WL.nil ?_
  with_reducible refine Ex.thn_norm ?_
  with_reducible refine W.seq ?_
  with_reducible refine W.seq ?_
  with_reducible refine W.region ?_
  refine WL.move .nil rfl rfl rfl rfl ?_
  refine WL.bin .nil rfl rfl rfl rfl rfl rfl ?_
  with_reducible refine WL.nil ?_
  with_reducible refine Ex.thn_norm ?_
  refine W.condD rfl (fun hc27 => ?_) (fun hc27 => ?_)
  · replace hr := ite_pos hr hc27
    with_reducible refine W.seq ?_
    with_reducible refine W.region ?_
    refine WL.assign .nil rfl rfl rfl rfl ?_
    with_reducible refine WL.nil ?_
    with_reducible refine Ex.thn_norm ?_
    with_reducible refine W.ret ?_
    with_reducible refine Ex.thn_ret ?_
    obtain rfl := Option.some.inj hr
    exact ⟨.inr rfl, _, (.cons (.tmp rfl) .nil), ⟨(Ext.st hE0 hS25), rfl⟩⟩
  · replace hr := ite_neg hr hc27
    with_reducible refine W.skip ?_
    with_reducible refine Ex.thn_norm ?_
    with_reducible refine W.seq ?_
    with_reducible refine W.region ?_
    refine WL.loadN .nil (l' := [.slice a2 x1.Peers.length cap3, .slice a5 x1.Net.length cap6, .slice a8 x1.Chosen.length cap9, .bool x1.Conflict]) rfl rfl rfl Try.underlying59 rfl info59 rfl ho24 rfl rfl ?_
    obtain ⟨x28, hx28, hr⟩ := bnd_some hr
    refine GL.callP g.good .nil rfl rfl rfl rfl rfl rfl Try.func28 rfl rfl hS25.lo (f_laws_toCluster_k  g hS25 h4 h7 h10 hx28) (fun v n29 H30 hn31 hk32 hp33 => ?_)
    obtain ⟨F44, a34, cap35, a37, cap38, a40, cap41, hX45, hS43, rfl, h36, h39, h42⟩ := hp33
    have ho46 := (hk32 _ (by have := lt16; omega)).trans ho24
    have hS47 : St n0 n29 H30 F44 := ⟨by have := hS25.lo; omega, hS43.hb, hS43.fh⟩
    have fo48 := (hX45.eq _ (by have := lt16; omega)).trans fo15
    have hE49 := (hE0.up (n' := n18) (by omega)).trans hX45
    have hlon29 := hS47.lo
    obtain ⟨x50, hx50, hr⟩ := bnd_some hr
    refine GL.callP g.good .nil rfl rfl rfl rfl rfl rfl Try.func27 rfl rfl hS47.lo (f_spec_Agree_k  g hS47 h36 h39 h42 hx50) (fun v n51 H52 hn53 hk54 hp55 => ?_)
    obtain ⟨hS56, rfl⟩ := hp55
    have ho57 := (hk54 _ (by have := lt16; omega)).trans ho46
    have hS58 : St n0 n51 H52 F44 := ⟨by have := hS47.lo; omega, hS56.hb, hS56.fh⟩
    have hlon51 := hS58.lo
    refine WL.assign .nil rfl rfl rfl rfl ?_
    with_reducible refine WL.nil ?_
    with_reducible refine Ex.thn_norm ?_
    with_reducible refine W.seq ?_
    with_reducible refine W.region ?_
    refine WL.loadN .nil (l' := [.slice a2 x1.Peers.length cap3, .slice a5 x1.Net.length cap6, .slice a8 x1.Chosen.length cap9, .bool x1.Conflict]) rfl rfl rfl Try.underlying59 rfl info59 rfl ho57 rfl rfl ?_
    obtain ⟨x59, hx59, hr⟩ := bnd_some hr
    refine GL.callP g.good .nil rfl rfl rfl rfl rfl rfl Try.func28 rfl rfl hS58.lo (f_laws_toCluster_k  g hS58 (h4.mono hX45.sub) (h7.mono hX45.sub) (h10.mono hX45.sub) hx59) (fun v n60 H61 hn62 hk63 hp64 => ?_)
    obtain ⟨F75, a65, cap66, a68, cap69, a71, cap72, hX76, hS74, rfl, h67, h70, h73⟩ := hp64
    have ho77 := (hk63 _ (by have := lt16; omega)).trans ho57
    have hS78 : St n0 n60 H61 F75 := ⟨by have := hS58.lo; omega, hS74.hb, hS74.fh⟩
    have fo79 := (hX76.eq _ (by have := lt16; omega)).trans fo48
    have hE80 := (hE49.up (n' := n51) (by omega)).trans hX76
    have hlon60 := hS78.lo
    refine GL.alloc hS78 .nil (zc := [.slice none 0 0, .slice none 0 0, .slice none 0 0, .bool false]) rfl rfl rfl info32 rfl rfl rfl (fun H81 hS82 ho83 hk84 => ?_)
    have fo85 := hS78.fnone (Nat.le_refl _)
    have ho87 := (hk84 _ (by have := lt16; omega)).trans ho77
    have hlon601 := hS82.lo
    have lt86 : n60 < (n60 + 1) := by omega
    refine GL.store hS82 .nil (vc := [.slice a65 x59.Peers.length cap66, .slice a68 x59.Net.length cap69, .slice a71 x59.Chosen.length cap72, .bool x59.Conflict]) (c' := [.slice a65 x59.Peers.length cap66, .slice a68 x59.Net.length cap69, .slice a71 x59.Chosen.length cap72, .bool x59.Conflict]) rfl rfl rfl info32 rfl rfl rfl rfl ho83 fo85 (Nat.le_of_ble_eq_true rfl) (by omega) (by repeat' (first | exact List.forall_mem_nil _ | refine List.forall_mem_cons.2 ⟨?_, ?_⟩ | rfl)) rfl (fun H88 hS89 ho90 hk91 => ?_)
    have ho92 := (hk91 _ (by omega)).trans ho87
    with_reducible refine WL.nil ?_
    with_reducible refine Ex.thn_norm ?_
    with_reducible refine W.seq ?_
    with_reducible refine W.region ?_
    refine WL.loadN .nil (l' := [.slice a65 x59.Peers.length cap66, .slice a68 x59.Net.length cap69, .slice a71 x59.Chosen.length cap72, .bool x59.Conflict]) rfl rfl rfl Try.underlying32 rfl info32 rfl ho90 rfl rfl ?_
    obtain ⟨x93, hx93, hr⟩ := bnd_some hr
    refine GL.callP g.good .nil rfl rfl rfl rfl rfl rfl Try.func29 rfl rfl hS89.lo (f_impl_Agree_k  g hS89 h67 h70 h73 hx93) (fun v n94 H95 hn96 hk97 hp98 => ?_)
    obtain ⟨hS99, rfl⟩ := hp98
    have ho100 := (hk97 _ (by have := lt16; omega)).trans ho92
    have ho101 := (hk97 _ (by have := lt86; omega)).trans ho90
    have hS102 : St n0 n94 H95 F75 := ⟨by have := hS89.lo; omega, hS99.hb, hS99.fh⟩
    have hlon94 := hS102.lo
    refine WL.assign .nil rfl rfl rfl rfl ?_
    with_reducible refine WL.nil ?_
    with_reducible refine Ex.thn_norm ?_
    with_reducible refine W.seq ?_
    with_reducible refine W.seq ?_
    with_reducible refine W.region ?_
    refine WL.move .nil rfl rfl rfl rfl ?_
    refine WL.move .nil rfl rfl rfl rfl ?_
    refine WL.eqBool .nil rfl rfl rfl (by decide) Try.underlying4 rfl rfl ?_
    with_reducible refine WL.nil ?_
    with_reducible refine Ex.thn_norm ?_
    refine W.cond rfl (fun hc104 => ?_) (fun hc104 => ?_)
    · replace hr := iteB_pos hr hc104
      with_reducible refine W.seq ?_
      with_reducible refine W.region ?_
      refine WL.assign .nil rfl rfl rfl rfl ?_
      with_reducible refine WL.nil ?_
      with_reducible refine Ex.thn_norm ?_
      with_reducible refine W.ret ?_
      with_reducible refine Ex.thn_ret ?_
      obtain rfl := Option.some.inj hr
      exact ⟨.inr rfl, _, (.cons (.tmp rfl) .nil), ⟨(Ext.st hE80 hS102), rfl⟩⟩
    · replace hr := iteB_neg hr hc104
      with_reducible refine W.skip ?_
      with_reducible refine Ex.thn_norm ?_
      with_reducible refine W.seq ?_
      with_reducible refine W.seq ?_
      refine W.regionD [0, 1, 2, 3, 4] [false, false, false, false, false] rfl rfl (by kernel_rfl) (by kernel_rfl) (by (conv => lhs; simp only [List.map_cons, List.map_nil, List.getD_cons_zero, List.getD_cons_succ]) <;> rfl) ?_
      refine WL.loadN .r (l' := [.slice a65 x59.Peers.length cap66, .slice a68 x59.Net.length cap69, .slice a71 x59.Chosen.length cap72, .bool x59.Conflict]) rfl rfl rfl Try.underlying32 rfl info32 rfl ho101 rfl rfl ?_
      refine WL.loadN .r (l' := [.slice a2 x1.Peers.length cap3, .slice a5 x1.Net.length cap6, .slice a8 x1.Chosen.length cap9, .bool x1.Conflict]) rfl rfl rfl Try.underlying59 rfl info59 rfl ho100 rfl rfl ?_
      obtain ⟨x105, hx105, hr⟩ := bnd_some hr
      refine GL.callP g.good .r rfl rfl rfl rfl rfl rfl Try.func28 rfl rfl (Nat.le_refl _) (f_laws_toCluster_k  g hS102 ((h4.mono hX45.sub).mono hX76.sub) ((h7.mono hX45.sub).mono hX76.sub) ((h10.mono hX45.sub).mono hX76.sub) hx105) (fun v n106 H107 hn108 hk109 hp110 => ?_)
      obtain ⟨F121, a111, cap112, a114, cap115, a117, cap118, hX122, hS120, rfl, h113, h116, h119⟩ := hp110
      have ho123 := (hk109 _ (by have := lt16; omega)).trans ho100
      have ho124 := (hk109 _ (by have := lt86; omega)).trans ho101
      have hS125 : St n0 n106 H107 F121 := ⟨by have := hS102.lo; omega, hS120.hb, hS120.fh⟩
      have fo126 := (hX122.eq _ (by have := lt16; omega)).trans fo79
      have fo127 := (hX122.eq _ (by have := lt86; omega)).trans fo85
      have hE128 := (hE80.up (n' := n94) (by omega)).trans hX122
      have hlon106 := hS125.lo
      obtain ⟨x129, hx129, hr⟩ := bnd_some hr
      refine GL.callP g.good .r rfl rfl rfl rfl rfl rfl Try.func30 rfl rfl (Nat.le_refl _) (f_laws_eqCluster_k  g hS125 (h67.mono hX122.sub) (h70.mono hX122.sub) (h73.mono hX122.sub) h113 h116 h119 hx129) (fun v n130 H131 hn132 hk133 hp134 => ?_)
      obtain ⟨hS135, rfl⟩ := hp134
      have ho136 := (hk133 _ (by have := lt16; omega)).trans ho123
      have ho137 := (hk133 _ (by have := lt86; omega)).trans ho124
      have hS138 : St n0 n130 H131 F121 := ⟨by have := hS125.lo; omega, hS135.hb, hS135.fh⟩
      have hlon130 := hS138.lo
      refine WL.not .r rfl rfl rfl rfl ?_
      with_reducible refine WL.nil ?_
      with_reducible refine Ex.thn_norm ?_
      refine W.cond rfl (fun hc139 => ?_) (fun hc139 => ?_)
      · replace hr := iteB_pos hr hc139
        with_reducible refine W.seq ?_
        with_reducible refine W.region ?_
        refine WL.assign .nil rfl rfl rfl rfl ?_
        with_reducible refine WL.nil ?_
        with_reducible refine Ex.thn_norm ?_
        with_reducible refine W.ret ?_
        with_reducible refine Ex.thn_ret ?_
        obtain rfl := Option.some.inj hr
        exact ⟨.inr rfl, _, (.cons (.tmp rfl) .nil), ⟨(Ext.st hE128 hS138), rfl⟩⟩
      · replace hr := iteB_neg hr hc139
        with_reducible refine W.skip ?_
        with_reducible refine Ex.thn_norm ?_
        with_reducible refine W.seq ?_
        with_reducible refine W.region ?_
        refine WL.assign .nil rfl rfl rfl rfl ?_
        with_reducible refine WL.nil ?_
        with_reducible refine Ex.thn_norm ?_
        with_reducible refine W.ret ?_
        obtain rfl := Option.some.inj hr
        exact ⟨.inr rfl, _, (.cons (.tmp rfl) .nil), ⟨(Ext.st hE128 hS138), rfl⟩⟩
end Go.Proofs.YtbdebjoagckcpaaAb
