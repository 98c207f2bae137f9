import Derived.Test.YtlpcdcpcfeaecaaG03
set_option linter.all false
section
set_option maxRecDepth 20000
namespace Go.Proofs.YtlpcdcpcfeaecaaAb
open Go Go.Proofs
theorem v3nzk {Δ : Prims} (g : Env Try.prog Δ) {Ar : List Item} {x1 : GL} {q1 : Nat} {w1 w2 w3 : Value} {x2 x3 : Int} {res : (GL)} (hr : v3nz x1 x2 x3 = some res) :
    Sp Try.prog Δ 107 [pt q1 0, iv x2, iv x3] (box q1 [w1, w2, w3, .bool x1.c.Conflict] :: ow rGPeer w1 x1.c.Peers :: ow (rC GM) w2 x1.c.Net :: ow (rC GR) w3 x1.c.Chosen :: Ar) (fun v A => ∃ (rw1 : Value) (rw2 : Value), v = .tuple #[] ∧ A = box q1 [w1, rw1, rw2, .bool res.c.Conflict] :: ow rGPeer w1 res.c.Peers :: ow (rC GM) rw1 res.c.Net :: ow (rC GR) rw2 res.c.Chosen :: Ar) := by
 refine Sp.bd Try.func107 rfl rfl ?_
 unfold v3nz at hr
 refine T.q (T.r (TL.mv rfl (TL.nc rfl (TL.fa rfl (TL.fa rfl (TL.ld rfl a0 rfl (TL.mv rfl ?_)))))))
 obtain ⟨x4, hx1, hr⟩ := bS hr
 refine TL.ixu rfl a1 hx1 (fun b1 el1 hp1 => ?_)
 refine TL.gh (.sl (.p p1 .e)) ?_
 refine GP.foD hp1 hx1 (fun w4 w5 w6 w7 => ?_)
 refine TL.ldfN rfl a0 rfl rfl ?_
 refine TL.al rfl (fun q2 => ?_)
 refine TL.sto (c' := [.bool x4.Up, iv x4.Term, iv x4.Vote, iv x4.Commit, iv x4.Role, w4, w5, w6, w7]) rfl rfl rfl (.s rfl (.s rfl (.s rfl (.s rfl (.s rfl (.h a2 inferInstance (.h a3 inferInstance (.h a4 inferInstance (.h a5 inferInstance .n))))))))) e0 rfl (bl rfl) (T.nil (T.m (T.q (T.r (TL.fa rfl (TL.ld rfl a0 rfl (TL.mv rfl ?_)))))))
 obtain ⟨x5, hx2, hr⟩ := bS hr
 refine TL.ixu rfl a4 hx2 (fun b2 e88 hp2 => ?_)
 refine TL.ldek (m := 0) rfl a4 hp2 hx2 Rp.sc rfl (TL.a rfl (T.nil (T.m (T.q (T.r ?_)))))
 refine TL.lit (α := GR) rfl rfl rfl rfl ([] : List GR) (fun _ _ _ _ _ => RA.nil) (fun w8 => ?_)
 refine TL.a rfl (T.nil (T.m (T.q (T.q (T.r (TL.mv rfl (TL.a rfl (T.nil (T.m ?_)))))))))
 refine T.b ?_
 refine T.lp (fun k0 fr A => ∃ (xs1 : (List GR)) (x6 : Int) (w9 : Value), fr = [(0, pt q1 0), (1, iv x2), (2, iv x3), (6, pt q2 0), (7, iv x5), (8, w9), (9, iv x6)] ∧ A = box q2 [.bool x4.Up, iv x4.Term, iv x4.Vote, iv x4.Commit, iv x4.Role, w4, w5, w6, w7] :: box q1 [w1, w2, w3, .bool x1.c.Conflict] :: foc rGPeer w1 x1.c.Peers x2 b1 el1 [.bool x4.Up, iv x4.Term, iv x4.Vote, iv x4.Commit, iv x4.Role, w4, w5, w6, w7] :: ow (rC GR) w4 x4.Log :: ow (rC Bool) w5 x4.Votes :: ow (rC Int) w6 x4.Next :: ow (rC Int) w7 x4.Match :: ow (rC GR) w9 xs1 :: ow (rC GM) w2 x1.c.Net :: ow (rC GR) w3 x1.c.Chosen :: Ar ∧ v3oz x4 x5 x1 x2 x3 k0 xs1 x6 = some res) BIG ?_ ?_ ?_
 {
 exact ⟨_, _, (fl7), (.sl (.p p1 (.p p6 (.p p1 (.p p1 (.p p1 (.p p1 (.p p1 (.p p0 (.p p0 (.p p0 .e))))))))))), ([] : List GR), x5, w8, rfl, rfl, hr⟩
 }
 {
 rintro fr A ⟨xs1, x6, w9, -, -, hr⟩
 rw [v3oz] at hr
 cases hr
 }
 {
 rintro k0 _ _ ⟨xs1, x6, w9, rfl, rfl, hr⟩
 rw [v3oz] at hr
 refine T.q (T.q (T.r (TL.mv rfl (TL.fa rfl (TL.ld rfl a0 rfl (TL.len rfl a3 (TL.bin rfl rfl (T.nil (T.m ?_)))))))))
 refine T.cD rfl (fun hc1 => ?_) (fun hc1 => ?_)
 {
 replace hr := iP hr hc1
 refine T.k (T.m (T.q (T.b (T.r (TL.mv rfl (TL.fa rfl (TL.ld rfl a0 rfl (TL.mv rfl ?_))))))))
 obtain ⟨hc2, hr⟩ := cS hr
 refine TL.su rfl hc2 ?_
 obtain ⟨x7, hx3, hr⟩ := bS hr
 refine TL.ixu rfl a3 hx3 (fun b3 e2232 hp3 => ?_)
 refine TL.gh (.sl (.p p3 .e)) ?_
 refine GR.fo hp3 hx3 (fun w10 => ?_)
 refine TL.ldfN rfl a0 rfl rfl ?_
 obtain ⟨x8, hx4, hr⟩ := bS hr
 refine TL.gh (.sl (.p p1 .e)) ?_
 refine TL.c rfl rfl rfl (v3gzk g hx4) ?_
 rintro _ _ ⟨w11, rfl, rfl⟩
 refine TL.gh (.frz p1) ?_
 refine TL.gh (GR.mkV (s0 := x8.Term) (s1 := x8.Index) a0) ?_
 refine TL.lit1 rfl rfl p0 (fun w12 => ?_)
 obtain ⟨hc3, hr⟩ := cS hr
 refine TL.appR rfl p10 a0 hc3 (fun w13 => ?_)
 refine TL.a rfl (T.nil (T.bN (T.m (T.r (TL.mv rfl ?_)))))
 obtain ⟨hc4, hr⟩ := cS hr
 refine TL.ad rfl hc4 (TL.a rfl (T.nil (T.m ?_)))
 exact ⟨_, _, (fl7), (.trans (GR.u0 hx3 p4 a3) (.sl (.p p5 (.p p5 (.p p5 (.p p0 (.p p4 (.p p4 (.p p4 (.p p0 (.p p3 (.p p3 (d3))))))))))))), (xs1 ++ ([({ Term := x8.Term, Index := x8.Index, Data := x8.Data } : GR)] : List GR)), (x6 + 1), w13, rfl, rfl, hr⟩
 }
 {
 replace hr := iN hr hc1
 refine T.exit ?_
 refine T.tE (T.tE (T.bH (T.m (T.rD [0, 1, 2, 3, 4, 5, 6, 7, 8, 9, 10, 11, 12, 13, 14, 15] [false, false, false, false, false, false, false, false, false, false, false, false, false, false, false, true] rfl rfl kr kr mP (TL.mv rfl (TL.mv rfl (TL.mv rfl (TL.fa rfl (TL.ld rfl a0 rfl ?_)))))))))
 refine TL.mv rfl ?_
 obtain ⟨hc5, hr⟩ := cS hr
 refine TL.su rfl hc5 (TL.ldN (l' := [.bool x4.Up, iv x4.Term, iv x4.Vote, iv x4.Commit, iv x4.Role, w4, w5, w6, w7]) rfl a0 rfl rfl (TL.mv rfl ?_))
 obtain ⟨hc6, hr⟩ := cS hr
 refine TL.su rfl hc6 ?_
 obtain ⟨x9, hx5, hr⟩ := bS hr
 refine TL.callL g rfl rfl rfl (.z (v := w4) a3 inferInstance (.z (v := w5) a4 inferInstance (.z (v := w6) a5 inferInstance (.z (v := w7) a6 inferInstance .n)))) (v4yzk g (Ar := []) hx5) (R2 := fun v A => v = iv x9 ∧ A = []) (fun _ _ h => ⟨[], by obtain ⟨_, rfl⟩ := h; exact Sl.ent d4, .n, h.1, rfl⟩) ?_
 rintro _ _ ⟨rfl, rfl⟩
 simp only [List.cons_append, List.nil_append]
 refine TL.fa rfl (TL.ld rfl a0 rfl (TL.mv rfl ?_))
 refine TL.bld (cells := [iv 3, iv x2, iv x3, iv x4.Term, iv (x5 - 1), iv x9, iv x4.Commit, .bool false, w9]) rfl Try.underlying85 info85 rfl rfl rfl (by simp only [List.mapM_cons, List.mapM_nil, info3, info3, info3, info3, info3, info3, info3, info4, info28]; rfl) rfl (.s rfl (.s rfl (.s rfl (.s rfl (.s rfl (.s rfl (.s rfl (.h a7 inferInstance .n)))))))) rfl ?_
 obtain ⟨x10, hx6, hr⟩ := bS hr
 refine TL.gh (.frz p7) ?_
 refine TL.gh (.trans (GP.u0D hx1 p3 p3 p3 p3 p3) (.sl (.p p3 (.p p0 (.p p2 (.p p2 (.p p0 .e))))))) ?_
 refine TL.hv (v := w1) a1 (fun hv1 => ?_)
 refine TL.c rfl rfl rfl (v4qzk g hx6) ?_
 rintro _ _ ⟨w14, w15, rfl, rfl⟩
 refine TL.hv (v := w1) a1 (fun hv2 => ?_)
 have hl1 : x1.c.Peers.length = x10.c.Peers.length := Eq.trans lnE (Hv.eq hv1 hv2)
 refine T.nil ?_
 obtain rfl := Option.some.inj hr
 exact ⟨.inl rfl, _, _, Res.nil, (.sl (.p p0 (.p p0 (.p p0 (.p p0 (d2)))))), w14, w15, rfl, rfl⟩
 }
 }
theorem v4dzk {Δ : Prims} (g : Env Try.prog Δ) {Ar : List Item} {x1 : GL} {q1 : Nat} {w1 w2 w3 : Value} {x2 : Int} {res : (GL)} (hr : v4dz x1 x2 = some res) :
    Sp Try.prog Δ 105 [pt q1 0, iv x2] (box q1 [w1, w2, w3, .bool x1.c.Conflict] :: ow rGPeer w1 x1.c.Peers :: ow (rC GM) w2 x1.c.Net :: ow (rC GR) w3 x1.c.Chosen :: Ar) (fun v A => ∃ (rw1 : Value) (rw2 : Value), v = .tuple #[] ∧ A = box q1 [w1, rw1, rw2, .bool res.c.Conflict] :: ow rGPeer w1 res.c.Peers :: ow (rC GM) rw1 res.c.Net :: ow (rC GR) rw2 res.c.Chosen :: Ar) := by
 refine Sp.bd Try.func105 rfl rfl ?_
 unfold v4dz at hr
 refine T.q (T.r (TL.mv rfl (TL.nc rfl (TL.fa rfl (TL.fa rfl (TL.ld rfl a0 rfl (TL.mv rfl ?_)))))))
 obtain ⟨x3, hx1, hr⟩ := bS hr
 refine TL.ixu rfl a1 hx1 (fun b1 el1 hp1 => ?_)
 refine TL.a rfl (T.nil (T.m (T.q (T.r (TL.a rfl (T.nil (T.m (T.q (T.q ?_)))))))))
 refine T.r (TL.a rfl (T.nil (T.m (T.b ?_))))
 refine T.lp (fun k0 fr A => ∃ (x4 : Int) (x5 : Int), fr = [(0, pt q1 0), (1, iv x2), (4, pt b1 el1), (5, iv x4), (6, iv x5)] ∧ A = box q1 [w1, w2, w3, .bool x1.c.Conflict] :: ow rGPeer w1 x1.c.Peers :: ow (rC GM) w2 x1.c.Net :: ow (rC GR) w3 x1.c.Chosen :: Ar ∧ v4hz x3 x1 x2 k0 x4 x5 = some res) BIG ?_ ?_ ?_
 {
 exact ⟨_, _, (fl5), (.refl _), 0, 0, rfl, rfl, hr⟩
 }
 {
 rintro fr A ⟨x4, x5, -, -, hr⟩
 rw [v4hz] at hr
 cases hr
 }
 {
 rintro k0 _ _ ⟨x4, x5, rfl, rfl, hr⟩
 rw [v4hz] at hr
 refine T.q (T.q (T.r (TL.mv rfl (TL.mv rfl (TL.nc rfl (TL.fa rfl ?_))))))
 refine TL.gh (.sl (.p p1 .e)) ?_
 refine GP.foD hp1 hx1 (fun w4 w5 w6 w7 => ?_)
 refine TL.lk (m := 6) rfl a0 rfl rfl (by decide) ?_
 refine TL.len rfl a2 (TL.bin rfl rfl (T.nil (T.m ?_)))
 refine T.cD rfl (fun hc1 => ?_) (fun hc1 => ?_)
 {
 replace hr := iP hr hc1
 refine T.k (T.m (T.q ?_))
 refine T.ct (fun fr A => ∃ (x6 : Int), fr = [(0, pt q1 0), (1, iv x2), (4, pt b1 el1), (5, iv x6), (6, iv x5)] ∧ A = box q1 [w1, w2, w3, .bool x1.c.Conflict] :: ow rGPeer w1 x1.c.Peers :: ow (rC GM) w2 x1.c.Net :: ow (rC GR) w3 x1.c.Chosen :: Ar ∧ v4ez x5 (v4hz x3 x1 x2 k0) x6 = some res) ?_ ?_
 {
 refine T.b (T.q (T.r (TL.mv rfl (TL.nc rfl (TL.fa rfl ?_)))))
 refine TL.lk (m := 6) rfl a0 rfl rfl (by decide) ?_
 refine TL.mv rfl ?_
 obtain ⟨x7, hx2, hr⟩ := bS hr
 refine TL.ixu rfl a2 hx2 (fun b2 e615 hp2 => ?_)
 refine TL.ldek (m := 0) rfl a2 hp2 hx2 Rp.sc rfl (T.nil (T.m ?_))
 refine T.cond rfl (fun hc2 => ?_) (fun hc2 => ?_)
 {
 replace hr := iBP hr hc2
 refine T.r (TL.mv rfl ?_)
 obtain ⟨hc3, hr⟩ := cS hr
 refine TL.ad rfl hc3 (TL.a rfl (T.nil (T.bN (T.m ?_))))
 exact ⟨_, _, (fl5), (.trans (GP.u0D hx1 p0 p0 p0 p0 p0) (.sl (.p p1 (.p p0 (.p p0 (.p p0 .e)))))), (x4 + 1), rfl, rfl, hr⟩
 }
 {
 replace hr := iBN hr hc2
 refine T.k (T.bN (T.m ?_))
 exact ⟨_, _, (fl5), (.trans (GP.u0D hx1 p0 p0 p0 p0 p0) (.sl (.p p1 (.p p0 (.p p0 (.p p0 .e)))))), x4, rfl, rfl, hr⟩
 }
 }
 {
 rintro _ _ ⟨x6, rfl, rfl, hr⟩
 unfold v4ez at hr
 refine T.r (TL.mv rfl ?_)
 obtain ⟨hc4, hr⟩ := cS hr
 refine TL.ad rfl hc4 (TL.a rfl (T.nil (T.m ?_)))
 exact ⟨_, _, (fl5), (.refl _), x6, (x5 + 1), rfl, rfl, hr⟩
 }
 }
 {
 replace hr := iN hr hc1
 refine T.exit ?_
 refine T.tE (T.tE (T.bH (T.m (T.q (T.q ?_)))))
 refine T.ct (fun fr A => ∃ (x8 : Bool), fr = [(0, pt q1 0), (1, iv x2), (4, pt b1 el1), (49, .bool x8)] ∧ A = box q1 [w1, w2, w3, .bool x1.c.Conflict] :: ow rGPeer w1 x1.c.Peers :: ow (rC GM) w2 x1.c.Net :: ow (rC GR) w3 x1.c.Chosen :: Ar ∧ v4fz x1 x2 x3 x8 = some res) ?_ ?_
 {
 refine T.r (TL.mv rfl (TL.nc rfl (TL.fa rfl ?_)))
 refine TL.lk (m := 4) rfl a0 rfl rfl (by decide) ?_
 refine TL.bin rfl rfl (TL.mv rfl ?_)
 refine TL.guardN rfl rfl rfl (fun hg1 => ?_) (fun hg1 => ?_)
 {
 replace hr := iN hr hg1
 refine TL.sk rfl (TL.sk rfl (TL.sk rfl (TL.sk rfl (TL.sk rfl (TL.sk rfl (TL.sk rfl (TL.sk rfl (TL.sk rfl ?_))))))))
 refine TL.of (fun f k => WL.pick f rfl rfl rfl rfl rfl k) ?_
 refine T.nil (T.m ?_)
 exact ⟨_, _, (fl4), (.trans (GP.u0D hx1 p0 p0 p0 p0 p0) (.sl (.p p1 (.p p0 (.p p0 (.p p0 .e)))))), true, rfl, rfl, hr⟩
 }
 {
 replace hr := iP hr hg1
 refine TL.mv rfl (TL.mv rfl (TL.nc rfl (TL.fa rfl (TL.fa rfl (TL.ld rfl a5 rfl (TL.len rfl a0 ?_))))))
 obtain ⟨x9, hx3, hr⟩ := bS hr
 refine TL.c rfl rfl rfl (v2lzk g hx3) ?_
 rintro _ _ ⟨rfl, rfl⟩
 refine TL.bin rfl rfl ?_
 refine TL.of (fun f k => WL.pick f rfl rfl rfl rfl rfl k) ?_
 refine T.nil (T.m ?_)
 exact ⟨_, _, (fl4), (.trans (GP.u0D hx1 p0 p0 p0 p0 p0) (.sl (.p p1 (.p p0 (.p p0 (.p p0 .e)))))), (decide (x4 < x9)), rfl, rfl, hr⟩
 }
 }
 {
 rintro _ _ ⟨x8, rfl, rfl, hr⟩
 unfold v4fz at hr
 refine T.cond rfl (fun hc5 => ?_) (fun hc5 => ?_)
 {
 replace hr := iBP hr hc5
 refine T.ret ?_
 refine T.thenRet ?_
 obtain rfl := Option.some.inj hr
 exact ⟨.inr rfl, _, _, Res.nil, (.refl _), w2, w3, rfl, rfl⟩
 }
 {
 replace hr := iBN hr hc5
 refine T.k (T.m (T.q (T.r (TL.mv rfl (TL.nc rfl (TL.fa rfl ?_))))))
 refine TL.gh (.sl (.p p1 .e)) ?_
 refine GP.foD hp1 hx1 (fun w8 w9 w10 w11 => ?_)
 refine TL.stf rfl rfl e0 c4 (T.nil (T.m (T.q (T.r (TL.mv rfl (TL.nc rfl (TL.fa rfl ?_)))))))
 refine TL.gh (.nilO (rC Bool)) ?_
 refine TL.stf rfl rfl e1 c6 (T.nil (T.m (T.q (T.r (TL.mv rfl (TL.nc rfl (TL.fa rfl ?_)))))))
 refine TL.gh (.nilO (rC Int)) ?_
 refine TL.stf rfl rfl e2 c7 (T.nil (T.m (T.q (T.r (TL.mv rfl (TL.nc rfl (TL.fa rfl ?_)))))))
 refine TL.gh (.nilO (rC Int)) ?_
 refine TL.stf rfl rfl e3 c8 (T.nil (T.m (T.q (T.q (T.r (TL.a rfl (T.nil (T.m (T.b ?_)))))))))
 refine T.lp (fun k3 fr A => ∃ (x10 : Int) (xs1 : (List GP)), x1.c.Peers.length = xs1.length ∧ fr = [(0, pt q1 0), (1, iv x2), (4, pt b1 el1), (7, iv x10)] ∧ A = box q1 [w1, w2, w3, .bool x1.c.Conflict] :: ow rGPeer w1 xs1 :: ow (rC GM) w2 x1.c.Net :: ow (rC GR) w3 x1.c.Chosen :: Ar ∧ v4iz x1 x2 k3 x10 xs1 = some res) BIG ?_ ?_ ?_
 {
 exact ⟨_, _, (fl4), (.trans (GP.unD p3 p3 p2 p0 p0) (.sl (.p p4 (.p p0 (.p p3 (.p p3 (d3))))))), 0, (setI x1.c.Peers x2 ({ Up := x3.Up, Term := x3.Term, Vote := x3.Vote, Commit := x3.Commit, Role := 2, Log := x3.Log, Votes := [], Next := [], Match := [] } : GP)), lnE, rfl, rfl, hr⟩
 }
 {
 rintro fr A ⟨x10, xs1, hl1, -, -, hr⟩
 rw [v4iz] at hr
 cases hr
 }
 {
 rintro k3 _ _ ⟨x10, xs1, hl1, rfl, rfl, hr⟩
 rw [v4iz] at hr
 refine T.q (T.q (T.r (TL.mv rfl (TL.mv rfl (TL.nc rfl (TL.fa rfl (TL.fa rfl (TL.ld rfl a0 rfl ?_))))))))
 refine TL.lenE (m := x1.c.Peers.length) rfl a1 lnE (TL.bin rfl rfl (T.nil (T.m ?_)))
 refine T.cD rfl (fun hc6 => ?_) (fun hc6 => ?_)
 {
 replace hr := iP hr hc6
 refine T.k (T.m (T.q (T.b (T.q ?_))))
 refine T.regionI (fun n1 => []) [0, 1, 2, 3, 4, 5, 6, 7, 8, 9, 10, 11, 12, 13, 14, 15] [(false, true, false), (false, false, false), (false, false, false), (false, false, false), (false, false, false), (false, false, false), (false, false, false), (false, false, false), (false, false, false), (false, false, false), (false, false, false), (false, false, false), (true, false, false), (false, false, false), (false, false, false), (true, false, true)] false rfl kr kr mP (fun n1 => ?_)
 refine TI.lt Nd.f rfl (.move (.inl rfl) rfl) ?_
 refine TI.op Nd.f ?_
 refine TL.mv rfl ?_
 refine T.nil ⟨rfl, fun n2 => ?_⟩
 refine TI.op Nd.f ?_
 refine TL.nc rfl ?_
 refine T.nil ⟨rfl, fun n3 => ?_⟩
 refine TI.op Nd.f ?_
 refine TL.fa rfl ?_
 refine T.nil ⟨rfl, fun n4 => ?_⟩
 refine TI.op Nd.f ?_
 obtain ⟨x11, hx4, hr⟩ := bS hr
 refine TL.gh (.sl (.p p1 .e)) ?_
 refine GP.foD hp1 hx4 (fun w12 w13 w14 w15 => ?_)
 refine TL.lk (m := 7) rfl a0 rfl rfl (by decide) ?_
 refine T.nil ⟨rfl, fun n5 => ?_⟩
 refine TI.op Nd.f ?_
 refine TL.mv rfl ?_
 refine T.nil ⟨rfl, fun n6 => ?_⟩
 refine TI.op Nd.f ?_
 refine TL.nc rfl ?_
 refine T.nil ⟨rfl, fun n7 => ?_⟩
 refine TI.op Nd.f ?_
 refine TL.fa rfl ?_
 refine T.nil ⟨rfl, fun n8 => ?_⟩
 refine TI.op Nd.f ?_
 refine TL.lk (m := 5) rfl a0 rfl rfl (by decide) ?_
 refine T.nil ⟨rfl, fun n9 => ?_⟩
 refine TI.op Nd.f ?_
 refine TL.len rfl a1 ?_
 refine T.nil ⟨rfl, fun n10 => ?_⟩
 refine TI.op Nd.f ?_
 obtain ⟨hc7, hr⟩ := cS hr
 refine TL.ad rfl hc7 ?_
 refine T.nil ⟨rfl, fun n11 => ?_⟩
 refine TI.op Nd.f ?_
 refine TL.lit (α := Int) rfl rfl rfl rfl ([((x11.Log.length : Int) + 1)] : List Int) (fun _ _ _ _ _ => (RA.cons (cs := [iv ((x11.Log.length : Int) + 1)]) (a := (((x11.Log.length : Int) + 1) : Int)) rfl RA.nil)) (fun w16 => ?_)
 refine T.nil ⟨rfl, fun n12 => ?_⟩
 refine TI.op Nd.f ?_
 obtain ⟨hc8, hr⟩ := cS hr
 refine TL.appR rfl p4 a0 hc8 (fun w17 => ?_)
 refine T.nil ⟨rfl, fun n13 => ?_⟩
 refine TI.op Nd.f ?_
 refine TL.nc rfl ?_
 refine T.nil ⟨rfl, fun n14 => ?_⟩
 refine TI.op Nd.f ?_
 refine TL.fa rfl ?_
 refine T.nil ⟨rfl, fun n15 => ?_⟩
 refine TI.op (.t .n) ?_
 refine TL.stfs rfl a0 e2 c7 ?_
 refine T.nil ⟨rfl, fun n16 => ?_⟩
 refine TI.nil Nd.f (T.m (T.r (TL.mv rfl (TL.mv rfl (TL.nc rfl (TL.fa rfl ?_))))))
 refine TL.lk (m := 8) rfl a2 rfl rfl (by decide) ?_
 refine TL.lit (α := Int) rfl rfl rfl rfl ([0] : List Int) (fun _ _ _ _ _ => (RA.cons (cs := [iv 0]) (a := (0 : Int)) rfl RA.nil)) (fun w18 => ?_)
 obtain ⟨hc9, hr⟩ := cS hr
 refine TL.appR rfl p6 a0 hc9 (fun w19 => ?_)
 refine TL.nc rfl (TL.fa rfl ?_)
 refine TL.stfs rfl a0 e4 c8 (T.nil (T.bN (T.m (T.r (TL.mv rfl ?_)))))
 obtain ⟨hc10, hr⟩ := cS hr
 refine TL.ad rfl hc10 (TL.a rfl (T.nil (T.m ?_)))
 exact ⟨_, _, (fl4), (.trans (GP.unD p4 p4 p4 p2 p0) (.sl (.p p3 (.p p0 (.p p2 (.p p2 (d2))))))), (x10 + 1), (setI xs1 x2 ({ Up := x11.Up, Term := x11.Term, Vote := x11.Vote, Commit := x11.Commit, Role := x11.Role, Log := x11.Log, Votes := x11.Votes, Next := (x11.Next ++ ([((x11.Log.length : Int) + 1)] : List Int)), Match := (x11.Match ++ ([0] : List Int)) } : GP)), lnE, rfl, rfl, hr⟩
 }
 {
 replace hr := iN hr hc6
 refine T.exit ?_
 refine T.tE (T.tE (T.bH (T.m (T.q (T.rD [0, 1, 2, 3, 4, 5, 6, 7, 8, 9, 10, 11] [false, false, false, false, false, false, false, false, false, false, false, true] rfl rfl kr kr mP (TL.mv rfl (TL.nc rfl (TL.fa rfl ?_))))))))
 obtain ⟨x12, hx5, hr⟩ := bS hr
 refine TL.gh (.sl (.p p1 .e)) ?_
 refine GP.foD hp1 hx5 (fun w20 w21 w22 w23 => ?_)
 refine TL.lk (m := 8) rfl a0 rfl rfl (by decide) ?_
 refine TL.mv rfl (TL.mv rfl (TL.nc rfl (TL.fa rfl ?_)))
 refine TL.lk (m := 5) rfl a0 rfl rfl (by decide) ?_
 refine TL.len rfl a1 ?_
 obtain ⟨x13, hx6, hr⟩ := bS hr
 refine TL.ixu rfl a4 hx6 (fun b3 e2574 hp3 => ?_)
 refine TL.ste rfl rfl e4 hp3 hx6 (fun _ _ _ _ _ => rfl) ?_
 refine T.nil (T.m (T.q (T.r (TL.mv rfl (TL.mv rfl ?_)))))
 obtain ⟨x14, hx7, hr⟩ := bS hr
 refine TL.gh (.trans (GP.unD p0 p0 p0 p0 p0) (.sl (.p p1 (.p p0 (.p p0 (.p p0 .e)))))) ?_
 refine TL.hv (v := w1) a1 (fun hv1 => ?_)
 refine TL.c rfl rfl rfl (v3zzk g hx7) ?_
 rintro _ _ ⟨w24, w25, rfl, rfl⟩
 refine TL.hv (v := w1) a1 (fun hv2 => ?_)
 have hl2 : x1.c.Peers.length = x14.c.Peers.length := Eq.trans lnE (Hv.eq hv1 hv2)
 refine T.nil (T.m (T.q (T.r (TL.a rfl (T.nil (T.m (T.b ?_)))))))
 refine T.lp (fun k4 fr A => ∃ (x15 : Int) (xs2 : (List GP)) (xs3 : (List GM)) (xs4 : (List GR)) (x16 : Bool) (w26 : Value) (w27 : Value), x1.c.Peers.length = xs2.length ∧ fr = [(0, pt q1 0), (1, iv x2), (8, iv x15)] ∧ A = box q1 [w1, w26, w27, .bool x16] :: ow rGPeer w1 xs2 :: ow (rC GM) w26 xs3 :: ow (rC GR) w27 xs4 :: Ar ∧ v4jz x1 x2 k4 x15 xs2 xs3 xs4 x16 = some res) BIG ?_ ?_ ?_
 {
 exact ⟨_, _, (fl3), (.refl _), 0, x14.c.Peers, x14.c.Net, x14.c.Chosen, x14.c.Conflict, w24, w25, lnE, rfl, rfl, hr⟩
 }
 {
 rintro fr A ⟨x15, xs2, xs3, xs4, x16, w26, w27, hl3, -, -, hr⟩
 rw [v4jz] at hr
 cases hr
 }
 {
 rintro k4 _ _ ⟨x15, xs2, xs3, xs4, x16, w26, w27, hl3, rfl, rfl, hr⟩
 rw [v4jz] at hr
 refine T.q (T.q (T.r (TL.mv rfl (TL.mv rfl (TL.nc rfl (TL.fa rfl (TL.fa rfl (TL.ld rfl a0 rfl ?_))))))))
 refine TL.lenE (m := x1.c.Peers.length) rfl a1 lnE (TL.bin rfl rfl (T.nil (T.m ?_)))
 refine T.cD rfl (fun hc11 => ?_) (fun hc11 => ?_)
 {
 replace hr := iP hr hc11
 refine T.k (T.m (T.q ?_))
 refine T.ct (fun fr A => ∃ (xs5 : (List GP)) (xs6 : (List GM)) (xs7 : (List GR)) (x17 : Bool) (w28 : Value) (w29 : Value), x1.c.Peers.length = xs5.length ∧ fr = [(0, pt q1 0), (1, iv x2), (8, iv x15)] ∧ A = box q1 [w1, w28, w29, .bool x17] :: ow rGPeer w1 xs5 :: ow (rC GM) w28 xs6 :: ow (rC GR) w29 xs7 :: Ar ∧ v4gz x15 (v4jz x1 x2 k4) xs5 xs6 xs7 x17 = some res) ?_ ?_
 {
 refine T.b (T.q (T.r (TL.mv rfl (TL.mv rfl (TL.bin rfl rfl (T.nil (T.m ?_)))))))
 refine T.condN rfl (fun hc12 => ?_) (fun hc12 => ?_)
 {
 replace hr := iN hr hc12
 refine T.r (TL.mv rfl (TL.mv rfl (TL.mv rfl ?_)))
 obtain ⟨x18, hx8, hr⟩ := bS hr
 refine TL.hv (v := w1) a1 (fun hv3 => ?_)
 refine TL.c rfl rfl rfl (v3nzk g hx8) ?_
 rintro _ _ ⟨w30, w31, rfl, rfl⟩
 refine TL.hv (v := w1) a1 (fun hv4 => ?_)
 have hl4 : x1.c.Peers.length = x18.c.Peers.length := Eq.trans lnE (Hv.eq hv3 hv4)
 refine T.nil (T.bN (T.m ?_))
 exact ⟨_, _, (fl3), (.refl _), x18.c.Peers, x18.c.Net, x18.c.Chosen, x18.c.Conflict, w30, w31, lnE, rfl, rfl, hr⟩
 }
 {
 replace hr := iP hr hc12
 refine T.k (T.bN (T.m ?_))
 exact ⟨_, _, (fl3), (.refl _), xs2, xs3, xs4, x16, w26, w27, lnE, rfl, rfl, hr⟩
 }
 }
 {
 rintro _ _ ⟨xs5, xs6, xs7, x17, w28, w29, hl5, rfl, rfl, hr⟩
 unfold v4gz at hr
 refine T.r (TL.mv rfl ?_)
 obtain ⟨hc13, hr⟩ := cS hr
 refine TL.ad rfl hc13 (TL.a rfl (T.nil (T.m ?_)))
 exact ⟨_, _, (fl3), (.refl _), (x15 + 1), xs5, xs6, xs7, x17, w28, w29, lnE, rfl, rfl, hr⟩
 }
 }
 {
 replace hr := iN hr hc11
 refine T.exit ?_
 refine T.tE (T.tE (T.bH ?_))
 obtain rfl := Option.some.inj hr
 exact ⟨.inl rfl, _, _, Res.nil, (.refl _), w26, w27, rfl, rfl⟩
 }
 }
 }
 }
 }
 }
 }
 }
theorem v3pzk {Δ : Prims} (g : Env Try.prog Δ) {Ar : List Item} {x1 : GL} {q1 : Nat} {w1 w2 w3 : Value} {x2 : GM} {w4 : Value} {res : (GL)} (hr : v3pz x1 x2 = some res) :
    Sp Try.prog Δ 106 [pt q1 0, .agg [iv x2.Kind, iv x2.From, iv x2.To, iv x2.Term, iv x2.A, iv x2.B, iv x2.C, .bool x2.Ok, w4].toArray] (box q1 [w1, w2, w3, .bool x1.c.Conflict] :: ow rGPeer w1 x1.c.Peers :: ow (rC GM) w2 x1.c.Net :: ow (rC GR) w3 x1.c.Chosen :: fz w4 x2.Log :: Ar) (fun v A => ∃ (rw1 : Value) (rw2 : Value), v = .tuple #[] ∧ A = box q1 [w1, rw1, rw2, .bool res.c.Conflict] :: ow rGPeer w1 res.c.Peers :: ow (rC GM) rw1 res.c.Net :: ow (rC GR) rw2 res.c.Chosen :: fz w4 x2.Log :: Ar) := by
 refine Sp.bd Try.func106 rfl rfl ?_
 unfold v3pz at hr
 refine T.q (T.r ?_)
 refine TL.bxo rfl rfl (.s rfl (.s rfl (.s rfl (.s rfl (.s rfl (.s rfl (.s rfl (.s rfl (.h a4 inferInstance .n))))))))) (fun q2 => ?_)
 refine T.nil (T.m (T.q (T.rD r9 f9 rfl rfl kr kr mP (TL.mv rfl (TL.nc rfl (TL.fa rfl (TL.fa rfl (TL.ld rfl a1 rfl (TL.fa rfl ?_)))))))))
 refine TL.ld rfl a0 rfl ?_
 obtain ⟨x3, hx1, hr⟩ := bS hr
 refine TL.ixu rfl a2 hx1 (fun b1 el1 hp1 => ?_)
 refine TL.a rfl (T.nil (T.m (T.q (T.rD [0, 1, 2, 3, 4, 5, 6, 7, 8, 9, 10] [false, false, false, false, false, false, false, false, false, false, true] rfl rfl kr kr mP (TL.fa rfl (TL.ld rfl a0 rfl (TL.fa rfl (TL.ld rfl a0 rfl (TL.mv rfl ?_)))))))))
 refine TL.nc rfl (TL.fa rfl ?_)
 refine TL.gh (.sl (.p p2 .e)) ?_
 refine GP.foD hp1 hx1 (fun w5 w6 w7 w8 => ?_)
 refine TL.lk (m := 1) rfl a0 rfl rfl (by decide) ?_
 refine TL.bld (cells := [iv 4, iv x2.To, iv x2.From, iv x3.Term, iv 0, iv 0, iv 0, .bool false, .slice none 0 0]) rfl Try.underlying85 info85 rfl rfl rfl (by simp only [List.mapM_cons, List.mapM_nil, info3, info3, info3, info3, info3, info3, info3, info4, info28]; rfl) rfl (.s rfl (.s rfl (.s rfl (.s rfl .n)))) rfl ?_
 refine TL.al rfl (fun q3 => ?_)
 refine TL.sto (c' := [iv 4, iv x2.To, iv x2.From, iv x3.Term, iv 0, iv 0, iv 0, .bool false, .slice none 0 0]) rfl rfl rfl (.s rfl (.s rfl (.s rfl (.s rfl (.s rfl (.s rfl (.s rfl (.s rfl (.s rfl .n))))))))) e0 rfl (bl rfl) (T.nil (T.m (T.q (T.q (T.rD r7 f7 rfl rfl kr kr mP (TL.fa rfl (TL.ld rfl a6 rfl (TL.mv rfl (TL.nc rfl ?_)))))))))
 refine TL.fa rfl ?_
 refine TL.lk (m := 1) rfl a1 rfl rfl (by decide) ?_
 refine TL.bin rfl rfl (T.nil (T.m ?_))
 refine T.cD rfl (fun hc1 => ?_) (fun hc1 => ?_)
 {
 replace hr := iP hr hc1
 refine T.q (T.r (TL.mv rfl (TL.ldN (l' := [iv 4, iv x2.To, iv x2.From, iv x3.Term, iv 0, iv 0, iv 0, .bool false, .slice none 0 0]) rfl a0 rfl rfl ?_)))
 obtain ⟨x4, hx2, hr⟩ := bS hr
 refine TL.gh (.trans (GP.u0D hx1 p1 p1 p1 p1 p1) (.trans (.nilZ GR) (.sl (.p p4 (.p p1 (.p p3 (.p p3 (.p p0 .e)))))))) ?_
 refine TL.hv (v := w1) a1 (fun hv1 => ?_)
 refine TL.c rfl rfl rfl (v4qzk g hx2) ?_
 rintro _ _ ⟨w9, w10, rfl, rfl⟩
 refine TL.hv (v := w1) a1 (fun hv2 => ?_)
 have hl1 : x1.c.Peers.length = x4.c.Peers.length := Eq.trans lnE (Hv.eq hv1 hv2)
 refine T.nil (T.m ?_)
 refine T.ret ?_
 refine T.thenRet ?_
 obtain rfl := Option.some.inj hr
 exact ⟨.inr rfl, _, _, Res.nil, (.sl (.p p0 (.p p0 (.p p0 (.p p0 (.p p3 (d3))))))), w9, w10, rfl, rfl⟩
 }
 {
 replace hr := iN hr hc1
 refine T.k (T.m (T.q (T.r (TL.mv rfl (TL.fa rfl (TL.ld rfl a6 rfl (TL.fa rfl (TL.ld rfl a6 rfl ?_))))))))
 obtain ⟨x5, hx3, hr⟩ := bS hr
 refine TL.gh (.trans (GP.u0D hx1 p1 p1 p1 p1 p1) (.sl (.p p3 (.p p0 (.p p2 (.p p2 .e)))))) ?_
 refine TL.hv (v := w1) a1 (fun hv3 => ?_)
 refine TL.c rfl rfl rfl (v4bzk g hx3) ?_
 rintro _ _ ⟨w11, w12, rfl, rfl⟩
 refine TL.hv (v := w1) a1 (fun hv4 => ?_)
 have hl2 : x1.c.Peers.length = x5.c.Peers.length := Eq.trans lnE (Hv.eq hv3 hv4)
 refine T.nil (T.m (T.q (T.q ?_)))
 refine T.ct (fun fr A => ∃ (x6 : Bool), fr = [(0, pt q1 0), (3, pt q2 0), (4, pt b1 el1), (5, pt q3 0), (60, .bool x6)] ∧ A = box q3 [iv 4, iv x2.To, iv x2.From, iv x3.Term, iv 0, iv 0, iv 0, .bool false, .slice none 0 0] :: box q2 [iv x2.Kind, iv x2.From, iv x2.To, iv x2.Term, iv x2.A, iv x2.B, iv x2.C, .bool x2.Ok, w4] :: box q1 [w1, w11, w12, .bool x5.c.Conflict] :: fz w4 x2.Log :: ow rGPeer w1 x5.c.Peers :: ow (rC GM) w11 x5.c.Net :: ow (rC GR) w12 x5.c.Chosen :: Ar ∧ v3qz x2 x5 x3 x6 = some res) ?_ ?_
 {
 refine T.rD r19 f19 rfl rfl kr kr mP (TL.fa rfl (TL.ld rfl a5 rfl (TL.mv rfl (TL.nc rfl (TL.fa rfl ?_)))))
 obtain ⟨x7, hx4, hr⟩ := bS hr
 refine TL.gh (.sl (.p p1 .e)) ?_
 refine GP.foD hp1 hx4 (fun w13 w14 w15 w16 => ?_)
 refine TL.lk (m := 5) rfl a0 rfl rfl (by decide) ?_
 refine TL.len rfl a1 (TL.bin rfl rfl (TL.mv rfl ?_))
 refine TL.guardD rfl rfl rfl (fun hg1 => ?_) (fun hg1 => ?_)
 {
 replace hr := iP hr hg1
 refine TL.sk rfl (TL.sk rfl (TL.sk rfl (TL.sk rfl (TL.sk rfl (TL.sk rfl (TL.sk rfl (TL.sk rfl (TL.sk rfl ?_))))))))
 refine TL.of (fun f k => WL.pick f rfl rfl rfl rfl rfl k) ?_
 refine T.nil (T.m ?_)
 exact ⟨_, _, (fl5), (.trans (GP.u0D hx4 p0 p0 p0 p0 p0) (.sl (.p p4 (.p p4 (.p p1 (.p p3 (.p p0 (.p p0 (.p p0 .e))))))))), true, rfl, rfl, hr⟩
 }
 {
 replace hr := iN hr hg1
 refine TL.mv rfl (TL.nc rfl (TL.ldfN rfl a0 rfl rfl (TL.fa rfl (TL.ld rfl a9 rfl ?_))))
 obtain ⟨x8, hx5, hr⟩ := bS hr
 refine TL.callL g rfl rfl rfl (.z (v := w13) a1 inferInstance (.z (v := w14) a2 inferInstance (.z (v := w15) a3 inferInstance (.z (v := w16) a4 inferInstance .n)))) (v4yzk g (Ar := []) hx5) (R2 := fun v A => v = iv x8 ∧ A = []) (fun _ _ h => ⟨[], by obtain ⟨_, rfl⟩ := h; exact Sl.ent d4, .n, h.1, rfl⟩) ?_
 rintro _ _ ⟨rfl, rfl⟩
 simp only [List.cons_append, List.nil_append]
 refine TL.fa rfl (TL.ld rfl a9 rfl (TL.bin rfl rfl ?_))
 refine TL.of (fun f k => WL.pick f rfl rfl rfl rfl rfl k) ?_
 refine T.nil (T.m ?_)
 exact ⟨_, _, (fl5), (.trans (GP.u0D hx4 p0 p0 p0 p0 p0) (.sl (.p p4 (.p p4 (.p p1 (.p p3 (.p p0 (.p p0 (.p p0 .e))))))))), (!decide (x8 = x2.B)), rfl, rfl, hr⟩
 }
 }
 {
 rintro _ _ ⟨x6, rfl, rfl, hr⟩
 unfold v3qz at hr
 refine T.cond rfl (fun hc2 => ?_) (fun hc2 => ?_)
 {
 replace hr := iBP hr hc2
 refine T.q (T.rD [0, 1, 2, 3, 4, 5, 6, 7, 8, 9, 10] [false, false, false, false, false, false, false, false, false, false, true] rfl rfl kr kr mP (TL.fa rfl (TL.ld rfl a1 rfl ?_)))
 obtain ⟨hc3, hr⟩ := cS hr
 refine TL.su rfl hc3 (TL.mv rfl (TL.nc rfl (TL.fa rfl ?_)))
 obtain ⟨x9, hx6, hr⟩ := bS hr
 refine TL.gh (.sl (.p p4 .e)) ?_
 refine GP.foD hp1 hx6 (fun w17 w18 w19 w20 => ?_)
 refine TL.lk (m := 5) rfl a0 rfl rfl (by decide) ?_
 refine TL.len rfl a1 ?_
 refine TL.of (fun f k => WL.min2 f rfl rfl rfl rfl rfl k) ?_
 refine TL.fa rfl ?_
 refine TL.st rfl rfl e5 c4 (T.nil (T.m (T.q (T.r (TL.mv rfl (TL.ldN (l' := [iv 4, iv x2.To, iv x2.From, iv x3.Term, iv (if (x9.Log.length : Int) < (x2.A - 1) then (x9.Log.length : Int) else (x2.A - 1)), iv 0, iv 0, .bool false, .slice none 0 0]) rfl a5 rfl rfl ?_))))))
 obtain ⟨x10, hx7, hr⟩ := bS hr
 refine TL.gh (.trans (GP.u0D hx6 p0 p0 p0 p0 p0) (.trans (.nilZ GR) (.sl (.p p4 (.p p1 (.p p4 (.p p4 (.p p0 .e)))))))) ?_
 refine TL.hv (v := w1) a1 (fun hv5 => ?_)
 refine TL.c rfl rfl rfl (v4qzk g hx7) ?_
 rintro _ _ ⟨w21, w22, rfl, rfl⟩
 refine TL.hv (v := w1) a1 (fun hv6 => ?_)
 have hl3 : x1.c.Peers.length = x10.c.Peers.length := Eq.trans lnE (Hv.eq hv5 hv6)
 refine T.nil (T.m ?_)
 refine T.ret ?_
 refine T.thenRet ?_
 obtain rfl := Option.some.inj hr
 exact ⟨.inr rfl, _, _, Res.nil, (.sl (.p p0 (.p p0 (.p p0 (.p p0 (.p p3 (d3))))))), w21, w22, rfl, rfl⟩
 }
 {
 replace hr := iBN hr hc2
 refine T.k (T.m (T.q (T.r ?_)))
 refine TL.lit (α := GR) rfl rfl rfl rfl ([] : List GR) (fun _ _ _ _ _ => RA.nil) (fun w23 => ?_)
 refine TL.mv rfl (TL.nc rfl (TL.fa rfl ?_))
 obtain ⟨x11, hx8, hr⟩ := bS hr
 refine TL.gh (.sl (.p p5 .e)) ?_
 refine GP.foD hp1 hx8 (fun w24 w25 w26 w27 => ?_)
 refine TL.lk (m := 5) rfl a0 rfl rfl (by decide) ?_
 obtain ⟨hc4, hr⟩ := cS hr
 refine TL.appR rfl p5 a1 hc4 (fun w28 => ?_)
 refine TL.a rfl (T.nil (T.m (T.q (T.q (T.r (TL.a rfl (T.nil (T.m (T.b ?_)))))))))
 refine T.lp (fun k1 fr A => ∃ (xs1 : (List GR)) (x12 : Int) (w29 : Value), fr = [(0, pt q1 0), (3, pt q2 0), (4, pt b1 el1), (5, pt q3 0), (6, w29), (7, iv x12)] ∧ A = box q3 [iv 4, iv x2.To, iv x2.From, iv x3.Term, iv 0, iv 0, iv 0, .bool false, .slice none 0 0] :: box q2 [iv x2.Kind, iv x2.From, iv x2.To, iv x2.Term, iv x2.A, iv x2.B, iv x2.C, .bool x2.Ok, w4] :: box q1 [w1, w11, w12, .bool x5.c.Conflict] :: ow (rC GR) w29 xs1 :: fz w4 x2.Log :: ow rGPeer w1 x5.c.Peers :: ow (rC GM) w11 x5.c.Net :: ow (rC GR) w12 x5.c.Chosen :: Ar ∧ v3uz x2 x5 x11 x3 k1 xs1 x12 = some res) BIG ?_ ?_ ?_
 {
 exact ⟨_, _, (fl6), (.trans (GP.u0D hx8 p1 p1 p1 p1 p1) (.sl (.p p2 (.p p2 (.p p2 (.p p1 (.p p1 (.p p0 (.p p0 (.p p0 .e)))))))))), (([] : List GR) ++ x11.Log), 0, w28, rfl, rfl, hr⟩
 }
 {
 rintro fr A ⟨xs1, x12, w29, -, -, hr⟩
 rw [v3uz] at hr
 cases hr
 }
 {
 rintro k1 _ _ ⟨xs1, x12, w29, rfl, rfl, hr⟩
 rw [v3uz] at hr
 refine T.q (T.q (T.r (TL.mv rfl (TL.fa rfl (TL.ld rfl a1 rfl (TL.len rfl a4 (TL.bin rfl rfl (T.nil (T.m ?_)))))))))
 refine T.cD rfl (fun hc5 => ?_) (fun hc5 => ?_)
 {
 replace hr := iP hr hc5
 refine T.k (T.m (T.q ?_))
 refine T.ct (fun fr A => ∃ (xs2 : (List GR)) (w30 : Value), fr = [(0, pt q1 0), (3, pt q2 0), (4, pt b1 el1), (5, pt q3 0), (6, w30), (7, iv x12)] ∧ A = box q3 [iv 4, iv x2.To, iv x2.From, iv x3.Term, iv 0, iv 0, iv 0, .bool false, .slice none 0 0] :: box q2 [iv x2.Kind, iv x2.From, iv x2.To, iv x2.Term, iv x2.A, iv x2.B, iv x2.C, .bool x2.Ok, w4] :: box q1 [w1, w11, w12, .bool x5.c.Conflict] :: ow (rC GR) w30 xs2 :: fz w4 x2.Log :: ow rGPeer w1 x5.c.Peers :: ow (rC GM) w11 x5.c.Net :: ow (rC GR) w12 x5.c.Chosen :: Ar ∧ v3rz x12 (v3uz x2 x5 x11 x3 k1) xs2 = some res) ?_ ?_
 {
 refine T.b (T.q (T.r (TL.fa rfl (TL.ld rfl a1 rfl (TL.mv rfl ?_)))))
 obtain ⟨hc6, hr⟩ := cS hr
 refine TL.ad rfl hc6 (TL.a rfl (T.nil (T.m (T.q (T.q ?_)))))
 refine T.ct (fun fr A => ∃ (x13 : Bool), fr = [(0, pt q1 0), (3, pt q2 0), (4, pt b1 el1), (5, pt q3 0), (6, w29), (7, iv x12), (8, iv (x2.A + x12)), (108, .bool x13)] ∧ A = box q3 [iv 4, iv x2.To, iv x2.From, iv x3.Term, iv 0, iv 0, iv 0, .bool false, .slice none 0 0] :: box q2 [iv x2.Kind, iv x2.From, iv x2.To, iv x2.Term, iv x2.A, iv x2.B, iv x2.C, .bool x2.Ok, w4] :: box q1 [w1, w11, w12, .bool x5.c.Conflict] :: ow (rC GR) w29 xs1 :: fz w4 x2.Log :: ow rGPeer w1 x5.c.Peers :: ow (rC GM) w11 x5.c.Net :: ow (rC GR) w12 x5.c.Chosen :: Ar ∧ v3sz xs1 x2 x12 (v3uz x2 x5 x11 x3 k1) x13 = some res) ?_ ?_
 {
 refine T.rD r18 f18 rfl rfl kr kr mP (TL.mv rfl (TL.mv rfl (TL.len rfl a3 (TL.bin rfl rfl (TL.mv rfl ?_)))))
 refine TL.guardD rfl rfl rfl (fun hg2 => ?_) (fun hg2 => ?_)
 {
 replace hr := iP hr hg2
 refine TL.mv rfl (TL.mv rfl ?_)
 obtain ⟨x14, hx9, hr⟩ := bS hr
 refine TL.ixu rfl a3 hx9 (fun b2 e4515 hp2 => ?_)
 refine TL.fa rfl ?_
 refine TL.gh (.sl (.p p3 .e)) ?_
 refine GR.fo hp2 hx9 (fun w31 => ?_)
 refine TL.lk (m := 0) rfl a0 rfl rfl (by decide) ?_
 refine TL.fa rfl (TL.ld rfl a3 rfl (TL.mv rfl ?_))
 obtain ⟨x15, hx10, hr⟩ := bS hr
 refine TL.ixu rfl a5 hx10 (fun b3 e4530 hp3 => ?_)
 refine GR.ex a5 hp3 hx10 (fun w32 => ?_)
 refine TL.fa rfl (TL.ldg (m := 0) rfl a0 rfl rfl (TL.bin rfl rfl ?_))
 refine TL.of (fun f k => WL.pick f rfl rfl rfl rfl rfl k) ?_
 refine T.nil (T.m ?_)
 exact ⟨_, _, (fl8), (.trans (GR.u0 hx9 p2 a2) (.sl (.p p4 (.p p4 (.p p4 (.p p0 (.p p3 (.p p3 (.p p3 (.p p3 (d3))))))))))), (!decide (x14.Term = x15.Term)), rfl, rfl, hr⟩
 }
 {
 replace hr := iN hr hg2
 refine TL.sk rfl (TL.sk rfl (TL.sk rfl (TL.sk rfl (TL.sk rfl (TL.sk rfl (TL.sk rfl (TL.sk rfl (TL.sk rfl (TL.sk rfl ?_)))))))))
 refine TL.sk rfl (TL.sk rfl ?_)
 refine TL.of (fun f k => WL.pick f rfl rfl rfl rfl rfl k) ?_
 refine T.nil (T.m ?_)
 exact ⟨_, _, (fl8), (.refl _), false, rfl, rfl, hr⟩
 }
 }
 {
 rintro _ _ ⟨x13, rfl, rfl, hr⟩
 unfold v3sz at hr
 refine T.ct (fun fr A => ∃ (xs3 : (List GR)) (w33 : Value), fr = [(0, pt q1 0), (3, pt q2 0), (4, pt b1 el1), (5, pt q3 0), (6, w33), (7, iv x12), (8, iv (x2.A + x12))] ∧ A = box q3 [iv 4, iv x2.To, iv x2.From, iv x3.Term, iv 0, iv 0, iv 0, .bool false, .slice none 0 0] :: box q2 [iv x2.Kind, iv x2.From, iv x2.To, iv x2.Term, iv x2.A, iv x2.B, iv x2.C, .bool x2.Ok, w4] :: box q1 [w1, w11, w12, .bool x5.c.Conflict] :: ow (rC GR) w33 xs3 :: fz w4 x2.Log :: ow rGPeer w1 x5.c.Peers :: ow (rC GM) w11 x5.c.Net :: ow (rC GR) w12 x5.c.Chosen :: Ar ∧ v3tz x2 x12 (v3uz x2 x5 x11 x3 k1) xs3 = some res) ?_ ?_
 {
 refine T.cond rfl (fun hc7 => ?_) (fun hc7 => ?_)
 {
 replace hr := iBP hr hc7
 refine T.r (TL.mv rfl (TL.mv rfl ?_))
 obtain ⟨xs4, hxs4493, hr⟩ := bS hr
 refine TL.slt rfl p3 rfl ⟨_, rfl⟩ hxs4493 (fun w34 => ?_)
 refine TL.a rfl (T.nil (T.m ?_))
 exact ⟨_, _, (fl7), (.sl (.p p1 (.p p1 (.p p1 (.p p0 (.p p0 (.p p0 (.p p0 (.p p0 .e))))))))), xs4, w34, rfl, rfl, hr⟩
 }
 {
 replace hr := iBN hr hc7
 refine T.k (T.m ?_)
 exact ⟨_, _, (fl7), (.refl _), xs1, w29, rfl, rfl, hr⟩
 }
 }
 {
 rintro _ _ ⟨xs3, w33, rfl, rfl, hr⟩
 unfold v3tz at hr
 refine T.q (T.r (TL.mv rfl (TL.mv rfl (TL.len rfl a3 (TL.bin rfl rfl (T.nil (T.m ?_)))))))
 refine T.cD rfl (fun hc8 => ?_) (fun hc8 => ?_)
 {
 replace hr := iP hr hc8
 refine T.r (TL.mv rfl (TL.fa rfl (TL.ld rfl a1 rfl (TL.mv rfl ?_))))
 obtain ⟨x16, hx11, hr⟩ := bS hr
 refine TL.ixu rfl a4 hx11 (fun b4 e4401 hp4 => ?_)
 refine GR.ex a4 hp4 hx11 (fun w35 => ?_)
 refine TL.ldgN rfl a0 rfl ?_
 obtain ⟨x17, hx12, hr⟩ := bS hr
 refine TL.gh (.sl (.p p1 .e)) ?_
 refine TL.c rfl rfl rfl (v3gzk g hx12) ?_
 rintro _ _ ⟨w36, rfl, rfl⟩
 refine TL.gh (.frz p1) ?_
 refine TL.gh (GR.mkV (s0 := x17.Term) (s1 := x17.Index) a0) ?_
 refine TL.lit1 rfl rfl p0 (fun w37 => ?_)
 obtain ⟨hc9, hr⟩ := cS hr
 refine TL.appR rfl p7 a0 hc9 (fun w38 => ?_)
 refine TL.a rfl (T.nil (T.bN (T.m ?_)))
 exact ⟨_, _, (fl6), (.sl (.p p5 (.p p5 (.p p5 (.p p0 (.p p4 (.p p4 (.p p4 (.p p4 (d4)))))))))), (xs3 ++ ([({ Term := x17.Term, Index := x17.Index, Data := x17.Data } : GR)] : List GR)), w38, rfl, rfl, hr⟩
 }
 {
 replace hr := iN hr hc8
 refine T.k (T.bN (T.m ?_))
 exact ⟨_, _, (fl6), (.refl _), xs3, w33, rfl, rfl, hr⟩
 }
 }
 }
 }
 {
 rintro _ _ ⟨xs2, w30, rfl, rfl, hr⟩
 unfold v3rz at hr
 refine T.r (TL.mv rfl ?_)
 obtain ⟨hc10, hr⟩ := cS hr
 refine TL.ad rfl hc10 (TL.a rfl (T.nil (T.m ?_)))
 exact ⟨_, _, (fl6), (.refl _), xs2, (x12 + 1), w30, rfl, rfl, hr⟩
 }
 }
 {
 replace hr := iN hr hc5
 refine T.exit ?_
 refine T.tE (T.tE (T.bH (T.m (T.q (T.r (TL.mv rfl (TL.mv rfl (TL.nc rfl (TL.fa rfl ?_)))))))))
 refine TL.gh (.sl (.p p5 .e)) ?_
 refine GP.foD hp1 hx8 (fun w39 w40 w41 w42 => ?_)
 refine TL.stfs rfl a8 e0 c5 (T.nil (T.m (T.q (T.r (TL.fa rfl ?_)))))
 refine TL.st rfl rfl e5 c7 (T.nil (T.m (T.q (T.r (TL.fa rfl (TL.ld rfl a6 rfl (TL.fa rfl (TL.ld rfl a6 rfl (TL.len rfl a9 ?_)))))))))
 obtain ⟨hc11, hr⟩ := cS hr
 refine TL.ad rfl hc11 (TL.fa rfl ?_)
 refine TL.st rfl rfl e5 c4 (T.nil (T.m (T.q (T.rD [0, 1, 2, 3, 4, 5, 6, 7, 8, 9, 10, 11, 12, 13] [false, false, false, false, false, false, false, false, false, false, false, false, false, true] rfl rfl kr kr mP (TL.mv rfl (TL.mv rfl (TL.nc rfl (TL.fa rfl ?_))))))))
 refine TL.lk (m := 3) rfl a0 rfl rfl (by decide) ?_
 refine TL.fa rfl (TL.ld rfl a6 rfl (TL.fa rfl (TL.ld rfl a5 rfl ?_)))
 refine TL.of (fun f k => WL.min2 f rfl rfl rfl rfl rfl k) ?_
 refine TL.of (fun f k => WL.max2 f rfl rfl rfl rfl rfl k) ?_
 refine TL.nc rfl (TL.fa rfl ?_)
 refine TL.stf rfl rfl e0 c3 (T.nil (T.m (T.q (T.r (TL.mv rfl (TL.fa rfl (TL.ld rfl a6 rfl ?_)))))))
 obtain ⟨x18, hx13, hr⟩ := bS hr
 refine TL.gh (.trans (GP.unD p0 p7 p1 p1 p1) (.sl (.p p4 (.p p0 (.p p4 (.p p4 .e)))))) ?_
 refine TL.hv (v := w1) a1 (fun hv7 => ?_)
 refine TL.c rfl rfl rfl (v3vzk g hx13) ?_
 rintro _ _ ⟨w43, w44, rfl, rfl⟩
 refine TL.hv (v := w1) a1 (fun hv8 => ?_)
 have hl4 : x1.c.Peers.length = x18.c.Peers.length := Eq.trans lnE (Hv.eq hv7 hv8)
 refine T.nil (T.m (T.r (TL.mv rfl (TL.ldN (l' := [iv 4, iv x2.To, iv x2.From, iv x3.Term, iv (x2.A + (x2.Log.length : Int)), iv 0, iv 0, .bool true, .slice none 0 0]) rfl a5 rfl rfl ?_))))
 obtain ⟨x19, hx14, hr⟩ := bS hr
 refine TL.gh (.trans (.nilZ GR) (.sl (.p p1 (.p p1 (.p p1 (.p p1 (.p p0 .e))))))) ?_
 refine TL.hv (v := w1) a1 (fun hv9 => ?_)
 refine TL.c rfl rfl rfl (v4qzk g hx14) ?_
 rintro _ _ ⟨w45, w46, rfl, rfl⟩
 refine TL.hv (v := w1) a1 (fun hv10 => ?_)
 have hl5 : x1.c.Peers.length = x19.c.Peers.length := Eq.trans lnE (Hv.eq hv9 hv10)
 refine T.nil ?_
 obtain rfl := Option.some.inj hr
 exact ⟨.inl rfl, _, _, Res.nil, (.sl (.p p0 (.p p0 (.p p0 (.p p0 (.p p4 (d4))))))), w45, w46, rfl, rfl⟩
 }
 }
 }
 }
 }
theorem v45zk {Δ : Prims} (g : Env Try.prog Δ) {Ar : List Item} {x1 : GL} {q1 : Nat} {w1 w2 w3 : Value} {x2 : GM} {w4 : Value} {res : (GL)} (hr : v45z x1 x2 = some res) :
    Sp Try.prog Δ 69 [pt q1 0, .agg [iv x2.Kind, iv x2.From, iv x2.To, iv x2.Term, iv x2.A, iv x2.B, iv x2.C, .bool x2.Ok, w4].toArray] (box q1 [w1, w2, w3, .bool x1.c.Conflict] :: ow rGPeer w1 x1.c.Peers :: ow (rC GM) w2 x1.c.Net :: ow (rC GR) w3 x1.c.Chosen :: fz w4 x2.Log :: Ar) (fun v A => ∃ (rw1 : Value) (rw2 : Value), v = .tuple #[] ∧ A = box q1 [w1, rw1, rw2, .bool res.c.Conflict] :: ow rGPeer w1 res.c.Peers :: ow (rC GM) rw1 res.c.Net :: ow (rC GR) rw2 res.c.Chosen :: fz w4 x2.Log :: Ar) := by
 refine Sp.bd Try.func69 rfl rfl ?_
 unfold v45z at hr
 refine T.q (T.r ?_)
 refine TL.bxo rfl rfl (.s rfl (.s rfl (.s rfl (.s rfl (.s rfl (.s rfl (.s rfl (.s rfl (.h a4 inferInstance .n))))))))) (fun q2 => ?_)
 refine T.nil (T.m (T.q (T.rD r9 f9 rfl rfl kr kr mP (TL.mv rfl (TL.nc rfl (TL.fa rfl (TL.fa rfl (TL.ld rfl a1 rfl (TL.fa rfl ?_)))))))))
 refine TL.ld rfl a0 rfl ?_
 obtain ⟨x3, hx1, hr⟩ := bS hr
 refine TL.ixu rfl a2 hx1 (fun b1 el1 hp1 => ?_)
 refine TL.a rfl (T.nil (T.m (T.q (T.q (T.r (TL.mv rfl (TL.nc rfl (TL.fa rfl ?_))))))))
 refine TL.gh (.sl (.p p2 .e)) ?_
 refine GP.foD hp1 hx1 (fun w5 w6 w7 w8 => ?_)
 refine TL.lk (m := 0) rfl a0 rfl rfl (by decide) ?_
 refine TL.of (fun f k => WL.not f rfl rfl rfl rfl k) ?_
 refine T.nil (T.m ?_)
 refine T.cond rfl (fun hc1 => ?_) (fun hc1 => ?_)
 {
 replace hr := iBP hr hc1
 refine T.ret ?_
 refine T.thenRet ?_
 obtain rfl := Option.some.inj hr
 exact ⟨.inr rfl, _, _, Res.nil, (.trans (GP.u0D hx1 p0 p0 p0 p0 p0) (.sl (.p p2 (.p p0 (.p p1 (.p p1 (.p p1 (d1)))))))), w2, w3, rfl, rfl⟩
 }
 {
 replace hr := iBN hr hc1
 refine T.k (T.m (T.q (T.q (T.rD r7 f7 rfl rfl kr kr mP (TL.fa rfl (TL.ld rfl a5 rfl (TL.mv rfl (TL.nc rfl (TL.fa rfl ?_)))))))))
 refine TL.lk (m := 1) rfl a0 rfl rfl (by decide) ?_
 refine TL.bin rfl rfl (T.nil (T.m ?_))
 refine T.ct (fun fr A => ∃ (xs1 : (List GP)) (xs2 : (List GM)) (xs3 : (List GR)) (x4 : Bool) (w9 : Value) (w10 : Value), x1.c.Peers.length = xs1.length ∧ fr = [(0, pt q1 0), (3, pt q2 0), (4, pt b1 el1)] ∧ A = box q2 [iv x2.Kind, iv x2.From, iv x2.To, iv x2.Term, iv x2.A, iv x2.B, iv x2.C, .bool x2.Ok, w4] :: box q1 [w1, w9, w10, .bool x4] :: fz w4 x2.Log :: ow rGPeer w1 xs1 :: ow (rC GM) w9 xs2 :: ow (rC GR) w10 xs3 :: Ar ∧ v46z x2 xs1 xs2 xs3 x4 = some res) ?_ ?_
 {
 refine T.cD rfl (fun hc2 => ?_) (fun hc2 => ?_)
 {
 replace hr := iP hr hc2
 refine T.r (TL.mv rfl (TL.fa rfl (TL.ld rfl a5 rfl (TL.fa rfl (TL.ld rfl a5 rfl ?_)))))
 obtain ⟨x5, hx2, hr⟩ := bS hr
 refine TL.gh (.trans (GP.u0D hx1 p0 p0 p0 p0 p0) (.sl (.p p2 (.p p0 (.p p1 (.p p1 .e)))))) ?_
 refine TL.hv (v := w1) a1 (fun hv1 => ?_)
 refine TL.c rfl rfl rfl (v4bzk g hx2) ?_
 rintro _ _ ⟨w11, w12, rfl, rfl⟩
 refine TL.hv (v := w1) a1 (fun hv2 => ?_)
 have hl1 : x1.c.Peers.length = x5.c.Peers.length := Eq.trans lnE (Hv.eq hv1 hv2)
 refine T.nil (T.m ?_)
 exact ⟨_, _, (fl3), (.sl (.p p4 (.p p0 (.p p3 (.p p0 (.p p0 (.p p0 .e))))))), x5.c.Peers, x5.c.Net, x5.c.Chosen, x5.c.Conflict, w11, w12, lnE, rfl, rfl, hr⟩
 }
 {
 replace hr := iN hr hc2
 refine T.k (T.m ?_)
 exact ⟨_, _, (fl3), (.trans (GP.u0D hx1 p0 p0 p0 p0 p0) (.sl (.p p1 (.p p1 (.p p3 (.p p0 (.p p0 (.p p0 .e)))))))), x1.c.Peers, x1.c.Net, x1.c.Chosen, x1.c.Conflict, w2, w3, lnE, rfl, rfl, hr⟩
 }
 }
 {
 rintro _ _ ⟨xs1, xs2, xs3, x4, w9, w10, hl2, rfl, rfl, hr⟩
 unfold v46z at hr
 refine T.q (T.r (TL.fa rfl (TL.ld rfl a0 rfl (T.nil (T.m (T.b (T.q (T.r (TL.bin rfl rfl ?_)))))))))
 refine TL.a rfl (T.nil (T.m ?_))
 refine T.cD rfl (fun hc3 => ?_) (fun hc3 => ?_)
 {
 replace hr := iP hr hc3
 refine T.q (T.r (TL.mv rfl (TL.nc rfl ?_)))
 obtain ⟨x6, hx3, hr⟩ := bS hr
 refine TL.gh (.sl (.p p3 .e)) ?_
 refine GP.foD hp1 hx3 (fun w13 w14 w15 w16 => ?_)
 refine TL.ldfN rfl a0 rfl rfl ?_
 obtain ⟨x7, hx4, hr⟩ := bS hr
 refine TL.callL g rfl rfl rfl (.z (v := w13) a1 inferInstance (.z (v := w14) a2 inferInstance (.z (v := w15) a3 inferInstance (.z (v := w16) a4 inferInstance .n)))) (v3hzk g (Ar := []) hx4) (R2 := fun v A => v = .tuple #[iv x7.1, iv x7.2] ∧ A = []) (fun _ _ h => ⟨[], by obtain ⟨_, rfl⟩ := h; exact Sl.ent d4, .n, h.1, rfl⟩) ?_
 rintro _ _ ⟨rfl, rfl⟩
 simp only [List.cons_append, List.nil_append]
 refine TL.mv rfl ?_
 refine TL.of (fun f k => WL.extract f rfl rfl rfl rfl rfl k) ?_
 refine TL.of (fun f k => WL.extract f rfl rfl rfl rfl rfl k) ?_
 refine TL.a rfl (TL.a rfl (T.nil (T.m (T.q ?_))))
 refine T.ct (fun fr A => ∃ (x8 : Bool), fr = [(0, pt q1 0), (3, pt q2 0), (4, pt b1 el1), (7, .bool x8)] ∧ A = box q2 [iv x2.Kind, iv x2.From, iv x2.To, iv x2.Term, iv x2.A, iv x2.B, iv x2.C, .bool x2.Ok, w4] :: box q1 [w1, w9, w10, .bool x4] :: fz w4 x2.Log :: ow rGPeer w1 xs1 :: ow (rC GM) w9 xs2 :: ow (rC GR) w10 xs3 :: Ar ∧ v47z x2 xs2 xs3 x4 xs1 x6 x8 = some res) ?_ ?_
 {
 refine T.rD [0, 1, 2, 3, 4, 5, 6, 7, 8, 9, 10, 11, 12, 13, 14, 15, 16, 17, 18, 19, 20, 21, 22, 23, 24, 25, 26, 27, 28, 29, 30, 31, 32, 33, 34, 35, 36, 37, 38, 39, 40, 41, 42] [false, false, false, false, false, false, false, false, false, false, false, false, false, false, false, false, false, false, false, false, false, false, false, false, false, false, false, false, false, false, false, false, false, false, false, false, false, false, false, false, false, false, false] rfl rfl kr kr mP (TL.fa rfl (TL.ld rfl a5 rfl (TL.mv rfl (TL.nc rfl (TL.fa rfl ?_)))))
 refine TL.lk (m := 1) rfl a0 rfl rfl (by decide) ?_
 refine TL.bin rfl rfl (TL.mv rfl ?_)
 refine TL.guardD rfl rfl rfl (fun hg1 => ?_) (fun hg1 => ?_)
 {
 replace hr := iP hr hg1
 refine TL.mv rfl (TL.nc rfl (TL.fa rfl ?_))
 refine TL.lk (m := 2) rfl a0 rfl rfl (by decide) ?_
 refine TL.bin rfl rfl (TL.mv rfl ?_)
 refine TL.guardD rfl rfl rfl (fun hg2 => ?_) (fun hg2 => ?_)
 {
 replace hr := iP hr hg2
 refine TL.sk rfl (TL.sk rfl (TL.sk rfl (TL.sk rfl (TL.sk rfl (TL.sk rfl (TL.sk rfl (TL.sk rfl ?_)))))))
 refine TL.of (fun f k => WL.pick f rfl rfl rfl rfl rfl k) ?_
 refine TL.of (fun f k => WL.pick f rfl rfl rfl rfl rfl k) ?_
 refine TL.mv rfl (TL.fa rfl (TL.ld rfl a5 rfl (TL.mv rfl (TL.bin rfl rfl (TL.mv rfl ?_)))))
 refine TL.guardD rfl rfl rfl (fun hg3 => ?_) (fun hg3 => ?_)
 {
 replace hr := iP hr hg3
 refine TL.sk rfl (TL.sk rfl (TL.sk rfl (TL.sk rfl (TL.sk rfl (TL.sk rfl (TL.sk rfl (TL.sk rfl (TL.sk rfl (TL.sk rfl ?_)))))))))
 refine TL.of (fun f k => WL.pick f rfl rfl rfl rfl rfl k) ?_
 refine TL.of (fun f k => WL.pick f rfl rfl rfl rfl rfl k) ?_
 refine TL.a rfl (T.nil (T.m ?_))
 exact ⟨_, _, (fl4), (.trans (GP.u0D hx3 p0 p0 p0 p0 p0) (.sl (.p p1 (.p p1 (.p p1 (.p p0 (.p p0 (.p p0 .e)))))))), true, rfl, rfl, hr⟩
 }
 {
 replace hr := iN hr hg3
 refine TL.fa rfl (TL.ld rfl a5 rfl (TL.mv rfl (TL.bin rfl rfl (TL.mv rfl ?_))))
 refine TL.guardD rfl rfl rfl (fun hg4 => ?_) (fun hg4 => ?_)
 {
 replace hr := iP hr hg4
 refine TL.fa rfl (TL.ld rfl a5 rfl (TL.mv rfl (TL.bin rfl rfl ?_)))
 refine TL.of (fun f k => WL.pick f rfl rfl rfl rfl rfl k) ?_
 refine TL.of (fun f k => WL.pick f rfl rfl rfl rfl rfl k) ?_
 refine TL.of (fun f k => WL.pick f rfl rfl rfl rfl rfl k) ?_
 refine TL.a rfl (T.nil (T.m ?_))
 exact ⟨_, _, (fl4), (.trans (GP.u0D hx3 p0 p0 p0 p0 p0) (.sl (.p p1 (.p p1 (.p p1 (.p p0 (.p p0 (.p p0 .e)))))))), (decide (x7.1 ≤ x2.A)), rfl, rfl, hr⟩
 }
 {
 replace hr := iN hr hg4
 refine TL.sk rfl (TL.sk rfl (TL.sk rfl (TL.sk rfl ?_)))
 refine TL.of (fun f k => WL.pick f rfl rfl rfl rfl rfl k) ?_
 refine TL.of (fun f k => WL.pick f rfl rfl rfl rfl rfl k) ?_
 refine TL.of (fun f k => WL.pick f rfl rfl rfl rfl rfl k) ?_
 refine TL.a rfl (T.nil (T.m ?_))
 exact ⟨_, _, (fl4), (.trans (GP.u0D hx3 p0 p0 p0 p0 p0) (.sl (.p p1 (.p p1 (.p p1 (.p p0 (.p p0 (.p p0 .e)))))))), false, rfl, rfl, hr⟩
 }
 }
 }
 {
 replace hr := iN hr hg2
 refine TL.mv rfl (TL.nc rfl (TL.fa rfl ?_))
 refine TL.lk (m := 2) rfl a0 rfl rfl (by decide) ?_
 refine TL.fa rfl (TL.ld rfl a5 rfl ?_)
 obtain ⟨hc4, hr⟩ := cS hr
 refine TL.ad rfl hc4 (TL.bin rfl rfl ?_)
 refine TL.of (fun f k => WL.pick f rfl rfl rfl rfl rfl k) ?_
 refine TL.of (fun f k => WL.pick f rfl rfl rfl rfl rfl k) ?_
 refine TL.mv rfl ?_
 refine TL.guardD rfl rfl rfl (fun hg5 => ?_) (fun hg5 => ?_)
 {
 replace hr := iP hr hg5
 refine TL.fa rfl (TL.ld rfl a5 rfl (TL.mv rfl (TL.bin rfl rfl (TL.mv rfl ?_))))
 refine TL.guardD rfl rfl rfl (fun hg6 => ?_) (fun hg6 => ?_)
 {
 replace hr := iP hr hg6
 refine TL.sk rfl (TL.sk rfl (TL.sk rfl (TL.sk rfl (TL.sk rfl (TL.sk rfl (TL.sk rfl (TL.sk rfl (TL.sk rfl (TL.sk rfl ?_)))))))))
 refine TL.of (fun f k => WL.pick f rfl rfl rfl rfl rfl k) ?_
 refine TL.of (fun f k => WL.pick f rfl rfl rfl rfl rfl k) ?_
 refine TL.a rfl (T.nil (T.m ?_))
 exact ⟨_, _, (fl4), (.trans (GP.u0D hx3 p0 p0 p0 p0 p0) (.sl (.p p1 (.p p1 (.p p1 (.p p0 (.p p0 (.p p0 .e)))))))), true, rfl, rfl, hr⟩
 }
 {
 replace hr := iN hr hg6
 refine TL.fa rfl (TL.ld rfl a5 rfl (TL.mv rfl (TL.bin rfl rfl (TL.mv rfl ?_))))
 refine TL.guardD rfl rfl rfl (fun hg7 => ?_) (fun hg7 => ?_)
 {
 replace hr := iP hr hg7
 refine TL.fa rfl (TL.ld rfl a5 rfl (TL.mv rfl (TL.bin rfl rfl ?_)))
 refine TL.of (fun f k => WL.pick f rfl rfl rfl rfl rfl k) ?_
 refine TL.of (fun f k => WL.pick f rfl rfl rfl rfl rfl k) ?_
 refine TL.of (fun f k => WL.pick f rfl rfl rfl rfl rfl k) ?_
 refine TL.a rfl (T.nil (T.m ?_))
 exact ⟨_, _, (fl4), (.trans (GP.u0D hx3 p0 p0 p0 p0 p0) (.sl (.p p1 (.p p1 (.p p1 (.p p0 (.p p0 (.p p0 .e)))))))), (decide (x7.1 ≤ x2.A)), rfl, rfl, hr⟩
 }
 {
 replace hr := iN hr hg7
 refine TL.sk rfl (TL.sk rfl (TL.sk rfl (TL.sk rfl ?_)))
 refine TL.of (fun f k => WL.pick f rfl rfl rfl rfl rfl k) ?_
 refine TL.of (fun f k => WL.pick f rfl rfl rfl rfl rfl k) ?_
 refine TL.of (fun f k => WL.pick f rfl rfl rfl rfl rfl k) ?_
 refine TL.a rfl (T.nil (T.m ?_))
 exact ⟨_, _, (fl4), (.trans (GP.u0D hx3 p0 p0 p0 p0 p0) (.sl (.p p1 (.p p1 (.p p1 (.p p0 (.p p0 (.p p0 .e)))))))), false, rfl, rfl, hr⟩
 }
 }
 }
 {
 replace hr := iN hr hg5
 refine TL.sk rfl (TL.sk rfl (TL.sk rfl (TL.sk rfl (TL.sk rfl (TL.sk rfl (TL.sk rfl (TL.sk rfl (TL.sk rfl (TL.sk rfl ?_)))))))))
 refine TL.sk rfl (TL.sk rfl (TL.sk rfl (TL.sk rfl (TL.sk rfl (TL.sk rfl ?_)))))
 refine TL.of (fun f k => WL.pick f rfl rfl rfl rfl rfl k) ?_
 refine TL.a rfl (T.nil (T.m ?_))
 exact ⟨_, _, (fl4), (.trans (GP.u0D hx3 p0 p0 p0 p0 p0) (.sl (.p p1 (.p p1 (.p p1 (.p p0 (.p p0 (.p p0 .e)))))))), false, rfl, rfl, hr⟩
 }
 }
 }
 {
 replace hr := iN hr hg1
 refine TL.sk rfl (TL.sk rfl (TL.sk rfl (TL.sk rfl (TL.sk rfl (TL.sk rfl (TL.sk rfl (TL.sk rfl (TL.sk rfl (TL.sk rfl ?_)))))))))
 refine TL.sk rfl (TL.sk rfl (TL.sk rfl (TL.sk rfl (TL.sk rfl ?_))))
 refine TL.of (fun f k => WL.pick f rfl rfl rfl rfl rfl k) ?_
 refine TL.mv rfl (TL.sk rfl (TL.sk rfl (TL.sk rfl (TL.sk rfl (TL.sk rfl (TL.sk rfl (TL.sk rfl (TL.sk rfl (TL.sk rfl ?_)))))))))
 refine TL.sk rfl (TL.sk rfl (TL.sk rfl (TL.sk rfl (TL.sk rfl (TL.sk rfl (TL.sk rfl ?_))))))
 refine TL.of (fun f k => WL.pick f rfl rfl rfl rfl rfl k) ?_
 refine TL.a rfl (T.nil (T.m ?_))
 exact ⟨_, _, (fl4), (.trans (GP.u0D hx3 p0 p0 p0 p0 p0) (.sl (.p p1 (.p p1 (.p p1 (.p p0 (.p p0 (.p p0 .e)))))))), false, rfl, rfl, hr⟩
 }
 }
 {
 rintro _ _ ⟨x8, rfl, rfl, hr⟩
 unfold v47z at hr
 refine T.q (T.q (T.r (TL.mv rfl (T.nil (T.m ?_)))))
 refine T.ct (fun fr A => ∃ (xs4 : (List GP)), x1.c.Peers.length = xs4.length ∧ fr = [(0, pt q1 0), (3, pt q2 0), (4, pt b1 el1), (7, .bool x8)] ∧ A = box q2 [iv x2.Kind, iv x2.From, iv x2.To, iv x2.Term, iv x2.A, iv x2.B, iv x2.C, .bool x2.Ok, w4] :: box q1 [w1, w9, w10, .bool x4] :: fz w4 x2.Log :: ow rGPeer w1 xs4 :: ow (rC GM) w9 xs2 :: ow (rC GR) w10 xs3 :: Ar ∧ v48z x2 xs2 xs3 x4 x8 xs4 = some res) ?_ ?_
 {
 refine T.cond rfl (fun hc5 => ?_) (fun hc5 => ?_)
 {
 replace hr := iBP hr hc5
 refine T.r (TL.mv rfl (TL.fa rfl (TL.ld rfl a0 rfl ?_)))
 obtain ⟨hc6, hr⟩ := cS hr
 refine TL.ad rfl hc6 (TL.nc rfl (TL.fa rfl ?_))
 refine TL.gh (.sl (.p p3 .e)) ?_
 refine GP.foD hp1 hx3 (fun w17 w18 w19 w20 => ?_)
 refine TL.stf rfl rfl e0 c2 (T.nil (T.m ?_))
 exact ⟨_, _, (fl4), (.trans (GP.unD p0 p0 p0 p0 p0) (.sl (.p p1 (.p p1 (.p p1 (.p p0 (.p p0 (.p p0 .e)))))))), (setI xs1 x2.To ({ Up := x6.Up, Term := x6.Term, Vote := (x2.From + 1), Commit := x6.Commit, Role := x6.Role, Log := x6.Log, Votes := x6.Votes, Next := x6.Next, Match := x6.Match } : GP)), lnE, rfl, rfl, hr⟩
 }
 {
 replace hr := iBN hr hc5
 refine T.k (T.m ?_)
 exact ⟨_, _, (fl4), (.refl _), xs1, lnE, rfl, rfl, hr⟩
 }
 }
 {
 rintro _ _ ⟨xs4, hl3, rfl, rfl, hr⟩
 unfold v48z at hr
 refine T.rD [0, 1, 2, 3, 4, 5, 6, 7, 8, 9, 10, 11] [false, false, false, false, false, false, false, false, false, false, false, true] rfl rfl kr kr mP (TL.mv rfl (TL.fa rfl (TL.ld rfl a0 rfl (TL.fa rfl (TL.ld rfl a0 rfl (TL.mv rfl (TL.nc rfl (TL.fa rfl ?_))))))))
 obtain ⟨x9, hx5, hr⟩ := bS hr
 refine TL.gh (.sl (.p p3 .e)) ?_
 refine GP.foD hp1 hx5 (fun w21 w22 w23 w24 => ?_)
 refine TL.lk (m := 1) rfl a0 rfl rfl (by decide) ?_
 refine TL.mv rfl ?_
 refine TL.bld (cells := [iv 2, iv x2.To, iv x2.From, iv x9.Term, iv 0, iv 0, iv 0, .bool x8, .slice none 0 0]) rfl Try.underlying85 info85 rfl rfl rfl (by simp only [List.mapM_cons, List.mapM_nil, info3, info3, info3, info3, info3, info3, info3, info4, info28]; rfl) rfl (.s rfl (.s rfl (.s rfl (.s rfl (.s rfl .n))))) rfl ?_
 obtain ⟨x10, hx6, hr⟩ := bS hr
 refine TL.gh (.trans (GP.u0D hx5 p0 p0 p0 p0 p0) (.trans (.nilZ GR) (.sl (.p p3 (.p p1 (.p p3 (.p p3 (.p p0 .e)))))))) ?_
 refine TL.hv (v := w1) a1 (fun hv3 => ?_)
 refine TL.c rfl rfl rfl (v4qzk g hx6) ?_
 rintro _ _ ⟨w25, w26, rfl, rfl⟩
 refine TL.hv (v := w1) a1 (fun hv4 => ?_)
 have hl4 : x1.c.Peers.length = x10.c.Peers.length := Eq.trans lnE (Hv.eq hv3 hv4)
 refine T.nil (T.bN ?_)
 obtain rfl := Option.some.inj hr
 exact ⟨.inl rfl, _, _, Res.nil, (.sl (.p p0 (.p p0 (.p p0 (.p p0 (.p p2 (d2))))))), w25, w26, rfl, rfl⟩
 }
 }
 }
 {
 replace hr := iN hr hc3
 refine T.q (T.r (TL.bin rfl rfl (TL.a rfl (T.nil (T.m ?_)))))
 refine T.cD rfl (fun hc7 => ?_) (fun hc7 => ?_)
 {
 replace hr := iP hr hc7
 refine T.q ?_
 refine T.ct (fun fr A => ∃ (x11 : Bool), fr = [(0, pt q1 0), (3, pt q2 0), (4, pt b1 el1), (125, .bool x11)] ∧ A = box q2 [iv x2.Kind, iv x2.From, iv x2.To, iv x2.Term, iv x2.A, iv x2.B, iv x2.C, .bool x2.Ok, w4] :: box q1 [w1, w9, w10, .bool x4] :: fz w4 x2.Log :: ow rGPeer w1 xs1 :: ow (rC GM) w9 xs2 :: ow (rC GR) w10 xs3 :: Ar ∧ v49z xs1 x2 xs2 xs3 x4 x11 = some res) ?_ ?_
 {
 refine T.rD r18 f18 rfl rfl kr kr mP (TL.fa rfl (TL.ld rfl a0 rfl (TL.mv rfl (TL.nc rfl (TL.fa rfl ?_)))))
 obtain ⟨x12, hx7, hr⟩ := bS hr
 refine TL.gh (.sl (.p p3 .e)) ?_
 refine GP.foD hp1 hx7 (fun w27 w28 w29 w30 => ?_)
 refine TL.lk (m := 1) rfl a0 rfl rfl (by decide) ?_
 refine TL.bin rfl rfl (TL.mv rfl ?_)
 refine TL.guardD rfl rfl rfl (fun hg8 => ?_) (fun hg8 => ?_)
 {
 replace hr := iP hr hg8
 refine TL.mv rfl (TL.nc rfl (TL.fa rfl ?_))
 refine TL.lk (m := 4) rfl a0 rfl rfl (by decide) ?_
 refine TL.bin rfl rfl ?_
 refine TL.of (fun f k => WL.pick f rfl rfl rfl rfl rfl k) ?_
 refine TL.mv rfl ?_
 refine TL.guardD rfl rfl rfl (fun hg9 => ?_) (fun hg9 => ?_)
 {
 replace hr := iP hr hg9
 refine TL.fa rfl (TL.ld rfl a5 rfl ?_)
 refine TL.of (fun f k => WL.pick f rfl rfl rfl rfl rfl k) ?_
 refine T.nil (T.m ?_)
 exact ⟨_, _, (fl4), (.trans (GP.u0D hx7 p0 p0 p0 p0 p0) (.sl (.p p1 (.p p1 (.p p1 (.p p0 (.p p0 (.p p0 .e)))))))), x2.Ok, rfl, rfl, hr⟩
 }
 {
 replace hr := iN hr hg9
 refine TL.sk rfl (TL.sk rfl ?_)
 refine TL.of (fun f k => WL.pick f rfl rfl rfl rfl rfl k) ?_
 refine T.nil (T.m ?_)
 exact ⟨_, _, (fl4), (.trans (GP.u0D hx7 p0 p0 p0 p0 p0) (.sl (.p p1 (.p p1 (.p p1 (.p p0 (.p p0 (.p p0 .e)))))))), false, rfl, rfl, hr⟩
 }
 }
 {
 replace hr := iN hr hg8
 refine TL.sk rfl (TL.sk rfl (TL.sk rfl (TL.sk rfl (TL.sk rfl ?_))))
 refine TL.of (fun f k => WL.pick f rfl rfl rfl rfl rfl k) ?_
 refine TL.mv rfl (TL.sk rfl (TL.sk rfl ?_))
 refine TL.of (fun f k => WL.pick f rfl rfl rfl rfl rfl k) ?_
 refine T.nil (T.m ?_)
 exact ⟨_, _, (fl4), (.trans (GP.u0D hx7 p0 p0 p0 p0 p0) (.sl (.p p1 (.p p1 (.p p1 (.p p0 (.p p0 (.p p0 .e)))))))), false, rfl, rfl, hr⟩
 }
 }
 {
 rintro _ _ ⟨x11, rfl, rfl, hr⟩
 unfold v49z at hr
 refine T.cond rfl (fun hc8 => ?_) (fun hc8 => ?_)
 {
 replace hr := iBP hr hc8
 refine T.q (T.rD [0, 1, 2, 3, 4, 5, 6, 7] [false, false, false, false, false, false, false, true] rfl rfl kr kr mP (TL.mv rfl (TL.nc rfl (TL.fa rfl ?_))))
 obtain ⟨x13, hx8, hr⟩ := bS hr
 refine TL.gh (.sl (.p p3 .e)) ?_
 refine GP.foD hp1 hx8 (fun w31 w32 w33 w34 => ?_)
 refine TL.lk (m := 6) rfl a0 rfl rfl (by decide) ?_
 refine TL.fa rfl (TL.ld rfl a5 rfl ?_)
 obtain ⟨x14, hx9, hr⟩ := bS hr
 refine TL.ixu rfl a2 hx9 (fun b2 e470 hp2 => ?_)
 refine TL.ste rfl rfl e2 hp2 hx9 (fun _ _ _ _ _ => rfl) ?_
 refine T.nil (T.m (T.r (TL.mv rfl (TL.fa rfl (TL.ld rfl a5 rfl ?_)))))
 obtain ⟨x15, hx10, hr⟩ := bS hr
 refine TL.gh (.trans (GP.unD p0 p0 p0 p0 p0) (.sl (.p p2 (.p p0 (.p p2 (.p p2 .e)))))) ?_
 refine TL.hv (v := w1) a1 (fun hv5 => ?_)
 refine TL.c rfl rfl rfl (v4dzk g hx10) ?_
 rintro _ _ ⟨w35, w36, rfl, rfl⟩
 refine TL.hv (v := w1) a1 (fun hv6 => ?_)
 have hl5 : x1.c.Peers.length = x15.c.Peers.length := Eq.trans lnE (Hv.eq hv5 hv6)
 refine T.nil (T.bN ?_)
 obtain rfl := Option.some.inj hr
 exact ⟨.inl rfl, _, _, Res.nil, (.sl (.p p0 (.p p0 (.p p0 (.p p0 (.p p1 (d1))))))), w35, w36, rfl, rfl⟩
 }
 {
 replace hr := iBN hr hc8
 refine T.k (T.bN ?_)
 obtain rfl := Option.some.inj hr
 exact ⟨.inl rfl, _, _, Res.nil, (.sl (.p p1 (.p p2 (.p p2 (.p p2 (.p p1 (d1))))))), w9, w10, rfl, rfl⟩
 }
 }
 }
 {
 replace hr := iN hr hc7
 refine T.q (T.r (TL.bin rfl rfl (TL.a rfl (T.nil (T.m ?_)))))
 refine T.cD rfl (fun hc9 => ?_) (fun hc9 => ?_)
 {
 replace hr := iP hr hc9
 refine T.r (TL.mv rfl (TL.ldN (l' := [iv x2.Kind, iv x2.From, iv x2.To, iv x2.Term, iv x2.A, iv x2.B, iv x2.C, .bool x2.Ok, w4]) rfl a0 rfl rfl ?_))
 obtain ⟨x16, hx11, hr⟩ := bS hr
 refine TL.gh (.sl (.p p1 (.p p2 (.p p2 (.p p2 (.p p1 .e)))))) ?_
 refine TL.hv (v := w1) a1 (fun hv7 => ?_)
 refine TL.c rfl rfl rfl (v3pzk g hx11) ?_
 rintro _ _ ⟨w37, w38, rfl, rfl⟩
 refine TL.hv (v := w1) a1 (fun hv8 => ?_)
 have hl6 : x1.c.Peers.length = x16.c.Peers.length := Eq.trans lnE (Hv.eq hv7 hv8)
 refine T.nil (T.bN ?_)
 obtain rfl := Option.some.inj hr
 exact ⟨.inl rfl, _, _, Res.nil, (.sl (.p p0 (.p p0 (.p p0 (.p p0 (.p p0 (d1))))))), w37, w38, rfl, rfl⟩
 }
 {
 replace hr := iN hr hc9
 refine T.q (T.r (TL.bin rfl rfl (TL.a rfl (T.nil (T.m ?_)))))
 refine T.cD rfl (fun hc10 => ?_) (fun hc10 => ?_)
 {
 replace hr := iP hr hc10
 refine T.q (T.q ?_)
 refine T.ct (fun fr A => ∃ (x17 : Bool), fr = [(0, pt q1 0), (3, pt q2 0), (4, pt b1 el1), (157, .bool x17)] ∧ A = box q2 [iv x2.Kind, iv x2.From, iv x2.To, iv x2.Term, iv x2.A, iv x2.B, iv x2.C, .bool x2.Ok, w4] :: box q1 [w1, w9, w10, .bool x4] :: fz w4 x2.Log :: ow rGPeer w1 xs1 :: ow (rC GM) w9 xs2 :: ow (rC GR) w10 xs3 :: Ar ∧ v4az xs1 xs2 xs3 x4 x2 x17 = some res) ?_ ?_
 {
 refine T.rD r14 f14 rfl rfl kr kr mP (TL.fa rfl (TL.ld rfl a0 rfl (TL.mv rfl (TL.nc rfl (TL.fa rfl ?_)))))
 obtain ⟨x18, hx12, hr⟩ := bS hr
 refine TL.gh (.sl (.p p3 .e)) ?_
 refine GP.foD hp1 hx12 (fun w39 w40 w41 w42 => ?_)
 refine TL.lk (m := 1) rfl a0 rfl rfl (by decide) ?_
 refine TL.bin rfl rfl (TL.mv rfl ?_)
 refine TL.guardN rfl rfl rfl (fun hg10 => ?_) (fun hg10 => ?_)
 {
 replace hr := iN hr hg10
 refine TL.sk rfl (TL.sk rfl (TL.sk rfl (TL.sk rfl (TL.sk rfl ?_))))
 refine TL.of (fun f k => WL.pick f rfl rfl rfl rfl rfl k) ?_
 refine T.nil (T.m ?_)
 exact ⟨_, _, (fl4), (.trans (GP.u0D hx12 p0 p0 p0 p0 p0) (.sl (.p p1 (.p p1 (.p p1 (.p p0 (.p p0 (.p p0 .e)))))))), true, rfl, rfl, hr⟩
 }
 {
 replace hr := iP hr hg10
 refine TL.mv rfl (TL.nc rfl (TL.fa rfl ?_))
 refine TL.lk (m := 4) rfl a0 rfl rfl (by decide) ?_
 refine TL.bin rfl rfl ?_
 refine TL.of (fun f k => WL.pick f rfl rfl rfl rfl rfl k) ?_
 refine T.nil (T.m ?_)
 exact ⟨_, _, (fl4), (.trans (GP.u0D hx12 p0 p0 p0 p0 p0) (.sl (.p p1 (.p p1 (.p p1 (.p p0 (.p p0 (.p p0 .e)))))))), (!decide (x18.Role = 2)), rfl, rfl, hr⟩
 }
 }
 {
 rintro _ _ ⟨x17, rfl, rfl, hr⟩
 unfold v4az at hr
 refine T.cond rfl (fun hc11 => ?_) (fun hc11 => ?_)
 {
 replace hr := iBP hr hc11
 refine T.ret ?_
 refine T.thenRet ?_
 refine T.blkRet ?_
 obtain rfl := Option.some.inj hr
 exact ⟨.inr rfl, _, _, Res.nil, (.sl (.p p1 (.p p2 (.p p2 (.p p2 (.p p1 (d1))))))), w9, w10, rfl, rfl⟩
 }
 {
 replace hr := iBN hr hc11
 refine T.k (T.m (T.q (T.r (TL.fa rfl (TL.ld rfl a0 rfl (T.nil (T.m ?_)))))))
 refine T.cond rfl (fun hc12 => ?_) (fun hc12 => ?_)
 {
 replace hr := iBP hr hc12
 refine T.q (T.rD [0, 1, 2, 3, 4, 5, 6, 7, 8, 9, 10, 11, 12, 13, 14, 15, 16, 17, 18] [false, false, false, false, false, false, false, false, false, false, false, false, false, false, false, false, false, false, true] rfl rfl kr kr mP (TL.mv rfl (TL.nc rfl (TL.fa rfl ?_))))
 obtain ⟨x19, hx13, hr⟩ := bS hr
 refine TL.gh (.sl (.p p3 .e)) ?_
 refine GP.foD hp1 hx13 (fun w43 w44 w45 w46 => ?_)
 refine TL.lk (m := 8) rfl a0 rfl rfl (by decide) ?_
 refine TL.fa rfl (TL.ld rfl a5 rfl (TL.mv rfl (TL.nc rfl (TL.fa rfl ?_))))
 refine TL.lk (m := 8) rfl a0 rfl rfl (by decide) ?_
 refine TL.fa rfl (TL.ld rfl a5 rfl ?_)
 obtain ⟨x20, hx14, hr⟩ := bS hr
 refine TL.ixu rfl a4 hx14 (fun b3 e672 hp3 => ?_)
 refine TL.ldek (m := 0) rfl a4 hp3 hx14 Rp.sc rfl (TL.fa rfl (TL.ld rfl a5 rfl ?_))
 refine TL.of (fun f k => WL.max2 f rfl rfl rfl rfl rfl k) ?_
 obtain ⟨x21, hx15, hr⟩ := bS hr
 refine TL.ixu rfl a4 hx15 (fun b4 e685 hp4 => ?_)
 refine TL.ste rfl rfl e4 hp4 hx15 (fun _ _ _ _ _ => rfl) ?_
 refine T.nil (T.m (T.q (T.rD [0, 1, 2, 3, 4, 5, 6, 7, 8, 9, 10, 11, 12, 13, 14, 15, 16, 17, 18, 19] [false, false, false, false, false, false, false, false, false, false, false, false, false, false, false, false, false, false, false, true] rfl rfl kr kr mP (TL.mv rfl (TL.nc rfl (TL.fa rfl ?_))))))
 refine TL.lk (m := 7) rfl a0 rfl rfl (by decide) ?_
 refine TL.fa rfl (TL.ld rfl a5 rfl (TL.mv rfl (TL.nc rfl (TL.fa rfl ?_))))
 refine TL.lk (m := 7) rfl a0 rfl rfl (by decide) ?_
 refine TL.fa rfl (TL.ld rfl a5 rfl ?_)
 obtain ⟨x22, hx16, hr⟩ := bS hr
 refine TL.ixu rfl a3 hx16 (fun b5 e710 hp5 => ?_)
 refine TL.ldek (m := 0) rfl a3 hp5 hx16 Rp.sc rfl (TL.fa rfl (TL.ld rfl a5 rfl ?_))
 obtain ⟨hc13, hr⟩ := cS hr
 refine TL.ad rfl hc13 ?_
 refine TL.of (fun f k => WL.max2 f rfl rfl rfl rfl rfl k) ?_
 obtain ⟨x23, hx17, hr⟩ := bS hr
 refine TL.ixu rfl a3 hx17 (fun b6 e724 hp6 => ?_)
 refine TL.ste rfl rfl e3 hp6 hx17 (fun _ _ _ _ _ => rfl) ?_
 refine T.nil (T.m (T.r (TL.mv rfl (TL.fa rfl (TL.ld rfl a5 rfl ?_)))))
 obtain ⟨x24, hx18, hr⟩ := bS hr
 refine TL.gh (.trans (GP.unD p0 p0 p0 p0 p0) (.sl (.p p2 (.p p0 (.p p2 (.p p2 .e)))))) ?_
 refine TL.hv (v := w1) a1 (fun hv9 => ?_)
 refine TL.c rfl rfl rfl (v3zzk g hx18) ?_
 rintro _ _ ⟨w47, w48, rfl, rfl⟩
 refine TL.hv (v := w1) a1 (fun hv10 => ?_)
 have hl7 : x1.c.Peers.length = x24.c.Peers.length := Eq.trans lnE (Hv.eq hv9 hv10)
 refine T.nil (T.bN ?_)
 obtain rfl := Option.some.inj hr
 exact ⟨.inl rfl, _, _, Res.nil, (.sl (.p p0 (.p p0 (.p p0 (.p p0 (.p p1 (d1))))))), w47, w48, rfl, rfl⟩
 }
 {
 replace hr := iBN hr hc12
 refine T.q (T.rD r12 f12 rfl rfl kr kr mP (TL.fa rfl (TL.ld rfl a0 rfl ?_)))
 obtain ⟨hc14, hr⟩ := cS hr
 refine TL.ad rfl hc14 (TL.mv rfl (TL.nc rfl (TL.fa rfl ?_)))
 obtain ⟨x25, hx19, hr⟩ := bS hr
 refine TL.gh (.sl (.p p3 .e)) ?_
 refine GP.foD hp1 hx19 (fun w49 w50 w51 w52 => ?_)
 refine TL.lk (m := 7) rfl a0 rfl rfl (by decide) ?_
 refine TL.fa rfl (TL.ld rfl a5 rfl ?_)
 obtain ⟨x26, hx20, hr⟩ := bS hr
 refine TL.ixu rfl a3 hx20 (fun b7 e819 hp7 => ?_)
 refine TL.ldek (m := 0) rfl a3 hp7 hx20 Rp.sc rfl (TL.bin rfl rfl (T.nil (T.m ?_)))
 refine T.cD rfl (fun hc15 => ?_) (fun hc15 => ?_)
 {
 replace hr := iP hr hc15
 refine T.q (T.rD [0, 1, 2, 3, 4, 5, 6, 7, 8, 9, 10, 11, 12, 13, 14, 15, 16, 17, 18, 19, 20] [false, false, false, false, false, false, false, false, false, false, false, false, false, false, false, false, false, false, false, false, true] rfl rfl kr kr mP (TL.mv rfl (TL.nc rfl (TL.fa rfl ?_))))
 refine TL.lk (m := 7) rfl a0 rfl rfl (by decide) ?_
 refine TL.fa rfl (TL.ld rfl a5 rfl (TL.mv rfl (TL.nc rfl (TL.fa rfl ?_))))
 refine TL.lk (m := 8) rfl a0 rfl rfl (by decide) ?_
 refine TL.fa rfl (TL.ld rfl a5 rfl ?_)
 obtain ⟨x27, hx21, hr⟩ := bS hr
 refine TL.ixu rfl a4 hx21 (fun b8 e834 hp8 => ?_)
 refine TL.ldek (m := 0) rfl a4 hp8 hx21 Rp.sc rfl ?_
 obtain ⟨hc16, hr⟩ := cS hr
 refine TL.ad rfl hc16 (TL.fa rfl (TL.ld rfl a5 rfl ?_))
 obtain ⟨hc17, hr⟩ := cS hr
 refine TL.ad rfl hc17 ?_
 refine TL.of (fun f k => WL.max2 f rfl rfl rfl rfl rfl k) ?_
 obtain ⟨x28, hx22, hr⟩ := bS hr
 refine TL.ixu rfl a3 hx22 (fun b9 e849 hp9 => ?_)
 refine TL.ste rfl rfl e3 hp9 hx22 (fun _ _ _ _ _ => rfl) ?_
 refine T.nil (T.m (T.r (TL.mv rfl (TL.fa rfl (TL.ld rfl a5 rfl (TL.fa rfl (TL.ld rfl a5 rfl ?_)))))))
 obtain ⟨x29, hx23, hr⟩ := bS hr
 refine TL.gh (.trans (GP.unD p0 p0 p0 p0 p0) (.sl (.p p2 (.p p0 (.p p2 (.p p2 .e)))))) ?_
 refine TL.hv (v := w1) a1 (fun hv11 => ?_)
 refine TL.c rfl rfl rfl (v3nzk g hx23) ?_
 rintro _ _ ⟨w53, w54, rfl, rfl⟩
 refine TL.hv (v := w1) a1 (fun hv12 => ?_)
 have hl8 : x1.c.Peers.length = x29.c.Peers.length := Eq.trans lnE (Hv.eq hv11 hv12)
 refine T.nil (T.bN ?_)
 obtain rfl := Option.some.inj hr
 exact ⟨.inl rfl, _, _, Res.nil, (.sl (.p p0 (.p p0 (.p p0 (.p p0 (.p p1 (d1))))))), w53, w54, rfl, rfl⟩
 }
 {
 replace hr := iN hr hc15
 refine T.k (T.bN ?_)
 obtain rfl := Option.some.inj hr
 exact ⟨.inl rfl, _, _, Res.nil, (.trans (GP.u0D hx19 p0 p0 p0 p0 p0) (.sl (.p p2 (.p p0 (.p p2 (.p p2 (.p p1 (d1)))))))), w9, w10, rfl, rfl⟩
 }
 }
 }
 }
 }
 {
 replace hr := iN hr hc10
 refine T.k (T.bN ?_)
 obtain rfl := Option.some.inj hr
 exact ⟨.inl rfl, _, _, Res.nil, (.sl (.p p1 (.p p2 (.p p2 (.p p2 (.p p1 (d1))))))), w9, w10, rfl, rfl⟩
 }
 }
 }
 }
 }
 }
theorem v4szk {Δ : Prims} (g : Env Try.prog Δ) {Ar : List Item} {x1 : GL} {q1 : Nat} {w1 w2 w3 : Value} {x2 : Int} {res : (GL)} (hr : v4sz x1 x2 = some res) :
    Sp Try.prog Δ 72 [pt q1 0, iv x2] (box q1 [w1, w2, w3, .bool x1.c.Conflict] :: ow rGPeer w1 x1.c.Peers :: ow (rC GM) w2 x1.c.Net :: ow (rC GR) w3 x1.c.Chosen :: Ar) (fun v A => ∃ (rw1 : Value) (rw2 : Value), v = .tuple #[] ∧ A = box q1 [w1, rw1, rw2, .bool res.c.Conflict] :: ow rGPeer w1 res.c.Peers :: ow (rC GM) rw1 res.c.Net :: ow (rC GR) rw2 res.c.Chosen :: Ar) := by
 refine Sp.bd Try.func72 rfl rfl ?_
 unfold v4sz at hr
 refine T.q (T.r (TL.mv rfl (TL.nc rfl (TL.fa rfl (TL.fa rfl (TL.ld rfl a0 rfl (TL.mv rfl ?_)))))))
 obtain ⟨x3, hx1, hr⟩ := bS hr
 refine TL.ixu rfl a1 hx1 (fun b1 el1 hp1 => ?_)
 refine TL.a rfl (T.nil (T.m (T.q (T.r (TL.mv rfl (TL.nc rfl (TL.fa rfl (TL.fa rfl (TL.ld rfl a0 rfl ?_)))))))))
 refine TL.len rfl a1 (TL.a rfl (T.nil (T.m (T.q (T.q (T.r (TL.mv rfl (TL.nc rfl (TL.fa rfl ?_)))))))))
 refine TL.gh (.sl (.p p1 .e)) ?_
 refine GP.foD hp1 hx1 (fun w4 w5 w6 w7 => ?_)
 refine TL.lk (m := 4) rfl a0 rfl rfl (by decide) ?_
 refine TL.bin rfl rfl (T.nil (T.m ?_))
 refine T.cD rfl (fun hc1 => ?_) (fun hc1 => ?_)
 {
 replace hr := iP hr hc1
 refine T.q (T.q (T.r (TL.a rfl (T.nil (T.m (T.b ?_))))))
 refine T.lp (fun k0 fr A => ∃ (x4 : Int) (xs1 : (List GP)) (xs2 : (List GM)) (xs3 : (List GR)) (x5 : Bool) (w8 : Value) (w9 : Value), x1.c.Peers.length = xs1.length ∧ fr = [(0, pt q1 0), (1, iv x2), (5, iv (x1.c.Peers.length : Int)), (6, iv x4)] ∧ A = box q1 [w1, w8, w9, .bool x5] :: ow rGPeer w1 xs1 :: ow (rC GM) w8 xs2 :: ow (rC GR) w9 xs3 :: Ar ∧ v4vz x1 x2 k0 x4 xs1 xs2 xs3 x5 = some res) BIG ?_ ?_ ?_
 {
 exact ⟨_, _, (fl4), (.trans (GP.u0D hx1 p0 p0 p0 p0 p0) (.sl (.p p1 (.p p0 (.p p0 (.p p0 .e)))))), 0, x1.c.Peers, x1.c.Net, x1.c.Chosen, x1.c.Conflict, w2, w3, lnE, rfl, rfl, hr⟩
 }
 {
 rintro fr A ⟨x4, xs1, xs2, xs3, x5, w8, w9, hl1, -, -, hr⟩
 rw [v4vz] at hr
 cases hr
 }
 {
 rintro k0 _ _ ⟨x4, xs1, xs2, xs3, x5, w8, w9, hl1, rfl, rfl, hr⟩
 rw [v4vz] at hr
 refine T.q (T.q (T.r (TL.mv rfl (TL.mv rfl (TL.bin rfl rfl (T.nil (T.m ?_)))))))
 refine T.cD rfl (fun hc2 => ?_) (fun hc2 => ?_)
 {
 replace hr := iP hr hc2
 refine T.k (T.m (T.q ?_))
 refine T.ct (fun fr A => ∃ (xs4 : (List GP)) (xs5 : (List GM)) (xs6 : (List GR)) (x6 : Bool) (w10 : Value) (w11 : Value), x1.c.Peers.length = xs4.length ∧ fr = [(0, pt q1 0), (1, iv x2), (5, iv (x1.c.Peers.length : Int)), (6, iv x4)] ∧ A = box q1 [w1, w10, w11, .bool x6] :: ow rGPeer w1 xs4 :: ow (rC GM) w10 xs5 :: ow (rC GR) w11 xs6 :: Ar ∧ v4tz x4 (v4vz x1 x2 k0) xs4 xs5 xs6 x6 = some res) ?_ ?_
 {
 refine T.b (T.q (T.r (TL.mv rfl (TL.mv rfl (TL.bin rfl rfl (T.nil (T.m ?_)))))))
 refine T.condN rfl (fun hc3 => ?_) (fun hc3 => ?_)
 {
 replace hr := iN hr hc3
 refine T.r (TL.mv rfl (TL.mv rfl (TL.mv rfl ?_)))
 obtain ⟨x7, hx2, hr⟩ := bS hr
 refine TL.hv (v := w1) a1 (fun hv1 => ?_)
 refine TL.c rfl rfl rfl (v3nzk g hx2) ?_
 rintro _ _ ⟨w12, w13, rfl, rfl⟩
 refine TL.hv (v := w1) a1 (fun hv2 => ?_)
 have hl2 : x1.c.Peers.length = x7.c.Peers.length := Eq.trans lnE (Hv.eq hv1 hv2)
 refine T.nil (T.bN (T.m ?_))
 exact ⟨_, _, (fl4), (.refl _), x7.c.Peers, x7.c.Net, x7.c.Chosen, x7.c.Conflict, w12, w13, lnE, rfl, rfl, hr⟩
 }
 {
 replace hr := iP hr hc3
 refine T.k (T.bN (T.m ?_))
 exact ⟨_, _, (fl4), (.refl _), xs1, xs2, xs3, x5, w8, w9, lnE, rfl, rfl, hr⟩
 }
 }
 {
 rintro _ _ ⟨xs4, xs5, xs6, x6, w10, w11, hl3, rfl, rfl, hr⟩
 unfold v4tz at hr
 refine T.r (TL.mv rfl ?_)
 obtain ⟨hc4, hr⟩ := cS hr
 refine TL.ad rfl hc4 (TL.a rfl (T.nil (T.m ?_)))
 exact ⟨_, _, (fl4), (.refl _), (x4 + 1), xs4, xs5, xs6, x6, w10, w11, lnE, rfl, rfl, hr⟩
 }
 }
 {
 replace hr := iN hr hc2
 refine T.exit ?_
 refine T.tE (T.tE (T.bH (T.m ?_)))
 refine T.ret ?_
 refine T.thenRet ?_
 obtain rfl := Option.some.inj hr
 exact ⟨.inr rfl, _, _, Res.nil, (.refl _), w8, w9, rfl, rfl⟩
 }
 }
 }
 {
 replace hr := iN hr hc1
 refine T.k (T.m (T.q (T.q (T.r (TL.mv rfl (TL.nc rfl (TL.fa rfl ?_)))))))
 refine TL.lk (m := 1) rfl a0 rfl rfl (by decide) ?_
 refine TL.bin rfl rfl (T.nil (T.m ?_))
 refine T.cD rfl (fun hc5 => ?_) (fun hc5 => ?_)
 {
 replace hr := iP hr hc5
 refine T.ret ?_
 refine T.thenRet ?_
 obtain rfl := Option.some.inj hr
 exact ⟨.inr rfl, _, _, Res.nil, (.trans (GP.u0D hx1 p0 p0 p0 p0 p0) (.sl (.p p1 (.p p0 (.p p0 (.p p0 .e)))))), w2, w3, rfl, rfl⟩
 }
 {
 replace hr := iN hr hc5
 refine T.k (T.m (T.q (T.r (TL.mv rfl (TL.nc rfl (TL.fa rfl ?_))))))
 refine TL.lk (m := 1) rfl a0 rfl rfl (by decide) ?_
 obtain ⟨hc6, hr⟩ := cS hr
 refine TL.ad rfl hc6 (TL.nc rfl (TL.fa rfl ?_))
 refine TL.stf rfl rfl e0 c1 (T.nil (T.m (T.q (T.r (TL.mv rfl (TL.mv rfl ?_))))))
 obtain ⟨hc7, hr⟩ := cS hr
 refine TL.ad rfl hc7 (TL.nc rfl (TL.fa rfl ?_))
 refine TL.stf rfl rfl e0 c2 (T.nil (T.m (T.q (T.r (TL.mv rfl (TL.nc rfl (TL.fa rfl ?_)))))))
 refine TL.stf rfl rfl e0 c4 (T.nil (T.m (T.q (T.r (TL.mv rfl (TL.mv rfl ?_))))))
 obtain ⟨hc8, hr⟩ := cS hr
 refine TL.mk (r := (rC Bool)) rfl (false : Bool) (fun _ => rfl) hc8.1 hc8.2 (fun w14 => ?_)
 refine TL.nc rfl (TL.fa rfl ?_)
 refine TL.stfs rfl a0 e1 c6 (T.nil (T.m (T.q (T.r (TL.mv rfl (TL.nc rfl (TL.fa rfl ?_)))))))
 refine TL.lk (m := 6) rfl a1 rfl rfl (by decide) ?_
 refine TL.mv rfl ?_
 obtain ⟨x8, hx3, hr⟩ := bS hr
 refine TL.ixu rfl a0 hx3 (fun b2 e1167 hp2 => ?_)
 refine TL.ste rfl rfl e0 hp2 hx3 (fun _ _ _ _ _ => rfl) ?_
 refine T.nil (T.m (T.q (T.r (TL.mv rfl (TL.nc rfl (TL.ldfN rfl a1 rfl rfl ?_))))))
 obtain ⟨x9, hx4, hr⟩ := bS hr
 refine TL.callL g rfl rfl rfl (.z (v := w4) a2 inferInstance (.z (v := w14) a0 inferInstance (.z (v := w6) a4 inferInstance (.z (v := w7) a5 inferInstance .n)))) (v3hzk g (Ar := []) hx4) (R2 := fun v A => v = .tuple #[iv x9.1, iv x9.2] ∧ A = []) (fun _ _ h => ⟨[], by obtain ⟨_, rfl⟩ := h; exact Sl.ent d4, .n, h.1, rfl⟩) ?_
 rintro _ _ ⟨rfl, rfl⟩
 simp only [List.cons_append, List.nil_append]
 refine TL.mv rfl ?_
 refine TL.of (fun f k => WL.extract f rfl rfl rfl rfl rfl k) ?_
 refine TL.of (fun f k => WL.extract f rfl rfl rfl rfl rfl k) ?_
 refine TL.a rfl (TL.a rfl (T.nil (T.m (T.q (T.q (T.r (TL.a rfl (T.nil (T.m ?_)))))))))
 refine T.b ?_
 refine T.lp (fun k2 fr A => ∃ (x10 : Int) (xs7 : (List GP)) (xs8 : (List GM)) (xs9 : (List GR)) (x11 : Bool) (w15 : Value) (w16 : Value), x1.c.Peers.length = xs7.length ∧ fr = [(0, pt q1 0), (1, iv x2), (4, pt b1 el1), (5, iv (x1.c.Peers.length : Int)), (7, iv x9.1), (8, iv x9.2), (9, iv x10)] ∧ A = box q1 [w1, w15, w16, .bool x11] :: ow rGPeer w1 xs7 :: ow (rC GM) w15 xs8 :: ow (rC GR) w16 xs9 :: Ar ∧ v4wz x1 x2 x9 k2 x10 xs7 xs8 xs9 x11 = some res) BIG ?_ ?_ ?_
 {
 exact ⟨_, _, (fl7), (.trans (GP.unD p1 p1 p0 p1 p1) (.sl (.p p2 (.p p0 (.p p1 (.p p1 (d1))))))), 0, (setI x1.c.Peers x2 ({ Up := x3.Up, Term := (x3.Term + 1), Vote := (x2 + 1), Commit := x3.Commit, Role := 1, Log := x3.Log, Votes := (setI (List.replicate (x1.c.Peers.length : Int).toNat (false : Bool)) x2 true), Next := x3.Next, Match := x3.Match } : GP)), x1.c.Net, x1.c.Chosen, x1.c.Conflict, w2, w3, lnE, rfl, rfl, hr⟩
 }
 {
 rintro fr A ⟨x10, xs7, xs8, xs9, x11, w15, w16, hl4, -, -, hr⟩
 rw [v4wz] at hr
 cases hr
 }
 {
 rintro k2 _ _ ⟨x10, xs7, xs8, xs9, x11, w15, w16, hl4, rfl, rfl, hr⟩
 rw [v4wz] at hr
 refine T.q (T.q (T.r (TL.mv rfl (TL.mv rfl (TL.bin rfl rfl (T.nil (T.m ?_)))))))
 refine T.cD rfl (fun hc9 => ?_) (fun hc9 => ?_)
 {
 replace hr := iP hr hc9
 refine T.k (T.m (T.q ?_))
 refine T.ct (fun fr A => ∃ (xs10 : (List GP)) (xs11 : (List GM)) (xs12 : (List GR)) (x12 : Bool) (w17 : Value) (w18 : Value), x1.c.Peers.length = xs10.length ∧ fr = [(0, pt q1 0), (1, iv x2), (4, pt b1 el1), (5, iv (x1.c.Peers.length : Int)), (7, iv x9.1), (8, iv x9.2), (9, iv x10)] ∧ A = box q1 [w1, w17, w18, .bool x12] :: ow rGPeer w1 xs10 :: ow (rC GM) w17 xs11 :: ow (rC GR) w18 xs12 :: Ar ∧ v4uz x10 (v4wz x1 x2 x9 k2) xs10 xs11 xs12 x12 = some res) ?_ ?_
 {
 refine T.b (T.q (T.r (TL.mv rfl (TL.mv rfl (TL.bin rfl rfl (T.nil (T.m ?_)))))))
 refine T.condN rfl (fun hc10 => ?_) (fun hc10 => ?_)
 {
 replace hr := iN hr hc10
 refine T.r (TL.mv rfl (TL.mv rfl (TL.mv rfl (TL.mv rfl (TL.nc rfl (TL.fa rfl ?_))))))
 obtain ⟨x13, hx5, hr⟩ := bS hr
 refine TL.gh (.sl (.p p1 .e)) ?_
 refine GP.foD hp1 hx5 (fun w19 w20 w21 w22 => ?_)
 refine TL.lk (m := 1) rfl a0 rfl rfl (by decide) ?_
 refine TL.mv rfl (TL.mv rfl ?_)
 refine TL.bld (cells := [iv 1, iv x2, iv x10, iv x13.Term, iv x9.1, iv x9.2, iv 0, .bool false, .slice none 0 0]) rfl Try.underlying85 info85 rfl rfl rfl (by simp only [List.mapM_cons, List.mapM_nil, info3, info3, info3, info3, info3, info3, info3, info4, info28]; rfl) rfl (.s rfl (.s rfl (.s rfl (.s rfl (.s rfl (.s rfl .n)))))) rfl ?_
 obtain ⟨x14, hx6, hr⟩ := bS hr
 refine TL.gh (.trans (GP.u0D hx5 p0 p0 p0 p0 p0) (.trans (.nilZ GR) (.sl (.p p2 (.p p1 (.p p1 (.p p1 (.p p0 .e)))))))) ?_
 refine TL.hv (v := w1) a1 (fun hv3 => ?_)
 refine TL.c rfl rfl rfl (v4qzk g hx6) ?_
 rintro _ _ ⟨w23, w24, rfl, rfl⟩
 refine TL.hv (v := w1) a1 (fun hv4 => ?_)
 have hl5 : x1.c.Peers.length = x14.c.Peers.length := Eq.trans lnE (Hv.eq hv3 hv4)
 refine T.nil (T.bN (T.m ?_))
 exact ⟨_, _, (fl7), (.sl (.p p0 (.p p0 (.p p0 (.p p0 (d1)))))), x14.c.Peers, x14.c.Net, x14.c.Chosen, x14.c.Conflict, w23, w24, lnE, rfl, rfl, hr⟩
 }
 {
 replace hr := iP hr hc10
 refine T.k (T.bN (T.m ?_))
 exact ⟨_, _, (fl7), (.refl _), xs7, xs8, xs9, x11, w15, w16, lnE, rfl, rfl, hr⟩
 }
 }
 {
 rintro _ _ ⟨xs10, xs11, xs12, x12, w17, w18, hl6, rfl, rfl, hr⟩
 unfold v4uz at hr
 refine T.r (TL.mv rfl ?_)
 obtain ⟨hc11, hr⟩ := cS hr
 refine TL.ad rfl hc11 (TL.a rfl (T.nil (T.m ?_)))
 exact ⟨_, _, (fl7), (.refl _), (x10 + 1), xs10, xs11, xs12, x12, w17, w18, lnE, rfl, rfl, hr⟩
 }
 }
 {
 replace hr := iN hr hc9
 refine T.exit ?_
 refine T.tE (T.tE (T.bH (T.m (T.r (TL.mv rfl (TL.mv rfl ?_))))))
 obtain ⟨x15, hx7, hr⟩ := bS hr
 refine TL.hv (v := w1) a1 (fun hv5 => ?_)
 refine TL.c rfl rfl rfl (v4dzk g hx7) ?_
 rintro _ _ ⟨w25, w26, rfl, rfl⟩
 refine TL.hv (v := w1) a1 (fun hv6 => ?_)
 have hl7 : x1.c.Peers.length = x15.c.Peers.length := Eq.trans lnE (Hv.eq hv5 hv6)
 refine T.nil ?_
 obtain rfl := Option.some.inj hr
 exact ⟨.inl rfl, _, _, Res.nil, (.refl _), w25, w26, rfl, rfl⟩
 }
 }
 }
 }
theorem v4kzk {Δ : Prims} (g : Env Try.prog Δ) {Ar : List Item} {x1 : GL} {q1 : Nat} {w1 w2 w3 : Value} {x2 : GE} {w4 : Value} {res : (GL × Int)} (hr : v4kz x1 x2 = some res) :
    Sp Try.prog Δ 38 [pt q1 0, .agg [iv x2.Kind, iv x2.N, w4].toArray] (box q1 [w1, w2, w3, .bool x1.c.Conflict] :: ow rGPeer w1 x1.c.Peers :: ow (rC GM) w2 x1.c.Net :: ow (rC GR) w3 x1.c.Chosen :: fz w4 x2.Data :: Ar) (fun v A => ∃ (rw1 : Value) (rw2 : Value), v = iv res.2 ∧ A = box q1 [w1, rw1, rw2, .bool res.1.c.Conflict] :: ow rGPeer w1 res.1.c.Peers :: ow (rC GM) rw1 res.1.c.Net :: ow (rC GR) rw2 res.1.c.Chosen :: fz w4 x2.Data :: Ar) := by
 refine Sp.bd Try.func38 rfl rfl ?_
 unfold v4kz at hr
 refine T.q (T.r ?_)
 refine TL.bxo rfl rfl (.s rfl (.s rfl (.h a4 inferInstance .n))) (fun q2 => ?_)
 refine TL.a rfl (T.nil (T.m (T.q (T.q (T.r (TL.fa rfl (TL.ld rfl a0 rfl (T.nil (T.m ?_)))))))))
 refine T.b (T.q (T.q (T.r (TL.bin rfl rfl (TL.a rfl (T.nil (T.m ?_)))))))
 refine T.ct (fun fr A => ∃ (x3 : Bool), fr = [(0, pt q1 0), (3, pt q2 0), (7, iv x2.Kind), (8, .bool x3)] ∧ A = box q2 [iv x2.Kind, iv x2.N, w4] :: box q1 [w1, w2, w3, .bool x1.c.Conflict] :: fz w4 x2.Data :: ow rGPeer w1 x1.c.Peers :: ow (rC GM) w2 x1.c.Net :: ow (rC GR) w3 x1.c.Chosen :: Ar ∧ v4lz x2 x1 x3 = some res) ?_ ?_
 {
 refine T.cD rfl (fun hc1 => ?_) (fun hc1 => ?_)
 {
 replace hr := iP hr hc1
 refine T.k (T.m ?_)
 exact ⟨_, _, (fl4), (.sl (.p p0 (.p p0 (.p p3 (.p p0 (.p p0 (.p p0 .e))))))), (decide (x2.Kind = 2)), rfl, rfl, hr⟩
 }
 {
 replace hr := iN hr hc1
 refine T.q (T.r (TL.bin rfl rfl (TL.a rfl (T.nil (T.m ?_)))))
 refine T.cD rfl (fun hc2 => ?_) (fun hc2 => ?_)
 {
 replace hr := iP hr hc2
 refine T.k (T.m ?_)
 exact ⟨_, _, (fl4), (.sl (.p p0 (.p p0 (.p p3 (.p p0 (.p p0 (.p p0 .e))))))), (decide (x2.Kind = 3)), rfl, rfl, hr⟩
 }
 {
 replace hr := iN hr hc2
 refine T.r (TL.bin rfl rfl (TL.a rfl (T.nil (T.m ?_))))
 exact ⟨_, _, (fl4), (.sl (.p p0 (.p p0 (.p p3 (.p p0 (.p p0 (.p p0 .e))))))), (decide (x2.Kind = 4)), rfl, rfl, hr⟩
 }
 }
 }
 {
 rintro _ _ ⟨x3, rfl, rfl, hr⟩
 unfold v4lz at hr
 refine T.cond rfl (fun hc3 => ?_) (fun hc3 => ?_)
 {
 replace hr := iBP hr hc3
 refine T.q (T.q ?_)
 refine T.ct (fun fr A => ∃ (x4 : Bool), fr = [(0, pt q1 0), (3, pt q2 0), (25, .bool x4)] ∧ A = box q2 [iv x2.Kind, iv x2.N, w4] :: box q1 [w1, w2, w3, .bool x1.c.Conflict] :: fz w4 x2.Data :: ow rGPeer w1 x1.c.Peers :: ow (rC GM) w2 x1.c.Net :: ow (rC GR) w3 x1.c.Chosen :: Ar ∧ v4mz x1 x2 x4 = some res) ?_ ?_
 {
 refine T.rD r14 f14 rfl rfl kr kr mP (TL.fa rfl (TL.ld rfl a0 rfl (TL.bin rfl rfl (TL.mv rfl ?_))))
 refine TL.guardD rfl rfl rfl (fun hg1 => ?_) (fun hg1 => ?_)
 {
 replace hr := iP hr hg1
 refine TL.sk rfl (TL.sk rfl (TL.sk rfl (TL.sk rfl (TL.sk rfl (TL.sk rfl (TL.sk rfl (TL.sk rfl (TL.sk rfl ?_))))))))
 refine TL.of (fun f k => WL.pick f rfl rfl rfl rfl rfl k) ?_
 refine T.nil (T.m ?_)
 exact ⟨_, _, (fl3), (.refl _), true, rfl, rfl, hr⟩
 }
 {
 replace hr := iN hr hg1
 refine TL.fa rfl (TL.ld rfl a0 rfl (TL.mv rfl (TL.nc rfl (TL.fa rfl (TL.fa rfl (TL.ld rfl a1 rfl (TL.len rfl a4 (TL.bin rfl rfl ?_))))))))
 refine TL.of (fun f k => WL.pick f rfl rfl rfl rfl rfl k) ?_
 refine T.nil (T.m ?_)
 exact ⟨_, _, (fl3), (.refl _), (decide ((x1.c.Net.length : Int) ≤ x2.N)), rfl, rfl, hr⟩
 }
 }
 {
 rintro _ _ ⟨x4, rfl, rfl, hr⟩
 unfold v4mz at hr
 refine T.cond rfl (fun hc4 => ?_) (fun hc4 => ?_)
 {
 replace hr := iBP hr hc4
 refine T.q (T.r (TL.a rfl (T.nil (T.m ?_))))
 refine T.ret ?_
 refine T.thenRet ?_
 refine T.blkRet ?_
 refine T.thenRet ?_
 obtain rfl := Option.some.inj hr
 exact ⟨.inr rfl, _, _, (Res.tmp rfl Res.nil), (.sl (.p p1 (.p p2 (.p p2 (.p p2 (.p p1 (d1))))))), w2, w3, rfl, rfl⟩
 }
 {
 replace hr := iBN hr hc4
 refine T.k (T.m (T.q (T.q (T.r (TL.fa rfl (TL.ld rfl a0 rfl (T.nil (T.m (T.b ?_)))))))))
 refine T.q (T.r (TL.bin rfl rfl (TL.a rfl (T.nil (T.m ?_)))))
 refine T.cD rfl (fun hc5 => ?_) (fun hc5 => ?_)
 {
 replace hr := iP hr hc5
 refine T.r (TL.mv rfl (TL.mv rfl (TL.fa rfl (TL.ld rfl a0 rfl ?_))))
 obtain ⟨x5, hx1, hr⟩ := bS hr
 refine TL.gh (.sl (.p p1 (.p p2 (.p p2 (.p p2 .e))))) ?_
 refine TL.hv (v := w1) a1 (fun hv1 => ?_)
 refine TL.c rfl rfl rfl (v4rzk g hx1) ?_
 rintro _ _ ⟨w5, w6, w7, rfl, rfl⟩
 refine TL.hv (v := w1) a1 (fun hv2 => ?_)
 have hl1 : x1.c.Peers.length = x5.1.c.Peers.length := Eq.trans lnE (Hv.eq hv1 hv2)
 obtain ⟨x6, hx2, hr⟩ := bS hr
 refine TL.hv (v := w1) a1 (fun hv3 => ?_)
 refine TL.c rfl rfl rfl (v45zk g hx2) ?_
 rintro _ _ ⟨w8, w9, rfl, rfl⟩
 refine TL.hv (v := w1) a1 (fun hv4 => ?_)
 have hl2 : x1.c.Peers.length = x6.c.Peers.length := Eq.trans lnE (Hv.eq hv3 hv4)
 refine T.nil (T.bN (T.m (T.q (T.r (TL.a rfl (T.nil (T.m ?_)))))))
 refine T.ret ?_
 refine T.blkRet ?_
 refine T.thenRet ?_
 obtain rfl := Option.some.inj hr
 exact ⟨.inr rfl, _, _, (Res.tmp rfl Res.nil), (.sl (.p p0 (.p p0 (.p p0 (.p p0 (.p p2 (d2))))))), w8, w9, rfl, rfl⟩
 }
 {
 replace hr := iN hr hc5
 refine T.q (T.r (TL.bin rfl rfl (TL.a rfl (T.nil (T.m ?_)))))
 refine T.cD rfl (fun hc6 => ?_) (fun hc6 => ?_)
 {
 replace hr := iP hr hc6
 refine T.r (TL.mv rfl (TL.fa rfl (TL.ld rfl a0 rfl ?_)))
 obtain ⟨x7, hx3, hr⟩ := bS hr
 refine TL.gh (.sl (.p p1 (.p p2 (.p p2 (.p p2 .e))))) ?_
 refine TL.hv (v := w1) a1 (fun hv5 => ?_)
 refine TL.c rfl rfl rfl (v4rzk g hx3) ?_
 rintro _ _ ⟨w10, w11, w12, rfl, rfl⟩
 refine TL.hv (v := w1) a1 (fun hv6 => ?_)
 have hl3 : x1.c.Peers.length = x7.1.c.Peers.length := Eq.trans lnE (Hv.eq hv5 hv6)
 refine T.nil (T.bN (T.m (T.q (T.r (TL.a rfl (T.nil (T.m ?_)))))))
 refine T.ret ?_
 refine T.blkRet ?_
 refine T.thenRet ?_
 obtain rfl := Option.some.inj hr
 exact ⟨.inr rfl, _, _, (Res.tmp rfl Res.nil), (.sl (.p p0 (.p p0 (.p p0 (.p p0 (.p p2 (d2))))))), w10, w11, rfl, rfl⟩
 }
 {
 replace hr := iN hr hc6
 refine T.rD [0, 1, 2, 3, 4, 5, 6, 7, 8, 9, 10] [false, false, false, false, false, false, false, false, false, false, true] rfl rfl kr kr mP (TL.mv rfl (TL.mv rfl (TL.nc rfl (TL.fa rfl (TL.fa rfl (TL.ld rfl a1 rfl (TL.fa rfl (TL.ld rfl a0 rfl ?_))))))))
 obtain ⟨x8, hx4, hr⟩ := bS hr
 refine TL.ixu rfl a4 hx4 (fun b1 e604 hp1 => ?_)
 refine TL.gh (.sl (.p p4 .e)) ?_
 refine GM.fo hp1 hx4 (fun w13 => ?_)
 refine TL.ldfN rfl a0 rfl rfl ?_
 obtain ⟨x9, hx5, hr⟩ := bS hr
 refine TL.gh (.trans (GM.u0 hx4 p0 a0) (.sl (.p p3 (.p p4 (.p p0 (.p p3 (.p p0 .e))))))) ?_
 refine TL.hv (v := w1) a1 (fun hv7 => ?_)
 refine TL.c rfl rfl rfl (v4qzk g hx5) ?_
 rintro _ _ ⟨w14, w15, rfl, rfl⟩
 refine TL.hv (v := w1) a1 (fun hv8 => ?_)
 have hl4 : x1.c.Peers.length = x9.c.Peers.length := Eq.trans lnE (Hv.eq hv7 hv8)
 refine T.nil (T.bN (T.m (T.q (T.r (TL.a rfl (T.nil (T.m ?_)))))))
 refine T.ret ?_
 refine T.blkRet ?_
 refine T.thenRet ?_
 obtain rfl := Option.some.inj hr
 exact ⟨.inr rfl, _, _, (Res.tmp rfl Res.nil), (.sl (.p p0 (.p p0 (.p p0 (.p p0 (.p p2 (d2))))))), w14, w15, rfl, rfl⟩
 }
 }
 }
 }
 }
 {
 replace hr := iBN hr hc3
 refine T.q (T.q (T.r (TL.bin rfl rfl (TL.a rfl (T.nil (T.m ?_))))))
 refine T.ct (fun fr A => ∃ (x10 : Bool), fr = [(0, pt q1 0), (3, pt q2 0), (53, .bool x10)] ∧ A = box q2 [iv x2.Kind, iv x2.N, w4] :: box q1 [w1, w2, w3, .bool x1.c.Conflict] :: fz w4 x2.Data :: ow rGPeer w1 x1.c.Peers :: ow (rC GM) w2 x1.c.Net :: ow (rC GR) w3 x1.c.Chosen :: Ar ∧ v4nz x2 x1 x10 = some res) ?_ ?_
 {
 refine T.cD rfl (fun hc7 => ?_) (fun hc7 => ?_)
 {
 replace hr := iP hr hc7
 refine T.k (T.m ?_)
 exact ⟨_, _, (fl3), (.refl _), (decide (x2.Kind = 1)), rfl, rfl, hr⟩
 }
 {
 replace hr := iN hr hc7
 refine T.q (T.r (TL.bin rfl rfl (TL.a rfl (T.nil (T.m ?_)))))
 refine T.cD rfl (fun hc8 => ?_) (fun hc8 => ?_)
 {
 replace hr := iP hr hc8
 refine T.k (T.m ?_)
 exact ⟨_, _, (fl3), (.refl _), (decide (x2.Kind = 5)), rfl, rfl, hr⟩
 }
 {
 replace hr := iN hr hc8
 refine T.q (T.r (TL.bin rfl rfl (TL.a rfl (T.nil (T.m ?_)))))
 refine T.cD rfl (fun hc9 => ?_) (fun hc9 => ?_)
 {
 replace hr := iP hr hc9
 refine T.k (T.m ?_)
 exact ⟨_, _, (fl3), (.refl _), (decide (x2.Kind = 6)), rfl, rfl, hr⟩
 }
 {
 replace hr := iN hr hc9
 refine T.r (TL.bin rfl rfl (TL.a rfl (T.nil (T.m ?_))))
 exact ⟨_, _, (fl3), (.refl _), (decide (x2.Kind = 7)), rfl, rfl, hr⟩
 }
 }
 }
 }
 {
 rintro _ _ ⟨x10, rfl, rfl, hr⟩
 unfold v4nz at hr
 refine T.cond rfl (fun hc10 => ?_) (fun hc10 => ?_)
 {
 replace hr := iBP hr hc10
 refine T.k (T.bN (T.m (T.q (T.q ?_))))
 refine T.ct (fun fr A => ∃ (x11 : Bool), fr = [(0, pt q1 0), (3, pt q2 0), (71, .bool x11)] ∧ A = box q2 [iv x2.Kind, iv x2.N, w4] :: box q1 [w1, w2, w3, .bool x1.c.Conflict] :: fz w4 x2.Data :: ow rGPeer w1 x1.c.Peers :: ow (rC GM) w2 x1.c.Net :: ow (rC GR) w3 x1.c.Chosen :: Ar ∧ v4oz x1 x2 x11 = some res) ?_ ?_
 {
 refine T.rD r14 f14 rfl rfl kr kr mP (TL.fa rfl (TL.ld rfl a0 rfl (TL.bin rfl rfl (TL.mv rfl ?_))))
 refine TL.guardD rfl rfl rfl (fun hg2 => ?_) (fun hg2 => ?_)
 {
 replace hr := iP hr hg2
 refine TL.sk rfl (TL.sk rfl (TL.sk rfl (TL.sk rfl (TL.sk rfl (TL.sk rfl (TL.sk rfl (TL.sk rfl (TL.sk rfl ?_))))))))
 refine TL.of (fun f k => WL.pick f rfl rfl rfl rfl rfl k) ?_
 refine T.nil (T.m ?_)
 exact ⟨_, _, (fl3), (.refl _), true, rfl, rfl, hr⟩
 }
 {
 replace hr := iN hr hg2
 refine TL.fa rfl (TL.ld rfl a0 rfl (TL.mv rfl (TL.nc rfl (TL.fa rfl (TL.fa rfl (TL.ld rfl a1 rfl (TL.len rfl a3 (TL.bin rfl rfl ?_))))))))
 refine TL.of (fun f k => WL.pick f rfl rfl rfl rfl rfl k) ?_
 refine T.nil (T.m ?_)
 exact ⟨_, _, (fl3), (.refl _), (decide ((x1.c.Peers.length : Int) ≤ x2.N)), rfl, rfl, hr⟩
 }
 }
 {
 rintro _ _ ⟨x11, rfl, rfl, hr⟩
 unfold v4oz at hr
 refine T.cond rfl (fun hc11 => ?_) (fun hc11 => ?_)
 {
 replace hr := iBP hr hc11
 refine T.q (T.r (TL.a rfl (T.nil (T.m ?_))))
 refine T.ret ?_
 refine T.thenRet ?_
 obtain rfl := Option.some.inj hr
 exact ⟨.inr rfl, _, _, (Res.tmp rfl Res.nil), (.sl (.p p1 (.p p2 (.p p2 (.p p2 (.p p1 (d1))))))), w2, w3, rfl, rfl⟩
 }
 {
 replace hr := iBN hr hc11
 refine T.k (T.m (T.q (T.rD r9 f9 rfl rfl kr kr mP (TL.mv rfl (TL.nc rfl (TL.fa rfl (TL.fa rfl (TL.ld rfl a1 rfl (TL.fa rfl ?_)))))))))
 refine TL.ld rfl a0 rfl ?_
 obtain ⟨x12, hx6, hr⟩ := bS hr
 refine TL.ixu rfl a3 hx6 (fun b2 el1 hp2 => ?_)
 refine TL.a rfl (T.nil (T.m (T.q (T.q (T.rD r8 f8 rfl rfl kr kr mP (TL.mv rfl (TL.nc rfl (TL.fa rfl ?_))))))))
 refine TL.gh (.sl (.p p3 .e)) ?_
 refine GP.foD hp2 hx6 (fun w16 w17 w18 w19 => ?_)
 refine TL.lk (m := 0) rfl a0 rfl rfl (by decide) ?_
 refine TL.fa rfl (TL.ld rfl a5 rfl (TL.bin rfl rfl ?_))
 refine TL.of (fun f k => WL.eqBool f rfl rfl rfl (by decide) Try.underlying4 rfl rfl k) ?_
 refine T.nil (T.m ?_)
 refine T.cond rfl (fun hc12 => ?_) (fun hc12 => ?_)
 {
 replace hr := iBP hr hc12
 refine T.q (T.r (TL.a rfl (T.nil (T.m ?_))))
 refine T.ret ?_
 refine T.thenRet ?_
 obtain rfl := Option.some.inj hr
 exact ⟨.inr rfl, _, _, (Res.tmp rfl Res.nil), (.trans (GP.u0D hx6 p0 p0 p0 p0 p0) (.sl (.p p2 (.p p0 (.p p2 (.p p2 (.p p1 (d1)))))))), w2, w3, rfl, rfl⟩
 }
 {
 replace hr := iBN hr hc12
 refine T.k (T.m (T.q (T.q (T.r (TL.fa rfl (TL.ld rfl a5 rfl (T.nil (T.m (T.b ?_)))))))))
 refine T.q (T.r (TL.bin rfl rfl (TL.a rfl (T.nil (T.m ?_)))))
 refine T.cD rfl (fun hc13 => ?_) (fun hc13 => ?_)
 {
 replace hr := iP hr hc13
 refine T.r (TL.mv rfl (TL.fa rfl (TL.ld rfl a5 rfl ?_)))
 obtain ⟨x13, hx7, hr⟩ := bS hr
 refine TL.gh (.trans (GP.u0D hx6 p0 p0 p0 p0 p0) (.sl (.p p2 (.p p0 (.p p2 (.p p2 .e)))))) ?_
 refine TL.hv (v := w1) a1 (fun hv9 => ?_)
 refine TL.c rfl rfl rfl (v4szk g hx7) ?_
 rintro _ _ ⟨w20, w21, rfl, rfl⟩
 refine TL.hv (v := w1) a1 (fun hv10 => ?_)
 have hl5 : x1.c.Peers.length = x13.c.Peers.length := Eq.trans lnE (Hv.eq hv9 hv10)
 refine T.nil (T.bN (T.m (T.q (T.r (TL.a rfl (T.nil (T.m ?_)))))))
 refine T.ret ?_
 obtain rfl := Option.some.inj hr
 exact ⟨.inr rfl, _, _, (Res.tmp rfl Res.nil), (.sl (.p p0 (.p p0 (.p p0 (.p p0 (.p p1 (d1))))))), w20, w21, rfl, rfl⟩
 }
 {
 replace hr := iN hr hc13
 refine T.q (T.r (TL.bin rfl rfl (TL.a rfl (T.nil (T.m ?_)))))
 refine T.cD rfl (fun hc14 => ?_) (fun hc14 => ?_)
 {
 replace hr := iP hr hc14
 refine T.rD [0, 1, 2, 3, 4, 5, 6, 7, 8, 9, 10, 11, 12, 13, 14, 15, 16, 17, 18, 19, 20, 21] [false, false, false, false, false, false, false, false, false, false, false, false, false, false, false, false, false, false, false, false, false, true] rfl rfl kr kr mP (TL.mv rfl (TL.nc rfl (TL.fa rfl (TL.fa rfl (TL.ld rfl a6 rfl (TL.fa rfl (TL.ld rfl a5 rfl (TL.mv rfl (TL.nc rfl ?_)))))))))
 refine TL.fa rfl ?_
 refine TL.lk (m := 1) rfl a0 rfl rfl (by decide) ?_
 refine TL.mv rfl (TL.nc rfl (TL.fa rfl ?_))
 refine TL.lk (m := 2) rfl a0 rfl rfl (by decide) ?_
 refine TL.mv rfl (TL.nc rfl (TL.fa rfl ?_))
 refine TL.lk (m := 5) rfl a0 rfl rfl (by decide) ?_
 refine TL.bld (cells := [.bool false, iv x12.Term, iv x12.Vote, iv 0, iv 0, w16, .slice none 0 0, .slice none 0 0, .slice none 0 0]) rfl Try.underlying42 info42 rfl rfl rfl (by simp only [List.mapM_cons, List.mapM_nil, info4, info3, info3, info3, info3, info28, info40, info31, info31]; rfl) rfl (.s rfl (.s rfl (.h a1 inferInstance .n))) rfl ?_
 refine TL.ixu rfl a0 hx6 (fun b3 el2 hp3 => ?_)
 refine TL.gh (.fore p0 hp3) ?_
 refine TL.gh (.nilO (rC Bool)) ?_
 refine TL.gh (.nilO (rC Int)) ?_
 refine TL.gh (.nilO (rC Int)) ?_
 refine TL.stf0 (cs' := [.bool false, iv x12.Term, iv x12.Vote, iv 0, iv 0, w16, (.slice none 0 0), (.slice none 0 0), (.slice none 0 0)]) rfl rfl rfl (.s rfl (.s rfl (.s rfl (.s rfl (.s rfl (.h a4 inferInstance (.s rfl (.s rfl (.s rfl .n))))))))) e3 rfl (bl rfl) (T.nil (T.bN (T.m (T.q (T.r (TL.a rfl (T.nil (T.m ?_))))))))
 refine T.ret ?_
 obtain rfl := Option.some.inj hr
 exact ⟨.inr rfl, _, _, (Res.tmp rfl Res.nil), (.trans (GP.unD p3 p3 p2 p0 p0) (.sl (.p p5 (.p p0 (.p p5 (.p p5 (.p p4 (d4)))))))), w2, w3, rfl, rfl⟩
 }
 {
 replace hr := iN hr hc14
 refine T.q (T.r (TL.bin rfl rfl (TL.a rfl (T.nil (T.m ?_)))))
 refine T.cD rfl (fun hc15 => ?_) (fun hc15 => ?_)
 {
 replace hr := iP hr hc15
 refine T.r (TL.mv rfl (TL.nc rfl (TL.fa rfl ?_)))
 refine TL.stf rfl rfl e0 c0 (T.nil (T.bN (T.m (T.q (T.r (TL.a rfl (T.nil (T.m ?_))))))))
 refine T.ret ?_
 obtain rfl := Option.some.inj hr
 exact ⟨.inr rfl, _, _, (Res.tmp rfl Res.nil), (.trans (GP.unD p0 p0 p0 p0 p0) (.sl (.p p2 (.p p0 (.p p2 (.p p2 (.p p1 (d1)))))))), w2, w3, rfl, rfl⟩
 }
 {
 replace hr := iN hr hc15
 refine T.q (T.r (TL.bin rfl rfl (TL.a rfl (T.nil (T.m ?_)))))
 refine T.cD rfl (fun hc16 => ?_) (fun hc16 => ?_)
 {
 replace hr := iP hr hc16
 refine T.q (T.q (T.r (TL.mv rfl (TL.nc rfl (TL.fa rfl ?_)))))
 refine TL.lk (m := 4) rfl a0 rfl rfl (by decide) ?_
 refine TL.bin rfl rfl (T.nil (T.m ?_))
 refine T.condN rfl (fun hc17 => ?_) (fun hc17 => ?_)
 {
 replace hr := iN hr hc17
 refine T.q (T.r (TL.a rfl (T.nil (T.m ?_))))
 refine T.ret ?_
 refine T.thenRet ?_
 refine T.blkRet ?_
 refine T.thenRet ?_
 obtain rfl := Option.some.inj hr
 exact ⟨.inr rfl, _, _, (Res.tmp rfl Res.nil), (.trans (GP.u0D hx6 p0 p0 p0 p0 p0) (.sl (.p p2 (.p p0 (.p p2 (.p p2 (.p p1 (d1)))))))), w2, w3, rfl, rfl⟩
 }
 {
 replace hr := iP hr hc17
 refine T.k (T.m (T.q (T.q ?_)))
 refine T.ct (fun fr A => ∃ (x14 : Bool), fr = [(0, pt q1 0), (3, pt q2 0), (5, pt b2 el1), (142, .bool x14)] ∧ A = box q2 [iv x2.Kind, iv x2.N, w4] :: box q1 [w1, w2, w3, .bool x1.c.Conflict] :: fz w4 x2.Data :: ow rGPeer w1 x1.c.Peers :: ow (rC GM) w2 x1.c.Net :: ow (rC GR) w3 x1.c.Chosen :: Ar ∧ v4pz x1 x12 x2 x14 = some res) ?_ ?_
 {
 refine T.r (TL.fa rfl (TL.ld rfl a5 rfl (TL.len rfl a7 (TL.bin rfl rfl (TL.mv rfl ?_)))))
 refine TL.guardD rfl rfl rfl (fun hg3 => ?_) (fun hg3 => ?_)
 {
 replace hr := iP hr hg3
 refine TL.sk rfl (TL.sk rfl (TL.sk rfl (TL.sk rfl (TL.sk rfl (TL.sk rfl ?_)))))
 refine TL.of (fun f k => WL.pick f rfl rfl rfl rfl rfl k) ?_
 refine T.nil (T.m ?_)
 exact ⟨_, _, (fl4), (.trans (GP.u0D hx6 p0 p0 p0 p0 p0) (.sl (.p p1 (.p p1 (.p p1 (.p p0 (.p p0 (.p p0 .e)))))))), true, rfl, rfl, hr⟩
 }
 {
 replace hr := iN hr hg3
 refine TL.mv rfl (TL.nc rfl (TL.fa rfl ?_))
 refine TL.lk (m := 5) rfl a0 rfl rfl (by decide) ?_
 refine TL.len rfl a1 (TL.bin rfl rfl ?_)
 refine TL.of (fun f k => WL.pick f rfl rfl rfl rfl rfl k) ?_
 refine T.nil (T.m ?_)
 exact ⟨_, _, (fl4), (.trans (GP.u0D hx6 p0 p0 p0 p0 p0) (.sl (.p p1 (.p p1 (.p p1 (.p p0 (.p p0 (.p p0 .e)))))))), (decide ((x12.Log.length : Int) = 100)), rfl, rfl, hr⟩
 }
 }
 {
 rintro _ _ ⟨x14, rfl, rfl, hr⟩
 unfold v4pz at hr
 refine T.cond rfl (fun hc18 => ?_) (fun hc18 => ?_)
 {
 replace hr := iBP hr hc18
 refine T.q (T.r (TL.a rfl (T.nil (T.m ?_))))
 refine T.ret ?_
 refine T.thenRet ?_
 refine T.blkRet ?_
 refine T.thenRet ?_
 obtain rfl := Option.some.inj hr
 exact ⟨.inr rfl, _, _, (Res.tmp rfl Res.nil), (.sl (.p p1 (.p p2 (.p p2 (.p p2 (.p p1 (d1))))))), w2, w3, rfl, rfl⟩
 }
 {
 replace hr := iBN hr hc18
 refine T.k (T.m (T.q ?_))
 refine T.regionI (fun n1 => []) [0, 1, 2, 3, 4, 5, 6, 7, 8, 9, 10, 11, 12, 13, 14, 15, 16, 17, 18, 19, 20, 21, 22, 23, 24, 25, 26] [(false, true, false), (false, false, false), (false, false, false), (false, false, false), (false, false, false), (false, false, false), (false, false, false), (false, false, false), (false, false, false), (false, false, false), (false, false, false), (false, false, false), (false, false, false), (false, false, false), (false, false, false), (false, false, false), (false, false, false), (false, false, false), (false, false, false), (false, false, false), (false, false, false), (false, false, false), (false, false, false), (true, false, false), (false, false, false), (false, false, false), (true, false, true)] false rfl kr kr mP (fun n1 => ?_)
 refine TI.lt Nd.f rfl (.move (.inl rfl) rfl) ?_
 refine TI.op Nd.f ?_
 refine TL.lit0 (α := GR) rfl (fun p850 => ?_)
 refine T.nil ⟨rfl, fun n2 => ?_⟩
 refine TI.op Nd.f ?_
 refine TL.mv rfl ?_
 refine T.nil ⟨rfl, fun n3 => ?_⟩
 refine TI.op Nd.f ?_
 refine TL.nc rfl ?_
 refine T.nil ⟨rfl, fun n4 => ?_⟩
 refine TI.op Nd.f ?_
 refine TL.fa rfl ?_
 refine T.nil ⟨rfl, fun n5 => ?_⟩
 refine TI.op Nd.f ?_
 refine TL.gh (.sl (.p p4 .e)) ?_
 refine GP.foD hp2 hx6 (fun w22 w23 w24 w25 => ?_)
 refine TL.lk (m := 5) rfl a0 rfl rfl (by decide) ?_
 refine T.nil ⟨rfl, fun n6 => ?_⟩
 refine TI.op Nd.f ?_
 obtain ⟨hc19, hr⟩ := cS hr
 refine TL.appZ rfl p5 a1 hc19 (fun w26 => ?_)
 refine T.nil ⟨rfl, fun n7 => ?_⟩
 refine TI.op Nd.f ?_
 refine TL.mv rfl ?_
 refine T.nil ⟨rfl, fun n8 => ?_⟩
 refine TI.op Nd.f ?_
 refine TL.nc rfl ?_
 refine T.nil ⟨rfl, fun n9 => ?_⟩
 refine TI.op Nd.f ?_
 refine TL.fa rfl ?_
 refine T.nil ⟨rfl, fun n10 => ?_⟩
 refine TI.op Nd.f ?_
 refine TL.lk (m := 1) rfl a1 rfl rfl (by decide) ?_
 refine T.nil ⟨rfl, fun n11 => ?_⟩
 refine TI.op Nd.f ?_
 refine TL.mv rfl ?_
 refine T.nil ⟨rfl, fun n12 => ?_⟩
 refine TI.op Nd.f ?_
 refine TL.nc rfl ?_
 refine T.nil ⟨rfl, fun n13 => ?_⟩
 refine TI.op Nd.f ?_
 refine TL.fa rfl ?_
 refine T.nil ⟨rfl, fun n14 => ?_⟩
 refine TI.op Nd.f ?_
 refine TL.lk (m := 5) rfl a1 rfl rfl (by decide) ?_
 refine T.nil ⟨rfl, fun n15 => ?_⟩
 refine TI.op Nd.f ?_
 refine TL.len rfl a2 ?_
 refine T.nil ⟨rfl, fun n16 => ?_⟩
 refine TI.op Nd.f ?_
 obtain ⟨hc20, hr⟩ := cS hr
 refine TL.ad rfl hc20 ?_
 refine T.nil ⟨rfl, fun n17 => ?_⟩
 refine TI.op Nd.f ?_
 refine TL.lit0 (α := UInt8) rfl (fun p926 => ?_)
 refine T.nil ⟨rfl, fun n18 => ?_⟩
 refine TI.op Nd.f ?_
 refine TL.fa rfl ?_
 refine T.nil ⟨rfl, fun n19 => ?_⟩
 refine TI.op Nd.f ?_
 refine TL.ld rfl a7 rfl ?_
 refine T.nil ⟨rfl, fun n20 => ?_⟩
 refine TI.op Nd.f ?_
 obtain ⟨hc21, hr⟩ := cS hr
 refine TL.appZ rfl p0 a8 hc21 (fun w27 => ?_)
 refine T.nil ⟨rfl, fun n21 => ?_⟩
 refine TI.op Nd.f ?_
 refine TL.bld (cells := [iv x12.Term, iv ((x12.Log.length : Int) + 1), w27]) rfl Try.underlying35 info35 rfl rfl rfl (by simp only [List.mapM_cons, List.mapM_nil, info3, info3, info22]; rfl) rfl (.s rfl (.s rfl (.h a0 inferInstance .n))) rfl ?_
 refine T.nil ⟨rfl, fun n22 => ?_⟩
 refine TI.op Nd.f ?_
 refine TL.gh (.frz p0) ?_
 refine TL.gh (GR.mkV (s0 := x12.Term) (s1 := ((x12.Log.length : Int) + 1)) a0) ?_
 refine TL.lit1 rfl rfl p0 (fun w28 => ?_)
 refine T.nil ⟨rfl, fun n23 => ?_⟩
 refine TI.op Nd.f ?_
 obtain ⟨hc22, hr⟩ := cS hr
 refine TL.appR rfl p2 a0 hc22 (fun w29 => ?_)
 refine T.nil ⟨rfl, fun n24 => ?_⟩
 refine TI.op Nd.f ?_
 refine TL.nc rfl ?_
 refine T.nil ⟨rfl, fun n25 => ?_⟩
 refine TI.op Nd.f ?_
 refine TL.fa rfl ?_
 refine T.nil ⟨rfl, fun n26 => ?_⟩
 refine TI.op (.t .n) ?_
 refine TL.stfs rfl a0 e3 c5 ?_
 refine T.nil ⟨rfl, fun n27 => ?_⟩
 refine TI.nil Nd.f (T.m (T.q (T.rD [0, 1, 2, 3, 4, 5, 6, 7, 8, 9, 10, 11, 12] [false, false, false, false, false, false, false, false, false, false, false, false, true] rfl rfl kr kr mP (TL.mv rfl (TL.nc rfl (TL.fa rfl ?_))))))
 refine TL.lk (m := 8) rfl a3 rfl rfl (by decide) ?_
 refine TL.fa rfl (TL.ld rfl a8 rfl (TL.mv rfl (TL.nc rfl (TL.fa rfl ?_))))
 refine TL.lk (m := 5) rfl a3 rfl rfl (by decide) ?_
 refine TL.len rfl a0 ?_
 obtain ⟨x15, hx8, hr⟩ := bS hr
 refine TL.ixu rfl a7 hx8 (fun b4 e1048 hp4 => ?_)
 refine TL.ste rfl rfl e7 hp4 hx8 (fun _ _ _ _ _ => rfl) ?_
 refine T.nil (T.m (T.r (TL.mv rfl (TL.fa rfl (TL.ld rfl a8 rfl ?_)))))
 obtain ⟨x16, hx9, hr⟩ := bS hr
 refine TL.gh (.trans (GP.unD p3 p0 p3 p3 p3) (.sl (.p p5 (.p p0 (.p p5 (.p p5 .e)))))) ?_
 refine TL.hv (v := w1) a1 (fun hv11 => ?_)
 refine TL.c rfl rfl rfl (v3zzk g hx9) ?_
 rintro _ _ ⟨w30, w31, rfl, rfl⟩
 refine TL.hv (v := w1) a1 (fun hv12 => ?_)
 have hl6 : x1.c.Peers.length = x16.c.Peers.length := Eq.trans lnE (Hv.eq hv11 hv12)
 refine T.nil (T.bN (T.m (T.q (T.r (TL.a rfl (T.nil (T.m ?_)))))))
 refine T.ret ?_
 obtain rfl := Option.some.inj hr
 exact ⟨.inr rfl, _, _, (Res.tmp rfl Res.nil), (.sl (.p p0 (.p p0 (.p p0 (.p p0 (.p p4 (d4))))))), w30, w31, rfl, rfl⟩
 }
 }
 }
 }
 {
 replace hr := iN hr hc16
 refine T.k (T.bN (T.m (T.q (T.r (TL.a rfl (T.nil (T.m ?_)))))))
 refine T.ret ?_
 obtain rfl := Option.some.inj hr
 exact ⟨.inr rfl, _, _, (Res.tmp rfl Res.nil), (.trans (GP.u0D hx6 p0 p0 p0 p0 p0) (.sl (.p p2 (.p p0 (.p p2 (.p p2 (.p p1 (d1)))))))), w2, w3, rfl, rfl⟩
 }
 }
 }
 }
 }
 }
 }
 }
 {
 replace hr := iBN hr hc10
 refine T.q (T.r (TL.a rfl (T.nil (T.m ?_))))
 refine T.ret ?_
 refine T.blkRet ?_
 refine T.thenRet ?_
 obtain rfl := Option.some.inj hr
 exact ⟨.inr rfl, _, _, (Res.tmp rfl Res.nil), (.sl (.p p1 (.p p2 (.p p2 (.p p2 (.p p1 (d1))))))), w2, w3, rfl, rfl⟩
 }
 }
 }
 }
theorem v3izk {Δ : Prims} (g : Env Try.prog Δ) {Ar : List Item} {xs1 : (List GR)} {w1 : Value} {res : ((List GR))} (hr : v3iz xs1 = some res) :
    Sp Try.prog Δ 74 [w1] (fz w1 xs1 :: Ar) (fun v A => A = fz w1 xs1 :: ow (rC GR) v res :: Ar) := by
 refine Sp.bd Try.func74 rfl rfl ?_
 unfold v3iz at hr
 refine T.q (T.r (TL.a rfl (T.nil (T.m (T.q (T.r ?_))))))
 refine TL.lit (α := GR) rfl rfl rfl rfl ([] : List GR) (fun _ _ _ _ _ => RA.nil) (fun w2 => ?_)
 refine TL.a rfl (T.nil (T.m (T.q (T.q (T.r (TL.a rfl (T.nil (T.m (T.b ?_)))))))))
 refine T.lp (fun k0 fr A => ∃ (xs2 : (List GR)) (x1 : Int) (w3 : Value), fr = [(0, w1), (3, w3), (4, iv x1)] ∧ A = fz w1 xs1 :: ow (rC GR) w3 xs2 :: Ar ∧ v3jz xs1 k0 xs2 x1 = some res) BIG ?_ ?_ ?_
 {
 exact ⟨_, _, (fl3), (.sl (.p p1 (.p p0 .e))), ([] : List GR), 0, w2, rfl, rfl, hr⟩
 }
 {
 rintro fr A ⟨xs2, x1, w3, -, -, hr⟩
 rw [v3jz] at hr
 cases hr
 }
 {
 rintro k0 _ _ ⟨xs2, x1, w3, rfl, rfl, hr⟩
 rw [v3jz] at hr
 refine T.q (T.q (T.r (TL.mv rfl (TL.mv rfl (TL.len rfl a0 (TL.bin rfl rfl (T.nil (T.m ?_))))))))
 refine T.cD rfl (fun hc1 => ?_) (fun hc1 => ?_)
 {
 replace hr := iP hr hc1
 refine T.k (T.m (T.q (T.b (T.r (TL.mv rfl (TL.mv rfl (TL.mv rfl ?_)))))))
 obtain ⟨x2, hx1, hr⟩ := bS hr
 refine TL.ixu rfl a0 hx1 (fun b1 e397 hp1 => ?_)
 refine GR.ex a0 hp1 hx1 (fun w4 => ?_)
 refine TL.ldgN rfl a0 rfl ?_
 obtain ⟨x3, hx2, hr⟩ := bS hr
 refine TL.gh (.sl (.p p1 .e)) ?_
 refine TL.c rfl rfl rfl (v3gzk g hx2) ?_
 rintro _ _ ⟨w5, rfl, rfl⟩
 refine TL.gh (.frz p1) ?_
 refine TL.gh (GR.mkV (s0 := x3.Term) (s1 := x3.Index) a0) ?_
 refine TL.lit1 rfl rfl p0 (fun w6 => ?_)
 obtain ⟨hc2, hr⟩ := cS hr
 refine TL.appR rfl p5 a0 hc2 (fun w7 => ?_)
 refine TL.a rfl (T.nil (T.bN (T.m (T.r (TL.mv rfl ?_)))))
 obtain ⟨hc3, hr⟩ := cS hr
 refine TL.ad rfl hc3 (TL.a rfl (T.nil (T.m ?_)))
 exact ⟨_, _, (fl3), (.sl (.p p5 (.p p0 (d4)))), (xs2 ++ ([({ Term := x3.Term, Index := x3.Index, Data := x3.Data } : GR)] : List GR)), (x1 + 1), w7, rfl, rfl, hr⟩
 }
 {
 replace hr := iN hr hc1
 refine T.exit ?_
 refine T.tE (T.tE (T.bH (T.m (T.q (T.r (TL.mv rfl (TL.a rfl (T.nil (T.m ?_)))))))))
 refine T.ret ?_
 obtain rfl := Option.some.inj hr
 exact ⟨.inr rfl, _, _, (Res.tmp rfl Res.nil), (.refl _), rfl⟩
 }
 }
theorem v3kzk {Δ : Prims} (g : Env Try.prog Δ) {Ar : List Item} {x1 : GC} {w1 w2 w3 : Value} {res : (GC)} (hr : v3kz x1 = some res) :
    Sp Try.prog Δ 39 [.agg [w1, w2, w3, .bool x1.Conflict].toArray] (fz w1 x1.Peers :: fz w2 x1.Net :: fz w3 x1.Chosen :: Ar) (fun v A => ∃ (rw1 : Value) (rw2 : Value) (rw3 : Value), v = .agg [rw1, rw2, rw3, .bool res.Conflict].toArray ∧ A = fz w1 x1.Peers :: fz w2 x1.Net :: fz w3 x1.Chosen :: fz rw1 res.Peers :: fz rw2 res.Net :: fz rw3 res.Chosen :: Ar) := by
 refine Sp.bd Try.func39 rfl rfl ?_
 unfold v3kz at hr
 refine T.q (T.r ?_)
 refine TL.bxo rfl rfl (.h a0 inferInstance (.h a1 inferInstance (.h a2 inferInstance (.s rfl .n)))) (fun q1 => ?_)
 refine TL.al rfl (fun q2 => ?_)
 refine T.nil (T.m (T.q (T.rD [0, 1, 2, 3, 4, 5, 6, 7] [false, false, false, false, false, false, false, true] rfl rfl kr kr mP (TL.fa rfl (TL.ld rfl a1 rfl (TL.fa rfl (TL.ld rfl a1 rfl ?_)))))))
 obtain ⟨x2, hx1, hr⟩ := bS hr
 refine TL.callR g rfl rfl rfl (Pz.out (.c a4 Pers.rC .n)) (v3izk g (Ar := []) hx1) ?_
 rintro w4 _ rfl
 simp only [List.cons_append, List.nil_append]
 refine TL.bld (cells := [.slice none 0 0, .slice none 0 0, w4, .bool x1.Conflict]) rfl Try.underlying30 info30 rfl rfl rfl (by simp only [List.mapM_cons, List.mapM_nil, info26, info27, info28, info4]; rfl) rfl (.s rfl (.h a1 inferInstance .n)) rfl ?_
 refine TL.al rfl (fun q3 => ?_)
 refine TL.sto (c' := [.slice none 0 0, .slice none 0 0, w4, .bool x1.Conflict]) rfl rfl rfl (.s rfl (.s rfl (.h a2 inferInstance (.s rfl .n)))) e0 rfl (bl rfl) (T.nil (T.m (T.q (T.q (T.r (TL.a rfl (T.nil (T.m (T.b ?_)))))))))
 refine T.lp (fun k0 fr A => ∃ (x3 : Int) (xs1 : (List GP)) (w5 : Value), fr = [(1, pt q1 0), (2, pt q2 0), (3, pt q3 0), (4, iv x3)] ∧ A = box q2 [.slice none 0 0, .slice none 0 0, .slice none 0 0, .bool false] :: box q1 [w1, w2, w3, .bool x1.Conflict] :: box q3 [w5, .slice none 0 0, w4, .bool x1.Conflict] :: fz w1 x1.Peers :: fz w2 x1.Net :: fz w3 x1.Chosen :: ow (rC GP) w5 xs1 :: ow (rC GR) w4 x2 :: Ar ∧ v3lz x1 x2 k0 x3 xs1 = some res) BIG ?_ ?_ ?_
 {
 exact ⟨_, _, (fl4), (.trans (.nilO (rC GP)) (.sl (.p p4 (.p p4 (.p p1 (.p p3 (.p p3 (.p p1 (.p p0 (.p p0 (d1))))))))))), 0, ([]), (.slice none 0 0), rfl, rfl, hr⟩
 }
 {
 rintro fr A ⟨x3, xs1, w5, -, -, hr⟩
 rw [v3lz] at hr
 cases hr
 }
 {
 rintro k0 _ _ ⟨x3, xs1, w5, rfl, rfl, hr⟩
 rw [v3lz] at hr
 refine T.q (T.q (T.r (TL.mv rfl (TL.fa rfl (TL.ld rfl a1 rfl (TL.len rfl a3 (TL.bin rfl rfl (T.nil (T.m ?_)))))))))
 refine T.cD rfl (fun hc1 => ?_) (fun hc1 => ?_)
 {
 replace hr := iP hr hc1
 refine T.k (T.m (T.q (T.b (T.q (T.r (TL.fa rfl (TL.ld rfl a1 rfl (TL.mv rfl ?_))))))))
 obtain ⟨x4, hx2, hr⟩ := bS hr
 refine TL.ixu rfl a3 hx2 (fun b1 e4576 hp1 => ?_)
 refine GP.ex a3 hp1 hx2 (fun w6 w7 w8 w9 => ?_)
 refine TL.ldgN rfl a0 rfl ?_
 refine TL.al rfl (fun q4 => ?_)
 refine TL.sto (c' := [.bool x4.Up, iv x4.Term, iv x4.Vote, iv x4.Commit, iv x4.Role, w6, w7, w8, w9]) rfl rfl rfl (.s rfl (.s rfl (.s rfl (.s rfl (.s rfl (.h a2 inferInstance (.h a3 inferInstance (.h a4 inferInstance (.h a5 inferInstance .n))))))))) e0 rfl (bl rfl) (T.nil (T.m (T.q (T.r (TL.fa rfl (TL.ld rfl a0 rfl ?_))))))
 obtain ⟨x5, hx3, hr⟩ := bS hr
 refine TL.gh (.sl (.p p2 .e)) ?_
 refine TL.c rfl rfl rfl (v3izk g hx3) ?_
 rintro w10 _ rfl
 refine TL.fa rfl ?_
 refine TL.sts rfl a1 e2 c5 (T.nil (T.m (T.q (T.r ?_))))
 refine TL.lit (α := Bool) rfl rfl rfl rfl ([] : List Bool) (fun _ _ _ _ _ => RA.nil) (fun w11 => ?_)
 refine TL.fa rfl (TL.ld rfl a3 rfl ?_)
 obtain ⟨hc2, hr⟩ := cS hr
 refine TL.appR rfl p0 a5 hc2 (fun w12 => ?_)
 refine TL.fa rfl ?_
 refine TL.sts rfl a0 e3 c6 (T.nil (T.m (T.q (T.r ?_))))
 refine TL.lit (α := Int) rfl rfl rfl rfl ([] : List Int) (fun _ _ _ _ _ => RA.nil) (fun w13 => ?_)
 refine TL.fa rfl (TL.ld rfl a4 rfl ?_)
 obtain ⟨hc3, hr⟩ := cS hr
 refine TL.appR rfl p0 a7 hc3 (fun w14 => ?_)
 refine TL.fa rfl ?_
 refine TL.sts rfl a0 e4 c7 (T.nil (T.m (T.q (T.r ?_))))
 refine TL.lit (α := Int) rfl rfl rfl rfl ([] : List Int) (fun _ _ _ _ _ => RA.nil) (fun w15 => ?_)
 refine TL.fa rfl (TL.ld rfl a5 rfl ?_)
 obtain ⟨hc4, hr⟩ := cS hr
 refine TL.appR rfl p0 a9 hc4 (fun w16 => ?_)
 refine TL.fa rfl ?_
 refine TL.sts rfl a0 e5 c8 (T.nil (T.m (T.r (TL.fa rfl (TL.ld rfl a12 rfl ?_)))))
 refine TL.ldN (l' := [.bool x4.Up, iv x4.Term, iv x4.Vote, iv x4.Commit, iv x4.Role, w10, w12, w14, w16]) rfl a5 rfl rfl ?_
 refine TL.gh (.trans (.frz p4) (.trans (.frz p3) (.trans (.frz p3) (.frz p3)))) ?_
 refine TL.gh (GP.mkV (s0 := x4.Up) (s1 := x4.Term) (s2 := x4.Vote) (s3 := x4.Commit) (s4 := x4.Role) a3 a2 a1 a0) ?_
 refine TL.lit1 rfl rfl p0 (fun w17 => ?_)
 obtain ⟨hc5, hr⟩ := cS hr
 refine TL.appR rfl p17 a0 hc5 (fun w18 => ?_)
 refine TL.fa rfl ?_
 refine TL.sts rfl a0 e14 c0 (T.nil (T.bN (T.m (T.r (TL.mv rfl ?_)))))
 obtain ⟨hc6, hr⟩ := cS hr
 refine TL.ad rfl hc6 (TL.a rfl (T.nil (T.m ?_)))
 exact ⟨_, _, (fl4), (.sl (.p p12 (.p p12 (.p p12 (.p p12 (.p p12 (.p p12 (.p p0 (.p p11 (d11)))))))))), (x3 + 1), (xs1 ++ ([({ Up := x4.Up, Term := x4.Term, Vote := x4.Vote, Commit := x4.Commit, Role := x4.Role, Log := x5, Votes := (([] : List Bool) ++ x4.Votes), Next := (([] : List Int) ++ x4.Next), Match := (([] : List Int) ++ x4.Match) } : GP)] : List GP)), w18, rfl, rfl, hr⟩
 }
 {
 replace hr := iN hr hc1
 refine T.exit ?_
 refine T.tE (T.tE (T.bH (T.m (T.q (T.q (T.r (TL.a rfl (T.nil (T.m ?_)))))))))
 refine T.b ?_
 refine T.lp (fun k1 fr A => ∃ (x6 : Int) (xs2 : (List GM)) (w19 : Value), fr = [(1, pt q1 0), (2, pt q2 0), (3, pt q3 0), (6, iv x6)] ∧ A = box q2 [.slice none 0 0, .slice none 0 0, .slice none 0 0, .bool false] :: box q1 [w1, w2, w3, .bool x1.Conflict] :: box q3 [w5, w19, w4, .bool x1.Conflict] :: fz w1 x1.Peers :: fz w2 x1.Net :: fz w3 x1.Chosen :: ow (rC GP) w5 xs1 :: ow (rC GM) w19 xs2 :: ow (rC GR) w4 x2 :: Ar ∧ v3mz x1 xs1 x2 k1 x6 xs2 = some res) BIG ?_ ?_ ?_
 {
 exact ⟨_, _, (fl4), (.trans (.nilO (rC GM)) (.sl (.p p1 (.p p1 (.p p1 (.p p1 (.p p1 (.p p1 (.p p1 (.p p0 (.p p0 .e))))))))))), 0, ([]), (.slice none 0 0), rfl, rfl, hr⟩
 }
 {
 rintro fr A ⟨x6, xs2, w19, -, -, hr⟩
 rw [v3mz] at hr
 cases hr
 }
 {
 rintro k1 _ _ ⟨x6, xs2, w19, rfl, rfl, hr⟩
 rw [v3mz] at hr
 refine T.q (T.q (T.r (TL.mv rfl (TL.fa rfl (TL.ld rfl a1 rfl (TL.len rfl a4 (TL.bin rfl rfl (T.nil (T.m ?_)))))))))
 refine T.cD rfl (fun hc7 => ?_) (fun hc7 => ?_)
 {
 replace hr := iP hr hc7
 refine T.k (T.m (T.q (T.b (T.q (T.r (TL.fa rfl (TL.ld rfl a1 rfl (TL.mv rfl ?_))))))))
 obtain ⟨x7, hx4, hr⟩ := bS hr
 refine TL.ixu rfl a4 hx4 (fun b2 e7032 hp2 => ?_)
 refine GM.ex a4 hp2 hx4 (fun w20 => ?_)
 refine TL.ldgN rfl a0 rfl ?_
 refine TL.al rfl (fun q5 => ?_)
 refine TL.sto (c' := [iv x7.Kind, iv x7.From, iv x7.To, iv x7.Term, iv x7.A, iv x7.B, iv x7.C, .bool x7.Ok, w20]) rfl rfl rfl (.s rfl (.s rfl (.s rfl (.s rfl (.s rfl (.s rfl (.s rfl (.s rfl (.h a2 inferInstance .n))))))))) e0 rfl (bl rfl) (T.nil (T.m (T.q (T.r (TL.fa rfl (TL.ld rfl a0 rfl ?_))))))
 obtain ⟨x8, hx5, hr⟩ := bS hr
 refine TL.gh (.sl (.p p2 .e)) ?_
 refine TL.c rfl rfl rfl (v3izk g hx5) ?_
 rintro w21 _ rfl
 refine TL.fa rfl ?_
 refine TL.sts rfl a1 e2 c8 (T.nil (T.m (T.r (TL.fa rfl (TL.ld rfl a6 rfl ?_)))))
 refine TL.ldN (l' := [iv x7.Kind, iv x7.From, iv x7.To, iv x7.Term, iv x7.A, iv x7.B, iv x7.C, .bool x7.Ok, w21]) rfl a2 rfl rfl ?_
 refine TL.gh (.frz p1) ?_
 refine TL.gh (GM.mkV (s0 := x7.Kind) (s1 := x7.From) (s2 := x7.To) (s3 := x7.Term) (s4 := x7.A) (s5 := x7.B) (s6 := x7.C) (s7 := x7.Ok) a0) ?_
 refine TL.lit1 rfl rfl p0 (fun w22 => ?_)
 obtain ⟨hc8, hr⟩ := cS hr
 refine TL.appR rfl p12 a0 hc8 (fun w23 => ?_)
 refine TL.fa rfl ?_
 refine TL.sts rfl a0 e8 c1 (T.nil (T.bN (T.m (T.r (TL.mv rfl ?_)))))
 obtain ⟨hc9, hr⟩ := cS hr
 refine TL.ad rfl hc9 (TL.a rfl (T.nil (T.m ?_)))
 exact ⟨_, _, (fl4), (.sl (.p p6 (.p p6 (.p p6 (.p p6 (.p p6 (.p p6 (.p p6 (.p p0 (.p p5 (d5))))))))))), (x6 + 1), (xs2 ++ ([({ Kind := x7.Kind, From := x7.From, To := x7.To, Term := x7.Term, A := x7.A, B := x7.B, C := x7.C, Ok := x7.Ok, Log := x8 } : GM)] : List GM)), w23, rfl, rfl, hr⟩
 }
 {
 replace hr := iN hr hc7
 refine T.exit ?_
 refine T.tE (T.tE (T.bH (T.m (T.q (T.r (TL.ldN (l' := [w5, w19, w4, .bool x1.Conflict]) rfl a2 rfl rfl (TL.sto (c' := [w5, w19, w4, .bool x1.Conflict]) rfl rfl rfl (.h a6 inferInstance (.h a7 inferInstance (.h a8 inferInstance (.s rfl .n)))) e0 rfl (bl rfl) (T.nil (T.m ?_)))))))))
 refine T.ret ?_
 obtain rfl := Option.some.inj hr
 exact ⟨.inr rfl, _, _, (Res.cellN rfl a0 rfl rfl Res.nil), (.trans (.frz p6) (.trans (.frz p7) (.trans (.frz p8) (.sl (.p p6 (.p p6 (.p p6 (.p p2 (.p p1 (.p p0 (d3))))))))))), w5, w19, w4, rfl, rfl⟩
 }
 }
 }
 }
theorem v2hzk {Δ : Prims} (g : Env Try.prog Δ) {Ar : List Item} {x1 : Int} {xs1 : (List GE)} {w1 : Value} {res : (GC × (List Int) × Int)} (hr : v2hz x1 xs1 = some res) :
    Sp Try.prog Δ 14 [iv x1, w1] (fz w1 xs1 :: Ar) (fun v A => ∃ (rw1 : Value) (rw2 : Value) (rw3 : Value) (rw4 : Value), v = .tuple #[.agg [rw1, rw2, rw3, .bool res.1.Conflict].toArray, rw4, iv res.2.2] ∧ A = fz w1 xs1 :: fz rw1 res.1.Peers :: fz rw2 res.1.Net :: fz rw3 res.1.Chosen :: ow (rC Int) rw4 res.2.1 :: Ar) := by
 refine Sp.bd Try.func14 rfl rfl ?_
 unfold v2hz at hr
 refine T.q (T.r ?_)
 refine TL.al rfl (fun q1 => ?_)
 refine TL.a rfl (TL.a rfl (T.nil (T.m (T.q (T.q (T.r (TL.mv rfl (TL.len rfl a1 (TL.bin rfl rfl ?_)))))))))
 refine T.nil (T.m ?_)
 refine T.cD rfl (fun hc1 => ?_) (fun hc1 => ?_)
 {
 replace hr := iP hr hc1
 refine T.q (T.r ?_)
 refine TL.bld (cells := [.slice none 0 0, .slice none 0 0, .slice none 0 0, .bool false]) rfl Try.underlying30 info30 rfl rfl rfl (by simp only [List.mapM_cons, List.mapM_nil, info26, info27, info28, info4]; rfl) rfl .n rfl ?_
 refine TL.lit (α := Int) rfl rfl rfl rfl ([] : List Int) (fun _ _ _ _ _ => RA.nil) (fun w2 => ?_)
 refine TL.sto (c' := [.slice none 0 0, .slice none 0 0, .slice none 0 0, .bool false]) rfl rfl rfl (.s rfl (.s rfl (.s rfl (.s rfl .n)))) e1 rfl (bl rfl) (TL.a rfl (TL.a rfl (T.nil (T.m ?_))))
 refine T.ret ?_
 refine T.thenRet ?_
 obtain rfl := Option.some.inj hr
 exact ⟨.inr rfl, _, _, (Res.cellN rfl a1 rfl rfl (Res.tmp rfl (Res.tmp rfl Res.nil))), (.trans (.nilZ GP) (.trans (.nilZ GM) (.trans (.nilZ GR) (.sl (.p p5 (.p p2 (.p p1 (.p p0 (.p p0 (d1)))))))))), (.slice none 0 0), (.slice none 0 0), (.slice none 0 0), w2, rfl, rfl⟩
 }
 {
 replace hr := iN hr hc1
 refine T.k (T.m (T.q (T.q ?_)))
 refine T.ct (fun fr A => ∃ (x2 : Bool), fr = [(0, iv x1), (1, w1), (4, pt q1 0), (20, .bool x2)] ∧ A = box q1 [.slice none 0 0, .slice none 0 0, .slice none 0 0, .bool false] :: fz w1 xs1 :: Ar ∧ v2iz xs1 x1 x2 = some res) ?_ ?_
 {
 refine T.r (TL.mv rfl (TL.bin rfl rfl (TL.mv rfl ?_)))
 refine TL.guardD rfl rfl rfl (fun hg1 => ?_) (fun hg1 => ?_)
 {
 replace hr := iP hr hg1
 refine TL.sk rfl (TL.sk rfl ?_)
 refine TL.of (fun f k => WL.pick f rfl rfl rfl rfl rfl k) ?_
 refine T.nil (T.m ?_)
 exact ⟨_, _, (fl4), (.refl _), true, rfl, rfl, hr⟩
 }
 {
 replace hr := iN hr hg1
 refine TL.mv rfl (TL.bin rfl rfl ?_)
 refine TL.of (fun f k => WL.pick f rfl rfl rfl rfl rfl k) ?_
 refine T.nil (T.m ?_)
 exact ⟨_, _, (fl4), (.refl _), (decide ((7 : Int) < x1)), rfl, rfl, hr⟩
 }
 }
 {
 rintro _ _ ⟨x2, rfl, rfl, hr⟩
 unfold v2iz at hr
 refine T.cond rfl (fun hc2 => ?_) (fun hc2 => ?_)
 {
 replace hr := iBP hr hc2
 refine T.q (T.r ?_)
 refine TL.bld (cells := [.slice none 0 0, .slice none 0 0, .slice none 0 0, .bool false]) rfl Try.underlying30 info30 rfl rfl rfl (by simp only [List.mapM_cons, List.mapM_nil, info26, info27, info28, info4]; rfl) rfl .n rfl ?_
 refine TL.lit (α := Int) rfl rfl rfl rfl ([] : List Int) (fun _ _ _ _ _ => RA.nil) (fun w3 => ?_)
 refine TL.sto (c' := [.slice none 0 0, .slice none 0 0, .slice none 0 0, .bool false]) rfl rfl rfl (.s rfl (.s rfl (.s rfl (.s rfl .n)))) e1 rfl (bl rfl) (TL.a rfl (TL.a rfl (T.nil (T.m ?_))))
 refine T.ret ?_
 refine T.thenRet ?_
 obtain rfl := Option.some.inj hr
 exact ⟨.inr rfl, _, _, (Res.cellN rfl a1 rfl rfl (Res.tmp rfl (Res.tmp rfl Res.nil))), (.trans (.nilZ GP) (.trans (.nilZ GM) (.trans (.nilZ GR) (.sl (.p p5 (.p p2 (.p p1 (.p p0 (.p p0 (d1)))))))))), (.slice none 0 0), (.slice none 0 0), (.slice none 0 0), w3, rfl, rfl⟩
 }
 {
 replace hr := iBN hr hc2
 refine T.k (T.m (T.q (T.q (T.r (TL.mv rfl (TL.len rfl a1 (TL.bin rfl rfl (T.nil (T.m ?_)))))))))
 refine T.cD rfl (fun hc3 => ?_) (fun hc3 => ?_)
 {
 replace hr := iP hr hc3
 refine T.q (T.r ?_)
 refine TL.bld (cells := [.slice none 0 0, .slice none 0 0, .slice none 0 0, .bool false]) rfl Try.underlying30 info30 rfl rfl rfl (by simp only [List.mapM_cons, List.mapM_nil, info26, info27, info28, info4]; rfl) rfl .n rfl ?_
 refine TL.lit (α := Int) rfl rfl rfl rfl ([] : List Int) (fun _ _ _ _ _ => RA.nil) (fun w4 => ?_)
 refine TL.sto (c' := [.slice none 0 0, .slice none 0 0, .slice none 0 0, .bool false]) rfl rfl rfl (.s rfl (.s rfl (.s rfl (.s rfl .n)))) e1 rfl (bl rfl) (TL.a rfl (TL.a rfl (T.nil (T.m ?_))))
 refine T.ret ?_
 refine T.thenRet ?_
 obtain rfl := Option.some.inj hr
 exact ⟨.inr rfl, _, _, (Res.cellN rfl a1 rfl rfl (Res.tmp rfl (Res.tmp rfl Res.nil))), (.trans (.nilZ GP) (.trans (.nilZ GM) (.trans (.nilZ GR) (.sl (.p p5 (.p p2 (.p p1 (.p p0 (.p p0 (d1)))))))))), (.slice none 0 0), (.slice none 0 0), (.slice none 0 0), w4, rfl, rfl⟩
 }
 {
 replace hr := iN hr hc3
 refine T.k (T.m (T.q (T.r (TL.mv rfl ?_))))
 obtain ⟨x3, hx1, hr⟩ := bS hr
 refine TL.c rfl rfl rfl (v3ezk g hx1) ?_
 rintro _ _ ⟨q2, w5, w6, w7, rfl, rfl⟩
 refine TL.a rfl (T.nil (T.m (T.q (T.r ?_))))
 refine TL.lit (α := Int) rfl rfl rfl rfl ([] : List Int) (fun _ _ _ _ _ => RA.nil) (fun w8 => ?_)
 refine TL.a rfl (T.nil (T.m (T.q (T.q (T.r (TL.a rfl (T.nil (T.m (T.b ?_)))))))))
 refine T.lp (fun k1 fr A => ∃ (xs2 : (List Int)) (x4 : Int) (xs3 : (List GP)) (xs4 : (List GM)) (xs5 : (List GR)) (x5 : Bool) (w9 : Value) (w10 : Value) (w11 : Value), x3.c.Peers.length = xs3.length ∧ fr = [(1, w1), (4, pt q1 0), (7, pt q2 0), (8, w9), (9, iv x4)] ∧ A = box q1 [.slice none 0 0, .slice none 0 0, .slice none 0 0, .bool false] :: box q2 [w5, w10, w11, .bool x5] :: fz w1 xs1 :: ow (rC Int) w9 xs2 :: ow rGPeer w5 xs3 :: ow (rC GM) w10 xs4 :: ow (rC GR) w11 xs5 :: Ar ∧ v2jz xs1 k1 xs2 x4 xs3 xs4 xs5 x5 = some res) BIG ?_ ?_ ?_
 {
 exact ⟨_, _, (fl5), (.sl (.p p5 (.p p1 (.p p4 (.p p0 (.p p0 (.p p0 (.p p0 .e)))))))), ([] : List Int), 0, x3.c.Peers, x3.c.Net, x3.c.Chosen, x3.c.Conflict, w8, w6, w7, lnE, rfl, rfl, hr⟩
 }
 {
 rintro fr A ⟨xs2, x4, xs3, xs4, xs5, x5, w9, w10, w11, hl1, -, -, hr⟩
 rw [v2jz] at hr
 cases hr
 }
 {
 rintro k1 _ _ ⟨xs2, x4, xs3, xs4, xs5, x5, w9, w10, w11, hl1, rfl, rfl, hr⟩
 rw [v2jz] at hr
 refine T.q (T.q (T.r (TL.mv rfl (TL.mv rfl (TL.len rfl a2 (TL.bin rfl rfl (T.nil (T.m ?_))))))))
 refine T.cD rfl (fun hc4 => ?_) (fun hc4 => ?_)
 {
 replace hr := iP hr hc4
 refine T.k (T.m (T.q (T.b (T.r (TL.mv rfl (TL.mv rfl (TL.mv rfl (TL.mv rfl ?_))))))))
 obtain ⟨x6, hx2, hr⟩ := bS hr
 refine TL.ixu rfl a2 hx2 (fun b1 e1924 hp1 => ?_)
 refine GE.ex a2 hp1 hx2 (fun w12 => ?_)
 refine TL.ldgN rfl a0 rfl ?_
 obtain ⟨x7, hx3, hr⟩ := bS hr
 refine TL.gh (.sl (.p p3 (.p p5 (.p p5 (.p p5 (.p p1 .e)))))) ?_
 refine TL.hv (v := w5) a1 (fun hv1 => ?_)
 refine TL.c rfl rfl rfl (v4kzk g hx3) ?_
 rintro _ _ ⟨w13, w14, rfl, rfl⟩
 refine TL.hv (v := w5) a1 (fun hv2 => ?_)
 have hl2 : x3.c.Peers.length = x7.1.c.Peers.length := Eq.trans lnE (Hv.eq hv1 hv2)
 refine TL.lit (α := Int) rfl rfl rfl rfl ([x7.2] : List Int) (fun _ _ _ _ _ => (RA.cons (cs := [iv x7.2]) (a := (x7.2 : Int)) rfl RA.nil)) (fun w15 => ?_)
 obtain ⟨hc5, hr⟩ := cS hr
 refine TL.appR rfl p9 a0 hc5 (fun w16 => ?_)
 refine TL.a rfl (T.nil (T.bN (T.m (T.r (TL.mv rfl ?_)))))
 obtain ⟨hc6, hr⟩ := cS hr
 refine TL.ad rfl hc6 (TL.a rfl (T.nil (T.m ?_)))
 exact ⟨_, _, (fl5), (.sl (.p p8 (.p p2 (.p p7 (.p p0 (.p p1 (.p p1 (.p p1 (d3))))))))), (xs2 ++ ([x7.2] : List Int)), (x4 + 1), x7.1.c.Peers, x7.1.c.Net, x7.1.c.Chosen, x7.1.c.Conflict, w16, w13, w14, lnE, rfl, rfl, hr⟩
 }
 {
 replace hr := iN hr hc4
 refine T.exit ?_
 refine T.tE (T.tE (T.bH (T.m (T.q (T.r (TL.mv rfl (TL.nc rfl (TL.fa rfl ?_))))))))
 refine TL.ldN (l' := [w5, w10, w11, .bool x5]) rfl a1 rfl rfl ?_
 obtain ⟨x8, hx4, hr⟩ := bS hr
 refine TL.gh (.trans (.frzD p4) (.trans (.frz p5) (.frz p6))) ?_
 refine TL.gh (.sl (.p p2 (.p p1 (.p p0 .e)))) ?_
 refine TL.c rfl rfl rfl (v3kzk g hx4) ?_
 rintro _ _ ⟨w17, w18, w19, rfl, rfl⟩
 refine TL.mv rfl (TL.sto (c' := [w17, w18, w19, .bool x8.Conflict]) rfl rfl rfl (.h a3 inferInstance (.h a4 inferInstance (.h a5 inferInstance (.s rfl .n)))) e6 rfl (bl rfl) (TL.a rfl (TL.a rfl (T.nil (T.m ?_)))))
 refine T.ret ?_
 obtain rfl := Option.some.inj hr
 exact ⟨.inr rfl, _, _, (Res.cellN rfl a6 rfl rfl (Res.tmp rfl (Res.tmp rfl Res.nil))), (.sl (.p p8 (.p p3 (.p p3 (.p p3 (.p p5 (d5))))))), w17, w18, w19, w9, rfl, rfl⟩
 }
 }
 }
 }
 }
 }
theorem v20zk {Δ : Prims} (g : Env Try.prog Δ) {Ar : List Item} {xs1 : (List Int)} {w1 : Value} {xs2 : (List Int)} {w2 : Value} {res : (Bool)} (hr : v20z xs1 xs2 = some res) :
    Sp Try.prog Δ 15 [w1, w2] (fz w1 xs1 :: fz w2 xs2 :: Ar) (fun v A => v = .bool res ∧ A = fz w1 xs1 :: fz w2 xs2 :: Ar) := by
 refine Sp.bd Try.func15 rfl rfl ?_
 unfold v20z at hr
 refine T.q (T.r (TL.a rfl (T.nil (T.m (T.q (T.q (T.r (TL.mv rfl (TL.len rfl a0 ?_)))))))))
 refine TL.mv rfl (TL.len rfl a1 (TL.bin rfl rfl (T.nil (T.m ?_))))
 refine T.condN rfl (fun hc1 => ?_) (fun hc1 => ?_)
 {
 replace hr := iN hr hc1
 refine T.q (T.r (TL.a rfl (T.nil (T.m ?_))))
 refine T.ret ?_
 refine T.thenRet ?_
 obtain rfl := Option.some.inj hr
 exact ⟨.inr rfl, _, _, (Res.tmp rfl Res.nil), (.refl _), rfl, rfl⟩
 }
 {
 replace hr := iP hr hc1
 refine T.k (T.m (T.q (T.q (T.r (TL.a rfl (T.nil (T.m (T.b ?_))))))))
 refine T.lp (fun k0 fr A => ∃ (x1 : Int), fr = [(0, w1), (1, w2), (5, iv x1)] ∧ A = fz w1 xs1 :: fz w2 xs2 :: Ar ∧ v21z xs1 xs2 k0 x1 = some res) BIG ?_ ?_ ?_
 {
 exact ⟨_, _, (fl3), (.refl _), 0, rfl, rfl, hr⟩
 }
 {
 rintro fr A ⟨x1, -, -, hr⟩
 rw [v21z] at hr
 cases hr
 }
 {
 rintro k0 _ _ ⟨x1, rfl, rfl, hr⟩
 rw [v21z] at hr
 refine T.q (T.q (T.r (TL.mv rfl (TL.mv rfl (TL.len rfl a0 (TL.bin rfl rfl (T.nil (T.m ?_))))))))
 refine T.cD rfl (fun hc2 => ?_) (fun hc2 => ?_)
 {
 replace hr := iP hr hc2
 refine T.k (T.m (T.q (T.b (T.q (T.rD r9 f9 rfl rfl kr kr mP (TL.mv rfl (TL.mv rfl ?_)))))))
 obtain ⟨x2, hx1, hr⟩ := bS hr
 refine TL.ixu rfl a0 hx1 (fun b1 e184 hp1 => ?_)
 refine TL.ldek (m := 0) rfl a0 hp1 hx1 Rp.sc rfl (TL.mv rfl (TL.mv rfl ?_))
 obtain ⟨x3, hx2, hr⟩ := bS hr
 refine TL.ixu rfl a1 hx2 (fun b2 e195 hp2 => ?_)
 refine TL.ldek (m := 0) rfl a1 hp2 hx2 Rp.sc rfl (TL.bin rfl rfl (T.nil (T.m ?_)))
 refine T.condN rfl (fun hc3 => ?_) (fun hc3 => ?_)
 {
 replace hr := iN hr hc3
 refine T.q (T.r (TL.a rfl (T.nil (T.m ?_))))
 refine T.ret ?_
 refine T.blkRet ?_
 refine T.thenRet ?_
 refine T.thenRet ?_
 refine T.blkRet ?_
 refine T.thenRet ?_
 obtain rfl := Option.some.inj hr
 exact ⟨.inr rfl, _, _, (Res.tmp rfl Res.nil), (.refl _), rfl, rfl⟩
 }
 {
 replace hr := iP hr hc3
 refine T.k (T.bN (T.m (T.r (TL.mv rfl ?_))))
 obtain ⟨hc4, hr⟩ := cS hr
 refine TL.ad rfl hc4 (TL.a rfl (T.nil (T.m ?_)))
 exact ⟨_, _, (fl3), (.refl _), (x1 + 1), rfl, rfl, hr⟩
 }
 }
 {
 replace hr := iN hr hc2
 refine T.exit ?_
 refine T.tE (T.tE (T.bH (T.m (T.q (T.r (TL.a rfl (T.nil (T.m ?_))))))))
 refine T.ret ?_
 obtain rfl := Option.some.inj hr
 exact ⟨.inr rfl, _, _, (Res.tmp rfl Res.nil), (.refl _), rfl, rfl⟩
 }
 }
 }
theorem v2bzk {Δ : Prims} (g : Env Try.prog Δ) {Ar : List Item} {xs1 : (List GR)} {w1 : Value} {xs2 : (List GR)} {w2 : Value} {res : (Bool)} (hr : v2bz xs1 xs2 = some res) :
    Sp Try.prog Δ 40 [w1, w2, .func (.func 41) #[] #[]] (fz w1 xs1 :: fz w2 xs2 :: Ar) (fun v A => v = .bool res ∧ A = fz w1 xs1 :: fz w2 xs2 :: Ar) := by
 refine Sp.bd Try.func40 rfl rfl ?_
 unfold v2bz at hr
 refine T.q (T.r (TL.a rfl (T.nil (T.m (T.q (T.q (T.r (TL.mv rfl (TL.len rfl a0 ?_)))))))))
 refine TL.mv rfl (TL.len rfl a1 (TL.bin rfl rfl (T.nil (T.m ?_))))
 refine T.condN rfl (fun hc1 => ?_) (fun hc1 => ?_)
 {
 replace hr := iN hr hc1
 refine T.q (T.r (TL.a rfl (T.nil (T.m ?_))))
 refine T.ret ?_
 refine T.thenRet ?_
 obtain rfl := Option.some.inj hr
 exact ⟨.inr rfl, _, _, (Res.tmp rfl Res.nil), (.refl _), rfl, rfl⟩
 }
 {
 replace hr := iP hr hc1
 refine T.k (T.m (T.q (T.q (T.r (TL.mv rfl (TL.len rfl a0 (TL.mv rfl (T.nil (T.m ?_)))))))))
 refine T.b ?_
 refine T.lp (fun k0 fr A => ∃ (x1 : Int), fr = [(1, w2), (2, .func (.func 41) #[] #[]), (15, w1), (16, iv (xs1.length : Int)), (17, iv x1)] ∧ A = fz w2 xs2 :: fz w1 xs1 :: Ar ∧ v2cz xs1 xs2 k0 x1 = some res) BIG ?_ ?_ ?_
 {
 exact ⟨_, _, (fl5), (.sl (.p p1 (.p p0 .e))), 0, rfl, rfl, hr⟩
 }
 {
 rintro fr A ⟨x1, -, -, hr⟩
 rw [v2cz] at hr
 cases hr
 }
 {
 rintro k0 _ _ ⟨x1, rfl, rfl, hr⟩
 rw [v2cz] at hr
 refine T.q (T.r (TL.bin rfl rfl (T.nil (T.m (T.q ?_)))))
 refine T.cD rfl (fun hc2 => ?_) (fun hc2 => ?_)
 {
 replace hr := iP hr hc2
 refine T.k (T.m (T.q (T.b (T.q (T.r (TL.mv rfl ?_))))))
 obtain ⟨x2, hx1, hr⟩ := bS hr
 refine TL.ixu rfl a1 hx1 (fun b1 e397 hp1 => ?_)
 refine GR.ex a1 hp1 hx1 (fun w3 => ?_)
 refine TL.ldgN rfl a0 rfl ?_
 refine TL.al rfl (fun q1 => ?_)
 refine TL.a rfl (TL.sto (c' := [iv x2.Term, iv x2.Index, w3]) rfl rfl rfl (.s rfl (.s rfl (.h a2 inferInstance .n))) e0 rfl (bl rfl) (T.nil (T.m (T.q (T.r (TL.mv rfl (TL.mv rfl ?_)))))))
 obtain ⟨x3, hx2, hr⟩ := bS hr
 refine TL.ixu rfl a3 hx2 (fun b2 e423 hp2 => ?_)
 refine GR.ex a3 hp2 hx2 (fun w4 => ?_)
 refine TL.ldgN rfl a0 rfl ?_
 refine TL.al rfl (fun q2 => ?_)
 refine TL.sto (c' := [iv x3.Term, iv x3.Index, w4]) rfl rfl rfl (.s rfl (.s rfl (.h a2 inferInstance .n))) e0 rfl (bl rfl) (T.nil (T.m (T.q (T.r (TL.mv rfl (TL.ldN (l' := [iv x2.Term, iv x2.Index, w3]) rfl a3 rfl rfl (TL.ldN (l' := [iv x3.Term, iv x3.Index, w4]) rfl a0 rfl rfl ?_)))))))
 obtain ⟨x4, hx3, hr⟩ := bS hr
 refine TL.gh (.sl (.p p5 (.p p2 .e))) ?_
 refine TL.c rfl rfl rfl (v1qzk g hx3) ?_
 rintro _ _ ⟨rfl, rfl⟩
 refine TL.of (fun f k => WL.not f rfl rfl rfl rfl k) ?_
 refine T.nil (T.m ?_)
 refine T.cond rfl (fun hc3 => ?_) (fun hc3 => ?_)
 {
 replace hr := iBP hr hc3
 refine T.q (T.r (TL.a rfl (T.nil (T.m ?_))))
 refine T.ret ?_
 refine T.blkRet ?_
 refine T.thenRet ?_
 refine T.thenRet ?_
 refine T.blkRet ?_
 refine T.thenRet ?_
 obtain rfl := Option.some.inj hr
 exact ⟨.inr rfl, _, _, (Res.tmp rfl Res.nil), (.sl (.p p7 (.p p6 (d6)))), rfl, rfl⟩
 }
 {
 replace hr := iBN hr hc3
 refine T.k (T.bN (T.m (T.r ?_)))
 obtain ⟨hc4, hr⟩ := cS hr
 refine TL.ad rfl hc4 (TL.mv rfl (T.nil (T.m ?_)))
 exact ⟨_, _, (fl5), (.sl (.p p6 (.p p6 (d6)))), (x1 + 1), rfl, rfl, hr⟩
 }
 }
 {
 replace hr := iN hr hc2
 refine T.exit ?_
 refine T.tE (T.tE (T.bH (T.m (T.q (T.r (TL.a rfl (T.nil (T.m ?_))))))))
 refine T.ret ?_
 obtain rfl := Option.some.inj hr
 exact ⟨.inr rfl, _, _, (Res.tmp rfl Res.nil), (.sl (.p p1 (.p p0 .e))), rfl, rfl⟩
 }
 }
 }
theorem v2zk {Δ : Prims} (g : Env Try.prog Δ) {Ar : List Item} {x1 : GC} {w1 w2 w3 : Value} {res : (Bool)} (hr : v2z x1 = some res) :
    Sp Try.prog Δ 16 [.agg [w1, w2, w3, .bool x1.Conflict].toArray] (fz w1 x1.Peers :: fz w2 x1.Net :: fz w3 x1.Chosen :: Ar) (fun v A => v = .bool res ∧ A = fz w1 x1.Peers :: fz w2 x1.Net :: fz w3 x1.Chosen :: Ar) := by
 refine Sp.bd Try.func16 rfl rfl ?_
 unfold v2z at hr
 refine T.q (T.r ?_)
 refine TL.bxo rfl rfl (.h a0 inferInstance (.h a1 inferInstance (.h a2 inferInstance (.s rfl .n)))) (fun q1 => ?_)
 refine TL.a rfl (T.nil (T.m (T.q (T.q (T.r (TL.fa rfl (TL.ld rfl a0 rfl (TL.len rfl a1 (TL.mv rfl ?_)))))))))
 refine T.nil (T.m (T.b ?_))
 refine T.lp (fun k0 fr A => ∃ (x2 : Int), fr = [(1, pt q1 0), (6, w1), (7, iv (x1.Peers.length : Int)), (8, iv x2)] ∧ A = box q1 [w1, w2, w3, .bool x1.Conflict] :: fz w1 x1.Peers :: fz w2 x1.Net :: fz w3 x1.Chosen :: Ar ∧ v4z x1 k0 x2 = some res) BIG ?_ ?_ ?_
 {
 exact ⟨_, _, (fl4), (.refl _), 0, rfl, rfl, hr⟩
 }
 {
 rintro fr A ⟨x2, -, -, hr⟩
 rw [v4z] at hr
 cases hr
 }
 {
 rintro k0 _ _ ⟨x2, rfl, rfl, hr⟩
 rw [v4z] at hr
 refine T.q (T.r (TL.bin rfl rfl (T.nil (T.m (T.q ?_)))))
 refine T.cD rfl (fun hc1 => ?_) (fun hc1 => ?_)
 {
 replace hr := iP hr hc1
 refine T.k (T.m (T.q (T.b (T.q (T.r ?_)))))
 obtain ⟨x3, hx1, hr⟩ := bS hr
 refine TL.ixu rfl a1 hx1 (fun b1 e1486 hp1 => ?_)
 refine GP.ex a1 hp1 hx1 (fun w4 w5 w6 w7 => ?_)
 refine TL.ldgN rfl a0 rfl ?_
 refine TL.al rfl (fun q2 => ?_)
 refine TL.sto (c' := [.bool x3.Up, iv x3.Term, iv x3.Vote, iv x3.Commit, iv x3.Role, w4, w5, w6, w7]) rfl rfl rfl (.s rfl (.s rfl (.s rfl (.s rfl (.s rfl (.h a2 inferInstance (.h a3 inferInstance (.h a4 inferInstance (.h a5 inferInstance .n))))))))) e0 rfl (bl rfl) (T.nil (T.m (T.q ?_)))
 refine T.ct (fun fr A => ∃ (x4 : Bool), fr = [(1, pt q1 0), (6, w1), (7, iv (x1.Peers.length : Int)), (8, iv x2), (36, .bool x4)] ∧ A = box q1 [w1, w2, w3, .bool x1.Conflict] :: fz w1 x1.Peers :: fz w2 x1.Net :: fz w3 x1.Chosen :: Ar ∧ v3z x2 (v4z x1 k0) x4 = some res) ?_ ?_
 {
 refine T.rD [0, 1, 2, 3, 4, 5, 6, 7, 8, 9, 10, 11, 12, 13, 14, 15, 16, 17, 18, 19, 20, 21, 22, 23, 24] [false, false, false, false, false, false, false, false, false, false, false, false, false, false, false, false, false, false, false, false, false, false, false, false, false] rfl rfl kr kr mP (TL.fa rfl (TL.ld rfl a0 rfl (TL.fa rfl (TL.ld rfl a0 rfl (TL.len rfl a2 (TL.fa rfl (TL.ld rfl a6 rfl (TL.len rfl a9 ?_))))))))
 refine TL.of (fun f k => WL.min2 f rfl rfl rfl rfl rfl k) ?_
 obtain ⟨x5, hx2, hr⟩ := bS hr
 refine TL.callR g rfl rfl rfl (Pz.out .n) (v1szk g (Ar := []) hx2) ?_
 rintro _ _ ⟨rfl, rfl⟩
 simp only [List.cons_append, List.nil_append]
 refine TL.of (fun f k => WL.not f rfl rfl rfl rfl k) ?_
 refine TL.mv rfl ?_
 refine TL.guard rfl rfl rfl (fun hg1 => ?_) (fun hg1 => ?_)
 {
 replace hr := iBP hr hg1
 refine TL.sk rfl (TL.sk rfl (TL.sk rfl (TL.sk rfl (TL.sk rfl (TL.sk rfl (TL.sk rfl (TL.sk rfl (TL.sk rfl (TL.sk rfl ?_)))))))))
 refine TL.sk rfl (TL.sk rfl ?_)
 refine TL.of (fun f k => WL.pick f rfl rfl rfl rfl rfl k) ?_
 refine T.nil (T.m ?_)
 exact ⟨_, _, (fl5), (.sl (.p p6 (.p p6 (.p p6 (.p p6 (d6)))))), true, rfl, rfl, hr⟩
 }
 {
 replace hr := iBN hr hg1
 refine TL.fa rfl (TL.ld rfl a0 rfl (TL.fa rfl (TL.ld rfl a0 rfl ?_)))
 obtain ⟨xs1, hxs1563, hr⟩ := bS hr
 refine TL.slz rfl a2 rfl ⟨_, rfl⟩ hxs1563 (fun w8 => ?_)
 refine TL.fa rfl (TL.ld rfl a7 rfl (TL.fa rfl (TL.ld rfl a1 rfl ?_)))
 obtain ⟨xs2, hxs1569, hr⟩ := bS hr
 refine TL.slz rfl a10 rfl ⟨_, rfl⟩ hxs1569 (fun w9 => ?_)
 obtain ⟨x6, hx3, hr⟩ := bS hr
 refine TL.callR g rfl rfl rfl (Pz.out (.c a1 Pers.rC (.c a0 Pers.rC .n))) (v2bzk g (Ar := []) hx3) ?_
 rintro _ _ ⟨rfl, rfl⟩
 simp only [List.cons_append, List.nil_append]
 refine TL.of (fun f k => WL.not f rfl rfl rfl rfl k) ?_
 refine TL.of (fun f k => WL.pick f rfl rfl rfl rfl rfl k) ?_
 refine T.nil (T.m ?_)
 exact ⟨_, _, (fl5), (.sl (.p p10 (.p p10 (.p p10 (.p p10 (d10)))))), (!x6), rfl, rfl, hr⟩
 }
 }
 {
 rintro _ _ ⟨x4, rfl, rfl, hr⟩
 unfold v3z at hr
 refine T.cond rfl (fun hc2 => ?_) (fun hc2 => ?_)
 {
 replace hr := iBP hr hc2
 refine T.q (T.r (TL.a rfl (T.nil (T.m ?_))))
 refine T.ret ?_
 refine T.blkRet ?_
 refine T.thenRet ?_
 refine T.thenRet ?_
 refine T.blkRet ?_
 refine T.thenRet ?_
 obtain rfl := Option.some.inj hr
 exact ⟨.inr rfl, _, _, (Res.tmp rfl Res.nil), (.sl (.p p1 (.p p1 (.p p1 (d1))))), rfl, rfl⟩
 }
 {
 replace hr := iBN hr hc2
 refine T.k (T.bN (T.m (T.r ?_)))
 obtain ⟨hc3, hr⟩ := cS hr
 refine TL.ad rfl hc3 (TL.mv rfl (T.nil (T.m ?_)))
 exact ⟨_, _, (fl4), (.refl _), (x2 + 1), rfl, rfl, hr⟩
 }
 }
 }
 {
 replace hr := iN hr hc1
 refine T.exit ?_
 refine T.tE (T.tE (T.bH (T.m (T.q (T.r (TL.fa rfl (TL.ld rfl a0 rfl ?_)))))))
 refine TL.of (fun f k => WL.not f rfl rfl rfl rfl k) ?_
 refine TL.a rfl (T.nil (T.m ?_))
 refine T.ret ?_
 obtain rfl := Option.some.inj hr
 exact ⟨.inr rfl, _, _, (Res.tmp rfl Res.nil), (.sl (.p p1 (.p p1 (.p p1 (d1))))), rfl, rfl⟩
 }
 }
theorem v22zk {Δ : Prims} (g : Env Try.prog Δ) {Ar : List Item} {xs1 : (List GR)} {w1 : Value} {xs2 : (List GR)} {w2 : Value} {res : (Bool)} (hr : v22z xs1 xs2 = some res) :
    Sp Try.prog Δ 12 [w1, w2] (fz w1 xs1 :: fz w2 xs2 :: Ar) (fun v A => v = .bool res ∧ A = fz w1 xs1 :: fz w2 xs2 :: Ar) := by
 refine Sp.bd Try.func12 rfl rfl ?_
 unfold v22z at hr
 refine T.q (T.r (TL.a rfl (T.nil (T.m (T.q (T.q (T.r (TL.mv rfl (TL.len rfl a0 ?_)))))))))
 refine TL.mv rfl (TL.len rfl a1 (TL.bin rfl rfl (T.nil (T.m ?_))))
 refine T.condN rfl (fun hc1 => ?_) (fun hc1 => ?_)
 {
 replace hr := iN hr hc1
 refine T.q (T.r (TL.a rfl (T.nil (T.m ?_))))
 refine T.ret ?_
 refine T.thenRet ?_
 obtain rfl := Option.some.inj hr
 exact ⟨.inr rfl, _, _, (Res.tmp rfl Res.nil), (.refl _), rfl, rfl⟩
 }
 {
 replace hr := iP hr hc1
 refine T.k (T.m (T.q (T.q (T.r (TL.a rfl (T.nil (T.m (T.b ?_))))))))
 refine T.lp (fun k0 fr A => ∃ (x1 : Int), fr = [(0, w1), (1, w2), (5, iv x1)] ∧ A = fz w1 xs1 :: fz w2 xs2 :: Ar ∧ v24z xs1 xs2 k0 x1 = some res) BIG ?_ ?_ ?_
 {
 exact ⟨_, _, (fl3), (.refl _), 0, rfl, rfl, hr⟩
 }
 {
 rintro fr A ⟨x1, -, -, hr⟩
 rw [v24z] at hr
 cases hr
 }
 {
 rintro k0 _ _ ⟨x1, rfl, rfl, hr⟩
 rw [v24z] at hr
 refine T.q (T.q (T.r (TL.mv rfl (TL.mv rfl (TL.len rfl a0 (TL.bin rfl rfl (T.nil (T.m ?_))))))))
 refine T.cD rfl (fun hc2 => ?_) (fun hc2 => ?_)
 {
 replace hr := iP hr hc2
 refine T.k (T.m (T.q (T.b (T.q ?_))))
 refine T.ct (fun fr A => ∃ (x2 : Bool), fr = [(0, w1), (1, w2), (5, iv x1), (55, .bool x2)] ∧ A = fz w1 xs1 :: fz w2 xs2 :: Ar ∧ v23z x1 (v24z xs1 xs2 k0) x2 = some res) ?_ ?_
 {
 refine T.rD [0, 1, 2, 3, 4, 5, 6, 7, 8, 9, 10, 11, 12, 13, 14, 15, 16, 17, 18, 19, 20, 21, 22, 23, 24, 25, 26, 27, 28, 29, 30, 31, 32, 33, 34, 35, 36, 37, 38] [false, false, false, false, false, false, false, false, false, false, false, false, false, false, false, false, false, false, false, false, false, false, false, false, false, false, false, false, false, false, false, false, false, false, false, false, false, false, false] rfl rfl kr kr mP (TL.mv rfl (TL.mv rfl ?_))
 obtain ⟨x3, hx1, hr⟩ := bS hr
 refine TL.ixu rfl a0 hx1 (fun b1 e1139 hp1 => ?_)
 refine GR.ex a0 hp1 hx1 (fun w3 => ?_)
 refine TL.fa rfl (TL.ldg (m := 0) rfl a0 rfl rfl (TL.mv rfl (TL.mv rfl ?_)))
 obtain ⟨x4, hx2, hr⟩ := bS hr
 refine TL.ixu rfl a3 hx2 (fun b2 e1154 hp2 => ?_)
 refine GR.ex a3 hp2 hx2 (fun w4 => ?_)
 refine TL.fa rfl (TL.ldg (m := 0) rfl a0 rfl rfl (TL.bin rfl rfl (TL.mv rfl ?_)))
 refine TL.guardN rfl rfl rfl (fun hg1 => ?_) (fun hg1 => ?_)
 {
 replace hr := iN hr hg1
 refine TL.sk rfl (TL.sk rfl (TL.sk rfl (TL.sk rfl (TL.sk rfl (TL.sk rfl (TL.sk rfl (TL.sk rfl (TL.sk rfl (TL.sk rfl ?_)))))))))
 refine TL.sk rfl ?_
 refine TL.of (fun f k => WL.pick f rfl rfl rfl rfl rfl k) ?_
 refine TL.mv rfl (TL.sk rfl (TL.sk rfl (TL.sk rfl (TL.sk rfl (TL.sk rfl (TL.sk rfl (TL.sk rfl (TL.sk rfl (TL.sk rfl ?_)))))))))
 refine TL.sk rfl (TL.sk rfl (TL.sk rfl (TL.sk rfl ?_)))
 refine TL.of (fun f k => WL.pick f rfl rfl rfl rfl rfl k) ?_
 refine T.nil (T.m ?_)
 exact ⟨_, _, (fl4), (.sl (.p p4 (.p p4 (d4)))), true, rfl, rfl, hr⟩
 }
 {
 replace hr := iP hr hg1
 refine TL.mv rfl (TL.mv rfl ?_)
 obtain ⟨x5, hx3, hr⟩ := bS hr
 refine TL.ixu rfl a4 hx3 (fun b3 e1170 hp3 => ?_)
 refine GR.ex a4 hp3 hx3 (fun w5 => ?_)
 refine TL.fa rfl (TL.ldg (m := 1) rfl a0 rfl rfl (TL.mv rfl (TL.mv rfl ?_)))
 obtain ⟨x6, hx4, hr⟩ := bS hr
 refine TL.ixu rfl a7 hx4 (fun b4 e1185 hp4 => ?_)
 refine GR.ex a7 hp4 hx4 (fun w6 => ?_)
 refine TL.fa rfl (TL.ldg (m := 1) rfl a0 rfl rfl (TL.bin rfl rfl ?_))
 refine TL.of (fun f k => WL.pick f rfl rfl rfl rfl rfl k) ?_
 refine TL.mv rfl ?_
 refine TL.guardN rfl rfl rfl (fun hg2 => ?_) (fun hg2 => ?_)
 {
 replace hr := iN hr hg2
 refine TL.sk rfl (TL.sk rfl (TL.sk rfl (TL.sk rfl (TL.sk rfl (TL.sk rfl (TL.sk rfl (TL.sk rfl (TL.sk rfl (TL.sk rfl ?_)))))))))
 refine TL.sk rfl (TL.sk rfl (TL.sk rfl ?_))
 refine TL.of (fun f k => WL.pick f rfl rfl rfl rfl rfl k) ?_
 refine T.nil (T.m ?_)
 exact ⟨_, _, (fl4), (.sl (.p p8 (.p p8 (d8)))), true, rfl, rfl, hr⟩
 }
 {
 replace hr := iP hr hg2
 refine TL.mv rfl (TL.mv rfl ?_)
 obtain ⟨x7, hx5, hr⟩ := bS hr
 refine TL.ixu rfl a8 hx5 (fun b5 e1201 hp5 => ?_)
 refine GR.ex a8 hp5 hx5 (fun w7 => ?_)
 refine TL.fa rfl (TL.ldg (m := 2) rfl a0 rfl rfl ?_)
 refine TL.toStr rfl a1 ?_
 refine TL.mv rfl (TL.mv rfl ?_)
 obtain ⟨x8, hx6, hr⟩ := bS hr
 refine TL.ixu rfl a11 hx6 (fun b6 e1216 hp6 => ?_)
 refine GR.ex a11 hp6 hx6 (fun w8 => ?_)
 refine TL.fa rfl (TL.ldg (m := 2) rfl a0 rfl rfl ?_)
 refine TL.toStr rfl a1 ?_
 refine TL.of (fun f k => GL.strCmp f rfl rfl rfl rfl rfl (by decide) rfl k) ?_
 refine TL.of (fun f k => WL.pick f rfl rfl rfl rfl rfl k) ?_
 refine T.nil (T.m ?_)
 exact ⟨_, _, (fl4), (.sl (.p p12 (.p p12 (d12)))), (!decide (lst x7.Data = lst x8.Data)), rfl, rfl, hr⟩
 }
 }
 }
 {
 rintro _ _ ⟨x2, rfl, rfl, hr⟩
 unfold v23z at hr
 refine T.cond rfl (fun hc3 => ?_) (fun hc3 => ?_)
 {
 replace hr := iBP hr hc3
 refine T.q (T.r (TL.a rfl (T.nil (T.m ?_))))
 refine T.ret ?_
 refine T.blkRet ?_
 refine T.thenRet ?_
 refine T.thenRet ?_
 refine T.blkRet ?_
 refine T.thenRet ?_
 obtain rfl := Option.some.inj hr
 exact ⟨.inr rfl, _, _, (Res.tmp rfl Res.nil), (.refl _), rfl, rfl⟩
 }
 {
 replace hr := iBN hr hc3
 refine T.k (T.bN (T.m (T.r (TL.mv rfl ?_))))
 obtain ⟨hc4, hr⟩ := cS hr
 refine TL.ad rfl hc4 (TL.a rfl (T.nil (T.m ?_)))
 exact ⟨_, _, (fl3), (.refl _), (x1 + 1), rfl, rfl, hr⟩
 }
 }
 }
 {
 replace hr := iN hr hc2
 refine T.exit ?_
 refine T.tE (T.tE (T.bH (T.m (T.q (T.r (TL.a rfl (T.nil (T.m ?_))))))))
 refine T.ret ?_
 obtain rfl := Option.some.inj hr
 exact ⟨.inr rfl, _, _, (Res.tmp rfl Res.nil), (.refl _), rfl, rfl⟩
 }
 }
 }
theorem v1tzk {Δ : Prims} (g : Env Try.prog Δ) {Ar : List Item} {xs1 : (List UInt8)} {w1 : Value} {xs2 : (List UInt8)} {w2 : Value} {res : (Bool)} (hr : v1tz xs1 xs2 = some res) :
    Sp Try.prog Δ 6 [w1, w2] (fz w1 xs1 :: fz w2 xs2 :: Ar) (fun v A => v = .bool res ∧ A = fz w1 xs1 :: fz w2 xs2 :: Ar) := by
 refine Sp.bd Try.func6 rfl rfl ?_
 unfold v1tz at hr
 refine T.q (T.r (TL.a rfl (T.nil (T.m (T.q (T.q ?_))))))
 refine T.ct (fun fr A => ∃ (x1 : Bool), fr = [(0, w1), (1, w2), (22, .bool x1)] ∧ A = fz w1 xs1 :: fz w2 xs2 :: Ar ∧ v1uz xs2 xs1 x1 = some res) ?_ ?_
 {
 refine T.r (TL.mv rfl (TL.len rfl a0 (TL.bin rfl rfl (TL.mv rfl ?_))))
 refine TL.guardD rfl rfl rfl (fun hg1 => ?_) (fun hg1 => ?_)
 {
 replace hr := iP hr hg1
 refine TL.sk rfl (TL.sk rfl (TL.sk rfl ?_))
 refine TL.of (fun f k => WL.pick f rfl rfl rfl rfl rfl k) ?_
 refine T.nil (T.m ?_)
 exact ⟨_, _, (fl3), (.refl _), true, rfl, rfl, hr⟩
 }
 {
 replace hr := iN hr hg1
 refine TL.mv rfl (TL.len rfl a1 (TL.bin rfl rfl ?_))
 refine TL.of (fun f k => WL.pick f rfl rfl rfl rfl rfl k) ?_
 refine T.nil (T.m ?_)
 exact ⟨_, _, (fl3), (.refl _), (decide ((1048576 : Int) < (xs2.length : Int))), rfl, rfl, hr⟩
 }
 }
 {
 rintro _ _ ⟨x1, rfl, rfl, hr⟩
 unfold v1uz at hr
 refine T.cond rfl (fun hc1 => ?_) (fun hc1 => ?_)
 {
 replace hr := iBP hr hc1
 refine T.q (T.r (TL.a rfl (T.nil (T.m ?_))))
 refine T.ret ?_
 refine T.thenRet ?_
 obtain rfl := Option.some.inj hr
 exact ⟨.inr rfl, _, _, (Res.tmp rfl Res.nil), (.refl _), rfl, rfl⟩
 }
 {
 replace hr := iBN hr hc1
 refine T.k (T.m (T.q (T.r (TL.mv rfl ?_))))
 obtain ⟨x2, hx1, hr⟩ := bS hr
 refine TL.gh (.sl (.p p1 .e)) ?_
 refine TL.c rfl rfl rfl (v1zzk g hx1) ?_
 rintro _ _ ⟨rfl, rfl⟩
 refine TL.a rfl (T.nil (T.m (T.q (T.r (TL.mv rfl (TL.mv rfl ?_))))))
 obtain ⟨x3, hx2, hr⟩ := bS hr
 refine TL.gh (.sl (.p p1 .e)) ?_
 refine TL.c rfl rfl rfl (v2kzk g hx2) ?_
 rintro w3 _ rfl
 refine TL.a rfl (T.nil (T.m (T.q (T.r (TL.mv rfl (TL.mv rfl ?_))))))
 obtain ⟨x4, hx3, hr⟩ := bS hr
 refine TL.gh (.frz p1) ?_
 refine TL.c rfl rfl rfl (v5zk g hx3) ?_
 rintro _ _ ⟨w4, w5, w6, w7, rfl, rfl⟩
 refine TL.mv rfl ?_
 refine TL.of (fun f k => WL.extract f rfl rfl rfl rfl rfl k) ?_
 refine TL.of (fun f k => WL.extract f rfl rfl rfl rfl rfl k) ?_
 refine TL.of (fun f k => WL.extract f rfl rfl rfl rfl rfl k) ?_
 refine TL.al rfl (fun q1 => ?_)
 refine TL.sto (c' := [w4, w5, w6, .bool x4.1.Conflict]) rfl rfl rfl (.h a2 inferInstance (.h a3 inferInstance (.h a4 inferInstance (.s rfl .n)))) e0 rfl (bl rfl) (TL.a rfl (TL.a rfl (T.nil (T.m (T.q (T.r (TL.mv rfl (TL.mv rfl ?_))))))))
 obtain ⟨x5, hx4, hr⟩ := bS hr
 refine TL.gh (.sl (.p p1 .e)) ?_
 refine TL.c rfl rfl rfl (v2hzk g hx4) ?_
 rintro _ _ ⟨w8, w9, w10, w11, rfl, rfl⟩
 refine TL.mv rfl ?_
 refine TL.of (fun f k => WL.extract f rfl rfl rfl rfl rfl k) ?_
 refine TL.of (fun f k => WL.extract f rfl rfl rfl rfl rfl k) ?_
 refine TL.of (fun f k => WL.extract f rfl rfl rfl rfl rfl k) ?_
 refine TL.al rfl (fun q2 => ?_)
 refine TL.sto (c' := [w8, w9, w10, .bool x5.1.Conflict]) rfl rfl rfl (.h a2 inferInstance (.h a3 inferInstance (.h a4 inferInstance (.s rfl .n)))) e0 rfl (bl rfl) (TL.a rfl (TL.a rfl (T.nil (T.m (T.q (T.q ?_))))))
 refine T.ct (fun fr A => ∃ (x6 : Bool), fr = [(5, iv x2), (7, pt q1 0), (10, pt q2 0), (73, .bool x6)] ∧ A = box q1 [w4, w5, w6, .bool x4.1.Conflict] :: box q2 [w8, w9, w10, .bool x5.1.Conflict] :: fz w4 x4.1.Peers :: fz w5 x4.1.Net :: fz w6 x4.1.Chosen :: fz w8 x5.1.Peers :: fz w9 x5.1.Net :: fz w10 x5.1.Chosen :: fz w1 xs1 :: fz w2 xs2 :: Ar ∧ v1vz x2 x4 x5 x6 = some res) ?_ ?_
 {
 refine T.r (TL.mv rfl (TL.bin rfl rfl (TL.mv rfl ?_)))
 refine TL.guardN rfl rfl rfl (fun hg2 => ?_) (fun hg2 => ?_)
 {
 replace hr := iN hr hg2
 refine TL.sk rfl (TL.sk rfl (TL.sk rfl (TL.sk rfl ?_)))
 refine TL.of (fun f k => WL.pick f rfl rfl rfl rfl rfl k) ?_
 refine TL.mv rfl (TL.sk rfl (TL.sk rfl ?_))
 refine TL.of (fun f k => WL.pick f rfl rfl rfl rfl rfl k) ?_
 refine TL.mv rfl (TL.sk rfl (TL.sk rfl (TL.sk rfl ?_)))
 refine TL.of (fun f k => WL.pick f rfl rfl rfl rfl rfl k) ?_
 refine TL.mv rfl (TL.sk rfl (TL.sk rfl (TL.sk rfl (TL.sk rfl (TL.sk rfl ?_)))))
 refine TL.of (fun f k => WL.pick f rfl rfl rfl rfl rfl k) ?_
 refine TL.mv rfl (TL.sk rfl (TL.sk rfl (TL.sk rfl (TL.sk rfl (TL.sk rfl (TL.sk rfl ?_))))))
 refine TL.of (fun f k => WL.pick f rfl rfl rfl rfl rfl k) ?_
 refine T.nil (T.m ?_)
 exact ⟨_, _, (fl4), (.sl (.p p6 (.p p0 (.p p5 (.p p5 (.p p5 (.p p1 (.p p1 (.p p1 (.p p3 (.p p3 (d3)))))))))))), true, rfl, rfl, hr⟩
 }
 {
 replace hr := iP hr hg2
 refine TL.mv rfl (TL.mv rfl ?_)
 obtain ⟨x7, hx5, hr⟩ := bS hr
 refine TL.callL g rfl rfl rfl (.z (v := w7) a10 inferInstance (.z (v := w11) a5 inferInstance .n)) (v20zk g (Ar := []) hx5) (R2 := fun v A => v = .bool x7 ∧ A = []) (fun _ _ h => ⟨[], by obtain ⟨_, rfl⟩ := h; exact Sl.ent d2, .n, h.1, rfl⟩) ?_
 rintro _ _ ⟨rfl, rfl⟩
 simp only [List.cons_append, List.nil_append]
 refine TL.of (fun f k => WL.not f rfl rfl rfl rfl k) ?_
 refine TL.of (fun f k => WL.pick f rfl rfl rfl rfl rfl k) ?_
 refine TL.mv rfl ?_
 refine TL.guard rfl rfl rfl (fun hg3 => ?_) (fun hg3 => ?_)
 {
 replace hr := iBP hr hg3
 refine TL.sk rfl (TL.sk rfl ?_)
 refine TL.of (fun f k => WL.pick f rfl rfl rfl rfl rfl k) ?_
 refine TL.mv rfl (TL.sk rfl (TL.sk rfl (TL.sk rfl ?_)))
 refine TL.of (fun f k => WL.pick f rfl rfl rfl rfl rfl k) ?_
 refine TL.mv rfl (TL.sk rfl (TL.sk rfl (TL.sk rfl (TL.sk rfl (TL.sk rfl ?_)))))
 refine TL.of (fun f k => WL.pick f rfl rfl rfl rfl rfl k) ?_
 refine TL.mv rfl (TL.sk rfl (TL.sk rfl (TL.sk rfl (TL.sk rfl (TL.sk rfl (TL.sk rfl ?_))))))
 refine TL.of (fun f k => WL.pick f rfl rfl rfl rfl rfl k) ?_
 refine T.nil (T.m ?_)
 exact ⟨_, _, (fl4), (.sl (.p p6 (.p p0 (.p p5 (.p p5 (.p p5 (.p p1 (.p p1 (.p p1 (.p p3 (.p p3 (d3)))))))))))), true, rfl, rfl, hr⟩
 }
 {
 replace hr := iBN hr hg3
 refine TL.fa rfl (TL.ld rfl a6 rfl ?_)
 refine TL.of (fun f k => WL.pick f rfl rfl rfl rfl rfl k) ?_
 refine TL.mv rfl ?_
 refine TL.guard rfl rfl rfl (fun hg4 => ?_) (fun hg4 => ?_)
 {
 replace hr := iBP hr hg4
 refine TL.sk rfl (TL.sk rfl (TL.sk rfl ?_))
 refine TL.of (fun f k => WL.pick f rfl rfl rfl rfl rfl k) ?_
 refine TL.mv rfl (TL.sk rfl (TL.sk rfl (TL.sk rfl (TL.sk rfl (TL.sk rfl ?_)))))
 refine TL.of (fun f k => WL.pick f rfl rfl rfl rfl rfl k) ?_
 refine TL.mv rfl (TL.sk rfl (TL.sk rfl (TL.sk rfl (TL.sk rfl (TL.sk rfl (TL.sk rfl ?_))))))
 refine TL.of (fun f k => WL.pick f rfl rfl rfl rfl rfl k) ?_
 refine T.nil (T.m ?_)
 exact ⟨_, _, (fl4), (.sl (.p p6 (.p p0 (.p p5 (.p p5 (.p p5 (.p p1 (.p p1 (.p p1 (.p p3 (.p p3 (d3)))))))))))), true, rfl, rfl, hr⟩
 }
 {
 replace hr := iBN hr hg4
 refine TL.ldN (l' := [w4, w5, w6, .bool x4.1.Conflict]) rfl a6 rfl rfl ?_
 obtain ⟨x8, hx6, hr⟩ := bS hr
 refine TL.gh (.sl (.p p7 (.p p7 (.p p7 .e)))) ?_
 refine TL.c rfl rfl rfl (v2zk g hx6) ?_
 rintro _ _ ⟨rfl, rfl⟩
 refine TL.of (fun f k => WL.not f rfl rfl rfl rfl k) ?_
 refine TL.of (fun f k => WL.pick f rfl rfl rfl rfl rfl k) ?_
 refine TL.mv rfl ?_
 refine TL.guard rfl rfl rfl (fun hg5 => ?_) (fun hg5 => ?_)
 {
 replace hr := iBP hr hg5
 refine TL.sk rfl (TL.sk rfl (TL.sk rfl (TL.sk rfl (TL.sk rfl ?_))))
 refine TL.of (fun f k => WL.pick f rfl rfl rfl rfl rfl k) ?_
 refine TL.mv rfl (TL.sk rfl (TL.sk rfl (TL.sk rfl (TL.sk rfl (TL.sk rfl (TL.sk rfl ?_))))))
 refine TL.of (fun f k => WL.pick f rfl rfl rfl rfl rfl k) ?_
 refine T.nil (T.m ?_)
 exact ⟨_, _, (fl4), (.sl (.p p9 (.p p3 (.p p0 (.p p0 (.p p0 (.p p1 (.p p1 (.p p1 (.p p3 (.p p3 (d3)))))))))))), true, rfl, rfl, hr⟩
 }
 {
 replace hr := iBN hr hg5
 refine TL.fa rfl (TL.ld rfl a9 rfl (TL.len rfl a0 (TL.mv rfl (TL.bin rfl rfl ?_))))
 refine TL.of (fun f k => WL.pick f rfl rfl rfl rfl rfl k) ?_
 refine TL.mv rfl ?_
 refine TL.guardN rfl rfl rfl (fun hg6 => ?_) (fun hg6 => ?_)
 {
 replace hr := iN hr hg6
 refine TL.sk rfl (TL.sk rfl (TL.sk rfl (TL.sk rfl (TL.sk rfl (TL.sk rfl ?_)))))
 refine TL.of (fun f k => WL.pick f rfl rfl rfl rfl rfl k) ?_
 refine T.nil (T.m ?_)
 exact ⟨_, _, (fl4), (.sl (.p p9 (.p p3 (.p p0 (.p p0 (.p p0 (.p p1 (.p p1 (.p p1 (.p p3 (.p p3 (d3)))))))))))), true, rfl, rfl, hr⟩
 }
 {
 replace hr := iP hr hg6
 refine TL.fa rfl (TL.ld rfl a9 rfl (TL.fa rfl (TL.ld rfl a3 rfl ?_)))
 obtain ⟨x9, hx7, hr⟩ := bS hr
 refine TL.gh (.sl (.p p2 (.p p6 .e))) ?_
 refine TL.c rfl rfl rfl (v22zk g hx7) ?_
 rintro _ _ ⟨rfl, rfl⟩
 refine TL.of (fun f k => WL.not f rfl rfl rfl rfl k) ?_
 refine TL.of (fun f k => WL.pick f rfl rfl rfl rfl rfl k) ?_
 refine T.nil (T.m ?_)
 exact ⟨_, _, (fl4), (.sl (.p p9 (.p p4 (.p p2 (.p p2 (.p p0 (.p p2 (.p p2 (.p p0 (.p p3 (.p p3 (d3)))))))))))), (!x9), rfl, rfl, hr⟩
 }
 }
 }
 }
 }
 }
 {
 rintro _ _ ⟨x6, rfl, rfl, hr⟩
 unfold v1vz at hr
 refine T.cond rfl (fun hc2 => ?_) (fun hc2 => ?_)
 {
 replace hr := iBP hr hc2
 refine T.q (T.r (TL.a rfl (T.nil (T.m ?_))))
 refine T.ret ?_
 refine T.thenRet ?_
 obtain rfl := Option.some.inj hr
 exact ⟨.inr rfl, _, _, (Res.tmp rfl Res.nil), (.sl (.p p8 (.p p8 (d8)))), rfl, rfl⟩
 }
 {
 replace hr := iBN hr hc2
 refine T.k (T.m (T.q (T.q (T.r (TL.a rfl (T.nil (T.m (T.b ?_))))))))
 refine T.lp (fun k2 fr A => ∃ (x10 : Int), fr = [(5, iv x2), (7, pt q1 0), (10, pt q2 0), (13, iv x10)] ∧ A = box q1 [w4, w5, w6, .bool x4.1.Conflict] :: box q2 [w8, w9, w10, .bool x5.1.Conflict] :: fz w4 x4.1.Peers :: fz w5 x4.1.Net :: fz w6 x4.1.Chosen :: fz w8 x5.1.Peers :: fz w9 x5.1.Net :: fz w10 x5.1.Chosen :: fz w1 xs1 :: fz w2 xs2 :: Ar ∧ v1xz x2 x4 x5 k2 x10 = some res) BIG ?_ ?_ ?_
 {
 exact ⟨_, _, (fl4), (.refl _), 0, rfl, rfl, hr⟩
 }
 {
 rintro fr A ⟨x10, -, -, hr⟩
 rw [v1xz] at hr
 cases hr
 }
 {
 rintro k2 _ _ ⟨x10, rfl, rfl, hr⟩
 rw [v1xz] at hr
 refine T.q (T.q (T.r (TL.mv rfl (TL.mv rfl (TL.bin rfl rfl (T.nil (T.m ?_)))))))
 refine T.cD rfl (fun hc3 => ?_) (fun hc3 => ?_)
 {
 replace hr := iP hr hc3
 refine T.k (T.m (T.q (T.b (T.q (T.r (TL.fa rfl (TL.ld rfl a0 rfl (TL.mv rfl ?_))))))))
 obtain ⟨x11, hx8, hr⟩ := bS hr
 refine TL.ixu rfl a2 hx8 (fun b1 e1868 hp1 => ?_)
 refine GP.ex a2 hp1 hx8 (fun w12 w13 w14 w15 => ?_)
 refine TL.ldgN rfl a0 rfl ?_
 refine TL.al rfl (fun q3 => ?_)
 refine TL.sto (c' := [.bool x11.Up, iv x11.Term, iv x11.Vote, iv x11.Commit, iv x11.Role, w12, w13, w14, w15]) rfl rfl rfl (.s rfl (.s rfl (.s rfl (.s rfl (.s rfl (.h a2 inferInstance (.h a3 inferInstance (.h a4 inferInstance (.h a5 inferInstance .n))))))))) e0 rfl (bl rfl) (T.nil (T.m (T.q ?_)))
 refine T.ct (fun fr A => ∃ (x12 : Bool), fr = [(5, iv x2), (7, pt q1 0), (10, pt q2 0), (13, iv x10), (126, .bool x12)] ∧ A = box q1 [w4, w5, w6, .bool x4.1.Conflict] :: box q2 [w8, w9, w10, .bool x5.1.Conflict] :: fz w4 x4.1.Peers :: fz w5 x4.1.Net :: fz w6 x4.1.Chosen :: fz w8 x5.1.Peers :: fz w9 x5.1.Net :: fz w10 x5.1.Chosen :: fz w1 xs1 :: fz w2 xs2 :: Ar ∧ v1wz x10 (v1xz x2 x4 x5 k2) x12 = some res) ?_ ?_
 {
 refine T.rD [0, 1, 2, 3, 4, 5, 6, 7, 8, 9, 10, 11, 12, 13, 14, 15, 16, 17, 18, 19, 20, 21, 22, 23, 24, 25, 26, 27, 28, 29, 30, 31, 32, 33, 34, 35, 36, 37, 38, 39, 40, 41, 42] [false, false, false, false, false, false, false, false, false, false, false, false, false, false, false, false, false, false, false, false, false, false, false, false, false, false, false, false, false, false, false, false, false, false, false, false, false, false, false, false, false, false, false] rfl rfl kr kr mP (TL.fa rfl (TL.ld rfl a0 rfl (TL.fa rfl (TL.ld rfl a7 rfl (TL.mv rfl ?_)))))
 obtain ⟨x13, hx9, hr⟩ := bS hr
 refine TL.ixu rfl a11 hx9 (fun b2 e2052 hp2 => ?_)
 refine GP.ex a11 hp2 hx9 (fun w16 w17 w18 w19 => ?_)
 refine TL.fa rfl (TL.ldg (m := 1) rfl a0 rfl rfl (TL.bin rfl rfl (TL.mv rfl ?_)))
 refine TL.guardN rfl rfl rfl (fun hg7 => ?_) (fun hg7 => ?_)
 {
 replace hr := iN hr hg7
 refine TL.sk rfl (TL.sk rfl (TL.sk rfl (TL.sk rfl (TL.sk rfl (TL.sk rfl (TL.sk rfl (TL.sk rfl (TL.sk rfl ?_))))))))
 refine TL.of (fun f k => WL.pick f rfl rfl rfl rfl rfl k) ?_
 refine TL.mv rfl (TL.sk rfl (TL.sk rfl (TL.sk rfl (TL.sk rfl (TL.sk rfl (TL.sk rfl (TL.sk rfl (TL.sk rfl (TL.sk rfl ?_)))))))))
 refine TL.of (fun f k => WL.pick f rfl rfl rfl rfl rfl k) ?_
 refine TL.mv rfl (TL.sk rfl (TL.sk rfl (TL.sk rfl (TL.sk rfl (TL.sk rfl (TL.sk rfl (TL.sk rfl (TL.sk rfl (TL.sk rfl ?_)))))))))
 refine TL.sk rfl ?_
 refine TL.of (fun f k => WL.pick f rfl rfl rfl rfl rfl k) ?_
 refine T.nil (T.m ?_)
 exact ⟨_, _, (fl5), (.sl (.p p11 (.p p11 (.p p11 (.p p11 (.p p11 (.p p11 (.p p11 (.p p11 (.p p11 (.p p11 (d11)))))))))))), true, rfl, rfl, hr⟩
 }
 {
 replace hr := iP hr hg7
 refine TL.fa rfl (TL.ld rfl a5 rfl (TL.fa rfl (TL.ld rfl a12 rfl (TL.mv rfl ?_))))
 obtain ⟨x14, hx10, hr⟩ := bS hr
 refine TL.ixu rfl a16 hx10 (fun b3 e2080 hp3 => ?_)
 refine GP.ex a16 hp3 hx10 (fun w20 w21 w22 w23 => ?_)
 refine TL.fa rfl (TL.ldg (m := 2) rfl a0 rfl rfl (TL.bin rfl rfl ?_))
 refine TL.of (fun f k => WL.pick f rfl rfl rfl rfl rfl k) ?_
 refine TL.mv rfl ?_
 refine TL.guardN rfl rfl rfl (fun hg8 => ?_) (fun hg8 => ?_)
 {
 replace hr := iN hr hg8
 refine TL.sk rfl (TL.sk rfl (TL.sk rfl (TL.sk rfl (TL.sk rfl (TL.sk rfl (TL.sk rfl (TL.sk rfl (TL.sk rfl ?_))))))))
 refine TL.of (fun f k => WL.pick f rfl rfl rfl rfl rfl k) ?_
 refine TL.mv rfl (TL.sk rfl (TL.sk rfl (TL.sk rfl (TL.sk rfl (TL.sk rfl (TL.sk rfl (TL.sk rfl (TL.sk rfl (TL.sk rfl ?_)))))))))
 refine TL.sk rfl ?_
 refine TL.of (fun f k => WL.pick f rfl rfl rfl rfl rfl k) ?_
 refine T.nil (T.m ?_)
 exact ⟨_, _, (fl5), (.sl (.p p16 (.p p16 (.p p16 (.p p16 (.p p16 (.p p16 (.p p16 (.p p16 (.p p16 (.p p16 (d16)))))))))))), true, rfl, rfl, hr⟩
 }
 {
 replace hr := iP hr hg8
 refine TL.fa rfl (TL.ld rfl a10 rfl (TL.fa rfl (TL.ld rfl a17 rfl (TL.mv rfl ?_))))
 obtain ⟨x15, hx11, hr⟩ := bS hr
 refine TL.ixu rfl a21 hx11 (fun b4 e2108 hp4 => ?_)
 refine GP.ex a21 hp4 hx11 (fun w24 w25 w26 w27 => ?_)
 refine TL.fa rfl (TL.ldg (m := 3) rfl a0 rfl rfl (TL.bin rfl rfl ?_))
 refine TL.of (fun f k => WL.pick f rfl rfl rfl rfl rfl k) ?_
 refine TL.mv rfl ?_
 refine TL.guardN rfl rfl rfl (fun hg9 => ?_) (fun hg9 => ?_)
 {
 replace hr := iN hr hg9
 refine TL.sk rfl (TL.sk rfl (TL.sk rfl (TL.sk rfl (TL.sk rfl (TL.sk rfl (TL.sk rfl (TL.sk rfl (TL.sk rfl (TL.sk rfl ?_)))))))))
 refine TL.of (fun f k => WL.pick f rfl rfl rfl rfl rfl k) ?_
 refine T.nil (T.m ?_)
 exact ⟨_, _, (fl5), (.sl (.p p21 (.p p21 (.p p21 (.p p21 (.p p21 (.p p21 (.p p21 (.p p21 (.p p21 (.p p21 (d21)))))))))))), true, rfl, rfl, hr⟩
 }
 {
 replace hr := iP hr hg9
 refine TL.fa rfl (TL.ld rfl a15 rfl (TL.fa rfl (TL.ld rfl a22 rfl (TL.mv rfl ?_))))
 obtain ⟨x16, hx12, hr⟩ := bS hr
 refine TL.ixu rfl a26 hx12 (fun b5 e2136 hp5 => ?_)
 refine GP.ex a26 hp5 hx12 (fun w28 w29 w30 w31 => ?_)
 refine TL.fa rfl (TL.ldg (m := 5) rfl a0 rfl rfl ?_)
 obtain ⟨x17, hx13, hr⟩ := bS hr
 refine TL.callR g rfl rfl rfl (Pz.out (.c a22 Pers.rC (.c a1 Pers.rC .n))) (v22zk g (Ar := []) hx13) ?_
 rintro _ _ ⟨rfl, rfl⟩
 simp only [List.cons_append, List.nil_append]
 refine TL.of (fun f k => WL.not f rfl rfl rfl rfl k) ?_
 refine TL.of (fun f k => WL.pick f rfl rfl rfl rfl rfl k) ?_
 refine T.nil (T.m ?_)
 exact ⟨_, _, (fl5), (.sl (.p p28 (.p p28 (.p p28 (.p p28 (.p p28 (.p p28 (.p p28 (.p p28 (.p p28 (.p p28 (d28)))))))))))), (!x17), rfl, rfl, hr⟩
 }
 }
 }
 }
 {
 rintro _ _ ⟨x12, rfl, rfl, hr⟩
 unfold v1wz at hr
 refine T.cond rfl (fun hc4 => ?_) (fun hc4 => ?_)
 {
 replace hr := iBP hr hc4
 refine T.q (T.r (TL.a rfl (T.nil (T.m ?_))))
 refine T.ret ?_
 refine T.blkRet ?_
 refine T.thenRet ?_
 refine T.thenRet ?_
 refine T.blkRet ?_
 refine T.thenRet ?_
 obtain rfl := Option.some.inj hr
 exact ⟨.inr rfl, _, _, (Res.tmp rfl Res.nil), (.sl (.p p8 (.p p8 (d8)))), rfl, rfl⟩
 }
 {
 replace hr := iBN hr hc4
 refine T.k (T.bN (T.m (T.r (TL.mv rfl ?_))))
 obtain ⟨hc5, hr⟩ := cS hr
 refine TL.ad rfl hc5 (TL.a rfl (T.nil (T.m ?_)))
 exact ⟨_, _, (fl4), (.refl _), (x10 + 1), rfl, rfl, hr⟩
 }
 }
 }
 {
 replace hr := iN hr hc3
 refine T.exit ?_
 refine T.tE (T.tE (T.bH (T.m (T.q (T.r (TL.a rfl (T.nil (T.m ?_))))))))
 refine T.ret ?_
 obtain rfl := Option.some.inj hr
 exact ⟨.inr rfl, _, _, (Res.tmp rfl Res.nil), (.sl (.p p8 (.p p8 (d8)))), rfl, rfl⟩
 }
 }
 }
 }
 }
 }
end Go.Proofs.YtlpcdcpcfeaecaaAb
end
section
namespace Go.Proofs.YtlpcdcpcfeaecaaAb
open Go
end Go.Proofs.YtlpcdcpcfeaecaaAb
end
section
namespace Go.Proofs.YtlpcdcpcfeaecaaAb
open Go
theorem BIG_eq : BIG = 18446744073709551616 := rfl
theorem slc_tail {α : Type} {xs : List α} {l : Int} (h0 : 0 ≤ l) (h1 : l ≤ xs.length) : slc xs l xs.length = some (xs.drop l.toNat) := by
  rw [slc_pos h0 h1 (Int.le_refl _), Int.toNat_natCast, List.take_length]
theorem slc_head {α : Type} {xs : List α} {h : Int} (h0 : 0 ≤ h) (h1 : h ≤ xs.length) : slc xs 0 h = some (xs.take h.toNat) := by
  rw [slc_pos (Int.le_refl _) h0 h1]; rfl
theorem xN {α : Type} {xs : List α} {j : Nat} (hj : j < xs.length) : idx xs (j : Int) = some xs[j] := by
  rw [idx_pos (by omega) (by omega)]; rfl
@[simp] theorem obind_some {α β : Type} (a : α) (f : α → Option β) : (some a).bind f = f a := Eq.trans rfl rfl
end Go.Proofs.YtlpcdcpcfeaecaaAb
end
section
namespace Go.Proofs.YtlpcdcpcfeaecaaAb
open Go
def DBr (r : GR) : Prop := r.Data.length ≤ 1000
def DBl (l : List GR) : Prop := ∀ r ∈ l, DBr r
theorem clone_b {xs : List UInt8} (h : xs.length ≤ 1000000000) : v26z xs = some xs := by
  unfold v26z; rw [cP (by omega)]
theorem clone_r {xs : List GR} (h : xs.length ≤ 1000000000) : v27z xs = some xs := by
  unfold v27z; rw [cP (by omega)]
theorem clone_bool {xs : List Bool} (h : xs.length ≤ 1000000000) : v25z xs = some xs := by
  unfold v25z; rw [cP (by omega)]
theorem clone_int {xs : List Int} (h : xs.length ≤ 1000000000) : v28z xs = some xs := by
  unfold v28z; rw [cP (by omega)]
theorem copy_loop {α : Type} {xs : List α} (hl : xs.length ≤ 1000000000) {L : Nat → List α → Int → Option (List α)} {P : α → Prop} (hP : ∀ x ∈ xs, P x)
    (hL : ∀ k acc (i : Nat), (h : i < xs.length) → P xs[i] → acc.length ≤ 1000000000 → L (k + 1) acc (i : Int) = L k (acc ++ [xs[i]]) ((i + 1 : Nat) : Int))
    (hE : ∀ k acc (i : Nat), xs.length ≤ i → L (k + 1) acc (i : Int) = some acc) : L BIG [] 0 = some xs := by
  have key : ∀ (m k i : Nat) (acc : List α), xs.length - i = m → m + 1 ≤ k → i ≤ xs.length → acc = xs.take i → L k acc (i : Int) = some xs := by
    intro m
    induction m with
    | zero =>
      intro k i acc hm hk hi ha
      obtain ⟨k, rfl⟩ : ∃ j, k = j + 1 := ⟨k - 1, by omega⟩
      rw [hE k acc i (by omega), ha, List.take_of_length_le (by omega)]
    | succ m ih =>
      intro k i acc hm hk hi ha
      obtain ⟨k, rfl⟩ : ∃ j, k = j + 1 := ⟨k - 1, by omega⟩
      have hlt : i < xs.length := by omega
      rw [hL k acc i hlt (hP _ (List.getElem_mem hlt)) (by rw [ha, List.length_take]; omega)]
      exact ih k (i + 1) _ (by omega) (by omega) (by omega) (by rw [ha, List.take_succ_eq_append_getElem hlt])
  exact key xs.length BIG 0 [] (by omega) (by rw [BIG_eq]; omega) (by omega) (by simp)
theorem copyRecs_m {xs : List GR} (hl : xs.length ≤ 1000000000) (hd : DBl xs) : v1gz xs = some xs := by
  unfold v1gz
  refine copy_loop (P := DBr) hl hd (fun k acc i h hr ha => ?_) (fun k acc i h => ?_)
  · unfold DBr at hr
    rw [v1hz, if_pos (by omega), xN h, obind_some, clone_b (by omega), obind_some, cP (by simp; omega), cP (by omega)]
    have e : ((i : Int) + 1) = ((i + 1 : Nat) : Int) := by omega
    rw [e]
  · rw [v1hz, if_neg (by omega)]
theorem copyRecs_o {xs : List GR} (hl : xs.length ≤ 1000000000) (hd : DBl xs) : v1iz xs = some xs := by
  unfold v1iz
  refine copy_loop (P := DBr) hl hd (fun k acc i h hr ha => ?_) (fun k acc i h => ?_)
  · unfold DBr at hr
    rw [v1jz, if_pos (by omega), xN h, obind_some, clone_b (by omega), obind_some, cP (by simp; omega), cP (by omega)]
    have e : ((i : Int) + 1) = ((i + 1 : Nat) : Int) := by omega
    rw [e]
  · rw [v1jz, if_neg (by omega)]
theorem copied_m {m : GM} (hl : m.Log.length ≤ 1000000000) (hd : DBl m.Log) : v0z m = some m := by
  unfold v0z; rw [copyRecs_m hl hd]; rfl
theorem copied_o {m : GM} (hl : m.Log.length ≤ 1000000000) (hd : DBl m.Log) : v1z m = some m := by
  unfold v1z; rw [copyRecs_o hl hd]; rfl
theorem equal_b {xs ys : List UInt8} (h : xs.length ≤ 1000000000) : v2dz xs ys = some (decide (xs = ys)) := by
  unfold v2dz
  by_cases hl : xs.length = ys.length
  · rw [if_pos (by omega)]
    have key : ∀ (m k i : Nat), xs.length - i = m → m + 1 ≤ k → i ≤ xs.length → xs.take i = ys.take i → v2ez xs ys k (i : Int) = some (decide (xs = ys)) := by
      intro m
      induction m with
      | zero =>
        intro k i hm hk hi ht
        obtain ⟨k, rfl⟩ : ∃ j, k = j + 1 := ⟨k - 1, by omega⟩
        rw [v2ez, if_neg (by omega)]
        rw [List.take_of_length_le (by omega), List.take_of_length_le (by omega)] at ht
        rw [decide_eq_true ht]
      | succ m ih =>
        intro k i hm hk hi ht
        obtain ⟨k, rfl⟩ : ∃ j, k = j + 1 := ⟨k - 1, by omega⟩
        have h1 : i < xs.length := by omega
        have h2 : i < ys.length := by omega
        have e : ((i : Int) + 1) = ((i + 1 : Nat) : Int) := by omega
        rw [v2ez, if_pos (by omega), xN h1, obind_some, xN h2, obind_some]
        by_cases hx : xs[i] = ys[i]
        · rw [if_pos (by rw [hx]), cP (by omega), e]
          exact ih k (i + 1) (by omega) (by omega) (by omega) (by rw [List.take_succ_eq_append_getElem h1, List.take_succ_eq_append_getElem h2, ht, hx])
        · rw [if_neg (fun hh => hx (UInt8.toNat_inj.1 (by omega)))]
          rw [decide_eq_false (fun hh => hx (by subst hh; rfl))]
    exact key xs.length BIG 0 (by omega) (by rw [BIG_eq]; omega) (by omega) (by simp)
  · rw [if_neg (by omega), decide_eq_false (fun hh => hl (by rw [hh]))]
def sameR (a b : GR) : Bool := decide (a.Term = b.Term) && (decide (a.Index = b.Index) && decide (a.Data = b.Data))
theorem sameRec_m {a b : GR} (h : DBr a) : v1qz a b = some (sameR a b) := by
  unfold v1qz sameR
  unfold DBr at h
  by_cases h1 : a.Term = b.Term
  · rw [if_pos h1, decide_eq_true h1]
    by_cases h2 : a.Index = b.Index
    · rw [if_pos h2, decide_eq_true h2, equal_b (by omega)]; rfl
    · rw [if_neg h2, decide_eq_false h2]; rfl
  · rw [if_neg h1, decide_eq_false h1]; rfl
theorem sameR_self (a : GR) : sameR a a = true := by unfold sameR; simp
def chooseL : List GR → Nat → List GR → Bool → List GR × Bool
  | [], _, ch, cf => (ch, cf)
  | r :: rs, i, ch, cf => if i = ch.length then chooseL rs (i + 1) (ch ++ [r]) cf else chooseL rs (i + 1) ch (cf || !((ch[i]?.map (sameR r)).getD false))
theorem choose_L {c : GC} {xs : List GR} (hx : xs.length ≤ 1000) (hd : DBl xs) : ∀ (m k i : Nat) (ch : List GR) (cf : Bool), xs.length - i = m → m + 1 ≤ k → i ≤ xs.length → i ≤ ch.length → ch.length ≤ 100000 + i →
    vgz xs c k (i : Int) ch cf = some { c with Chosen := (chooseL (xs.drop i) i ch cf).1, Conflict := (chooseL (xs.drop i) i ch cf).2 } := by
  intro m
  induction m with
  | zero =>
    intro k i ch cf hm hk hi hc hl
    obtain ⟨k, rfl⟩ : ∃ j, k = j + 1 := ⟨k - 1, by omega⟩
    rw [vgz, if_neg (by omega), List.drop_of_length_le (by omega)]
    rfl
  | succ m ih =>
    intro k i ch cf hm hk hi hc hl
    obtain ⟨k, rfl⟩ : ∃ j, k = j + 1 := ⟨k - 1, by omega⟩
    have hlt : i < xs.length := by omega
    have e : ((i : Int) + 1) = ((i + 1 : Nat) : Int) := by omega
    rw [vgz, if_pos (by omega), xN hlt, obind_some, List.drop_eq_getElem_cons hlt]
    unfold chooseL vfz
    by_cases h1 : i = ch.length
    · rw [if_pos (by omega), if_pos h1, cP (by simp; omega), cP (by omega), e]
      exact ih k (i + 1) _ _ (by omega) (by omega) (by omega) (by simp; omega) (by simp; omega)
    · have h2 : i < ch.length := by omega
      rw [if_neg (by omega), if_neg h1, xN h2, obind_some, sameRec_m (hd _ (List.getElem_mem hlt)), obind_some, List.getElem?_eq_getElem h2]
      simp only [Option.map_some, Option.getD_some]
      cases hs : sameR xs[i] ch[i]
      · rw [if_pos (by rfl), cP (by omega), e, ih k (i + 1) _ _ (by omega) (by omega) (by omega) (by omega) (by omega)]
        simp
      · rw [if_neg (by simp), cP (by omega), e, ih k (i + 1) _ _ (by omega) (by omega) (by omega) (by omega) (by omega)]
        simp
theorem within_l (x l h : Int) : v1sz x l h = some (decide (l ≤ x ∧ x ≤ h)) := by
  unfold v1sz
  by_cases h1 : l ≤ x
  · rw [if_pos h1]; simp [h1]
  · rw [if_neg h1]; simp [h1]
theorem most_m {n : Nat} (h : n ≤ 1000000) : v1nz (n : Int) = some ((n : Int) / 2 + 1) := by
  unfold v1nz; rw [cP (by omega), cP (by omega)]
def termAt (l : List GR) (i : Int) : Int := if i = 0 then 0 else ((l[(i - 1).toNat]?).map (·.Term)).getD 0
theorem term_m {p : GP} {i : Int} (h0 : 0 ≤ i) (h1 : i ≤ p.Log.length) (hl : p.Log.length ≤ 1000000) : v1fz p i = some (termAt p.Log i) := by
  unfold v1fz termAt
  by_cases h : i = 0
  · rw [if_pos h, if_pos h]
  · rw [if_neg h, if_neg h, cP (by omega), idx_pos (by omega) (by omega), obind_some, List.getElem?_eq_getElem (by omega)]
    rfl
theorem last_m {p : GP} (hl : p.Log.length ≤ 1000000) : v1ez p = some ((p.Log.length : Int), termAt p.Log p.Log.length) := by
  unfold v1ez
  rw [term_m (by omega) (Int.le_refl _) hl]; rfl
theorem repeat_m {x : Int} {n : Nat} (h1 : 1 ≤ n) (h2 : n ≤ 1000) : v2fz [x] (n : Int) = some (List.replicate n x) := by
  unfold v2fz
  rw [cP ⟨rfl, by omega, by omega⟩]; rfl
end Go.Proofs.YtlpcdcpcfeaecaaAb
end
section
namespace Go.Proofs.YtlpcdcpcfeaecaaAb
open Go
def mSend (c : GC) (m : GM) : GC := if c.Net.length < 200 then { c with Net := c.Net ++ [m] } else c
theorem send_m {c : GC} {m : GM} (hl : m.Log.length ≤ 1000000000) (hd : DBl m.Log) : vyz c m = some (mSend c m) := by
  unfold vyz mSend
  by_cases h : c.Net.length < 200
  · rw [if_pos (by omega), if_pos h]
    obtain ⟨k, f, t, te, a, b, cc, ok, l⟩ := m
    rw [copied_m hl hd, obind_some, cP (by simp; omega)]
  · rw [if_neg (by omega), if_neg h]
theorem mSend_peers {c : GC} {m : GM} : (mSend c m).Peers = c.Peers := by unfold mSend; split <;> rfl
theorem mSend_chosen {c : GC} {m : GM} : (mSend c m).Chosen = c.Chosen := by unfold mSend; split <;> rfl
def mChoose (c : GC) (p : GP) : GC :=
  { c with Chosen := (chooseL (p.Log.take p.Commit.toNat) 0 c.Chosen c.Conflict).1, Conflict := (chooseL (p.Log.take p.Commit.toNat) 0 c.Chosen c.Conflict).2 }
theorem mChoose_peers {c : GC} {p : GP} : (mChoose c p).Peers = c.Peers := rfl
theorem xS {α : Type} {xs : List α} {i : Nat} {x : α} (h : xs[i]? = some x) : idx xs (i : Int) = some x := by
  obtain ⟨h1, h2⟩ := List.getElem?_eq_some_iff.1 h
  rw [xN h1, h2]
theorem DBl.take {l : List GR} (h : DBl l) (n : Nat) : DBl (l.take n) := fun r hr => h r (List.mem_of_mem_take hr)
theorem DBl.drop {l : List GR} (h : DBl l) (n : Nat) : DBl (l.drop n) := fun r hr => h r (List.mem_of_mem_drop hr)
theorem choose_m {c : GC} {i : Nat} {p : GP} (hp : c.Peers[i]? = some p) (h0 : 0 ≤ p.Commit) (h1 : p.Commit ≤ p.Log.length) (hl : p.Log.length ≤ 1000) (hd : DBl p.Log) (hc : c.Chosen.length ≤ 100000) :
    vez c (i : Int) = some (mChoose c p) := by
  unfold vez
  rw [xS hp, obind_some, slc_head h0 h1, obind_some]
  have := choose_L (c := c) (xs := p.Log.take p.Commit.toNat) (by rw [List.length_take]; omega) (hd.take _) _ BIG 0 c.Chosen c.Conflict rfl (by rw [BIG_eq, List.length_take]; omega) (by omega) (by omega) (by omega)
  rw [List.drop_zero] at this
  exact this
def cntGe (n : Int) : List Int → Nat
  | [] => 0
  | x :: l => if n ≤ x then cntGe n l + 1 else cntGe n l
def mMost (c : GC) : Int := (c.Peers.length : Int) / 2 + 1
def mCidx (p : GP) (q : Int) : Nat → Option Nat
  | 0 => none
  | n + 1 => if p.Commit < ((n + 1 : Nat) : Int) then (if q ≤ (cntGe ((n + 1 : Nat) : Int) p.Match : Int) ∧ termAt p.Log ((n + 1 : Nat) : Int) = p.Term then some (n + 1) else mCidx p q n) else none
theorem mCidx_some {p : GP} {q : Int} {a : Nat} : ∀ {n : Nat}, mCidx p q n = some a → p.Commit < a ∧ a ≤ n ∧ termAt p.Log a = p.Term ∧ q ≤ (cntGe a p.Match : Int)
  | 0, h => by cases h
  | n + 1, h => by
    unfold mCidx at h
    split at h
    · next h1 =>
      split at h
      · next h2 => cases h; exact ⟨h1, Nat.le_refl _, h2.2, h2.1⟩
      · obtain ⟨x1, x2, x3⟩ := mCidx_some h; exact ⟨x1, by omega, x3⟩
    · cases h
def mCommitP (q : Int) (p : GP) : GP := match mCidx p q p.Log.length with | some a => { p with Commit := (a : Int) } | none => p
def mCommit (c : GC) (i : Nat) (p : GP) : GC := mChoose { c with Peers := c.Peers.set i (mCommitP (mMost c) p) } (mCommitP (mMost c) p)
theorem commit_L2 {p : GP} {n : Int} {c : GC} {i : Int} {rc1 : Int → Option GC} (hM : p.Match.length ≤ 1000) : ∀ (m k j t : Nat), p.Match.length - j = m → m + 1 ≤ k → j ≤ p.Match.length → t ≤ j →
    vmz p n c i rc1 k (t : Int) (j : Int) = (v1nz (c.Peers.length : Int)).bind fun q =>
      if q ≤ ((t + cntGe n (p.Match.drop j) : Nat) : Int) then (v1fz p n).bind fun x => vkz c i p n rc1 (decide (x = p.Term)) else vkz c i p n rc1 false := by
  intro m
  induction m with
  | zero =>
    intro k j t hm hk hj ht
    obtain ⟨k, rfl⟩ : ∃ j, k = j + 1 := ⟨k - 1, by omega⟩
    rw [vmz, if_neg (by omega), List.drop_of_length_le (by omega)]
    rfl
  | succ m ih =>
    intro k j t hm hk hj ht
    obtain ⟨k, rfl⟩ : ∃ j, k = j + 1 := ⟨k - 1, by omega⟩
    have hlt : j < p.Match.length := by omega
    have e : ((j : Int) + 1) = ((j + 1 : Nat) : Int) := by omega
    have e2 : ((t : Int) + 1) = ((t + 1 : Nat) : Int) := by omega
    rw [vmz, if_pos (by omega), xN hlt, obind_some, List.drop_eq_getElem_cons hlt]
    unfold vjz
    by_cases hx : n ≤ p.Match[j]
    · rw [if_pos hx, cP (by omega), cP (by omega), e, e2, ih k (j + 1) (t + 1) (by omega) (by omega) (by omega) (by omega)]
      unfold cntGe
      rw [if_pos hx, show t + (cntGe n (p.Match.drop (j + 1)) + 1) = t + 1 + cntGe n (p.Match.drop (j + 1)) by omega]
      cases p.Match.drop (j + 1) <;> rfl
    · rw [if_neg hx, cP (by omega), e, ih k (j + 1) t (by omega) (by omega) (by omega) (by omega)]
      conv => rhs; unfold cntGe
      rw [if_neg hx]
theorem commit_L1 {p : GP} {c : GC} {i : Int} (hM : p.Match.length ≤ 1000) (hl : p.Log.length ≤ 1000) (hn : c.Peers.length ≤ 1000) (h0 : 0 ≤ p.Commit) : ∀ (n k : Nat), n + 1 ≤ k → n ≤ p.Log.length →
    vlz p c i k (n : Int) = viz c i (match mCidx p (mMost c) n with | some a => setI c.Peers i { p with Commit := (a : Int) } | none => c.Peers) := by
  intro n
  induction n with
  | zero =>
    intro k hk hj
    obtain ⟨k, rfl⟩ : ∃ j, k = j + 1 := ⟨k - 1, by omega⟩
    rw [vlz, if_neg (by omega)]; rfl
  | succ n ih =>
    intro k hk hj
    obtain ⟨k, rfl⟩ : ∃ j, k = j + 1 := ⟨k - 1, by omega⟩
    rw [vlz]
    unfold mCidx
    by_cases h1 : p.Commit < ((n + 1 : Nat) : Int)
    · rw [if_pos h1, if_pos h1]
      have := commit_L2 (p := p) (n := ((n + 1 : Nat) : Int)) (c := c) (i := i) (rc1 := vlz p c i k) hM _ BIG 0 0 rfl (by rw [BIG_eq]; omega) (by omega) (by omega)
      rw [List.drop_zero, Nat.zero_add] at this
      refine this.trans ?_
      rw [most_m (by omega), obind_some, show (c.Peers.length : Int) / 2 + 1 = mMost c from rfl]
      have e : (((n + 1 : Nat) : Int) - 1) = (n : Int) := by omega
      by_cases h2 : mMost c ≤ (cntGe ((n + 1 : Nat) : Int) p.Match : Int)
      · rw [if_pos h2, term_m (by omega) (by omega) (by omega), obind_some]
        unfold vkz
        by_cases h3 : termAt p.Log ((n + 1 : Nat) : Int) = p.Term
        · rw [if_pos (by rw [decide_eq_true h3]), if_pos ⟨h2, h3⟩]
        · rw [if_neg (by rw [decide_eq_false h3]; decide), if_neg (fun h => h3 h.2), cP (by omega), e, ih k (by omega) (by omega)]
      · rw [if_neg h2, if_neg (fun h => h2 h.1)]
        unfold vkz
        rw [if_neg (by decide), cP (by omega), e, ih k (by omega) (by omega)]
    · rw [if_neg h1, if_neg h1]
theorem set_self {α : Type} {xs : List α} {i : Nat} {x : α} (h : xs[i]? = some x) : xs.set i x = xs := by
  obtain ⟨h1, h2⟩ := List.getElem?_eq_some_iff.1 h
  rw [← h2, List.set_getElem_self]
theorem gS {α : Type} {xs : List α} {i : Nat} {x y : α} (h : xs[i]? = some x) : (xs.set i y)[i]? = some y := by
  obtain ⟨h1, h2⟩ := List.getElem?_eq_some_iff.1 h
  rw [List.getElem?_set_self h1]
theorem mCommitP_log {q : Int} {p : GP} : (mCommitP q p).Log = p.Log := by unfold mCommitP; split <;> rfl
theorem mCommitP_next {q : Int} {p : GP} : (mCommitP q p).Next = p.Next := by unfold mCommitP; split <;> rfl
theorem mCommitP_match {q : Int} {p : GP} : (mCommitP q p).Match = p.Match := by unfold mCommitP; split <;> rfl
theorem mCommitP_ge {q : Int} {p : GP} (h0 : 0 ≤ p.Commit) (h1 : p.Commit ≤ p.Log.length) : p.Commit ≤ (mCommitP q p).Commit ∧ (mCommitP q p).Commit ≤ p.Log.length := by
  unfold mCommitP
  split
  · next a h => have := mCidx_some h; exact ⟨by show p.Commit ≤ (a : Int); omega, by show (a : Int) ≤ _; omega⟩
  · exact ⟨Int.le_refl _, h1⟩
theorem commit_m {c : GC} {i : Nat} {p : GP} (hp : c.Peers[i]? = some p) (h0 : 0 ≤ p.Commit) (h1 : p.Commit ≤ p.Log.length) (hl : p.Log.length ≤ 1000) (hM : p.Match.length ≤ 1000) (hn : c.Peers.length ≤ 1000) (hd : DBl p.Log) (hc : c.Chosen.length ≤ 100000) :
    vhz c (i : Int) = some (mCommit c i p) := by
  unfold vhz
  rw [xS hp, obind_some, commit_L1 hM hl hn h0 _ BIG (by rw [BIG_eq]; omega) (Nat.le_refl _)]
  have e : (match mCidx p (mMost c) p.Log.length with | some a => setI c.Peers (i : Int) { p with Commit := (a : Int) } | none => c.Peers) = c.Peers.set i (mCommitP (mMost c) p) := by
    unfold mCommitP
    split
    · rfl
    · rw [set_self hp]
  rw [e]
  unfold viz
  have hb := mCommitP_ge (q := mMost c) h0 h1
  rw [choose_m (c := { c with Peers := c.Peers.set i (mCommitP (mMost c) p) }) (p := mCommitP (mMost c) p) (gS hp) (by omega) (by rw [mCommitP_log]; omega) (by rw [mCommitP_log]; omega) (by rw [mCommitP_log]; exact hd) hc, obind_some]
  rfl
def mRecords (c : GC) (i : Nat) (p : GP) (t : Nat) : GC :=
  mSend c { Kind := 3, From := (i : Int), To := (t : Int), Term := p.Term, A := (p.Next[t]?.getD 1) - 1, B := termAt p.Log ((p.Next[t]?.getD 1) - 1), C := p.Commit, Ok := false, Log := p.Log.drop ((p.Next[t]?.getD 1) - 1).toNat }
theorem records_m {c : GC} {i t : Nat} {p : GP} {nx : Int} (hp : c.Peers[i]? = some p) (ht : p.Next[t]? = some nx) (h1 : 1 ≤ nx) (h2 : nx ≤ p.Log.length + 1) (hl : p.Log.length ≤ 1000000) (hd : DBl p.Log) :
    vxz c (i : Int) (t : Int) = some (mRecords c i p t) := by
  unfold vxz mRecords mSend
  rw [xS hp, obind_some, xS ht, obind_some, cP (by omega), term_m (by omega) (by omega) hl, obind_some, slc_tail (by omega) (by omega), obind_some, ht, Option.getD_some]
  by_cases h : c.Net.length < 200
  · rw [if_pos (by omega), if_pos h, copied_o (by simp; omega) (hd.drop _), obind_some, cP (by simp; omega)]
  · rw [if_neg (by omega), if_neg h]
theorem mRecords_peers {c : GC} {i t : Nat} {p : GP} : (mRecords c i p t).Peers = c.Peers := mSend_peers
def mFrom (g : GC → Nat → GC) (i : Nat) : Nat → Nat → GC → GC
  | 0, _, d => d
  | m + 1, j, d => mFrom g i m (j + 1) (if j = i then d else g d j)
theorem mFrom_inv {g : GC → Nat → GC} {i : Nat} {I : GC → Prop} (hg : ∀ d j, I d → I (g d j)) : ∀ (m j : Nat) (d : GC), I d → I (mFrom g i m j d)
  | 0, _, d, h => h
  | m + 1, j, d, h => by
    unfold mFrom
    refine mFrom_inv hg m (j + 1) _ ?_
    split
    · exact h
    · exact hg _ _ h
theorem from_loop {n i : Nat} {F : Nat → Int → List GP → List GM → List GR → Bool → Option GC} {g : GC → Nat → GC} {fin : GC → Option GC} {I : GC → Prop} (hn : n ≤ 1000)
    (hI : ∀ d j, I d → I (g d j))
    (hs : ∀ k j d, I d → j < n → j = i → F (k + 1) (j : Int) d.Peers d.Net d.Chosen d.Conflict = F k ((j + 1 : Nat) : Int) d.Peers d.Net d.Chosen d.Conflict)
    (hg : ∀ k j d, I d → j < n → j ≠ i → F (k + 1) (j : Int) d.Peers d.Net d.Chosen d.Conflict = F k ((j + 1 : Nat) : Int) (g d j).Peers (g d j).Net (g d j).Chosen (g d j).Conflict)
    (he : ∀ k j d, I d → n ≤ j → F (k + 1) (j : Int) d.Peers d.Net d.Chosen d.Conflict = fin d) (d : GC) (hd : I d) :
    F BIG 0 d.Peers d.Net d.Chosen d.Conflict = fin (mFrom g i n 0 d) := by
  have key : ∀ (m k j : Nat) (d : GC), n - j = m → m + 1 ≤ k → I d → F k (j : Int) d.Peers d.Net d.Chosen d.Conflict = fin (mFrom g i m j d) := by
    intro m
    induction m with
    | zero =>
      intro k j d hm hk hd
      obtain ⟨k, rfl⟩ : ∃ j, k = j + 1 := ⟨k - 1, by omega⟩
      rw [he k j d hd (by omega)]; rfl
    | succ m ih =>
      intro k j d hm hk hd
      obtain ⟨k, rfl⟩ : ∃ j, k = j + 1 := ⟨k - 1, by omega⟩
      unfold mFrom
      by_cases hji : j = i
      · rw [hs k j d hd (by omega) hji, if_pos hji]
        exact ih k (j + 1) d (by omega) (by omega) hd
      · rw [hg k j d hd (by omega) hji, if_neg hji]
        exact ih k (j + 1) _ (by omega) (by omega) (hI _ _ hd)
  exact key n BIG 0 d (by omega) (by rw [BIG_eq]; omega) hd
def NextOk (n : Nat) (p : GP) : Prop := p.Next.length = n ∧ ∀ x ∈ p.Next, 1 ≤ x ∧ x ≤ (p.Log.length : Int) + 1
theorem NextOk.get {n : Nat} {p : GP} (h : NextOk n p) {t : Nat} (ht : t < n) : ∃ nx, p.Next[t]? = some nx ∧ 1 ≤ nx ∧ nx ≤ (p.Log.length : Int) + 1 :=
  ⟨p.Next[t]'(by rw [h.1]; exact ht), List.getElem?_eq_getElem _, h.2 _ (List.getElem_mem _)⟩
def mSendAll (c : GC) (i : Nat) (p : GP) : GC := mFrom (fun d j => mRecords d i p j) i c.Peers.length 0 c
theorem mSendAll_peers {c : GC} {i : Nat} {p : GP} : (mSendAll c i p).Peers = c.Peers :=
  mFrom_inv (I := fun d => d.Peers = c.Peers) (fun d j h => by rw [← h]; exact mRecords_peers) _ _ _ rfl
theorem elect_L3 {c d : GC} {i : Nat} {p : GP} (hp : d.Peers[i]? = some p) (hn : c.Peers.length ≤ 1000) (hdn : d.Peers.length = c.Peers.length) (hx : NextOk c.Peers.length p) (hl : p.Log.length ≤ 1000000) (hd : DBl p.Log) :
    vsz c (i : Int) BIG 0 d.Peers d.Net d.Chosen d.Conflict = some (mSendAll d i p) := by
  unfold mSendAll; rw [hdn]
  refine from_loop (F := fun k j a b cc e => vsz c (i : Int) k j a b cc e) (fin := some) (I := fun e => e.Peers = d.Peers) hn (fun e j h => by rw [← h]; exact mRecords_peers) (fun k j e he hj hji => ?_) (fun k j e he hj hji => ?_) (fun k j e he hj => ?_) d rfl
  · show vsz _ _ (k + 1) _ _ _ _ _ = _
    rw [vsz, if_pos (by omega), if_pos (by omega)]
    unfold vqz
    rw [cP (by omega), show ((j : Int) + 1) = ((j + 1 : Nat) : Int) by omega]
  · obtain ⟨nx, h1, h2, h3⟩ := hx.get hj
    show vsz _ _ (k + 1) _ _ _ _ _ = _
    rw [vsz, if_pos (by omega), if_neg (by omega)]
    unfold vqz
    rw [records_m (p := p) (by show e.Peers[i]? = _; rw [he]; exact hp) h1 h2 h3 hl hd, obind_some, cP (by omega), show ((j : Int) + 1) = ((j + 1 : Nat) : Int) by omega]
  · show vsz _ _ (k + 1) _ _ _ _ _ = _
    rw [vsz, if_neg (by omega)]
theorem tick_L0 {c : GC} {i : Nat} {p : GP} (hp : c.Peers[i]? = some p) (hn : c.Peers.length ≤ 1000) (hx : NextOk c.Peers.length p) (hl : p.Log.length ≤ 1000000) (hd : DBl p.Log) :
    v19z c (i : Int) BIG 0 c.Peers c.Net c.Chosen c.Conflict = some (mSendAll c i p) := by
  unfold mSendAll
  refine from_loop (F := fun k j a b cc e => v19z c (i : Int) k j a b cc e) (fin := some) (I := fun e => e.Peers = c.Peers) hn (fun e j h => by rw [← h]; exact mRecords_peers) (fun k j e he hj hji => ?_) (fun k j e he hj hji => ?_) (fun k j e he hj => ?_) c rfl
  · show v19z _ _ (k + 1) _ _ _ _ _ = _
    rw [v19z, if_pos (by omega), if_pos (by omega)]
    unfold v17z
    rw [cP (by omega), show ((j : Int) + 1) = ((j + 1 : Nat) : Int) by omega]
  · obtain ⟨nx, h1, h2, h3⟩ := hx.get hj
    show v19z _ _ (k + 1) _ _ _ _ _ = _
    rw [v19z, if_pos (by omega), if_neg (by omega)]
    unfold v17z
    rw [records_m (p := p) (by show e.Peers[i]? = _; rw [he]; exact hp) h1 h2 h3 hl hd, obind_some, cP (by omega), show ((j : Int) + 1) = ((j + 1 : Nat) : Int) by omega]
  · show v19z _ _ (k + 1) _ _ _ _ _ = _
    rw [v19z, if_neg (by omega)]
end Go.Proofs.YtlpcdcpcfeaecaaAb
end
section
namespace Go.Proofs.YtlpcdcpcfeaecaaAb
open Go
def cntT : List Bool → Nat
  | [] => 0
  | b :: l => if b = true then cntT l + 1 else cntT l
def mLeader (n i : Nat) (p : GP) : GP :=
  { p with Role := 2, Votes := [], Next := List.replicate n ((p.Log.length : Int) + 1), Match := (List.replicate n (0 : Int)).set i (p.Log.length : Int) }
def mLead (c : GC) (i : Nat) (p : GP) : GC := { c with Peers := c.Peers.set i (mLeader c.Peers.length i p) }
def mElect (c : GC) (i : Nat) (p : GP) : GC :=
  if p.Role = 1 ∧ mMost c ≤ (cntT p.Votes : Int) then mSendAll (mCommit (mLead c i p) i (mLeader c.Peers.length i p)) i (mCommitP (mMost (mLead c i p)) (mLeader c.Peers.length i p)) else c
theorem elect_L0 {p : GP} {c : GC} {i : Int} (hM : p.Votes.length ≤ 1000) : ∀ (m k j t : Nat), p.Votes.length - j = m → m + 1 ≤ k → j ≤ p.Votes.length → t ≤ j →
    vrz p c i k (t : Int) (j : Int) = if p.Role = 1 then (v1nz (c.Peers.length : Int)).bind fun q => vpz c p i (decide (((t + cntT (p.Votes.drop j) : Nat) : Int) < q)) else vpz c p i true := by
  intro m
  induction m with
  | zero =>
    intro k j t hm hk hj ht
    obtain ⟨k, rfl⟩ : ∃ j, k = j + 1 := ⟨k - 1, by omega⟩
    rw [vrz, if_neg (by omega), List.drop_of_length_le (by omega)]
    rfl
  | succ m ih =>
    intro k j t hm hk hj ht
    obtain ⟨k, rfl⟩ : ∃ j, k = j + 1 := ⟨k - 1, by omega⟩
    have hlt : j < p.Votes.length := by omega
    have e : ((j : Int) + 1) = ((j + 1 : Nat) : Int) := by omega
    have e2 : ((t : Int) + 1) = ((t + 1 : Nat) : Int) := by omega
    rw [vrz, if_pos (by omega), xN hlt, obind_some, List.drop_eq_getElem_cons hlt]
    unfold voz
    by_cases hx : p.Votes[j] = true
    · rw [if_pos hx, cP (by omega), cP (by omega), e, e2, ih k (j + 1) (t + 1) (by omega) (by omega) (by omega) (by omega)]
      conv => rhs; unfold cntT
      rw [if_pos hx, show t + (cntT (p.Votes.drop (j + 1)) + 1) = t + 1 + cntT (p.Votes.drop (j + 1)) by omega]
    · rw [if_neg hx, cP (by omega), e, ih k (j + 1) t (by omega) (by omega) (by omega) (by omega)]
      conv => rhs; unfold cntT
      rw [if_neg hx]
theorem lead_next {n i : Nat} {p : GP} (q : Int) : NextOk n (mCommitP q (mLeader n i p)) := by
  unfold NextOk
  rw [mCommitP_next, mCommitP_log]
  unfold mLeader
  refine ⟨List.length_replicate, fun x hx => ?_⟩
  rw [List.eq_of_mem_replicate hx]
  exact ⟨by omega, Int.le_refl _⟩
theorem elect_m {c : GC} {i : Nat} {p : GP} (hp : c.Peers[i]? = some p) (hn : c.Peers.length ≤ 1000) (hv : p.Votes.length ≤ 1000) (h0 : 0 ≤ p.Commit) (h1 : p.Commit ≤ p.Log.length) (hl : p.Log.length ≤ 1000) (hd : DBl p.Log) (hc : c.Chosen.length ≤ 100000) :
    vnz c (i : Int) = some (mElect c i p) := by
  have hi : i < c.Peers.length := (List.getElem?_eq_some_iff.1 hp).1
  unfold vnz mElect
  rw [xS hp, obind_some]
  have := elect_L0 (p := p) (c := c) (i := (i : Int)) hv _ BIG 0 0 rfl (by rw [BIG_eq]; omega) (by omega) (by omega)
  rw [List.drop_zero, Nat.zero_add] at this
  refine this.trans ?_
  by_cases hr : p.Role = 1
  · rw [if_pos hr, most_m (by omega), obind_some, show (c.Peers.length : Int) / 2 + 1 = mMost c from rfl]
    unfold vpz
    by_cases hq : mMost c ≤ (cntT p.Votes : Int)
    · rw [if_neg (by rw [decide_eq_false (by omega)]; decide), if_pos ⟨hr, hq⟩, cP (by omega), cP (by omega), repeat_m (by omega) (by omega), obind_some, xN (by simp; omega), obind_some]
      have hp2 : (mLead c i p).Peers[i]? = some (mLeader c.Peers.length i p) := gS hp
      have := commit_m (c := mLead c i p) (i := i) hp2 h0 h1 hl (by unfold mLeader; simp; omega) (by unfold mLead; simp; omega) hd hc
      refine (congrArg (fun o => Option.bind o (fun x : GC => vsz c (i : Int) BIG 0 x.Peers x.Net x.Chosen x.Conflict)) this).trans ?_
      rw [obind_some]
      have hx : NextOk c.Peers.length (mCommitP (mMost (mLead c i p)) (mLeader c.Peers.length i p)) := lead_next _
      have hlen : (mCommit (mLead c i p) i (mLeader c.Peers.length i p)).Peers.length = c.Peers.length := by
        unfold mCommit mLead; rw [mChoose_peers]; simp
      refine elect_L3 (d := mCommit (mLead c i p) i (mLeader c.Peers.length i p)) ?_ hn hlen hx ?_ ?_
      · unfold mCommit; rw [mChoose_peers]; exact gS hp2
      · rw [mCommitP_log]; exact (show p.Log.length ≤ 1000000 by omega)
      · rw [mCommitP_log]; exact hd
    · rw [if_pos (by rw [decide_eq_true (by omega)]), if_neg (fun h => hq h.2)]
  · rw [if_neg hr, if_neg (fun h => hr h.1)]
    unfold vpz
    rw [if_pos rfl]
def mCand (n i : Nat) (p : GP) : GP :=
  { p with Term := p.Term + 1, Vote := (i : Int) + 1, Role := 1, Votes := (List.replicate n false).set i true, Next := [], Match := [] }
def mAsk (i : Nat) (p : GP) (c : GC) (j : Nat) : GC :=
  mSend c { Kind := 1, From := (i : Int), To := (j : Int), Term := p.Term, A := (p.Log.length : Int), B := termAt p.Log p.Log.length, C := 0, Ok := false, Log := [] }
def mStand (c : GC) (i : Nat) (p : GP) : GC := { c with Peers := c.Peers.set i (mCand c.Peers.length i p) }
def mAskAll (c : GC) (i : Nat) (p : GP) : GC := mFrom (mAsk i p) i c.Peers.length 0 c
theorem mAskAll_peers {c : GC} {i : Nat} {p : GP} : (mAskAll c i p).Peers = c.Peers :=
  mFrom_inv (I := fun d => d.Peers = c.Peers) (fun d j h => by rw [← h]; exact mSend_peers) _ _ _ rfl
theorem mAskAll_chosen {c : GC} {i : Nat} {p : GP} : (mAskAll c i p).Chosen = c.Chosen :=
  mFrom_inv (I := fun d => d.Chosen = c.Chosen) (fun d j h => by rw [← h]; exact mSend_chosen) _ _ _ rfl
def mTick (c : GC) (i : Nat) (p : GP) : GC :=
  if p.Role = 2 then mSendAll c i p
  else if p.Term < 1000000 then mElect (mAskAll (mStand c i p) i (mCand c.Peers.length i p)) i (mCand c.Peers.length i p) else c
theorem DBl.nil : DBl [] := fun r hr => nomatch hr
theorem tick_L2 {c e0 : GC} {i : Nat} {p : GP} {fin : Option GC} (hp : e0.Peers[i]? = some p) (hn : c.Peers.length ≤ 1000) (hdn : e0.Peers.length = c.Peers.length) :
    v1az c (i : Int) ((p.Log.length : Int), termAt p.Log p.Log.length) BIG 0 e0.Peers e0.Net e0.Chosen e0.Conflict = vnz (mAskAll e0 i p) (i : Int) := by
  unfold mAskAll; rw [hdn]
  refine from_loop (F := fun k j a b cc e => v1az c (i : Int) ((p.Log.length : Int), termAt p.Log p.Log.length) k j a b cc e) (fin := fun d => vnz d (i : Int)) (I := fun e => e.Peers = e0.Peers) hn (fun e j h => by rw [← h]; exact mSend_peers) (fun k j e he hj hji => ?_) (fun k j e he hj hji => ?_) (fun k j e he hj => ?_) e0 rfl
  · show v1az _ _ _ (k + 1) _ _ _ _ _ = _
    rw [v1az, if_pos (by omega), if_pos (by omega)]
    unfold v18z
    rw [cP (by omega), show ((j : Int) + 1) = ((j + 1 : Nat) : Int) by omega]
  · show v1az _ _ _ (k + 1) _ _ _ _ _ = _
    rw [v1az, if_pos (by omega), if_neg (by omega)]
    unfold v18z
    rw [xS (x := p) (by rw [he]; exact hp), obind_some, send_m (by simp) DBl.nil, obind_some, cP (by omega), show ((j : Int) + 1) = ((j + 1 : Nat) : Int) by omega]
    rfl
  · show v1az _ _ _ (k + 1) _ _ _ _ _ = _
    rw [v1az, if_neg (by omega)]
    cases vnz e (i : Int) <;> rfl
theorem tick_m {c : GC} {i : Nat} {p : GP} (hp : c.Peers[i]? = some p) (hn : c.Peers.length ≤ 1000) (h2 : p.Role = 2 → NextOk c.Peers.length p) (ht : 0 ≤ p.Term) (h0 : 0 ≤ p.Commit) (h1 : p.Commit ≤ p.Log.length) (hl : p.Log.length ≤ 1000) (hd : DBl p.Log) (hc : c.Chosen.length ≤ 100000) :
    v16z c (i : Int) = some (mTick c i p) := by
  have hi : i < c.Peers.length := (List.getElem?_eq_some_iff.1 hp).1
  unfold v16z mTick
  rw [xS hp, obind_some]
  by_cases hr : p.Role = 2
  · rw [if_pos hr, if_pos hr, tick_L0 hp hn (h2 hr) (by omega) hd]
  · rw [if_neg hr, if_neg hr]
    by_cases h3 : p.Term < 1000000
    · rw [if_pos h3, if_pos h3, cP (by omega), cP (by omega), cP (by omega), xN (by simp; omega), obind_some, last_m (by show p.Log.length ≤ _; omega), obind_some]
      have hp2 : (mStand c i p).Peers[i]? = some (mCand c.Peers.length i p) := gS hp
      have hlen : (mStand c i p).Peers.length = c.Peers.length := by unfold mStand; simp
      refine (tick_L2 (c := c) (e0 := mStand c i p) (fin := none) hp2 hn hlen).trans ?_
      refine elect_m (by rw [mAskAll_peers]; exact hp2) (by rw [mAskAll_peers, hlen]; exact hn) (by unfold mCand; simp; omega) h0 h1 hl hd (by rw [mAskAll_chosen]; exact hc)
    · rw [if_neg h3, if_neg h3]
def takeL : List GR → List GR → Int → List GR × Int
  | [], l, a => (l, a)
  | r :: rs, l, _ =>
    let l1 := if r.Index ≤ (l.length : Int) ∧ termAt l r.Index ≠ r.Term then l.take (r.Index - 1).toNat else l
    takeL rs (if (l1.length : Int) < r.Index then l1 ++ [r] else l1) r.Index
def mnx (a b k : Int) : Int := if (if a < b then a else b) > k then (if a < b then a else b) else k
theorem take_L2 {m rep : GM} {c : GC} {p1 q : GP} {xs : List GP} {i : Nat} (hi : i < xs.length) (ht : m.To = (i : Int)) (hr : ∀ r ∈ m.Log, 1 ≤ r.Index ∧ r.Index ≤ 1000000) (hm : m.Log.length ≤ 1000) :
    ∀ (n k j : Nat) (l : List GR) (a : Int), m.Log.length - j = n → n + 1 ≤ k → j ≤ m.Log.length → l.length ≤ 100000 + j →
    v15z m c rep p1 k a (j : Int) (xs.set i { q with Log := l }) =
      (vez { c with Peers := xs.set i { q with Log := (takeL (m.Log.drop j) l a).1, Commit := mnx (takeL (m.Log.drop j) l a).2 m.C q.Commit } } (i : Int)).bind fun d =>
        (vyz d { rep with Kind := 4, Term := p1.Term, A := (takeL (m.Log.drop j) l a).2, Ok := true }).bind some := by
  have hget : ∀ l, idx (xs.set i { q with Log := l }) (i : Int) = some { q with Log := l } := fun l => by
    rw [xN (by simp; exact hi)]; simp
  have hset : ∀ l (z : GP), setI (xs.set i { q with Log := l }) (i : Int) z = xs.set i z := fun l z => by
    show (xs.set i _).set i z = _
    rw [List.set_set]
  intro n
  induction n with
  | zero =>
    intro k j l a hn hk hj hl
    obtain ⟨k, rfl⟩ : ∃ j, k = j + 1 := ⟨k - 1, by omega⟩
    rw [v15z, if_neg (by omega), List.drop_of_length_le (by omega), ht, hget, obind_some, hset]
    rfl
  | succ n ih =>
    intro k j l a hn hk hj hl
    obtain ⟨k, rfl⟩ : ∃ j, k = j + 1 := ⟨k - 1, by omega⟩
    have hlt : j < m.Log.length := by omega
    have e : ((j : Int) + 1) = ((j + 1 : Nat) : Int) := by omega
    obtain ⟨r1, r2⟩ := hr _ (List.getElem_mem hlt)
    have h5 : ∀ l1 : List GR, l1.length ≤ 100000 + j → v14z m m.Log[j] (j : Int) (v15z m c rep p1 k) (xs.set i { q with Log := l1 }) = v15z m c rep p1 k m.Log[j].Index ((j + 1 : Nat) : Int) (xs.set i { q with Log := (if (l1.length : Int) < m.Log[j].Index then l1 ++ [m.Log[j]] else l1) }) := by
      intro l1 h1
      unfold v14z v12z
      rw [ht, hget, obind_some]
      by_cases h : (l1.length : Int) < m.Log[j].Index
      · rw [if_pos h, if_pos h, cP (by simp; omega), cP (by omega), e, hset]
      · rw [if_neg h, if_neg h, cP (by omega), e]
    have h4 : v15z m c rep p1 (k + 1) a (j : Int) (xs.set i { q with Log := l }) = v13z (xs.set i { q with Log := l }) m m.Log[j] (j : Int) (v15z m c rep p1 k) (decide (m.Log[j].Index ≤ (l.length : Int) ∧ termAt l m.Log[j].Index ≠ m.Log[j].Term)) := by
      rw [v15z, if_pos (by omega), xN hlt, obind_some, ht, hget, obind_some]
      by_cases h : m.Log[j].Index ≤ (l.length : Int)
      · rw [if_pos h, term_m (p := { q with Log := l }) (by omega) h (by show l.length ≤ _; omega), obind_some]
        simp [h]
      · rw [if_neg h]
        simp [h]
    rw [h4, List.drop_eq_getElem_cons hlt]
    unfold takeL v13z
    by_cases h : m.Log[j].Index ≤ (l.length : Int) ∧ termAt l m.Log[j].Index ≠ m.Log[j].Term
    · have hll : (l.take (m.Log[j].Index - 1).toNat).length ≤ 100000 + j := by rw [List.length_take]; omega
      rw [if_pos (by rw [decide_eq_true h]), if_pos h, ht, hget, obind_some, cP (by omega), slc_head (by omega) (by show _ ≤ (l.length : Int); omega), obind_some, clone_r (by rw [List.length_take]; show min _ l.length ≤ _; omega), obind_some, hset]
      rw [show v14z m m.Log[j] (j : Int) (v15z m c rep p1 k) _ = _ from h5 (l.take (m.Log[j].Index - 1).toNat) hll]
      refine (ih k (j + 1) _ _ (by omega) (by omega) (by omega) ?_).trans rfl
      split
      · simp; omega
      · omega
    · rw [if_neg (by rw [decide_eq_false h]; decide), if_neg h, h5 l hl]
      refine (ih k (j + 1) _ _ (by omega) (by omega) (by omega) ?_).trans rfl
      split
      · simp; omega
      · omega
end Go.Proofs.YtlpcdcpcfeaecaaAb
end
section
namespace Go.Proofs.YtlpcdcpcfeaecaaAb
open Go
section
variable {P : GR → Prop}
theorem chooseL_all : ∀ (l : List GR) (i : Nat) (ch : List GR) (cf : Bool), (∀ r ∈ l, P r) → (∀ r ∈ ch, P r) → ∀ r ∈ (chooseL l i ch cf).1, P r
  | [], _, ch, _, _, h => h
  | r :: rs, i, ch, cf, h1, h => by
    unfold chooseL
    split
    · refine chooseL_all rs _ _ _ (fun x hx => h1 x (List.mem_cons_of_mem _ hx)) (fun x hx => ?_)
      rcases List.mem_append.1 hx with hx | hx
      · exact h x hx
      · rw [List.mem_singleton.1 hx]; exact h1 r List.mem_cons_self
    · exact chooseL_all rs _ _ _ (fun x hx => h1 x (List.mem_cons_of_mem _ hx)) h
theorem add_all {l1 : List GR} {r : GR} (h : ∀ x ∈ l1, P x) (hr : P r) : ∀ x ∈ (if (l1.length : Int) < r.Index then l1 ++ [r] else l1), P x := by
  intro x hx
  split at hx
  · rcases List.mem_append.1 hx with hx | hx
    · exact h x hx
    · rw [List.mem_singleton.1 hx]; exact hr
  · exact h x hx
theorem takeL_all : ∀ (ms : List GR) (l : List GR) (a : Int), (∀ r ∈ ms, P r) → (∀ r ∈ l, P r) → ∀ r ∈ (takeL ms l a).1, P r
  | [], l, _, _, h => h
  | r :: rs, l, a, h1, h => by
    unfold takeL
    have hl1 : ∀ x ∈ (if r.Index ≤ (l.length : Int) ∧ termAt l r.Index ≠ r.Term then l.take (r.Index - 1).toNat else l), P x := by
      intro x hx
      split at hx
      · exact h x (List.mem_of_mem_take hx)
      · exact h x hx
    exact takeL_all rs _ _ (fun x hx => h1 x (List.mem_cons_of_mem _ hx)) (add_all hl1 (h1 r List.mem_cons_self))
end
structure DBc (c : GC) : Prop where
  peers : ∀ p ∈ c.Peers, DBl p.Log
  net : ∀ m ∈ c.Net, DBl m.Log
  chosen : DBl c.Chosen
theorem DBc.send {c : GC} {m : GM} (h : DBc c) (hm : DBl m.Log) : DBc (mSend c m) := by
  unfold mSend
  split
  · refine ⟨h.peers, fun x hx => ?_, h.chosen⟩
    rcases List.mem_append.1 hx with hx | hx
    · exact h.net x hx
    · rw [List.mem_singleton.1 hx]; exact hm
  · exact h
theorem DBc.choose {c : GC} {p : GP} (h : DBc c) (hp : DBl p.Log) : DBc (mChoose c p) :=
  ⟨h.peers, h.net, chooseL_all _ _ _ _ (hp.take _) h.chosen⟩
theorem DBc.set {c : GC} {i : Nat} {p : GP} (h : DBc c) (hp : DBl p.Log) : DBc { c with Peers := c.Peers.set i p } :=
  ⟨fun x hx => by
    rcases List.mem_or_eq_of_mem_set hx with hx | rfl
    · exact h.peers x hx
    · exact hp, h.net, h.chosen⟩
theorem DBc.commit {c : GC} {i : Nat} {p : GP} (h : DBc c) (hp : DBl p.Log) : DBc (mCommit c i p) :=
  (h.set (p := mCommitP (mMost c) p) (by rw [mCommitP_log]; exact hp)).choose (by rw [mCommitP_log]; exact hp)
theorem DBc.records {c : GC} {i t : Nat} {p : GP} (h : DBc c) (hp : DBl p.Log) : DBc (mRecords c i p t) := h.send (hp.drop _)
theorem DBc.sendAll {c : GC} {i : Nat} {p : GP} (h : DBc c) (hp : DBl p.Log) : DBc (mSendAll c i p) := mFrom_inv (I := DBc) (fun d j hd => hd.records hp) _ _ _ h
theorem DBc.elect {c : GC} {i : Nat} {p : GP} (h : DBc c) (hp : DBl p.Log) : DBc (mElect c i p) := by
  unfold mElect
  split
  · exact DBc.sendAll ((h.set (p := mLeader c.Peers.length i p) hp).commit hp) (by rw [mCommitP_log]; exact hp)
  · exact h
theorem DBc.tick {c : GC} {i : Nat} {p : GP} (h : DBc c) (hp : DBl p.Log) : DBc (mTick c i p) := by
  unfold mTick
  split
  · exact h.sendAll hp
  · split
    · exact DBc.elect (mFrom_inv (I := DBc) (fun d j hd => hd.send DBl.nil) _ _ _ (h.set (p := mCand c.Peers.length i p) hp)) hp
    · exact h
def mBack (m : GM) (t a : Int) (ok : Bool) : GM := { Kind := 4, From := m.To, To := m.From, Term := t, A := a, B := 0, C := 0, Ok := ok, Log := [] }
def mFresh (m : GM) (p : GP) : GP := if p.Term < m.Term then { p with Term := m.Term, Vote := 0 } else p
def mFollow (m : GM) (p : GP) : GP := { mFresh m p with Role := 0, Votes := [], Next := [], Match := [] }
def mTaken (m : GM) (p : GP) : GP := { mFollow m p with Log := (takeL m.Log p.Log m.A).1, Commit := mnx (takeL m.Log p.Log m.A).2 m.C p.Commit }
def mTake (c : GC) (m : GM) (i : Nat) (p : GP) : GC :=
  if m.Term < p.Term then mSend c (mBack m p.Term 0 false)
  else if (p.Log.length : Int) < m.A ∨ termAt p.Log m.A ≠ m.B then
    mSend { c with Peers := c.Peers.set i (mFollow m p) } (mBack m (mFresh m p).Term (if (p.Log.length : Int) < (m.A - 1) then (p.Log.length : Int) else (m.A - 1)) false)
  else mSend (mChoose { c with Peers := c.Peers.set i (mTaken m p) } (mTaken m p)) (mBack m (mFresh m p).Term (takeL m.Log p.Log m.A).2 true)
theorem mFresh_log {m : GM} {p : GP} : (mFresh m p).Log = p.Log := by unfold mFresh; split <;> rfl
theorem mFresh_commit {m : GM} {p : GP} : (mFresh m p).Commit = p.Commit := by unfold mFresh; split <;> rfl
theorem DBc.take {c : GC} {m : GM} {i : Nat} {p : GP} (h : DBc c) (hm : DBl m.Log) (hp : DBl p.Log) : DBc (mTake c m i p) := by
  have h2 : DBl (takeL m.Log p.Log m.A).1 := takeL_all _ _ _ hm hp
  unfold mTake
  split
  · exact h.send DBl.nil
  · split
    · exact (h.set (p := mFollow m p) (by unfold mFollow; dsimp only; rw [mFresh_log]; exact hp)).send DBl.nil
    · exact ((h.set (p := mTaken m p) h2).choose h2).send DBl.nil
def TakeOk (m : GM) (p : GP) : Prop := p.Term ≤ m.Term → m.A ≤ (p.Log.length : Int) → termAt p.Log m.A = m.B →
  0 ≤ mnx (takeL m.Log p.Log m.A).2 m.C p.Commit ∧ mnx (takeL m.Log p.Log m.A).2 m.C p.Commit ≤ ((takeL m.Log p.Log m.A).1.length : Int) ∧ (takeL m.Log p.Log m.A).1.length ≤ 1000
theorem take_m {c : GC} {m : GM} {i : Nat} {p : GP} (hp : c.Peers[i]? = some p) (ht : m.To = (i : Int)) (ha : 0 ≤ m.A) (ha2 : m.A ≤ 1000000) (hl : p.Log.length ≤ 1000) (hm : m.Log.length ≤ 1000) (hr : ∀ r ∈ m.Log, 1 ≤ r.Index ∧ r.Index ≤ 1000000)
    (hd : DBl p.Log) (hdm : DBl m.Log) (hc : c.Chosen.length ≤ 100000) (hk : TakeOk m p) :
    vzz c m { Kind := 0, From := m.To, To := m.From, Term := 0, A := 0, B := 0, C := 0, Ok := false, Log := [] } = some (mTake c m i p) := by
  have hi : i < c.Peers.length := (List.getElem?_eq_some_iff.1 hp).1
  unfold vzz
  rw [ht, xS hp, obind_some, ← ht]
  by_cases h1 : m.Term < p.Term
  · rw [if_pos h1, send_m (by simp) DBl.nil, obind_some]
    unfold mTake mBack; rw [if_pos h1]
  · rw [if_neg h1]
    have e : (if p.Term < m.Term then v10z m c { Kind := 0, From := m.To, To := m.From, Term := 0, A := 0, B := 0, C := 0, Ok := false, Log := [] } (setI c.Peers m.To { p with Term := m.Term, Vote := 0 }) else v10z m c { Kind := 0, From := m.To, To := m.From, Term := 0, A := 0, B := 0, C := 0, Ok := false, Log := [] } c.Peers)
        = v10z m c { Kind := 0, From := m.To, To := m.From, Term := 0, A := 0, B := 0, C := 0, Ok := false, Log := [] } (c.Peers.set i (mFresh m p)) := by
      unfold mFresh
      by_cases h2 : p.Term < m.Term
      · rw [if_pos h2, if_pos h2, ht]; rfl
      · rw [if_neg h2, if_neg h2, set_self hp]
    refine e.trans ?_
    have hset : ∀ z : GP, setI (c.Peers.set i (mFresh m p)) m.To z = c.Peers.set i z := fun z => by
      rw [ht]; show (c.Peers.set i _).set i z = _; rw [List.set_set]
    unfold v10z
    rw [ht, xS (gS hp), obind_some, ← ht]
    have hJ : ∀ b, v11z m (c.Peers.set i (mFresh m p)) (mFresh m p) c { Kind := 0, From := m.To, To := m.From, Term := 0, A := 0, B := 0, C := 0, Ok := false, Log := [] } b =
        if b = true then some (mSend { c with Peers := c.Peers.set i (mFollow m p) } (mBack m (mFresh m p).Term (if (p.Log.length : Int) < (m.A - 1) then (p.Log.length : Int) else (m.A - 1)) false))
        else v15z m c { Kind := 0, From := m.To, To := m.From, Term := 0, A := 0, B := 0, C := 0, Ok := false, Log := [] } (mFresh m p) BIG m.A 0 (c.Peers.set i (mFollow m p)) := by
      intro b
      unfold v11z
      by_cases hb : b = true
      · rw [if_pos hb, if_pos hb, cP (by omega), send_m (by simp) DBl.nil, obind_some, hset]
        unfold mFollow mBack
        simp only [mFresh_log]
      · rw [if_neg hb, if_neg hb, hset]
        rfl
    unfold mTake
    rw [if_neg h1]
    by_cases h3 : (p.Log.length : Int) < m.A
    · rw [if_pos (by rw [mFresh_log]; exact h3), hJ, if_pos rfl, if_pos (Or.inl h3)]
    · rw [if_neg (by rw [mFresh_log]; exact h3), term_m ha (by show _ ≤ ((mFresh m p).Log.length : Int); rw [mFresh_log]; omega) (by show (mFresh m p).Log.length ≤ _; rw [mFresh_log]; omega), obind_some, hJ]
      dsimp only
      rw [mFresh_log]
      by_cases h4 : termAt p.Log m.A = m.B
      · rw [if_neg (by rw [decide_eq_true h4]; decide), if_neg (fun h => h.elim h3 (fun h => h h4))]
        obtain ⟨k1, k2, k3⟩ := hk (by omega) (by omega) h4
        have hf : mFollow m p = { mFollow m p with Log := p.Log } := by unfold mFollow; dsimp only; rw [mFresh_log]
        rw [hf]
        have := take_L2 (m := m) (rep := { Kind := 0, From := m.To, To := m.From, Term := 0, A := 0, B := 0, C := 0, Ok := false, Log := [] }) (c := c) (p1 := mFresh m p) (q := mFollow m p) (xs := c.Peers) hi ht hr hm _ BIG 0 p.Log m.A rfl (by rw [BIG_eq]; omega) (by omega) (by omega)
        rw [List.drop_zero] at this
        refine this.trans ?_
        have hq : (mFollow m p).Commit = p.Commit := by unfold mFollow; dsimp only; rw [mFresh_commit]
        have hch := choose_m (c := { c with Peers := c.Peers.set i (mTaken m p) }) (i := i) (p := mTaken m p) (gS hp) k1 k2 k3 (takeL_all _ _ _ hdm hd) hc
        rw [hq]
        refine (congrArg (fun o => Option.bind o (fun d => (vyz d { Kind := 4, From := m.To, To := m.From, Term := (mFresh m p).Term, A := (takeL m.Log p.Log m.A).2, B := 0, C := 0, Ok := true, Log := [] }).bind some)) hch).trans ?_
        rw [obind_some, send_m (by simp) DBl.nil, obind_some]
        rfl
      · rw [if_pos (by rw [decide_eq_false h4]; rfl), if_pos (Or.inr h4)]
structure PeerOk (n : Nat) (p : GP) : Prop where
  com0 : 0 ≤ p.Commit
  com1 : p.Commit ≤ (p.Log.length : Int)
  logl : p.Log.length ≤ 1000
  term0 : 0 ≤ p.Term
  votes : p.Votes.length ≤ 1000
  mat : p.Match.length ≤ 1000
  cand : p.Role = 1 → p.Votes.length = n
  lead : p.Role = 2 → NextOk n p
  mlen : p.Role = 2 → p.Match.length = n
  mall : p.Role = 2 → ∀ x ∈ p.Match, 0 ≤ x ∧ x ≤ (p.Log.length : Int)
structure MsgOk (n : Nat) (m : GM) : Prop where
  frm : 0 ≤ m.From ∧ m.From < n
  to : 0 ≤ m.To ∧ m.To < n
  a : 0 ≤ m.A ∧ m.A ≤ 1000000
  logl : m.Log.length ≤ 1000
  recs : ∀ r ∈ m.Log, 1 ≤ r.Index ∧ r.Index ≤ 1000000
def AckOk (m : GM) (p : GP) : Prop := m.Kind = 4 → p.Role = 2 → m.Term = p.Term → m.A ≤ (p.Log.length : Int)
def mNewer (m : GM) (p : GP) : GP := if p.Term < m.Term then { p with Term := m.Term, Vote := 0, Role := 0, Votes := [], Next := [], Match := [] } else p
def mGrant (m : GM) (p : GP) : Bool :=
  decide (m.Term = p.Term ∧ (p.Vote = 0 ∨ p.Vote = m.From + 1) ∧ (termAt p.Log p.Log.length < m.B ∨ (m.B = termAt p.Log p.Log.length ∧ (p.Log.length : Int) ≤ m.A)))
def mVoted (m : GM) (p : GP) : GP := if mGrant m p = true then { p with Vote := m.From + 1 } else p
def mHeard (m : GM) (p : GP) : GP := { p with Votes := p.Votes.set m.From.toNat true }
def mAcked (m : GM) (p : GP) (nx mt : Int) : GP :=
  { p with Next := p.Next.set m.From.toNat (if (m.A + 1) > nx then (m.A + 1) else nx), Match := p.Match.set m.From.toNat (if m.A > mt then m.A else mt) }
def mNaked (m : GM) (p : GP) (mt : Int) : GP :=
  { p with Next := p.Next.set m.From.toNat (if (m.A + 1) > (mt + 1) then (m.A + 1) else (mt + 1)) }
def atI (l : List Int) (i : Int) : Int := l[i.toNat]?.getD 0
def mArr (c : GC) (m : GM) (i : Nat) (p : GP) : GC :=
  if m.Kind = 1 then mSend { c with Peers := c.Peers.set i (mVoted m p) } { Kind := 2, From := m.To, To := m.From, Term := p.Term, A := 0, B := 0, C := 0, Ok := mGrant m p, Log := [] }
  else if m.Kind = 2 then (if m.Term = p.Term ∧ p.Role = 1 ∧ m.Ok = true then mElect { c with Peers := c.Peers.set i (mHeard m p) } i (mHeard m p) else c)
  else if m.Kind = 3 then mTake c m i p
  else if m.Kind = 4 then
    if m.Term = p.Term ∧ p.Role = 2 then
      if m.Ok = true then mCommit { c with Peers := c.Peers.set i (mAcked m p (atI p.Next m.From) (atI p.Match m.From)) } i (mAcked m p (atI p.Next m.From) (atI p.Match m.From))
      else if m.A + 1 < atI p.Next m.From then mRecords { c with Peers := c.Peers.set i (mNaked m p (atI p.Match m.From)) } i (mNaked m p (atI p.Match m.From)) m.From.toNat
      else c
    else c
  else c
end Go.Proofs.YtlpcdcpcfeaecaaAb
end
section
namespace Go.Proofs.YtlpcdcpcfeaecaaAb
open Go
theorem arr_grant {m : GM} {c : GC} {xs : List GP} {p : GP} (hl : p.Log.length ≤ 1000) (hf : 0 ≤ m.From ∧ m.From ≤ 1000) :
    (v1ez p).bind (fun x323 =>
    if m.Term = p.Term then
      if p.Vote = 0 then
        if x323.2 < m.B then v9z m c p xs true
        else if m.B = x323.2 then v9z m c p xs (decide (x323.1 ≤ m.A)) else v9z m c p xs false
      else
        chk (-9223372036854775808 ≤ m.From + 1 ∧ m.From + 1 < 9223372036854775808) <|
        if p.Vote = (m.From + 1) then
          if x323.2 < m.B then v9z m c p xs true
          else if m.B = x323.2 then v9z m c p xs (decide (x323.1 ≤ m.A)) else v9z m c p xs false
        else v9z m c p xs false
    else v9z m c p xs false) = v9z m c p xs (mGrant m p) := by
  rw [last_m (by omega), obind_some, cP (by omega)]
  unfold mGrant
  by_cases h1 : m.Term = p.Term
  · by_cases h2 : p.Vote = 0
    · by_cases h3 : termAt p.Log p.Log.length < m.B
      · simp [h1, h2, h3]
      · by_cases h4 : m.B = termAt p.Log p.Log.length
        · simp [h1, h2, h4]
        · simp [h1, h2, h3, h4]
    · by_cases h5 : p.Vote = m.From + 1
      · by_cases h3 : termAt p.Log p.Log.length < m.B
        · simp [h1, h2, h3, h5]
        · by_cases h4 : m.B = termAt p.Log p.Log.length
          · simp [h1, h2, h4, h5]
          · simp [h1, h2, h3, h4, h5]
      · simp [h1, h2, h5]
  · simp [h1]
theorem arr_J1 {m : GM} {c : GC} {xs : List GP} {p : GP} {i : Nat} (hp : xs[i]? = some p) (ht : m.To = (i : Int)) (hf : 0 ≤ m.From ∧ m.From ≤ 1000) (b : Bool) :
    v9z m c p xs b = some (mSend { c with Peers := xs.set i (if b = true then { p with Vote := m.From + 1 } else p) } { Kind := 2, From := m.To, To := m.From, Term := p.Term, A := 0, B := 0, C := 0, Ok := b, Log := [] }) := by
  unfold v9z vaz
  cases b
  · rw [if_neg (by decide), if_neg (by decide), send_m (by simp) DBl.nil, obind_some, set_self hp]
  · rw [if_pos rfl, if_pos rfl, cP (by omega), send_m (by simp) DBl.nil, obind_some, ht]; rfl
theorem atI_get {l : List Int} {f : Nat} (h : f < l.length) : l[f]? = some (atI l (f : Int)) := by
  unfold atI; rw [Int.toNat_natCast, List.getElem?_eq_getElem h]; rfl
theorem arr_m {m : GM} {c : GC} {xs : List GP} {p : GP} {i : Nat} (hn : xs.length ≤ 1000) (hp : xs[i]? = some p) (ht : m.To = (i : Int)) (hm : MsgOk xs.length m) (hpo : PeerOk xs.length p) (hk : TakeOk m p) (ha : AckOk m p)
    (hd : DBl p.Log) (hdm : DBl m.Log) (hc : c.Chosen.length ≤ 100000) : v8z m c xs = some (mArr { c with Peers := xs } m i p) := by
  have hi : i < xs.length := (List.getElem?_eq_some_iff.1 hp).1
  obtain ⟨f1, f2⟩ := hm.frm
  obtain ⟨a1, a2⟩ := hm.a
  have hl := hpo.logl
  obtain ⟨f, hf⟩ : ∃ f : Nat, m.From = (f : Int) := ⟨m.From.toNat, by omega⟩
  have hfn : m.From.toNat = f := by omega
  unfold v8z mArr
  by_cases k1 : m.Kind = 1
  · rw [if_pos k1, if_pos k1, ht, xS hp, obind_some, ← ht]
    refine (arr_grant hl ⟨f1, by omega⟩).trans ?_
    rw [arr_J1 hp ht ⟨f1, by omega⟩]; rfl
  rw [if_neg k1, if_neg k1]
  by_cases k2 : m.Kind = 2
  · rw [if_pos k2, if_pos k2, ht, xS hp, obind_some]
    have hJ : ∀ b : Bool, vbz xs m c b = if b = true then (idx xs m.To).bind (fun x696 => (idx x696.Votes m.From).bind fun x717 =>
        (vnz ({ Peers := (setI xs m.To ({ x696 with Votes := (setI x696.Votes m.From true) } : GP)), Net := c.Net, Chosen := c.Chosen, Conflict := c.Conflict } : GC) m.To).bind some) else some { c with Peers := xs } := fun b => by
      unfold vbz; rfl
    by_cases h1 : m.Term = p.Term
    · rw [if_pos h1]
      by_cases h2 : p.Role = 1
      · rw [if_pos h2, hJ]
        by_cases h3 : m.Ok = true
        · rw [if_pos h3, if_pos ⟨h1, h2, h3⟩, ht, xS hp, obind_some, hf, xN (by rw [hpo.cand h2]; omega), obind_some]
          have := elect_m (c := { c with Peers := xs.set i (mHeard m p) }) (i := i) (p := mHeard m p) (gS hp) (by simp; omega) (by unfold mHeard; simp; have := hpo.votes; omega) hpo.com0 hpo.com1 hl hd hc
          have e : mHeard m p = { p with Votes := setI p.Votes (f : Int) true } := by unfold mHeard setI; rw [hfn]; rfl
          rw [e] at this ⊢
          refine (congrArg (fun o => Option.bind o some) this).trans ?_
          rfl
        · rw [if_neg h3, if_neg (fun h => h3 h.2.2)]
      · rw [if_neg h2, hJ, if_neg (by decide), if_neg (fun h => h2 h.2.1)]
    · rw [if_neg h1, hJ, if_neg (by decide), if_neg (fun h => h1 h.1)]
  rw [if_neg k2, if_neg k2]
  by_cases k3 : m.Kind = 3
  · rw [if_pos k3, if_pos k3]
    have := take_m (c := { c with Peers := xs }) (m := m) (i := i) hp ht a1 a2 hl hm.logl hm.recs hd hdm hc hk
    refine (congrArg (fun o => Option.bind o some) this).trans ?_
    rfl
  rw [if_neg k3, if_neg k3]
  by_cases k4 : m.Kind = 4
  · rw [if_pos k4, if_pos k4, ht, xS hp, obind_some]
    by_cases h1 : m.Term = p.Term
    · rw [if_pos h1]
      by_cases h2 : p.Role = 2
      · rw [if_pos ⟨h1, h2⟩]
        have hle := ha k4 h2 h1
        obtain ⟨n1, n2⟩ := hpo.lead h2
        have hnx : p.Next[f]? = some (atI p.Next m.From) := by rw [hf]; exact atI_get (by rw [n1]; omega)
        have hmt : p.Match[f]? = some (atI p.Match m.From) := by rw [hf]; exact atI_get (by rw [hpo.mlen h2]; omega)
        unfold vcz
        rw [if_neg (by rw [decide_eq_true h2]; decide)]
        by_cases h3 : m.Ok = true
        · rw [if_pos h3, if_pos h3, ht, xS hp, obind_some]
          have q1 : idx p.Match m.From = some (atI p.Match m.From) := by conv => lhs; rw [hf]
                                                                         exact xS hmt
          have q2 : idx p.Next m.From = some (atI p.Next m.From) := by conv => lhs; rw [hf]
                                                                       exact xS hnx
          rw [q1, obind_some, q2, obind_some, cP (by omega), obind_some, obind_some]
          have := commit_m (c := { c with Peers := xs.set i (mAcked m p (atI p.Next m.From) (atI p.Match m.From)) }) (i := i) (p := mAcked m p (atI p.Next m.From) (atI p.Match m.From)) (gS hp) hpo.com0 hpo.com1 hl (by unfold mAcked; simp; have := hpo.mat; omega) (by simp; omega) hd hc
          refine (congrArg (fun o => Option.bind o some) this).trans ?_
          rfl
        · rw [if_neg h3, if_neg h3, cP (by omega), ht, xS hp, obind_some]
          have q1 : idx p.Match m.From = some (atI p.Match m.From) := by conv => lhs; rw [hf]
                                                                         exact xS hmt
          have q2 : idx p.Next m.From = some (atI p.Next m.From) := by conv => lhs; rw [hf]
                                                                       exact xS hnx
          rw [q2, obind_some]
          by_cases h5 : m.A + 1 < atI p.Next m.From
          · have hm5 := hpo.mall h2 _ (List.mem_of_getElem? hmt)
            rw [if_pos h5, if_pos h5, q1, obind_some, cP (by omega), cP (by omega), obind_some]
            have := records_m (c := { c with Peers := xs.set i (mNaked m p (atI p.Match m.From)) }) (i := i) (t := f) (p := mNaked m p (atI p.Match m.From)) (nx := (if (m.A + 1) > (atI p.Match m.From + 1) then (m.A + 1) else (atI p.Match m.From + 1))) (gS hp)
              (by unfold mNaked; dsimp only; rw [hfn]; exact List.getElem?_set_self (by rw [n1]; omega)) (by split <;> omega) (by show _ ≤ (p.Log.length : Int) + 1; split <;> omega) (by show p.Log.length ≤ _; omega) hd
            rw [hfn]
            rw [← hf] at this
            refine (congrArg (fun o => Option.bind o some) this).trans ?_
            rfl
          · rw [if_neg h5, if_neg h5]
      · rw [if_neg (fun h => h2 h.2)]
        unfold vcz
        rw [if_pos (by rw [decide_eq_false h2]; rfl)]
    · rw [if_neg h1, if_neg (fun h => h1 h.1)]
      unfold vcz
      rw [if_pos rfl]
  · rw [if_neg k4, if_neg k4]
theorem mNewer_log {m : GM} {p : GP} : (mNewer m p).Log = p.Log := by unfold mNewer; split <;> rfl
theorem mNewer_ok {m : GM} {p : GP} {n : Nat} (h : PeerOk n p) : PeerOk n (mNewer m p) := by
  unfold mNewer
  split
  · next ht => exact ⟨h.com0, h.com1, h.logl, by show 0 ≤ m.Term; have := h.term0; omega, Nat.zero_le _, Nat.zero_le _, (fun hh => nomatch hh), (fun hh => nomatch hh), (fun hh => nomatch hh), (fun hh => nomatch hh)⟩
  · exact h
def mArrive (c : GC) (m : GM) : GC :=
  match c.Peers[m.To.toNat]? with
  | none => c
  | some p => if p.Up = true then mArr (if p.Term < m.Term then { c with Peers := c.Peers.set m.To.toNat (mNewer m p) } else c) m m.To.toNat (mNewer m p) else c
theorem arrive_m {m : GM} {c : GC} {p : GP} (hn : c.Peers.length ≤ 1000) (hp : c.Peers[m.To.toNat]? = some p) (hm : MsgOk c.Peers.length m) (hpo : PeerOk c.Peers.length p) (hk : TakeOk m (mNewer m p)) (ha : AckOk m (mNewer m p))
    (hd : DBl p.Log) (hdm : DBl m.Log) (hc : c.Chosen.length ≤ 100000) : v7z c m = some (mArrive c m) := by
  obtain ⟨t1, t2⟩ := hm.to
  have ht : m.To = (m.To.toNat : Int) := by omega
  unfold v7z mArrive
  rw [hp]
  have hpi : idx c.Peers m.To = some p := by rw [ht]; exact xS hp
  rw [hpi, obind_some]
  dsimp only
  cases hu : p.Up
  · rw [if_pos (by decide), if_neg (by decide)]
  · rw [if_neg (by decide), if_pos rfl]
    by_cases h1 : p.Term < m.Term
    · rw [if_pos h1, if_pos h1, if_pos h1]
      unfold vdz
      have hg : idx (setI c.Peers m.To ({ Up := p.Up, Term := m.Term, Vote := 0, Commit := p.Commit, Role := p.Role, Log := p.Log, Votes := p.Votes, Next := p.Next, Match := p.Match } : GP)) m.To = some { p with Term := m.Term, Vote := 0 } := by
        rw [ht]; exact xS (gS hp)
      rw [← hu, hg, obind_some]
      have e : setI (setI c.Peers m.To ({ Up := p.Up, Term := m.Term, Vote := 0, Commit := p.Commit, Role := p.Role, Log := p.Log, Votes := p.Votes, Next := p.Next, Match := p.Match } : GP)) m.To ({ Up := p.Up, Term := m.Term, Vote := 0, Commit := p.Commit, Role := 0, Log := p.Log, Votes := [], Next := [], Match := [] } : GP) = c.Peers.set m.To.toNat (mNewer m p) := by
        unfold mNewer setI; rw [if_pos h1, List.set_set]
      rw [show v8z m c (setI _ m.To _) = _ from congrArg _ e]
      refine arr_m (by simp; omega) (gS hp) ht (by simpa using hm) ?_ hk ha (by rw [mNewer_log]; exact hd) hdm hc
      simpa using mNewer_ok hpo
    · rw [if_neg h1, if_neg h1]
      have e : mNewer m p = p := by unfold mNewer; rw [if_neg h1]
      rw [e] at hk ha ⊢
      exact arr_m hn hp ht hm hpo hk ha hd hdm hc
end Go.Proofs.YtlpcdcpcfeaecaaAb
end
section
namespace Go.Proofs.YtlpcdcpcfeaecaaAb
open Go
theorem DBc.arr {c : GC} {m : GM} {i : Nat} {p : GP} (h : DBc c) (hm : DBl m.Log) (hp : DBl p.Log) : DBc (mArr c m i p) := by
  unfold mArr
  repeat' split
  · refine (h.set ?_).send DBl.nil
    unfold mVoted; split <;> exact hp
  · exact (h.set (p := mHeard m p) hp).elect hp
  · exact h
  · exact h.take hm hp
  · exact (h.set (p := mAcked m p (atI p.Next m.From) (atI p.Match m.From)) hp).commit hp
  · exact (h.set (p := mNaked m p (atI p.Match m.From)) hp).records hp
  · exact h
  · exact h
  · exact h
theorem DBc.arrive {c : GC} {m : GM} (h : DBc c) (hm : DBl m.Log) : DBc (mArrive c m) := by
  unfold mArrive
  split
  · exact h
  · next p hp =>
    have hd : DBl p.Log := h.peers p (List.mem_of_getElem? hp)
    split
    · refine DBc.arr ?_ hm (by rw [mNewer_log]; exact hd)
      split
      · exact h.set (by rw [mNewer_log]; exact hd)
      · exact h
    · exact h
def mCut (c : GC) (i : Nat) : GC := { c with Net := c.Net.take i ++ c.Net.drop (i + 1) }
def mDown (p : GP) : GP := { Up := false, Term := p.Term, Vote := p.Vote, Commit := 0, Role := 0, Log := p.Log, Votes := [], Next := [], Match := [] }
def mGrown (i : Nat) (p : GP) (d : List UInt8) : GP :=
  { p with Log := p.Log ++ [{ Term := p.Term, Index := (p.Log.length : Int) + 1, Data := d }], Match := p.Match.set i ((p.Log.length : Int) + 1) }
def mPropose (c : GC) (i : Nat) (p : GP) (d : List UInt8) : GC := mCommit { c with Peers := c.Peers.set i (mGrown i p d) } i (mGrown i p d)
def mNetEv (c : GC) (k : Int) (i : Nat) : GC × Int :=
  match c.Net[i]? with
  | none => (c, 6)
  | some m => if k = 4 then (mSend c m, 0) else if k = 2 then (mArrive (mCut c i) m, 0) else (mCut c i, 0)
def mPeerEv (c : GC) (e : GE) (i : Nat) : GC × Int :=
  match c.Peers[i]? with
  | none => (c, 6)
  | some p =>
    if p.Up = decide (e.Kind = 6) then (c, 15)
    else if e.Kind = 1 then (mTick c i p, 0)
    else if e.Kind = 5 then ({ c with Peers := c.Peers.set i (mDown p) }, 0)
    else if e.Kind = 6 then ({ c with Peers := c.Peers.set i { p with Up := true } }, 0)
    else if p.Role = 2 then (if 1000 < (e.Data.length : Int) ∨ 100 ≤ (p.Log.length : Int) then (c, 14) else (mPropose c i p e.Data, 0))
    else (c, 15)
def mEvent (c : GC) (e : GE) : GC × Int :=
  if e.Kind = 2 ∨ e.Kind = 3 ∨ e.Kind = 4 then
    if 0 ≤ e.N ∧ e.N ≤ (c.Net.length : Int) - 1 then mNetEv c e.Kind e.N.toNat else (c, 6)
  else if e.Kind = 1 ∨ e.Kind = 5 ∨ e.Kind = 6 ∨ e.Kind = 7 then
    if 0 ≤ e.N ∧ e.N ≤ (c.Peers.length : Int) - 1 then mPeerEv c e e.N.toNat else (c, 6)
  else (c, 3)
structure ClOk (c : GC) : Prop where
  n : c.Peers.length ≤ 1000
  net : c.Net.length ≤ 1000
  chosen : c.Chosen.length ≤ 100000
  peers : ∀ p ∈ c.Peers, PeerOk c.Peers.length p
  msgs : ∀ m ∈ c.Net, MsgOk c.Peers.length m
def EvOk (c : GC) (e : GE) : Prop := e.Kind = 2 → ∀ m, c.Net[e.N.toNat]? = some m → ∀ p, c.Peers[m.To.toNat]? = some p → TakeOk m (mNewer m p) ∧ AckOk m (mNewer m p)
theorem event_J1 {c : GC} {e : GE} (h : ClOk c) (hd : DBc c) (b : Bool) (hb : b = decide (e.Kind = 1 ∨ e.Kind = 5 ∨ e.Kind = 6 ∨ e.Kind = 7)) :
    vvz c e b = some (if e.Kind = 1 ∨ e.Kind = 5 ∨ e.Kind = 6 ∨ e.Kind = 7 then
    if 0 ≤ e.N ∧ e.N ≤ (c.Peers.length : Int) - 1 then mPeerEv c e e.N.toNat else (c, 6)
  else (c, 3)) := by
  have hn := h.n
  unfold vvz
  subst hb
  by_cases k : e.Kind = 1 ∨ e.Kind = 5 ∨ e.Kind = 6 ∨ e.Kind = 7
  · rw [if_pos (by rw [decide_eq_true k]), if_pos k, cP (by omega), within_l, obind_some]
    by_cases hN : 0 ≤ e.N ∧ e.N ≤ (c.Peers.length : Int) - 1
    · rw [if_neg (by rw [decide_eq_true hN]; decide), if_pos hN]
      have hi : e.N.toNat < c.Peers.length := by omega
      have hp : c.Peers[e.N.toNat]? = some c.Peers[e.N.toNat] := List.getElem?_eq_getElem hi
      have hmem := List.getElem_mem hi
      generalize c.Peers[e.N.toNat] = p at hp hmem
      have hNN : e.N = (e.N.toNat : Int) := by omega
      have hpi : idx c.Peers e.N = some p := by rw [hNN]; exact xS hp
      rw [hpi, obind_some]
      unfold mPeerEv
      rw [hp]
      dsimp only
      have hpo := h.peers p hmem
      have hdl := hd.peers p hmem
      have hl := hpo.logl
      by_cases hu : p.Up = decide (e.Kind = 6)
      · rw [if_pos (by rw [hu]; simp), if_pos hu]
      · rw [if_neg (by simpa using hu), if_neg hu]
        by_cases k1 : e.Kind = 1
        · rw [if_pos k1, if_pos k1]
          have := tick_m hp hn hpo.lead hpo.term0 hpo.com0 hpo.com1 hl hdl h.chosen
          rw [← hNN] at this
          refine (congrArg (fun o => Option.bind o (fun x : GC => some (x, (0 : Int)))) this).trans ?_
          rfl
        rw [if_neg k1, if_neg k1]
        by_cases k5 : e.Kind = 5
        · rw [if_pos k5, if_pos k5]; rfl
        rw [if_neg k5, if_neg k5]
        by_cases k6 : e.Kind = 6
        · rw [if_pos k6, if_pos k6]; rfl
        have k7 : e.Kind = 7 := by omega
        rw [if_neg k6, if_neg k6, if_pos k7]
        by_cases hr : p.Role = 2
        · rw [if_pos hr, if_pos hr]
          unfold vwz
          by_cases hb1 : 1000 < (e.Data.length : Int)
          · rw [if_pos hb1, if_pos rfl, if_pos (Or.inl hb1)]
          rw [if_neg hb1]
          by_cases hb2 : 100 ≤ (p.Log.length : Int)
          · rw [if_pos (by rw [decide_eq_true hb2]), if_pos (Or.inr hb2)]
          rw [if_neg (by rw [decide_eq_false hb2]; decide), if_neg (fun hh => hh.elim hb1 hb2), cP (by omega), clone_b (by omega), obind_some, cP (by simp; omega)]
          have hmt : idx p.Match e.N = some (atI p.Match e.N) := by
            conv => lhs; rw [hNN]
            rw [hNN]; exact xS (atI_get (by rw [hpo.mlen hr]; exact hi))
          rw [hmt, obind_some]
          have hg : (mGrown e.N.toNat p e.Data).Log.length = p.Log.length + 1 := by unfold mGrown; simp
          have hdg : DBl (mGrown e.N.toNat p e.Data).Log := fun r hr => by
            rcases List.mem_append.1 hr with hr | hr
            · exact hdl r hr
            · rw [List.mem_singleton.1 hr]; show e.Data.length ≤ 1000; omega
          have := commit_m (c := { c with Peers := c.Peers.set e.N.toNat (mGrown e.N.toNat p e.Data) }) (i := e.N.toNat) (p := mGrown e.N.toNat p e.Data) (gS hp) hpo.com0 (by rw [hg]; have := hpo.com1; show p.Commit ≤ _; omega) (by omega) (by unfold mGrown; simp; exact hpo.mat) (by simp; omega) hdg h.chosen
          rw [← hNN] at this
          have e3 : ((p.Log ++ ([({ Term := p.Term, Index := ((p.Log.length : Int) + 1), Data := e.Data } : GR)] : List GR)).length : Int) = (p.Log.length : Int) + 1 := by simp
          rw [e3]
          refine (congrArg (fun o => Option.bind o (fun x : GC => some (x, (0 : Int)))) this).trans ?_
          rfl
        · rw [if_neg hr, if_neg hr]
    · rw [if_pos (by rw [decide_eq_false hN]; rfl), if_neg hN]
  · rw [if_neg (by rw [decide_eq_false k]; decide), if_neg k]
end Go.Proofs.YtlpcdcpcfeaecaaAb
end
section
namespace Go.Proofs.YtlpcdcpcfeaecaaAb
open Go
theorem event_J0 {c : GC} {e : GE} (h : ClOk c) (hd : DBc c) (hk : EvOk c e) (b : Bool) (hb : b = decide (e.Kind = 2 ∨ e.Kind = 3 ∨ e.Kind = 4)) :
    vuz c e b = some (mEvent c e) := by
  have hn := h.net
  unfold vuz mEvent
  subst hb
  by_cases k : e.Kind = 2 ∨ e.Kind = 3 ∨ e.Kind = 4
  · rw [if_pos (by rw [decide_eq_true k]), if_pos k, cP (by omega), within_l, obind_some]
    by_cases hN : 0 ≤ e.N ∧ e.N ≤ (c.Net.length : Int) - 1
    · rw [if_neg (by rw [decide_eq_true hN]; decide), if_pos hN]
      have hi : e.N.toNat < c.Net.length := by omega
      have hp : c.Net[e.N.toNat]? = some c.Net[e.N.toNat] := List.getElem?_eq_getElem hi
      have hmem := List.getElem_mem hi
      generalize c.Net[e.N.toNat] = m at hp hmem
      have hNN : e.N = (e.N.toNat : Int) := by omega
      have hpi : idx c.Net e.N = some m := by rw [hNN]; exact xS hp
      rw [hpi, obind_some]
      unfold mNetEv
      rw [hp]
      dsimp only
      have hmo := h.msgs m hmem
      have hdm := hd.net m hmem
      have hl := hmo.logl
      by_cases k4 : e.Kind = 4
      · rw [if_pos k4, if_pos k4]
        refine (congrArg (fun o => Option.bind o (fun x : GC => some (x, (0 : Int)))) (send_m (c := c) (m := m) (by omega) hdm)).trans ?_
        rfl
      · rw [if_neg k4, if_neg k4, cP (by omega)]
        unfold v29z
        rw [cP ⟨hN.1, rfl, by omega⟩, obind_some]
        by_cases k2 : e.Kind = 2
        · rw [if_pos k2, if_pos k2]
          have hti : m.To.toNat < c.Peers.length := by have := hmo.to; omega
          have hpp : c.Peers[m.To.toNat]? = some c.Peers[m.To.toNat] := List.getElem?_eq_getElem hti
          obtain ⟨ho1, ho2⟩ := hk k2 m hp _ hpp
          have := arrive_m (m := m) (c := mCut c e.N.toNat) h.n hpp hmo (h.peers _ (List.getElem_mem hti)) ho1 ho2 (hd.peers _ (List.getElem_mem hti)) hdm h.chosen
          refine (congrArg (fun o => Option.bind o (fun x : GC => some (x, (0 : Int)))) this).trans ?_
          rfl
        · rw [if_neg k2, if_neg k2]; rfl
    · rw [if_pos (by rw [decide_eq_false hN]; rfl), if_neg hN]
  · rw [if_neg (by rw [decide_eq_false k]; decide), if_neg k]
    by_cases k1 : e.Kind = 1
    · rw [if_pos k1]; exact event_J1 h hd _ (by rw [k1]; rfl)
    rw [if_neg k1]
    by_cases k5 : e.Kind = 5
    · rw [if_pos k5]; exact event_J1 h hd _ (by rw [k5]; rfl)
    rw [if_neg k5]
    by_cases k6 : e.Kind = 6
    · rw [if_pos k6]; exact event_J1 h hd _ (by rw [k6]; rfl)
    rw [if_neg k6]
    exact event_J1 h hd _ (by simp [k1, k5, k6])
theorem event_m {c : GC} {e : GE} (h : ClOk c) (hd : DBc c) (hk : EvOk c e) : vtz c e = some (mEvent c e) := by
  unfold vtz
  by_cases k2 : e.Kind = 2
  · rw [if_pos k2]; exact event_J0 h hd hk _ (by rw [k2]; rfl)
  rw [if_neg k2]
  by_cases k3 : e.Kind = 3
  · rw [if_pos k3]; exact event_J0 h hd hk _ (by rw [k3]; rfl)
  rw [if_neg k3]
  exact event_J0 h hd hk _ (by simp [k2, k3])
theorem DBc.event {c : GC} {e : GE} (h : DBc c) : DBc (mEvent c e).1 := by
  unfold mEvent
  split
  · split
    · unfold mNetEv
      split
      · exact h
      · next m hm =>
        have hdm : DBl m.Log := h.net m (List.mem_of_getElem? hm)
        have hcut : DBc (mCut c e.N.toNat) := ⟨h.peers, fun x hx => by
          rcases List.mem_append.1 hx with hx | hx
          · exact h.net x (List.mem_of_mem_take hx)
          · exact h.net x (List.mem_of_mem_drop hx), h.chosen⟩
        split
        · exact h.send hdm
        · split
          · exact hcut.arrive hdm
          · exact hcut
    · exact h
  · split
    · split
      · unfold mPeerEv
        split
        · exact h
        · next p hp =>
          have hdp : DBl p.Log := h.peers p (List.mem_of_getElem? hp)
          split
          · exact h
          split
          · exact h.tick hdp
          split
          · exact h.set (p := mDown p) hdp
          split
          · exact h.set (p := { p with Up := true }) hdp
          split
          · split
            · exact h
            · next hb =>
              have hg : DBl (mGrown e.N.toNat p e.Data).Log := fun r hr => by
                rcases List.mem_append.1 hr with hr | hr
                · exact hdp r hr
                · rw [List.mem_singleton.1 hr]; show e.Data.length ≤ 1000; omega
              exact (h.set hg).commit hg
          · exact h
      · exact h
    · exact h
theorem told_L1 {c : GC} {ps : List GP} {ch : List GR} (hn : c.Net.length ≤ 1000) (hd : ∀ m ∈ c.Net, DBl m.Log) (hl : ∀ m ∈ c.Net, m.Log.length ≤ 1000) :
    v1dz c ps ch BIG 0 [] = some { c with Peers := ps, Chosen := ch } := by
  have key : ∀ (m k i : Nat) (acc : List GM), c.Net.length - i = m → m + 1 ≤ k → i ≤ c.Net.length → acc = c.Net.take i → v1dz c ps ch k (i : Int) acc = some { c with Peers := ps, Chosen := ch } := by
    intro m
    induction m with
    | zero =>
      intro k i acc hm hk hi ha
      obtain ⟨k, rfl⟩ : ∃ j, k = j + 1 := ⟨k - 1, by omega⟩
      rw [v1dz, if_neg (by omega), ha, List.take_of_length_le (by omega)]
    | succ m ih =>
      intro k i acc hm hk hi ha
      obtain ⟨k, rfl⟩ : ∃ j, k = j + 1 := ⟨k - 1, by omega⟩
      have hlt : i < c.Net.length := by omega
      have hmm := List.getElem_mem hlt
      have h1 := hl _ hmm
      have hlen : acc.length = i := by rw [ha, List.length_take]; omega
      rw [v1dz, if_pos (by omega), xN hlt, obind_some]
      refine (congrArg (fun o => Option.bind o _) (copied_m (m := c.Net[i]) (by omega) (hd _ hmm))).trans ?_
      rw [obind_some, cP (by simp; omega), cP (by omega), show ((i : Int) + 1) = ((i + 1 : Nat) : Int) by omega]
      exact ih k (i + 1) _ (by omega) (by omega) (by omega) (by rw [ha, List.take_succ_eq_append_getElem hlt])
  exact key c.Net.length BIG 0 [] (by omega) (by rw [BIG_eq]; omega) (by omega) (by simp)
theorem told_m {c : GC} (hn : c.Net.length ≤ 1000) (hpn : c.Peers.length ≤ 1000) (hd : DBc c) (hl : ∀ m ∈ c.Net, m.Log.length ≤ 1000) (hp : ∀ p ∈ c.Peers, p.Log.length ≤ 1000 ∧ p.Votes.length ≤ 1000 ∧ p.Next.length ≤ 1000 ∧ p.Match.length ≤ 1000) (hc : c.Chosen.length ≤ 100000) :
    v1bz c = some c := by
  unfold v1bz
  rw [copyRecs_o (by omega) hd.chosen, obind_some]
  have key : ∀ (m k i : Nat) (acc : List GP), c.Peers.length - i = m → m + 1 ≤ k → i ≤ c.Peers.length → acc = c.Peers.take i → v1cz c c.Chosen k (i : Int) acc = some c := by
    intro m
    induction m with
    | zero =>
      intro k i acc hm hk hi ha
      obtain ⟨k, rfl⟩ : ∃ j, k = j + 1 := ⟨k - 1, by omega⟩
      rw [v1cz, if_neg (by omega), ha, List.take_of_length_le (by omega)]
      exact told_L1 hn hd.net hl
    | succ m ih =>
      intro k i acc hm hk hi ha
      obtain ⟨k, rfl⟩ : ∃ j, k = j + 1 := ⟨k - 1, by omega⟩
      have hlt : i < c.Peers.length := by omega
      have hmm := List.getElem_mem hlt
      obtain ⟨h1, h2, h3, h4⟩ := hp _ hmm
      have hlen : acc.length = i := by rw [ha, List.length_take]; omega
      rw [v1cz, if_pos (by omega), xN hlt, obind_some, copyRecs_o (by omega) (hd.peers _ hmm), obind_some, clone_bool (by omega), obind_some, clone_int (by omega), obind_some, clone_int (by omega), obind_some, cP (by simp; omega), cP (by omega), show ((i : Int) + 1) = ((i + 1 : Nat) : Int) by omega]
      exact ih k (i + 1) _ (by omega) (by omega) (by omega) (by rw [ha, List.take_succ_eq_append_getElem hlt])
  exact key c.Peers.length BIG 0 [] (by omega) (by rw [BIG_eq]; omega) (by omega) (by simp)
end Go.Proofs.YtlpcdcpcfeaecaaAb
end
section
namespace Go.Proofs.YtlpcdcpcfeaecaaAb
open Go
end Go.Proofs.YtlpcdcpcfeaecaaAb
end
section
namespace Go.Proofs.YtlpcdcpcfeaecaaAb
open Go
abbrev Wc (c : GC) : GL := { c := c }
theorem sMaj_m {n : Nat} (h1 : 1 ≤ n) (h : n ≤ 7) : v2lz (n : Int) = some ((n : Int) / 2 + 1) := by
  unfold v2lz v2mz
  rw [if_neg (by omega), if_neg (by rw [decide_eq_false (by omega)]; decide), cP (by omega), cP (by omega)]
theorem sCopy_m {r : GR} (h : DBr r) : v3gz r = some r := by
  unfold v3gz
  rw [cP (by have : r.Data.length ≤ 1000 := h; simp; omega)]
  rfl
theorem sameR_comm (a b : GR) : sameR a b = sameR b a := by
  unfold sameR
  rw [decide_eq_decide.2 (Iff.intro Eq.symm Eq.symm : a.Term = b.Term ↔ b.Term = a.Term), decide_eq_decide.2 (Iff.intro Eq.symm Eq.symm : a.Index = b.Index ↔ b.Index = a.Index), decide_eq_decide.2 (Iff.intro Eq.symm Eq.symm : a.Data = b.Data ↔ b.Data = a.Data)]
theorem sSame_m (a b : GR) : v4xz a b = some (sameR a b) := by
  unfold v4xz sameR
  by_cases h1 : a.Term = b.Term
  · rw [if_pos h1]
    by_cases h2 : a.Index = b.Index
    · rw [if_pos h2, decide_eq_true h1, decide_eq_true h2]; rfl
    · rw [if_neg h2, decide_eq_false h2, decide_eq_true h1]; rfl
  · rw [if_neg h1, decide_eq_false h1]; rfl
theorem sSend_m {c : GC} {m : GM} : v4qz (Wc c) m = some (Wc (mSend c m)) := by
  unfold v4qz mSend
  by_cases h : c.Net.length < 200
  · rw [if_pos (show ((Wc c).c.Net.length : Int) < 200 by show (c.Net.length : Int) < 200; omega), if_pos h, cP (by show (([] : List GM).length : Int) + (c.Net.length : Int) ≤ _; simp; omega), cP (by show ((([] : List GM) ++ c.Net).length : Int) + _ ≤ _; simp; omega)]
    rfl
  · rw [if_neg (show ¬ ((Wc c).c.Net.length : Int) < 200 by show ¬ (c.Net.length : Int) < 200; omega), if_neg h]
theorem sChosen_L {c : GC} {p : GP} (h0 : 0 ≤ p.Commit) (h1 : p.Commit ≤ p.Log.length) (hx : p.Log.length ≤ 1000) (hd : DBl p.Log) : ∀ (m k i : Nat) (ch : List GR) (cf : Bool), p.Commit.toNat - i = m → m + 1 ≤ k → i ≤ p.Commit.toNat → i ≤ ch.length → ch.length ≤ 100000 + i →
    v3yz p (Wc c) k (i : Int) ch cf = some (Wc { c with Chosen := (chooseL ((p.Log.take p.Commit.toNat).drop i) i ch cf).1, Conflict := (chooseL ((p.Log.take p.Commit.toNat).drop i) i ch cf).2 }) := by
  have hlen : (p.Log.take p.Commit.toNat).length = p.Commit.toNat := by rw [List.length_take]; omega
  intro m
  induction m with
  | zero =>
    intro k i ch cf hm hk hi hc hl
    obtain ⟨k, rfl⟩ : ∃ j, k = j + 1 := ⟨k - 1, by omega⟩
    rw [v3yz, if_neg (by omega), List.drop_of_length_le (by omega)]
    rfl
  | succ m ih =>
    intro k i ch cf hm hk hi hc hl
    obtain ⟨k, rfl⟩ : ∃ j, k = j + 1 := ⟨k - 1, by omega⟩
    have hlt : i < p.Log.length := by omega
    have e : ((i : Int) + 1) = ((i + 1 : Nat) : Int) := by omega
    have hd1 : DBr p.Log[i] := hd _ (List.getElem_mem hlt)
    have hge : (p.Log.take p.Commit.toNat)[i]'(by omega) = p.Log[i] := List.getElem_take
    rw [v3yz, if_pos (by omega), List.drop_eq_getElem_cons (by omega), hge]
    unfold chooseL
    by_cases h2 : i = ch.length
    · rw [if_pos (by omega), if_pos h2, xN hlt, obind_some]
      refine (congrArg (fun o => Option.bind o _) (sCopy_m hd1)).trans ?_
      rw [obind_some, cP (by simp; omega)]
      unfold v3xz v3wz
      rw [xN (by simp; omega), obind_some, xN hlt, obind_some]
      have hg : (ch ++ [p.Log[i]])[i]'(by simp; omega) = p.Log[i] := by subst h2; simp
      refine (congrArg (fun o => Option.bind o _) (sSame_m ((ch ++ [p.Log[i]])[i]'(by simp; omega)) p.Log[i])).trans ?_
      rw [obind_some, hg, sameR_self, if_neg (by decide), cP (by omega), e]
      exact ih k (i + 1) _ _ (by omega) (by omega) (by omega) (by simp; omega) (by simp; omega)
    · have h3 : i < ch.length := by omega
      rw [if_neg (by omega), if_neg h2]
      unfold v3xz v3wz
      rw [xN h3, obind_some, xN hlt, obind_some]
      refine (congrArg (fun o => Option.bind o _) (sSame_m ch[i] p.Log[i])).trans ?_
      rw [obind_some, List.getElem?_eq_getElem h3]
      simp only [Option.map_some, Option.getD_some]
      rw [sameR_comm p.Log[i] ch[i]]
      cases hs : sameR ch[i] p.Log[i]
      · rw [if_pos (by rfl), cP (by omega), e, ih k (i + 1) _ _ (by omega) (by omega) (by omega) (by omega) (by omega)]
        simp
      · rw [if_neg (by simp), cP (by omega), e, ih k (i + 1) _ _ (by omega) (by omega) (by omega) (by omega) (by omega)]
        simp
theorem sChosen_m {c : GC} {i : Nat} {p : GP} (hp : c.Peers[i]? = some p) (h0 : 0 ≤ p.Commit) (h1 : p.Commit ≤ p.Log.length) (hl : p.Log.length ≤ 1000) (hd : DBl p.Log) (hc : c.Chosen.length ≤ 100000) :
    v3vz (Wc c) (i : Int) = some (Wc (mChoose c p)) := by
  unfold v3vz
  refine (congrArg (fun o => Option.bind o _) (xS hp)).trans ?_
  rw [obind_some]
  have := sChosen_L (c := c) (p := p) h0 h1 hl hd _ BIG 0 c.Chosen c.Conflict rfl (by rw [BIG_eq]; omega) (by omega) (by omega) (by omega)
  rw [List.drop_zero] at this
  exact this
theorem sTerm_at {p : GP} {n : Nat} (h : n + 1 ≤ p.Log.length) : ∃ r, idx p.Log (((n + 1 : Nat) : Int) - 1) = some r ∧ r.Term = termAt p.Log ((n + 1 : Nat) : Int) := by
  have e : ((n + 1 : Nat) : Int) - 1 = (n : Int) := by omega
  refine ⟨p.Log[n]'(by omega), by rw [e, xN (by omega)], ?_⟩
  unfold termAt
  rw [if_neg (by omega), e, Int.toNat_natCast, List.getElem?_eq_getElem (by omega)]
  rfl
theorem sTerm_m {p : GP} {i : Int} (h0 : 0 ≤ i) (h1 : i ≤ p.Log.length) (hl : p.Log.length ≤ 1000000) : v4yz p i = some (termAt p.Log i) := by
  unfold v4yz termAt
  by_cases h : i = 0
  · rw [if_pos h, if_pos h]
  · rw [if_neg h, if_neg h, cP (by omega), idx_pos (by omega) (by omega), obind_some, List.getElem?_eq_getElem (by omega)]
    rfl
theorem sLast_m {p : GP} (hl : p.Log.length ≤ 1000000) : v3hz p = some ((p.Log.length : Int), termAt p.Log p.Log.length) := by
  unfold v3hz
  by_cases h : (p.Log.length : Int) = 0
  · rw [if_pos h, h]; rfl
  · obtain ⟨n, hn⟩ : ∃ n, p.Log.length = n + 1 := ⟨p.Log.length - 1, by omega⟩
    obtain ⟨r, h1, h2⟩ := sTerm_at (p := p) (n := n) (by omega)
    rw [← hn] at h1 h2
    rw [if_neg h, cP (by omega), h1, obind_some, h2]
theorem sCommit_L2 {p : GP} {n : Int} {c : GC} {i : Int} {rc1 : Int → Option GL} (hM : p.Match.length ≤ 1000) : ∀ (m k j t : Nat), p.Match.length - j = m → m + 1 ≤ k → j ≤ p.Match.length → t ≤ j →
    v44z p n (Wc c) i rc1 k (t : Int) (j : Int) = (v2lz (c.Peers.length : Int)).bind fun q =>
      if q ≤ ((t + cntGe n (p.Match.drop j) : Nat) : Int) then chk (-9223372036854775808 ≤ n - 1 ∧ n - 1 < 9223372036854775808) ((idx p.Log (n - 1)).bind fun x => v42z (Wc c) i p n rc1 (decide (x.Term = p.Term))) else v42z (Wc c) i p n rc1 false := by
  intro m
  induction m with
  | zero =>
    intro k j t hm hk hj ht
    obtain ⟨k, rfl⟩ : ∃ j, k = j + 1 := ⟨k - 1, by omega⟩
    rw [v44z, if_neg (by omega), List.drop_of_length_le (by omega)]
    rfl
  | succ m ih =>
    intro k j t hm hk hj ht
    obtain ⟨k, rfl⟩ : ∃ j, k = j + 1 := ⟨k - 1, by omega⟩
    have hlt : j < p.Match.length := by omega
    have e : ((j : Int) + 1) = ((j + 1 : Nat) : Int) := by omega
    have e2 : ((t : Int) + 1) = ((t + 1 : Nat) : Int) := by omega
    rw [v44z, if_pos (by omega), xN hlt, obind_some, List.drop_eq_getElem_cons hlt]
    unfold v41z
    by_cases hx : n ≤ p.Match[j]
    · rw [if_pos hx, cP (by omega), cP (by omega), e, e2, ih k (j + 1) (t + 1) (by omega) (by omega) (by omega) (by omega)]
      unfold cntGe
      rw [if_pos hx, show t + (cntGe n (p.Match.drop (j + 1)) + 1) = t + 1 + cntGe n (p.Match.drop (j + 1)) by omega]
      cases p.Match.drop (j + 1) <;> rfl
    · rw [if_neg hx, cP (by omega), e, ih k (j + 1) t (by omega) (by omega) (by omega) (by omega)]
      conv => rhs; unfold cntGe
      rw [if_neg hx]
theorem sCommit_L1 {p : GP} {c : GC} {i : Int} (hM : p.Match.length ≤ 1000) (hl : p.Log.length ≤ 1000) (hn1 : 1 ≤ c.Peers.length) (hn : c.Peers.length ≤ 7) (h0 : 0 ≤ p.Commit) : ∀ (n k : Nat), n + 1 ≤ k → n ≤ p.Log.length →
    v43z p (Wc c) i k (n : Int) = v40z (Wc c) i (match mCidx p (mMost c) n with | some a => setI c.Peers i { p with Commit := (a : Int) } | none => c.Peers) := by
  intro n
  induction n with
  | zero =>
    intro k hk hj
    obtain ⟨k, rfl⟩ : ∃ j, k = j + 1 := ⟨k - 1, by omega⟩
    rw [v43z, if_neg (by omega)]; rfl
  | succ n ih =>
    intro k hk hj
    obtain ⟨k, rfl⟩ : ∃ j, k = j + 1 := ⟨k - 1, by omega⟩
    rw [v43z]
    unfold mCidx
    by_cases h1 : p.Commit < ((n + 1 : Nat) : Int)
    · rw [if_pos h1, if_pos h1]
      have := sCommit_L2 (p := p) (n := ((n + 1 : Nat) : Int)) (c := c) (i := i) (rc1 := v43z p (Wc c) i k) hM _ BIG 0 0 rfl (by rw [BIG_eq]; omega) (by omega) (by omega)
      rw [List.drop_zero, Nat.zero_add] at this
      refine this.trans ?_
      rw [sMaj_m hn1 hn, obind_some, show (c.Peers.length : Int) / 2 + 1 = mMost c from rfl]
      have e : (((n + 1 : Nat) : Int) - 1) = (n : Int) := by omega
      by_cases h2 : mMost c ≤ (cntGe ((n + 1 : Nat) : Int) p.Match : Int)
      · obtain ⟨r, hr1, hr2⟩ := sTerm_at (p := p) (n := n) hj
        rw [if_pos h2, cP (by omega), hr1, obind_some, hr2]
        unfold v42z
        by_cases h3 : termAt p.Log ((n + 1 : Nat) : Int) = p.Term
        · rw [if_pos (by rw [decide_eq_true h3]), if_pos ⟨h2, h3⟩]
        · rw [if_neg (by rw [decide_eq_false h3]; decide), if_neg (fun h => h3 h.2), cP (by omega), e, ih k (by omega) (by omega)]
      · rw [if_neg h2, if_neg (fun h => h2 h.1)]
        unfold v42z
        rw [if_neg (by decide), cP (by omega), e, ih k (by omega) (by omega)]
    · rw [if_neg h1, if_neg h1]
theorem sCommit_m {c : GC} {i : Nat} {p : GP} (hp : c.Peers[i]? = some p) (h0 : 0 ≤ p.Commit) (h1 : p.Commit ≤ p.Log.length) (hl : p.Log.length ≤ 1000) (hM : p.Match.length ≤ 1000) (hn1 : 1 ≤ c.Peers.length) (hn : c.Peers.length ≤ 7) (hd : DBl p.Log) (hc : c.Chosen.length ≤ 100000) :
    v3zz (Wc c) (i : Int) = some (Wc (mCommit c i p)) := by
  unfold v3zz
  refine (congrArg (fun o => Option.bind o _) (xS hp)).trans ?_
  rw [obind_some, sCommit_L1 hM hl hn1 hn h0 _ BIG (by rw [BIG_eq]; omega) (Nat.le_refl _)]
  have e : (match mCidx p (mMost c) p.Log.length with | some a => setI c.Peers (i : Int) { p with Commit := (a : Int) } | none => c.Peers) = c.Peers.set i (mCommitP (mMost c) p) := by
    unfold mCommitP
    cases mCidx p (mMost c) p.Log.length with
    | some a => rfl
    | none => exact (set_self hp).symm
  rw [e]
  unfold v40z
  have hb := mCommitP_ge (q := mMost c) h0 h1
  refine (congrArg (fun o => Option.bind o _) (sChosen_m (c := { c with Peers := c.Peers.set i (mCommitP (mMost c) p) }) (p := mCommitP (mMost c) p) (gS hp) (by omega) (by rw [mCommitP_log]; omega) (by rw [mCommitP_log]; omega) (by rw [mCommitP_log]; exact hd) hc)).trans ?_
  rw [obind_some]
  rfl
theorem sAppend_L {p : GP} {nx : Int} {c : GC} {i t : Int} (h1 : 1 ≤ nx) (h2 : nx ≤ p.Log.length + 1) (hl : p.Log.length ≤ 1000000) (hd : DBl p.Log) : ∀ (m k j : Nat) (acc : List GR), p.Log.length - j = m → m + 1 ≤ k → j ≤ p.Log.length → acc.length ≤ j →
    v3oz p nx (Wc c) i t k acc ((j : Int) + 1) = some (Wc (mSend c { Kind := 3, From := i, To := t, Term := p.Term, A := nx - 1, B := termAt p.Log (nx - 1), C := p.Commit, Ok := false, Log := acc ++ p.Log.drop j })) := by
  intro m
  induction m with
  | zero =>
    intro k j acc hm hk hj ha
    obtain ⟨k, rfl⟩ : ∃ j, k = j + 1 := ⟨k - 1, by omega⟩
    rw [v3oz, if_neg (by omega), cP (by omega), cP (by omega)]
    refine (congrArg (fun o => Option.bind o _) (sTerm_m (p := p) (i := nx - 1) (by omega) (by omega) hl)).trans ?_
    rw [obind_some]
    refine (congrArg (fun o => Option.bind o _) (sSend_m (c := c))).trans ?_
    rw [obind_some, List.drop_of_length_le (by omega), List.append_nil]
  | succ m ih =>
    intro k j acc hm hk hj ha
    obtain ⟨k, rfl⟩ : ∃ j, k = j + 1 := ⟨k - 1, by omega⟩
    have hlt : j < p.Log.length := by omega
    have e : ((j : Int) + 1 - 1) = (j : Int) := by omega
    have e2 : ((j : Int) + 1 + 1) = ((j + 1 : Nat) : Int) + 1 := by omega
    rw [v3oz, if_pos (by omega), cP (by omega), e, xN hlt, obind_some]
    refine (congrArg (fun o => Option.bind o _) (sCopy_m (hd _ (List.getElem_mem hlt)))).trans ?_
    rw [obind_some, cP (by simp; omega), cP (by omega), e2]
    refine (ih k (j + 1) _ (by omega) (by omega) (by omega) (by simp; omega)).trans ?_
    rw [List.drop_eq_getElem_cons hlt, List.append_assoc]
    rfl
theorem sAppend_m {c : GC} {i t : Nat} {p : GP} {nx : Int} (hp : c.Peers[i]? = some p) (ht : p.Next[t]? = some nx) (h1 : 1 ≤ nx) (h2 : nx ≤ p.Log.length + 1) (hl : p.Log.length ≤ 1000000) (hd : DBl p.Log) :
    v3nz (Wc c) (i : Int) (t : Int) = some (Wc (mRecords c i p t)) := by
  unfold v3nz mRecords
  refine (congrArg (fun o => Option.bind o _) (xS hp)).trans ?_
  rw [obind_some, xS ht, obind_some, ht, Option.getD_some]
  obtain ⟨j, rfl⟩ : ∃ j : Nat, nx = (j : Int) + 1 := ⟨(nx - 1).toNat, by omega⟩
  rw [sAppend_L (c := c) h1 h2 hl hd _ BIG j [] rfl (by rw [BIG_eq]; omega) (by omega) (by simp)]
  rw [List.nil_append, show ((j : Int) + 1 - 1).toNat = j by omega]
end Go.Proofs.YtlpcdcpcfeaecaaAb
end
section
namespace Go.Proofs.YtlpcdcpcfeaecaaAb
open Go
theorem from_loopG {β : Type} {n i : Nat} {F : Nat → Int → List GP → List GM → List GR → Bool → Option β} {g : GC → Nat → GC} {fin : GC → Option β} {I : GC → Prop} (hn : n ≤ 1000)
    (hI : ∀ d j, I d → I (g d j))
    (hs : ∀ k j d, I d → j < n → j = i → F (k + 1) (j : Int) d.Peers d.Net d.Chosen d.Conflict = F k ((j + 1 : Nat) : Int) d.Peers d.Net d.Chosen d.Conflict)
    (hg : ∀ k j d, I d → j < n → j ≠ i → F (k + 1) (j : Int) d.Peers d.Net d.Chosen d.Conflict = F k ((j + 1 : Nat) : Int) (g d j).Peers (g d j).Net (g d j).Chosen (g d j).Conflict)
    (he : ∀ k j d, I d → n ≤ j → F (k + 1) (j : Int) d.Peers d.Net d.Chosen d.Conflict = fin d) (d : GC) (hd : I d) :
    F BIG 0 d.Peers d.Net d.Chosen d.Conflict = fin (mFrom g i n 0 d) := by
  have key : ∀ (m k j : Nat) (d : GC), n - j = m → m + 1 ≤ k → I d → F k (j : Int) d.Peers d.Net d.Chosen d.Conflict = fin (mFrom g i m j d) := by
    intro m
    induction m with
    | zero =>
      intro k j d hm hk hd
      obtain ⟨k, rfl⟩ : ∃ j, k = j + 1 := ⟨k - 1, by omega⟩
      rw [he k j d hd (by omega)]; rfl
    | succ m ih =>
      intro k j d hm hk hd
      obtain ⟨k, rfl⟩ : ∃ j, k = j + 1 := ⟨k - 1, by omega⟩
      unfold mFrom
      by_cases hji : j = i
      · rw [hs k j d hd (by omega) hji, if_pos hji]
        exact ih k (j + 1) d (by omega) (by omega) hd
      · rw [hg k j d hd (by omega) hji, if_neg hji]
        exact ih k (j + 1) _ (by omega) (by omega) (hI _ _ hd)
  exact key n BIG 0 d (by omega) (by rw [BIG_eq]; omega) hd
theorem sElected_L0 {p : GP} {c : GC} {i : Int} (hM : p.Votes.length ≤ 1000) : ∀ (m k j t : Nat), p.Votes.length - j = m → m + 1 ≤ k → j ≤ p.Votes.length → t ≤ j →
    v4hz p (Wc c) i k (t : Int) (j : Int) = if p.Role = 1 then (v2lz (c.Peers.length : Int)).bind fun q => v4fz (Wc c) i p (decide (((t + cntT (p.Votes.drop j) : Nat) : Int) < q)) else v4fz (Wc c) i p true := by
  intro m
  induction m with
  | zero =>
    intro k j t hm hk hj ht
    obtain ⟨k, rfl⟩ : ∃ j, k = j + 1 := ⟨k - 1, by omega⟩
    rw [v4hz, if_neg (by omega), List.drop_of_length_le (by omega)]
    rfl
  | succ m ih =>
    intro k j t hm hk hj ht
    obtain ⟨k, rfl⟩ : ∃ j, k = j + 1 := ⟨k - 1, by omega⟩
    have hlt : j < p.Votes.length := by omega
    have e : ((j : Int) + 1) = ((j + 1 : Nat) : Int) := by omega
    have e2 : ((t : Int) + 1) = ((t + 1 : Nat) : Int) := by omega
    rw [v4hz, if_pos (by omega), xN hlt, obind_some, List.drop_eq_getElem_cons hlt]
    unfold v4ez
    by_cases hx : p.Votes[j] = true
    · rw [if_pos hx, cP (by omega), cP (by omega), e, e2, ih k (j + 1) (t + 1) (by omega) (by omega) (by omega) (by omega)]
      conv => rhs; unfold cntT
      rw [if_pos hx, show t + (cntT (p.Votes.drop (j + 1)) + 1) = t + 1 + cntT (p.Votes.drop (j + 1)) by omega]
    · rw [if_neg hx, cP (by omega), e, ih k (j + 1) t (by omega) (by omega) (by omega) (by omega)]
      conv => rhs; unfold cntT
      rw [if_neg hx]
def sLd (p : GP) (j : Nat) : GP := { p with Role := 2, Votes := [], Next := List.replicate j ((p.Log.length : Int) + 1), Match := List.replicate j (0 : Int) }
theorem sElected_L3 {c : GC} {i : Nat} {p : GP} (hi : i < c.Peers.length) (hn : c.Peers.length ≤ 1000) (hl : p.Log.length ≤ 1000) : ∀ (m k j : Nat), c.Peers.length - j = m → m + 1 ≤ k → j ≤ c.Peers.length →
    v4iz (Wc c) (i : Int) k (j : Int) (c.Peers.set i (sLd p j)) = (v3zz (Wc (mLead c i p)) (i : Int)).bind fun x => v4jz (Wc c) (i : Int) BIG 0 x.c.Peers x.c.Net x.c.Chosen x.c.Conflict := by
  have hget : ∀ z : GP, idx (c.Peers.set i z) (i : Int) = some z := fun z => by
    rw [xN (by simp; exact hi)]; simp
  have hset : ∀ y z : GP, setI (c.Peers.set i y) (i : Int) z = c.Peers.set i z := fun y z => by
    show (c.Peers.set i _).set i z = _
    rw [List.set_set]
  intro m
  induction m with
  | zero =>
    intro k j hm hk hj
    obtain ⟨k, rfl⟩ : ∃ j, k = j + 1 := ⟨k - 1, by omega⟩
    obtain rfl : j = c.Peers.length := by omega
    rw [v4iz, if_neg (show ¬ ((c.Peers.length : Int) < ((Wc c).c.Peers.length : Int)) from Int.lt_irrefl _), hget, obind_some, hset]
    refine (congrArg (fun o => Option.bind o _) (xN (xs := (sLd p c.Peers.length).Match) (j := i) (by unfold sLd; simp; exact hi))).trans ?_
    rw [obind_some]
    rfl
  | succ m ih =>
    intro k j hm hk hj
    obtain ⟨k, rfl⟩ : ∃ j, k = j + 1 := ⟨k - 1, by omega⟩
    have e : ((j : Int) + 1) = ((j + 1 : Nat) : Int) := by omega
    rw [v4iz, if_pos (show ((j : Int) < ((Wc c).c.Peers.length : Int)) by show (j : Int) < (c.Peers.length : Int); omega), hget, obind_some, hset,
      cP (show -9223372036854775808 ≤ ((sLd p j).Log.length : Int) + 1 ∧ ((sLd p j).Log.length : Int) + 1 < 9223372036854775808 by show -9223372036854775808 ≤ (p.Log.length : Int) + 1 ∧ (p.Log.length : Int) + 1 < 9223372036854775808; omega), cP (by unfold sLd; simp; omega), cP (by unfold sLd; simp; omega), cP (by omega), e]
    refine Eq.trans ?_ (ih k (j + 1) (by omega) (by omega) (by omega))
    congr 2
    unfold sLd
    simp only [List.replicate_succ']
theorem sElected_L4 {c d : GC} {i : Nat} {p : GP} (hp : d.Peers[i]? = some p) (hn : c.Peers.length ≤ 1000) (hdn : d.Peers.length = c.Peers.length) (hx : NextOk c.Peers.length p) (hl : p.Log.length ≤ 1000000) (hd : DBl p.Log) :
    v4jz (Wc c) (i : Int) BIG 0 d.Peers d.Net d.Chosen d.Conflict = some (Wc (mSendAll d i p)) := by
  unfold mSendAll; rw [hdn]
  refine from_loopG (F := fun k j a b cc e => v4jz (Wc c) (i : Int) k j a b cc e) (fin := fun d => some (Wc d)) (I := fun e => e.Peers = d.Peers) hn (fun e j h => by rw [← h]; exact mRecords_peers) (fun k j e he hj hji => ?_) (fun k j e he hj hji => ?_) (fun k j e he hj => ?_) d rfl
  · show v4jz _ _ (k + 1) _ _ _ _ _ = _
    rw [v4jz, if_pos (show ((j : Int) < ((Wc c).c.Peers.length : Int)) by show (j : Int) < (c.Peers.length : Int); omega), if_pos (by omega)]
    unfold v4gz
    rw [cP (by omega), show ((j : Int) + 1) = ((j + 1 : Nat) : Int) by omega]
  · obtain ⟨nx, h1, h2, h3⟩ := hx.get hj
    show v4jz _ _ (k + 1) _ _ _ _ _ = _
    rw [v4jz, if_pos (show ((j : Int) < ((Wc c).c.Peers.length : Int)) by show (j : Int) < (c.Peers.length : Int); omega), if_neg (by omega)]
    unfold v4gz
    refine (congrArg (fun o => Option.bind o _) (sAppend_m (c := e) (p := p) (by rw [he]; exact hp) h1 h2 h3 hl hd)).trans ?_
    rw [obind_some, cP (by omega), show ((j : Int) + 1) = ((j + 1 : Nat) : Int) by omega]
  · show v4jz _ _ (k + 1) _ _ _ _ _ = _
    rw [v4jz, if_neg (show ¬ ((j : Int) < ((Wc c).c.Peers.length : Int)) by show ¬ (j : Int) < (c.Peers.length : Int); omega)]
theorem sElected_m {c : GC} {i : Nat} {p : GP} (hp : c.Peers[i]? = some p) (hn : c.Peers.length ≤ 7) (hv : p.Votes.length ≤ 1000) (h0 : 0 ≤ p.Commit) (h1 : p.Commit ≤ p.Log.length) (hl : p.Log.length ≤ 1000) (hd : DBl p.Log) (hc : c.Chosen.length ≤ 100000) :
    v4dz (Wc c) (i : Int) = some (Wc (mElect c i p)) := by
  have hi : i < c.Peers.length := (List.getElem?_eq_some_iff.1 hp).1
  unfold v4dz mElect
  refine (congrArg (fun o => Option.bind o _) (xS hp)).trans ?_
  rw [obind_some]
  have := sElected_L0 (p := p) (c := c) (i := (i : Int)) hv _ BIG 0 0 rfl (by rw [BIG_eq]; omega) (by omega) (by omega)
  rw [List.drop_zero, Nat.zero_add] at this
  refine this.trans ?_
  by_cases hr : p.Role = 1
  · rw [if_pos hr, sMaj_m (by omega) hn, obind_some, show (c.Peers.length : Int) / 2 + 1 = mMost c from rfl]
    unfold v4fz
    by_cases hq : mMost c ≤ (cntT p.Votes : Int)
    · rw [if_neg (by rw [decide_eq_false (by omega)]; decide), if_pos ⟨hr, hq⟩]
      have hp2 : (mLead c i p).Peers[i]? = some (mLeader c.Peers.length i p) := gS hp
      have hL := sElected_L3 (c := c) (i := i) (p := p) hi (by omega) hl _ BIG 0 rfl (by rw [BIG_eq]; omega) (by omega)
      refine Eq.trans hL ?_
      have := sCommit_m (c := mLead c i p) (i := i) hp2 h0 h1 hl (by unfold mLeader; simp; omega) (by unfold mLead; simp; omega) (by unfold mLead; simp; omega) hd hc
      refine (congrArg (fun o => Option.bind o _) this).trans ?_
      rw [obind_some]
      have hx : NextOk c.Peers.length (mCommitP (mMost (mLead c i p)) (mLeader c.Peers.length i p)) := lead_next _
      have hlen : (mCommit (mLead c i p) i (mLeader c.Peers.length i p)).Peers.length = c.Peers.length := by
        unfold mCommit mLead; rw [mChoose_peers]; simp
      refine sElected_L4 (d := mCommit (mLead c i p) i (mLeader c.Peers.length i p)) ?_ (by omega) hlen hx ?_ ?_
      · unfold mCommit; rw [mChoose_peers]; exact gS hp2
      · rw [mCommitP_log]; exact (show p.Log.length ≤ 1000000 by omega)
      · rw [mCommitP_log]; exact hd
    · rw [if_pos (by rw [decide_eq_true (by omega)]), if_neg (fun h => hq h.2)]
  · rw [if_neg hr, if_neg (fun h => hr h.1)]
    unfold v4fz
    rw [if_pos rfl]
theorem sTick_L0 {c : GC} {i : Nat} {p : GP} (hp : c.Peers[i]? = some p) (hn : c.Peers.length ≤ 1000) (hx : NextOk c.Peers.length p) (hl : p.Log.length ≤ 1000000) (hd : DBl p.Log) :
    v4vz (Wc c) (i : Int) BIG 0 c.Peers c.Net c.Chosen c.Conflict = some (Wc (mSendAll c i p)) := by
  unfold mSendAll
  refine from_loopG (F := fun k j a b cc e => v4vz (Wc c) (i : Int) k j a b cc e) (fin := fun d => some (Wc d)) (I := fun e => e.Peers = c.Peers) hn (fun e j h => by rw [← h]; exact mRecords_peers) (fun k j e he hj hji => ?_) (fun k j e he hj hji => ?_) (fun k j e he hj => ?_) c rfl
  · show v4vz _ _ (k + 1) _ _ _ _ _ = _
    rw [v4vz, if_pos (show ((j : Int) < ((Wc c).c.Peers.length : Int)) by show (j : Int) < (c.Peers.length : Int); omega), if_pos (by omega)]
    unfold v4tz
    rw [cP (by omega), show ((j : Int) + 1) = ((j + 1 : Nat) : Int) by omega]
  · obtain ⟨nx, h1, h2, h3⟩ := hx.get hj
    show v4vz _ _ (k + 1) _ _ _ _ _ = _
    rw [v4vz, if_pos (show ((j : Int) < ((Wc c).c.Peers.length : Int)) by show (j : Int) < (c.Peers.length : Int); omega), if_neg (by omega)]
    unfold v4tz
    refine (congrArg (fun o => Option.bind o _) (sAppend_m (c := e) (p := p) (by rw [he]; exact hp) h1 h2 h3 hl hd)).trans ?_
    rw [obind_some, cP (by omega), show ((j : Int) + 1) = ((j + 1 : Nat) : Int) by omega]
  · show v4vz _ _ (k + 1) _ _ _ _ _ = _
    rw [v4vz, if_neg (show ¬ ((j : Int) < ((Wc c).c.Peers.length : Int)) by show ¬ (j : Int) < (c.Peers.length : Int); omega)]
theorem sTick_L2 {c e0 : GC} {i : Nat} {p : GP} (hp : e0.Peers[i]? = some p) (hn : c.Peers.length ≤ 1000) (hdn : e0.Peers.length = c.Peers.length) :
    v4wz (Wc c) (i : Int) ((p.Log.length : Int), termAt p.Log p.Log.length) BIG 0 e0.Peers e0.Net e0.Chosen e0.Conflict = v4dz (Wc (mAskAll e0 i p)) (i : Int) := by
  unfold mAskAll; rw [hdn]
  refine from_loopG (F := fun k j a b cc e => v4wz (Wc c) (i : Int) ((p.Log.length : Int), termAt p.Log p.Log.length) k j a b cc e) (fin := fun d => v4dz (Wc d) (i : Int)) (I := fun e => e.Peers = e0.Peers) hn (fun e j h => by rw [← h]; exact mSend_peers) (fun k j e he hj hji => ?_) (fun k j e he hj hji => ?_) (fun k j e he hj => ?_) e0 rfl
  · show v4wz _ _ _ (k + 1) _ _ _ _ _ = _
    rw [v4wz, if_pos (show ((j : Int) < ((Wc c).c.Peers.length : Int)) by show (j : Int) < (c.Peers.length : Int); omega), if_pos (by omega)]
    unfold v4uz
    rw [cP (by omega), show ((j : Int) + 1) = ((j + 1 : Nat) : Int) by omega]
  · show v4wz _ _ _ (k + 1) _ _ _ _ _ = _
    rw [v4wz, if_pos (show ((j : Int) < ((Wc c).c.Peers.length : Int)) by show (j : Int) < (c.Peers.length : Int); omega), if_neg (by omega)]
    unfold v4uz
    rw [xS (x := p) (by rw [he]; exact hp), obind_some]
    refine (congrArg (fun o => Option.bind o _) (sSend_m (c := e))).trans ?_
    rw [obind_some, cP (by omega), show ((j : Int) + 1) = ((j + 1 : Nat) : Int) by omega]
    rfl
  · show v4wz _ _ _ (k + 1) _ _ _ _ _ = _
    rw [v4wz, if_neg (show ¬ ((j : Int) < ((Wc c).c.Peers.length : Int)) by show ¬ (j : Int) < (c.Peers.length : Int); omega)]
    show (v4dz (Wc e) (i : Int)).bind _ = v4dz (Wc e) (i : Int)
    cases v4dz (Wc e) (i : Int) <;> rfl
theorem sTick_m {c : GC} {i : Nat} {p : GP} (hp : c.Peers[i]? = some p) (hn : c.Peers.length ≤ 7) (h2 : p.Role = 2 → NextOk c.Peers.length p) (ht : 0 ≤ p.Term ∧ p.Term ≤ 1000000) (hnm : p.Role ≠ 2 → p.Next = [] ∧ p.Match = []) (h0 : 0 ≤ p.Commit) (h1 : p.Commit ≤ p.Log.length) (hl : p.Log.length ≤ 1000) (hd : DBl p.Log) (hc : c.Chosen.length ≤ 100000) :
    v4sz (Wc c) (i : Int) = some (Wc (mTick c i p)) := by
  have hi : i < c.Peers.length := (List.getElem?_eq_some_iff.1 hp).1
  unfold v4sz mTick
  refine (congrArg (fun o => Option.bind o _) (xS hp)).trans ?_
  rw [obind_some]
  by_cases hr : p.Role = 2
  · rw [if_pos hr, if_pos hr]
    exact sTick_L0 hp (by omega) (h2 hr) (by omega) hd
  · rw [if_neg hr, if_neg hr]
    obtain ⟨e1, e2⟩ := hnm hr
    by_cases h3 : p.Term < 1000000
    · rw [if_neg (by omega), if_pos h3, cP (by omega), cP (by omega), cP (show (0 : Int) ≤ (c.Peers.length : Int) ∧ (c.Peers.length : Int) ≤ 68719476736 by omega)]
      refine (congrArg (fun o => Option.bind o _) (xN (xs := List.replicate ((Wc c).c.Peers.length : Int).toNat false) (j := i) (by simp; exact hi))).trans ?_
      rw [obind_some]
      have hp2 : (mStand c i p).Peers[i]? = some (mCand c.Peers.length i p) := gS hp
      have hlen : (mStand c i p).Peers.length = c.Peers.length := by unfold mStand; simp
      have ec : ({ Up := p.Up, Term := p.Term + 1, Vote := (i : Int) + 1, Commit := p.Commit, Role := 1, Log := p.Log, Votes := setI (List.replicate ((Wc c).c.Peers.length : Int).toNat false) (i : Int) true, Next := p.Next, Match := p.Match } : GP) = mCand c.Peers.length i p := by
        unfold mCand; rw [e1, e2]; rfl
      rw [ec]
      refine (congrArg (fun o => Option.bind o _) (sLast_m (p := mCand c.Peers.length i p) (show p.Log.length ≤ _ by omega))).trans ?_
      rw [obind_some]
      refine (sTick_L2 (c := c) (e0 := mStand c i p) hp2 (by omega) hlen).trans ?_
      refine sElected_m (by rw [mAskAll_peers]; exact hp2) (by rw [mAskAll_peers, hlen]; exact hn) (by unfold mCand; simp; omega) h0 h1 hl hd (by rw [mAskAll_chosen]; exact hc)
    · rw [if_pos (by omega), if_neg h3]
end Go.Proofs.YtlpcdcpcfeaecaaAb
end
section
namespace Go.Proofs.YtlpcdcpcfeaecaaAb
open Go
theorem setI_n {α : Type} {xs : List α} {i : Nat} {z : α} : setI xs (i : Int) z = xs.set i z := rfl
theorem sDown_m {c : GC} {m : GM} {i : Nat} {p : GP} (hp : c.Peers[i]? = some p) : v4bz (Wc c) (i : Int) m.Term = some (Wc { c with Peers := c.Peers.set i (mFollow m p) }) := by
  have hi : i < c.Peers.length := (List.getElem?_eq_some_iff.1 hp).1
  unfold v4bz
  refine (congrArg (fun o => Option.bind o _) (xS hp)).trans ?_
  rw [obind_some]
  unfold mFollow mFresh v4cz
  by_cases h : p.Term < m.Term
  · rw [if_pos h, if_pos h]
    refine (congrArg (fun o => Option.bind o _) (show idx (setI (Wc c).c.Peers (i : Int) ({ p with Term := m.Term, Vote := 0 } : GP)) (i : Int) = some { p with Term := m.Term, Vote := 0 } from by rw [setI_n]; exact xS (gS hp))).trans ?_
    rw [obind_some]
    show some (Wc { c with Peers := (c.Peers.set i _).set i _ }) = _
    rw [List.set_set]
  · rw [if_neg h, if_neg h]
    refine (congrArg (fun o => Option.bind o _) (xS hp)).trans ?_
    rw [obind_some]
    rfl
def sFin (m : GM) (c1 : GC) (q : GP) (t : Int) (l : List GR) : Option GL :=
  (v3vz (Wc { c1 with Peers := setI c1.Peers m.To { q with Commit := mnx (m.A + (m.Log.length : Int)) m.C q.Commit, Log := l } }) m.To).bind fun x =>
    (v4qz (Wc x.c) (mBack m t (m.A + (m.Log.length : Int)) true)).bind fun y => some (Wc y.c)
theorem takeL_snd : ∀ (rs l : List GR) (a : Int), (∀ (j : Nat) r, rs[j]? = some r → r.Index = a + (j : Int) + 1) → (takeL rs l a).2 = a + (rs.length : Int)
  | [], l, a, _ => by show a = a + ((0 : Nat) : Int); omega
  | r :: rs, l, a, h => by
    have h0 := h 0 r rfl
    unfold takeL
    dsimp only
    rw [takeL_snd rs _ r.Index (fun j r' hj => by rw [h (j + 1) r' hj]; omega)]
    simp only [List.length_cons]
    omega
theorem sApp_L1 {m : GM} {c1 : GC} {q p : GP} (ha : 0 ≤ m.A ∧ m.A ≤ 1000000) (hm : m.Log.length ≤ 1000) (hdm : DBl m.Log) (hix : ∀ (j : Nat) r, m.Log[j]? = some r → r.Index = m.A + (j : Int) + 1) :
    ∀ (n k j : Nat) (l : List GR), m.Log.length - j = n → n + 1 ≤ k → j ≤ m.Log.length → l.length ≤ 100000 + j → m.A + (j : Int) ≤ (l.length : Int) →
    v3uz m (Wc c1) q p k l (j : Int) = sFin m c1 q p.Term (takeL (m.Log.drop j) l (m.A + (j : Int))).1 := by
  intro n
  induction n with
  | zero =>
    intro k j l hn hk hj hl hle
    obtain ⟨k, rfl⟩ : ∃ j, k = j + 1 := ⟨k - 1, by omega⟩
    rw [v3uz, if_neg (by omega), List.drop_of_length_le (by omega), cP (by omega)]
    rfl
  | succ n ih =>
    intro k j l hn hk hj hl hle
    obtain ⟨k, rfl⟩ : ∃ j, k = j + 1 := ⟨k - 1, by omega⟩
    have hlt : j < m.Log.length := by omega
    have e : ((j : Int) + 1) = ((j + 1 : Nat) : Int) := by omega
    have hri : (m.Log[j]).Index = m.A + (j : Int) + 1 := hix j _ (List.getElem?_eq_getElem hlt)
    have hd1 : DBr m.Log[j] := hdm _ (List.getElem_mem hlt)
    obtain ⟨a, hA⟩ : ∃ a : Nat, m.A = (a : Int) := ⟨m.A.toNat, by omega⟩
    have hat : m.A + (j : Int) = ((a + j : Nat) : Int) := by omega
    rw [v3uz, if_pos (by omega), cP (by omega), List.drop_eq_getElem_cons hlt]
    unfold takeL
    dsimp only
    have hcut : ∀ (l1 : List GR), l1.length ≤ 100000 + j → m.A + (j : Int) ≤ (l1.length : Int) →
        v3tz m (j : Int) (v3uz m (Wc c1) q p k) l1 = sFin m c1 q p.Term (takeL (m.Log.drop (j + 1)) (if (l1.length : Int) < (m.Log[j]).Index then l1 ++ [m.Log[j]] else l1) (m.Log[j]).Index).1 := by
      intro l1 hl1 hle1
      unfold v3tz v3rz
      rw [hri]
      by_cases h : m.A + (j : Int) = (l1.length : Int)
      · rw [if_pos h, if_pos (by omega), xN hlt, obind_some]
        refine (congrArg (fun o => Option.bind o _) (sCopy_m hd1)).trans ?_
        rw [obind_some, cP (by simp; omega), cP (by omega), e]
        refine (ih k (j + 1) _ (by omega) (by omega) (by omega) (by simp; omega) (by simp; omega)).trans ?_
        rw [show m.A + (j : Int) + 1 = m.A + ((j + 1 : Nat) : Int) by omega]
      · rw [if_neg h, if_neg (by omega), cP (by omega), e]
        refine (ih k (j + 1) _ (by omega) (by omega) (by omega) (by omega) (by omega)).trans ?_
        rw [show m.A + (j : Int) + 1 = m.A + ((j + 1 : Nat) : Int) by omega]
    unfold v3sz
    by_cases h1 : m.A + (j : Int) < (l.length : Int)
    · have hlt2 : a + j < l.length := by omega
      have hta : termAt l (m.Log[j]).Index = (l[a + j]).Term := by
        unfold termAt
        rw [hri, if_neg (by omega), show (m.A + (j : Int) + 1 - 1).toNat = a + j by omega, List.getElem?_eq_getElem hlt2]
        rfl
      rw [if_pos h1, hat, xN hlt2, obind_some, xN hlt, obind_some, ← hat, hta]
      by_cases h2 : (l[a + j]).Term = (m.Log[j]).Term
      · rw [if_neg (by rw [decide_eq_true h2]; decide), if_neg (show ¬ ((m.Log[j]).Index ≤ (l.length : Int) ∧ (l[a + j]).Term ≠ (m.Log[j]).Term) from fun h => h.2 h2)]
        exact hcut l hl (by omega)
      · rw [if_pos (by rw [decide_eq_false h2]; rfl), if_pos (show (m.Log[j]).Index ≤ (l.length : Int) ∧ (l[a + j]).Term ≠ (m.Log[j]).Term from ⟨by omega, h2⟩), slc_head (by omega) (by omega), obind_some, show ((m.Log[j]).Index - 1).toNat = (m.A + (j : Int)).toNat by omega]
        exact hcut _ (by rw [List.length_take]; omega) (by rw [List.length_take]; omega)
    · rw [if_neg h1, if_neg (by decide), if_neg (show ¬ ((m.Log[j]).Index ≤ (l.length : Int) ∧ termAt l (m.Log[j]).Index ≠ (m.Log[j]).Term) from fun h => by have := h.1; omega)]
      exact hcut l hl hle
theorem sAppended_m {c : GC} {m : GM} {i : Nat} {p : GP} (hp : c.Peers[i]? = some p) (ht : m.To = (i : Int)) (ha : 0 ≤ m.A ∧ m.A ≤ 1000000) (hl : p.Log.length ≤ 1000) (hm : m.Log.length ≤ 1000)
    (hd : DBl p.Log) (hdm : DBl m.Log) (hc : c.Chosen.length ≤ 100000) (hk : TakeOk m p) (hix : ∀ (j : Nat) r, m.Log[j]? = some r → r.Index = m.A + (j : Int) + 1) (hle : m.Term ≤ p.Term) :
    v3pz (Wc c) m = some (Wc (mTake c m i p)) := by
  have hi : i < c.Peers.length := (List.getElem?_eq_some_iff.1 hp).1
  unfold v3pz mTake
  rw [ht]
  refine (congrArg (fun o => Option.bind o _) (xS hp)).trans ?_
  rw [obind_some]
  by_cases h1 : m.Term < p.Term
  · rw [if_pos h1, if_pos h1]
    refine (congrArg (fun o => Option.bind o _) (sSend_m (c := c))).trans ?_
    rw [obind_some, ← ht]; rfl
  · rw [if_neg h1, if_neg h1]
    have hpl : (mFollow m p).Log = p.Log := by unfold mFollow; dsimp only; exact mFresh_log
    have hpt : (mFresh m p).Term = p.Term := by unfold mFresh; rw [if_neg (by omega)]
    have hq : ({ c with Peers := c.Peers.set i (mFollow m p) } : GC).Peers[i]? = some (mFollow m p) := gS hp
    refine (congrArg (fun o => Option.bind o _) (sDown_m (m := m) hp)).trans ?_
    rw [obind_some]
    refine (congrArg (fun o => Option.bind o _) (xS hq)).trans ?_
    rw [obind_some, hpl]
    have hJ1 : ∀ b : Bool, b = true → v3qz m (Wc { c with Peers := c.Peers.set i (mFollow m p) }) p b = some (Wc (mSend { c with Peers := c.Peers.set i (mFollow m p) } (mBack m (mFresh m p).Term (if (p.Log.length : Int) < (m.A - 1) then (p.Log.length : Int) else (m.A - 1)) false))) := fun b hb => by
      unfold v3qz
      rw [if_pos hb, cP (by omega), ht]
      refine (congrArg (fun o => Option.bind o _) (xS hq)).trans ?_
      rw [obind_some, hpl]
      refine (congrArg (fun o => Option.bind o _) (sSend_m (c := { c with Peers := c.Peers.set i (mFollow m p) }))).trans ?_
      rw [obind_some, hpt, ← ht]; rfl
    by_cases h2 : (p.Log.length : Int) < m.A
    · rw [if_pos h2, if_pos (.inl h2)]
      exact hJ1 true rfl
    · rw [if_neg h2]
      refine (congrArg (fun o => Option.bind o _) (sTerm_m (p := mFollow m p) (i := m.A) (by omega) (by rw [hpl]; omega) (by rw [hpl]; omega))).trans ?_
      rw [obind_some, hpl]
      by_cases h3 : termAt p.Log m.A = m.B
      · rw [if_neg (fun h => h.elim h2 (fun h => h h3)), decide_eq_true h3]
        unfold v3qz
        rw [if_neg (by decide), ht]
        refine (congrArg (fun o => Option.bind o _) (xS hq)).trans ?_
        rw [obind_some, hpl, cP (by simp; omega), List.nil_append]
        have hL := sApp_L1 (m := m) (c1 := { c with Peers := c.Peers.set i (mFollow m p) }) (q := mFollow m p) (p := p) ha hm hdm hix _ BIG 0 p.Log rfl (by rw [BIG_eq]; omega) (by omega) (by omega) (by omega)
        refine Eq.trans hL ?_
        rw [List.drop_zero, show m.A + ((0 : Nat) : Int) = m.A by omega]
        have hs := takeL_snd m.Log p.Log m.A hix
        obtain ⟨k1, k2, k3⟩ := hk (by omega) (by omega) h3
        have hcm : (mFollow m p).Commit = p.Commit := by unfold mFollow; dsimp only; exact mFresh_commit
        have hT : ({ mFollow m p with Commit := mnx (m.A + (m.Log.length : Int)) m.C (mFollow m p).Commit, Log := (takeL m.Log p.Log m.A).1 } : GP) = mTaken m p := by
          unfold mTaken; rw [hs, hcm]
        unfold sFin
        rw [hT, ht, setI_n, List.set_set]
        have hch := sChosen_m (c := { c with Peers := c.Peers.set i (mTaken m p) }) (i := i) (p := mTaken m p) (gS hp) k1 k2 k3 (takeL_all (P := DBr) _ _ _ hdm hd) hc
        refine (congrArg (fun o => Option.bind o _) hch).trans ?_
        rw [obind_some]
        refine (congrArg (fun o => Option.bind o _) (sSend_m (c := mChoose { c with Peers := c.Peers.set i (mTaken m p) } (mTaken m p)))).trans ?_
        rw [obind_some, hpt, hs]
      · rw [if_pos (.inr h3), decide_eq_false h3]
        exact hJ1 _ rfl
end Go.Proofs.YtlpcdcpcfeaecaaAb
end
section
namespace Go.Proofs.YtlpcdcpcfeaecaaAb
open Go
def tn (l : List GR) : Nat → Int
  | 0 => 0
  | k + 1 => ((l[k]?).map (·.Term)).getD 0
theorem termAt_nat (l : List GR) (k : Nat) : termAt l (k : Int) = tn l k := by
  unfold termAt
  cases k with
  | zero => rfl
  | succ k => rw [if_neg (by omega), show (((k + 1 : Nat) : Int) - 1).toNat = k by omega]; rfl
def Pre (k : Nat) (l l' : List GR) : Prop := k ≤ l.length ∧ k ≤ l'.length ∧ l.take k = l'.take k
theorem Pre.refl {k : Nat} {l : List GR} (h : k ≤ l.length) : Pre k l l := ⟨h, h, rfl⟩
theorem Pre.symm {k : Nat} {l l' : List GR} (h : Pre k l l') : Pre k l' l := ⟨h.2.1, h.1, h.2.2.symm⟩
theorem Pre.trans {k : Nat} {l l' l'' : List GR} (h : Pre k l l') (h' : Pre k l' l'') : Pre k l l'' := ⟨h.1, h'.2.1, h.2.2.trans h'.2.2⟩
theorem Pre.mono {j k : Nat} {l l' : List GR} (h : Pre k l l') (hj : j ≤ k) : Pre j l l' :=
  ⟨Nat.le_trans hj h.1, Nat.le_trans hj h.2.1, by have := congrArg (List.take j) h.2.2; rwa [List.take_take, List.take_take, Nat.min_eq_left hj] at this⟩
theorem Pre.get {k i : Nat} {l l' : List GR} (h : Pre k l l') (hi : i < k) : l[i]? = l'[i]? := by
  have := congrArg (fun x => x[i]?) h.2.2
  simpa [List.getElem?_take, hi] using this
theorem Pre.tn {j k : Nat} {l l' : List GR} (h : Pre k l l') (hj : j ≤ k) : tn l j = tn l' j := by
  cases j with
  | zero => rfl
  | succ j =>
    show ((l[j]?).map (·.Term)).getD 0 = ((l'[j]?).map (·.Term)).getD 0
    rw [h.get (by omega)]
theorem Pre.of_append {k : Nat} {l s : List GR} (h : k ≤ l.length) : Pre k (l ++ s) l :=
  ⟨by simp; omega, h, by rw [List.take_append_of_le_length h]⟩
theorem Pre.appendL {k : Nat} {l l' s : List GR} (h : Pre k l l') : Pre k (l ++ s) l' := (Pre.of_append h.1).trans h
theorem Pre.of_take {k m : Nat} {l : List GR} (h : k ≤ m) (h2 : k ≤ l.length) : Pre k (l.take m) l :=
  ⟨by rw [List.length_take]; omega, h2, by rw [List.take_take, Nat.min_eq_left h]⟩
theorem Pre.zero {l l' : List GR} : Pre 0 l l' := ⟨Nat.zero_le _, Nat.zero_le _, rfl⟩
noncomputable def cn (l : List Nat) (P : Nat → Prop) : Nat := l.countP (fun v => @decide (P v) (Classical.propDecidable _))
def Maj (n : Nat) (P : Nat → Prop) : Prop := n / 2 + 1 ≤ cn (List.range n) P
theorem cn_mono {P Q : Nat → Prop} : ∀ (l : List Nat), (∀ v ∈ l, P v → Q v) → cn l P ≤ cn l Q := by
  intro l h
  unfold cn
  exact List.countP_mono_left fun v hv hp => by
    have := @of_decide_eq_true _ (Classical.propDecidable _) hp
    exact @decide_eq_true _ (Classical.propDecidable _) (h v hv this)
theorem Maj.mono {n : Nat} {P Q : Nat → Prop} (h : Maj n P) (hq : ∀ v, v < n → P v → Q v) : Maj n Q :=
  Nat.le_trans h (cn_mono _ fun v hv => hq v (List.mem_range.1 hv))
theorem cn_add (P Q : Nat → Prop) : ∀ (l : List Nat), cn l P + cn l Q ≤ l.length + cn l (fun v => P v ∧ Q v)
  | [] => by simp [cn]
  | a :: l => by
    have ih := cn_add P Q l
    unfold cn at ih ⊢
    dsimp only at ih ⊢
    simp only [List.countP_cons, List.length_cons]
    by_cases hp : P a
    · by_cases hq : Q a
      · simp [hp, hq]; omega
      · simp [hp, hq]; omega
    · by_cases hq : Q a
      · simp [hp, hq]; omega
      · simp [hp, hq]; omega
theorem Maj.inter {n : Nat} {P Q : Nat → Prop} (hp : Maj n P) (hq : Maj n Q) : ∃ v, v < n ∧ P v ∧ Q v := by
  have h := cn_add P Q (List.range n)
  unfold Maj at hp hq
  rw [List.length_range] at h
  have h1 : 0 < cn (List.range n) (fun v => P v ∧ Q v) := by omega
  unfold cn at h1
  obtain ⟨v, hv, hv2⟩ := List.countP_pos_iff.1 h1
  exact ⟨v, List.mem_range.1 hv, @of_decide_eq_true _ (Classical.propDecidable _) hv2⟩
theorem cntT_cn : ∀ (l : List Bool), cntT l ≤ cn (List.range l.length) (fun v => l[v]? = some true)
  | [] => by simp [cntT]
  | b :: l => by
    have ih := cntT_cn l
    unfold cntT
    rw [List.length_cons, List.range_succ_eq_map]
    unfold cn at ih ⊢
    rw [List.countP_cons, List.countP_map]
    have e : (List.range l.length).countP ((fun v => @decide ((b :: l)[v]? = some true) (Classical.propDecidable _)) ∘ Nat.succ) = (List.range l.length).countP (fun v => @decide (l[v]? = some true) (Classical.propDecidable _)) := by
      congr 1
    rw [e]
    cases b <;> simp <;> omega
theorem cntGe_cn (n : Int) : ∀ (l : List Int), cntGe n l ≤ cn (List.range l.length) (fun v => ∃ x, l[v]? = some x ∧ n ≤ x)
  | [] => by simp [cntGe]
  | b :: l => by
    have ih := cntGe_cn n l
    unfold cntGe
    rw [List.length_cons, List.range_succ_eq_map]
    unfold cn at ih ⊢
    rw [List.countP_cons, List.countP_map]
    have e : (List.range l.length).countP ((fun v => @decide (∃ x, (b :: l)[v]? = some x ∧ n ≤ x) (Classical.propDecidable _)) ∘ Nat.succ) = (List.range l.length).countP (fun v => @decide (∃ x, l[v]? = some x ∧ n ≤ x) (Classical.propDecidable _)) := by
      congr 1
    rw [e]
    by_cases h : n ≤ b
    · rw [if_pos h]; simp [h]; omega
    · rw [if_neg h]; simp [h]; omega
structure RGh where
  vt : Nat → Int → Int
  ld : Int → Option Nat
  L : Int → List GR
  cl : Int → Nat → List GR
  ac : Int → Nat → Nat
  ev : Int → Nat → Prop
structure GoodLog (g : RGh) (t : Int) (l : List GR) : Prop where
  ent : ∀ k, 1 ≤ k → k ≤ l.length → 1 ≤ tn l k ∧ tn l k ≤ t ∧ Pre k l (g.L (tn l k))
  idx : ∀ (k : Nat) r, l[k]? = some r → r.Index = (k : Int) + 1
  len : l.length ≤ 100
def REnt (g : RGh) (T : Int) (k : Nat) : Prop := 1 ≤ k ∧ k ≤ (g.L T).length ∧ tn (g.L T) k = T
def Com (g : RGh) (n : Nat) (T : Int) (k : Nat) : Prop := REnt g T k ∧ Maj n (fun v => k ≤ g.ac T v)
structure GInv (g : RGh) (n : Nat) : Prop where
  self : ∀ w U c, w < n → g.vt w U = ((c : Nat) : Int) + 1 → c < n ∧ g.vt c U = (c : Int) + 1
  log : ∀ T, GoodLog g T (g.L T)
  none : ∀ T, g.ld T = none → g.L T = []
  ld : ∀ T c, g.ld T = some c → (c < n ∧ 1 ≤ T) ∧ Maj n (fun v => g.ev T v ∧ g.vt v T = (c : Int) + 1)
  evv : ∀ U w, w < n → g.ev U w → g.vt w U ≠ 0
  form : ∀ w U, w < n → g.vt w U ≠ 0 → ∃ c : Nat, g.vt w U = (c : Int) + 1
  early : ∀ w U, w < n → g.vt w U ≠ 0 → g.ld U = .none → g.ev U w
  ac : ∀ T v, g.ac T v ≤ (g.L T).length
  ext : ∀ U c, g.ld U = some c → ∃ s, g.L U = g.cl U c ++ s
  cl : ∀ w U c, w < n → g.vt w U = ((c : Nat) : Int) + 1 → GoodLog g (U - 1) (g.cl U c)
  y : ∀ w U c T k, w < n → g.ev U w → g.vt w U = ((c : Nat) : Int) + 1 → T < U → REnt g T k → k ≤ g.ac T w →
    (∀ U', T < U' → U' < U → g.ld U' ≠ .none → Pre k (g.L U') (g.L T)) → Pre k (g.cl U c) (g.L T)
theorem GoodLog.mono {g : RGh} {t t' : Int} {l : List GR} (h : GoodLog g t l) (ht : t ≤ t') : GoodLog g t' l :=
  ⟨fun k h1 h2 => by obtain ⟨a, b, c⟩ := h.ent k h1 h2; exact ⟨a, by omega, c⟩, h.idx, h.len⟩
theorem GoodLog.take {g : RGh} {t : Int} {l : List GR} (h : GoodLog g t l) (m : Nat) : GoodLog g t (l.take m) := by
  refine ⟨fun k h1 h2 => ?_, fun k r hr => ?_, by rw [List.length_take]; have := h.len; omega⟩
  · rw [List.length_take] at h2
    have hp : Pre k (l.take m) l := Pre.of_take (by omega) (by omega)
    obtain ⟨a, b, c⟩ := h.ent k h1 (by omega)
    rw [hp.tn (Nat.le_refl _)]
    exact ⟨a, b, hp.trans c⟩
  · rw [List.getElem?_take] at hr
    split at hr
    · exact h.idx k r hr
    · cases hr
theorem GoodLog.rise {g : RGh} {n : Nat} (hg : GInv g n) {t : Int} {l : List GR} (h : GoodLog g t l) {j k : Nat} (hj : 1 ≤ j) (hjk : j ≤ k) (hk : k ≤ l.length) : tn l j ≤ tn l k := by
  obtain ⟨a, b, c⟩ := h.ent k (by omega) hk
  have hp := c.mono hjk
  rw [hp.tn (Nat.le_refl _)]
  exact ((hg.log (tn l k)).ent j hj hp.2.1).2.1
theorem leader_complete {g : RGh} {n : Nat} (hg : GInv g n) {T : Int} {k : Nat} (hc : Com g n T k) : ∀ (m : Nat) (U : Int), (U - T).toNat = m → T < U → g.ld U ≠ none → Pre k (g.L U) (g.L T) := by
  intro m
  induction m using Nat.strongRecOn with
  | _ m ih =>
    intro U hm hT hU
    cases hld : g.ld U with
    | none => exact absurd hld hU
    | some c =>
      obtain ⟨hc1, hmaj⟩ := hg.ld U c hld
      obtain ⟨w, hw, hw1, hw2⟩ := hc.2.inter hmaj
      have := hg.y w U c T k hw hw2.1 hw2.2 hT hc.1 hw1 (fun U' h1 h2 h3 => ih (U' - T).toNat (by omega) U' rfl h1 h3)
      obtain ⟨s, hs⟩ := hg.ext U c hld
      rw [hs]; exact this.appendL
theorem com_le {g : RGh} {n : Nat} (hg : GInv g n) {T : Int} {k : Nat} (hc : Com g n T k) {U : Int} (hT : T ≤ U) (hU : g.ld U ≠ none) : Pre k (g.L U) (g.L T) := by
  rcases Int.lt_or_eq_of_le hT with h | rfl
  · exact leader_complete hg hc _ U rfl h hU
  · exact Pre.refl hc.1.2.1
theorem Com.ld {g : RGh} {n : Nat} (hg : GInv g n) {T : Int} {k : Nat} (hc : Com g n T k) : g.ld T ≠ none := fun h => by
  have := hg.none T h
  have h1 := hc.1.1
  have h2 := hc.1.2.1
  rw [this] at h2; simp at h2; omega
theorem com_com {g : RGh} {n : Nat} (hg : GInv g n) {T U : Int} {k j m : Nat} (hc : Com g n T k) (hd : Com g n U j) (h1 : m ≤ k) (h2 : m ≤ j) : Pre m (g.L T) (g.L U) := by
  rcases Int.le_total T U with h | h
  · exact ((com_le hg hc h (hd.ld hg)).mono h1).symm
  · exact (com_le hg hd h (hc.ld hg)).mono h2
end Go.Proofs.YtlpcdcpcfeaecaaAb
end
section
namespace Go.Proofs.YtlpcdcpcfeaecaaAb
open Go
structure Gle (g g' : RGh) : Prop where
  vt : ∀ v t, g.vt v t ≠ 0 → g'.vt v t = g.vt v t
  ld : ∀ T c, g.ld T = some c → g'.ld T = some c
  L : ∀ T, ∃ s, g'.L T = g.L T ++ s
  tail : ∀ T k, g.ld T ≠ none → (g.L T).length < k → k ≤ (g'.L T).length → tn (g'.L T) k = T
  cl : ∀ U (c : Nat), g.vt c U = (c : Int) + 1 → g'.cl U c = g.cl U c
  ac : ∀ T v, g.ac T v ≤ g'.ac T v
  ev : ∀ U w, g.ev U w → g'.ev U w
theorem Gle.refl (g : RGh) : Gle g g := ⟨fun _ _ _ => rfl, fun _ _ h => h, fun T => ⟨[], by simp⟩, fun T k _ h1 h2 => by omega, fun _ _ _ => rfl, fun _ _ => Nat.le_refl _, fun _ _ h => h⟩
section
variable {g g' : RGh} {n i : Nat}
theorem Gle.len (h : Gle g g') (T : Int) : (g.L T).length ≤ (g'.L T).length := by obtain ⟨s, e⟩ := h.L T; rw [e]; simp
theorem Gle.pre (h : Gle g g') {T : Int} {k : Nat} (hk : k ≤ (g.L T).length) : Pre k (g'.L T) (g.L T) := by obtain ⟨s, e⟩ := h.L T; rw [e]; exact Pre.of_append hk
theorem Gle.preR (h : Gle g g') {T : Int} {k : Nat} {l : List GR} (hp : Pre k l (g.L T)) : Pre k l (g'.L T) := hp.trans (h.pre hp.2.1).symm
theorem Gle.pre2 (h : Gle g g') {T U : Int} {k : Nat} (hp : Pre k (g.L U) (g.L T)) : Pre k (g'.L U) (g'.L T) := (h.preR hp.symm).symm.trans ((h.pre hp.2.1).symm) |> fun x => x
theorem Gle.good (h : Gle g g') {t : Int} {l : List GR} (hl : GoodLog g t l) : GoodLog g' t l :=
  ⟨fun k h1 h2 => by obtain ⟨a, b, c⟩ := hl.ent k h1 h2; exact ⟨a, b, h.preR c⟩, hl.idx, hl.len⟩
theorem Gle.ent (h : Gle g g') {T : Int} {k : Nat} (he : REnt g T k) : REnt g' T k :=
  ⟨he.1, Nat.le_trans he.2.1 (h.len T), by rw [(h.pre he.2.1).tn (Nat.le_refl _)]; exact he.2.2⟩
theorem Gle.entB (h : Gle g g') {T : Int} {k : Nat} (he : REnt g' T k) (hk : k ≤ (g.L T).length) : REnt g T k :=
  ⟨he.1, hk, by rw [← (h.pre hk).tn (Nat.le_refl _)]; exact he.2.2⟩
theorem Gle.com (h : Gle g g') {T : Int} {k : Nat} (hc : Com g n T k) : Com g' n T k :=
  ⟨h.ent hc.1, hc.2.mono fun v _ hv => Nat.le_trans hv (h.ac T v)⟩
theorem Gle.back (h : Gle g g') {T U : Int} {k : Nat} (he : REnt g T k) (hT : T < U) (hU : g.ld U ≠ none) (hp : Pre k (g'.L U) (g'.L T)) : Pre k (g.L U) (g.L T) := by
  have h1 : tn (g'.L U) k = T := by rw [hp.tn (Nat.le_refl _), (h.pre he.2.1).tn (Nat.le_refl _)]; exact he.2.2
  have h2 : k ≤ (g.L U).length := by
    rcases Nat.lt_or_ge (g.L U).length k with hh | hh
    · have := h.tail U k hU hh hp.1; omega
    · exact hh
  exact (h.pre h2).symm.trans (hp.trans (h.pre he.2.1))
end
structure GStep (i : Nat) (τ : Int) (g g' : RGh) : Prop extends Gle g g' where
  vtO : ∀ v t, v ≠ i → g'.vt v t = g.vt v t
  acO : ∀ T v, v ≠ i → g'.ac T v = g.ac T v
  ldO : ∀ T c, g'.ld T = some c → g.ld T = some c ∨ c = i
  LO : ∀ T, g'.ld T ≠ some i → g'.L T = g.L T
  clO : ∀ U c, c ≠ i → g'.cl U c = g.cl U c
  acI : ∀ T, T ≠ τ → g'.ac T i = g.ac T i
  evO : ∀ U w, g'.ev U w → g.ev U w ∨ (w = i ∧ g.vt i U = 0)
  vtI : ∀ U, g.vt i U ≠ 0 → U ≤ τ
theorem GStep.inv {g g' : RGh} {n i : Nat} {τ : Int} (h : GStep i τ g g') (hg : GInv g n)
    (hL : ∀ T, g'.ld T = some i → GoodLog g' T (g'.L T))
    (hld : ∀ T, g'.ld T = some i → g.ld T = some i ∨ ((i < n ∧ 1 ≤ T) ∧ Maj n (fun v => g'.ev T v ∧ g'.vt v T = (i : Int) + 1)))
    (hac : ∀ T, g'.ac T i ≤ (g'.L T).length)
    (hext : ∀ T, g'.ld T = some i → ∃ s, g'.L T = g'.cl T i ++ s)
    (hnew : ∀ U (c : Nat), i < n → g.vt i U = 0 → g'.vt i U = (c : Int) + 1 → (c < n ∧ g'.vt c U = (c : Int) + 1) ∧ GoodLog g' (U - 1) (g'.cl U c) ∧ (g'.ld U = none → g'.ev U i) ∧
      (g'.ev U i → ∀ T k, T < U → REnt g' T k → k ≤ g'.ac T i → (∀ U', T < U' → U' < U → g'.ld U' ≠ none → Pre k (g'.L U') (g'.L T)) → Pre k (g'.cl U c) (g'.L T)))
    (hcand : ∀ U, i < n → g'.vt i U ≠ 0 → ∃ c : Nat, g'.vt i U = (c : Int) + 1) (hevI : ∀ U, i < n → g'.ev U i → g'.vt i U ≠ 0) : GInv g' n := by
  have hold : ∀ w U (c : Nat), w < n → g'.vt w U = (c : Int) + 1 → g.vt w U = (c : Int) + 1 ∨ (w = i ∧ g.vt i U = 0) := by
    intro w U c hw hv
    by_cases hz : g.vt w U = 0
    · by_cases hwi : w = i
      · exact .inr ⟨hwi, by rw [← hwi]; exact hz⟩
      · rw [h.vtO w U hwi] at hv; exact .inl hv
    · rw [h.vt w U hz] at hv; exact .inl hv
  have hacle : ∀ T v, g'.ac T v ≤ (g'.L T).length := fun T v => by
    by_cases hv : v = i
    · rw [hv]; exact hac T
    · rw [h.acO T v hv]; exact Nat.le_trans (hg.ac T v) (h.len T)
  refine ⟨fun w U c hw hv => ?_, fun T => ?_, fun T hT => ?_, fun T c hT => ?_, fun U w hw he => ?_, fun w U hw hv => ?_, fun w U hw hv hU => ?_, hacle, fun U c hU => ?_, fun w U c hw hv => ?_, fun w U c T k hw hev hv hT he hk hb => ?_⟩
  · rcases hold w U c hw hv with h1 | ⟨rfl, h1⟩
    · obtain ⟨a, b⟩ := hg.self w U c hw h1
      exact ⟨a, by rw [h.vt c U (by omega)]; exact b⟩
    · exact (hnew U c hw h1 hv).1
  · by_cases hi : g'.ld T = some i
    · exact hL T hi
    · rw [h.LO T hi]; exact h.good (hg.log T)
  · have h1 : g.ld T = none := by
      cases hh : g.ld T with
      | none => rfl
      | some c => rw [h.ld T c hh] at hT; cases hT
    rw [h.LO T (by rw [hT]; exact fun h => by cases h)]; exact hg.none T h1
  · rcases h.ldO T c hT with h1 | rfl
    · obtain ⟨a, b⟩ := hg.ld T c h1
      exact ⟨a, b.mono fun v _ hv => ⟨h.ev T v hv.1, by rw [h.vt v T (by omega)]; exact hv.2⟩⟩
    · rcases hld T hT with h1 | h1
      · obtain ⟨a, b⟩ := hg.ld T c h1
        exact ⟨a, b.mono fun v _ hv => ⟨h.ev T v hv.1, by rw [h.vt v T (by omega)]; exact hv.2⟩⟩
      · exact h1
  · by_cases hwi : w = i
    · rw [hwi] at hw he ⊢; exact hevI U hw he
    · rcases h.evO U w he with h1 | h1
      · rw [h.vtO w U hwi]; exact hg.evv U w hw h1
      · exact absurd h1.1 hwi
  · by_cases hwi : w = i
    · rw [hwi] at hw hv ⊢; exact hcand U hw hv
    · rw [h.vtO w U hwi] at hv ⊢; exact hg.form w U hw hv
  · have h1 : g.ld U = none := by
      cases hh : g.ld U with
      | none => rfl
      | some c => rw [h.ld U c hh] at hU; cases hU
    by_cases hz : g.vt w U = 0
    · have hwi : w = i := Classical.byContradiction fun hwi => hv (by rw [h.vtO w U hwi]; exact hz)
      subst hwi
      obtain ⟨c, hc⟩ := hcand U hw hv
      exact (hnew U c hw hz hc).2.2.1 hU
    · exact h.ev U w (hg.early w U hw hz h1)
  · by_cases hc : c = i
    · subst hc; exact hext U hU
    · rcases h.ldO U c hU with h1 | h1
      · rw [h.LO U (by rw [hU]; exact fun hh => hc (Option.some.inj hh)), h.clO U c hc]; exact hg.ext U c h1
      · exact absurd h1 hc
  · rcases hold w U c hw hv with h1 | ⟨rfl, h1⟩
    · rw [h.cl U c (hg.self w U c hw h1).2]; exact h.good (hg.cl w U c hw h1)
    · exact (hnew U c hw h1 hv).2.1
  · rcases hold w U c hw hv with h1 | ⟨rfl, h1⟩
    · have hacw : g'.ac T w = g.ac T w := by
        by_cases hwi : w = i
        · rw [hwi]; refine h.acI T ?_
          have := h.vtI U (by rw [← hwi, h1]; omega)
          omega
        · exact h.acO T w hwi
      rw [hacw] at hk
      have he' := h.entB he (Nat.le_trans hk (hg.ac T w))
      have hev' : g.ev U w := (h.evO U w hev).resolve_right fun hh => by rw [hh.1, hh.2] at h1; omega
      have := hg.y w U c T k hw hev' h1 hT he' hk (fun U' h2 h3 h4 => h.back he' h2 h4 (hb U' h2 h3 (fun h5 => by
        cases hh : g.ld U' with
        | none => exact h4 hh
        | some c' => rw [h.ld U' c' hh] at h5; cases h5)))
      rw [h.cl U c (hg.self w U c hw h1).2]
      exact h.preR this
    · exact (hnew U c hw h1 hv).2.2.2 hev T k hT he hk hb
structure PInv (g : RGh) (n i : Nat) (p : GP) : Prop where
  vote : g.vt i p.Term = p.Vote
  later : ∀ t, p.Term < t → g.vt i t = 0
  log : GoodLog g p.Term p.Log
  lead : p.Role = 2 → g.ld p.Term = some i ∧ g.L p.Term = p.Log ∧ NextOk n p ∧ p.Match.length = n ∧ ∀ (v : Nat) x, p.Match[v]? = some x → 0 ≤ x ∧ x ≤ (g.ac p.Term v : Int)
  cand : p.Role = 1 → g.cl p.Term i = p.Log ∧ g.vt i p.Term = (i : Int) + 1 ∧ p.Votes.length = n ∧ (∀ v, p.Votes[v]? = some true → g.vt v p.Term = (i : Int) + 1) ∧ g.ld p.Term ≠ some i ∧ 1 ≤ p.Term
  z : ∀ T k, REnt g T k → T ≤ p.Term → k ≤ g.ac T i → (∀ U, T < U → U ≤ p.Term → g.ld U ≠ none → Pre k (g.L U) (g.L T)) → Pre k p.Log (g.L T)
  acl : ∀ T, p.Term < T → g.ac T i = 0
  ldl : ∀ T, g.ld T = some i → T ≤ p.Term
  com0 : 0 ≤ p.Commit
  com : p.Commit = 0 ∨ ∃ T k, Com g n T k ∧ T ≤ p.Term ∧ p.Commit ≤ (k : Int) ∧ Pre p.Commit.toNat p.Log (g.L T)
  term : 0 ≤ p.Term ∧ p.Term ≤ 1000000
  votes : p.Votes.length ≤ 1000
  mat : p.Match.length ≤ 1000
  next : p.Next.length ≤ 1000
theorem GStep.other {g g' : RGh} {n i j : Nat} {τ : Int} {p : GP} (h : GStep i τ g g') (hg : GInv g n) (hj : j ≠ i) (hp : PInv g n j p) : PInv g' n j p := by
  have hldj : ∀ T, g'.ld T = some j → g.ld T = some j := fun T hT => (h.ldO T j hT).resolve_right hj
  have hldn : ∀ U, g.ld U ≠ none → g'.ld U ≠ none := fun U h4 h5 => by
    cases hh : g.ld U with
    | none => exact h4 hh
    | some c' => rw [h.ld U c' hh] at h5; cases h5
  refine ⟨by rw [h.vtO j _ hj]; exact hp.vote, fun t ht => by rw [h.vtO j _ hj]; exact hp.later t ht, h.good hp.log, fun hr => ?_, fun hr => ?_, fun T k he hT hk hb => ?_, fun T hT => by rw [h.acO T j hj]; exact hp.acl T hT, fun T hT => hp.ldl T (hldj T hT), hp.com0, ?_, hp.term, hp.votes, hp.mat, hp.next⟩
  · obtain ⟨a, b, c, d, e⟩ := hp.lead hr
    have a' := h.ld _ _ a
    exact ⟨a', by rw [h.LO _ (by rw [a']; exact fun hh => hj (Option.some.inj hh))]; exact b, c, d, fun v x hx => by
      obtain ⟨e1, e2⟩ := e v x hx
      have := h.ac p.Term v
      exact ⟨e1, by omega⟩⟩
  · obtain ⟨a, b, c, d, e⟩ := hp.cand hr
    exact ⟨by rw [h.clO _ _ hj]; exact a, by rw [h.vtO _ _ hj]; exact b, c, fun v hv => by rw [h.vt v _ (by rw [d v hv]; omega)]; exact d v hv, fun hh => e.1 (hldj _ hh), e.2⟩
  · rw [h.acO T j hj] at hk
    have he' := h.entB he (Nat.le_trans hk (hg.ac T j))
    exact h.preR (hp.z T k he' hT hk fun U h1 h2 h3 => h.back he' h1 h3 (hb U h1 h2 (hldn U h3)))
  · rcases hp.com with h1 | ⟨T, k, a, b, c, d⟩
    · exact .inl h1
    · exact .inr ⟨T, k, h.com a, b, c, h.preR d⟩
structure MInv (g : RGh) (n : Nat) (m : GM) : Prop where
  frm : ∃ f : Nat, m.From = (f : Int) ∧ f < n
  to : ∃ t : Nat, m.To = (t : Int) ∧ t < n
  ne : m.From ≠ m.To
  a : 0 ≤ m.A ∧ m.A ≤ 1000
  term : m.Term ≤ 1000000
  k1 : m.Kind = 1 → g.vt m.From.toNat m.Term = m.From + 1 ∧ m.A = ((g.cl m.Term m.From.toNat).length : Int) ∧ m.B = tn (g.cl m.Term m.From.toNat) (g.cl m.Term m.From.toNat).length
  k2 : m.Kind = 2 → m.Ok = true → g.vt m.From.toNat m.Term = m.To + 1
  k3 : m.Kind = 3 → g.ld m.Term = some m.From.toNat ∧ m.A ≤ ((g.L m.Term).length : Int) ∧ m.B = tn (g.L m.Term) m.A.toNat ∧ (∃ e, m.A.toNat ≤ e ∧ e ≤ (g.L m.Term).length ∧ m.Log = ((g.L m.Term).take e).drop m.A.toNat) ∧
    (m.C = 0 ∨ 0 < m.C ∧ ∃ T k, Com g n T k ∧ T ≤ m.Term ∧ m.C ≤ (k : Int) ∧ Pre m.C.toNat (g.L m.Term) (g.L T))
  k3n : m.Kind ≠ 3 → m.Log = []
  k4 : m.Kind = 4 → m.A ≤ ((g.L m.Term).length : Int) ∧ (m.Ok = true → m.A ≤ (g.ac m.Term m.From.toNat : Int))
theorem Gle.msg {g g' : RGh} {n : Nat} (h : Gle g g') {m : GM} (hm : MInv g n m) : MInv g' n m := by
  obtain ⟨f, hf, hfn⟩ := hm.frm
  have hff : m.From.toNat = f := by omega
  obtain ⟨t, ht, htn⟩ := hm.to
  refine ⟨hm.frm, hm.to, hm.ne, hm.a, hm.term, fun hk => ?_, fun hk ho => ?_, fun hk => ?_, hm.k3n, fun hk => ?_⟩
  · obtain ⟨a, b, c⟩ := hm.k1 hk
    have e := h.cl m.Term m.From.toNat (by rw [a]; omega)
    exact ⟨by rw [h.vt _ _ (by omega)]; exact a, by rw [e]; exact b, by rw [e]; exact c⟩
  · have a := hm.k2 hk ho
    rw [h.vt _ _ (by omega)]; exact a
  · obtain ⟨a, b, c, ⟨e, e1, e2, e3⟩, d⟩ := hm.k3 hk
    have hp : Pre (g.L m.Term).length (g'.L m.Term) (g.L m.Term) := h.pre (Nat.le_refl _)
    have hl := h.len m.Term
    obtain ⟨x1, x2⟩ := hm.a
    refine ⟨h.ld _ _ a, by omega, by rw [hp.tn (by omega)]; exact c, ⟨e, e1, by omega, by rw [(hp.mono e2).2.2]; exact e3⟩, ?_⟩
    rcases d with d | ⟨d0, T, k, d1, d2, d3, d4⟩
    · exact .inl d
    · exact .inr ⟨d0, T, k, h.com d1, d2, d3, h.pre2 d4⟩
  · obtain ⟨a, b⟩ := hm.k4 hk
    have := h.len m.Term
    have := h.ac m.Term m.From.toNat
    exact ⟨by omega, fun ho => by have := b ho; omega⟩
end Go.Proofs.YtlpcdcpcfeaecaaAb
end
