import Derived.Test.YtlpcdcpcfeaecaaG02
set_option linter.all false
set_option maxRecDepth 20000
namespace Go.Proofs.YtlpcdcpcfeaecaaAb
open Go Go.Proofs
theorem v2az {Δ : Prims} (g : Env Try.prog Δ) {w : Value} {xs1 : List GM} {x1 x2 : Int} {res : List GM} (hr : v29z xs1 x1 x2 = some res) (lo n : Nat) (H F : Heap) (hS : St lo n H F) (hO : OW lo n H F w xs1) : C Try.prog Δ lo 56 [w, iv x1, iv x2] n H (fun v n' H' => n' = n ∧ St lo n H' F ∧ OW lo n H' F v res ∧ (∀ i, idOf w ≠ some i → H' i = H i) ∧ ∀ b, idOf v = some b → idOf w = some b) := by
 obtain ⟨a, cap, rfl⟩ : ∃ a cap, w = .slice a xs1.length cap := by obtain ⟨_, _, cs, h, _⟩ := hO; exact h.form
 exact C.mono (v29zk g hS hO (Nat.le_refl _) hr) fun v n' H' ⟨a2, c2, e1, h1, e2, h2, h3, h4⟩ => by subst e1; subst e2; exact ⟨rfl, h1, h2, h3, h4⟩
theorem v2gz {Δ : Prims} (g : Env Try.prog Δ) {A : List Item} {w : Value} {X : Item} {xs1 : List Int} {x1 : Int} {res : List Int} (hr : v2fz xs1 x1 = some res) (mm : Mm A X) [c : Rdb X w xs1] (lo n : Nat) (H F : Heap) (wf : Wf lo n F A H) : C Try.prog Δ n 112 [w, iv x1] n H (fun v n' H' => St n n' H' F ∧ OW n n' H' F v res) := by
 obtain ⟨h, l, hX⟩ := wf.get mm
 obtain ⟨_, cs, h1, h2⟩ := c.out hX wf.fh l
 obtain ⟨a, cap, rfl⟩ : ∃ a cap, w = .slice a xs1.length cap := h1.form
 exact C.mono (v2fzk g (lo := n) ⟨Nat.le_refl _, wf.hb, wf.fh⟩ ⟨cs, h1, h2⟩ hr) fun v n' H' ⟨a2, c2, h1, e, h2⟩ => by subst e; exact ⟨h1, h2⟩
theorem v1yzk {Δ : Prims} (g : Env Try.prog Δ) {Ar : List Item} {xs1 : (List UInt8)} {w1 : Value} {x1 x2 : Int} {res : (Int)} (hr : v1yz xs1 x1 x2 = some res) :
    Sp Try.prog Δ 13 [w1, iv x1, iv x2] (fz w1 xs1 :: Ar) (fun v A => v = iv res ∧ A = fz w1 xs1 :: Ar) := by
 refine Sp.bd Try.func13 rfl rfl ?_
 unfold v1yz at hr
 refine T.q (T.r (TL.a rfl (T.nil (T.m (T.q (T.q (T.r (TL.mv rfl (TL.bin rfl rfl ?_)))))))))
 refine T.nil (T.m ?_)
 refine T.cD rfl (fun hc1 => ?_) (fun hc1 => ?_)
 {
 replace hr := iP hr hc1
 refine T.q (T.r (TL.a rfl (T.nil (T.m ?_))))
 refine T.ret ?_
 refine T.thenRet ?_
 obtain rfl := Option.some.inj hr
 exact ⟨.inr rfl, _, _, (Res.tmp rfl Res.nil), (.refl _), rfl, rfl⟩
 }
 {
 replace hr := iN hr hc1
 refine T.k (T.m (T.q (T.q (T.r (TL.mv rfl (TL.len rfl a0 (TL.bin rfl rfl (T.nil (T.m ?_)))))))))
 refine T.cD rfl (fun hc2 => ?_) (fun hc2 => ?_)
 {
 replace hr := iP hr hc2
 refine T.q (T.r (TL.mv rfl ?_))
 obtain ⟨hc3, hr⟩ := cS hr
 refine TL.mu rfl hc3 (TL.mv rfl ?_)
 obtain ⟨hc4, hr⟩ := cS hr
 refine TL.of (fun f k => WL.remI f rfl rfl rfl rfl rfl hc4.1 hc4.2 k) ?_
 refine TL.a rfl (T.nil (T.m ?_))
 refine T.ret ?_
 refine T.thenRet ?_
 obtain rfl := Option.some.inj hr
 exact ⟨.inr rfl, _, _, (Res.tmp rfl Res.nil), (.refl _), rfl, rfl⟩
 }
 {
 replace hr := iN hr hc2
 refine T.k (T.m (T.q (T.rD [0, 1, 2, 3, 4, 5, 6, 7, 8, 9, 10, 11, 12, 13, 14, 15, 16, 17, 18, 19, 20, 21, 22, 23, 24, 25, 26] [false, false, false, false, false, false, false, false, false, false, false, false, false, false, false, false, false, false, false, false, false, false, false, false, false, false, false] rfl rfl kr kr mP (TL.mv rfl (TL.mv rfl (TL.mv rfl (TL.len rfl a0 ?_)))))))
 obtain ⟨hc5, hr⟩ := cS hr
 refine TL.of (fun f k => WL.remI f rfl rfl rfl rfl rfl hc5.1 hc5.2 k) ?_
 obtain ⟨x3, hx1, hr⟩ := bS hr
 refine TL.ixu rfl a0 hx1 (fun b1 e26 hp1 => ?_)
 refine TL.ldek (m := 0) rfl a0 hp1 hx1 Rp.sc rfl ?_
 refine TL.of (fun f k => WL.convN f rfl rfl rfl Try.underlying5 Try.underlying3 rfl topI64 (u8_bnd _).1 (u8_lt63 _) k) ?_
 obtain ⟨hc6, hr⟩ := cS hr
 refine TL.mu rfl hc6 (TL.mv rfl (TL.mv rfl ?_))
 obtain ⟨hc7, hr⟩ := cS hr
 refine TL.ad rfl hc7 (TL.mv rfl (TL.len rfl a0 ?_))
 obtain ⟨hc8, hr⟩ := cS hr
 refine TL.of (fun f k => WL.remI f rfl rfl rfl rfl rfl hc8.1 hc8.2 k) ?_
 obtain ⟨x4, hx2, hr⟩ := bS hr
 refine TL.ixu rfl a0 hx2 (fun b2 e40 hp2 => ?_)
 refine TL.ldek (m := 0) rfl a0 hp2 hx2 Rp.sc rfl ?_
 refine TL.of (fun f k => WL.convN f rfl rfl rfl Try.underlying5 Try.underlying3 rfl topI64 (u8_bnd _).1 (u8_lt63 _) k) ?_
 obtain ⟨hc9, hr⟩ := cS hr
 refine TL.ad rfl hc9 (TL.mv rfl (TL.mv rfl (TL.len rfl a0 ?_)))
 obtain ⟨hc10, hr⟩ := cS hr
 refine TL.of (fun f k => WL.quoI f rfl rfl rfl rfl rfl hc10.1 hc10.2.1 hc10.2.2 k) ?_
 obtain ⟨hc11, hr⟩ := cS hr
 refine TL.ad rfl hc11 (TL.mv rfl ?_)
 obtain ⟨hc12, hr⟩ := cS hr
 refine TL.of (fun f k => WL.remI f rfl rfl rfl rfl rfl hc12.1 hc12.2 k) ?_
 refine TL.a rfl (T.nil (T.m ?_))
 refine T.ret ?_
 obtain rfl := Option.some.inj hr
 exact ⟨.inr rfl, _, _, (Res.tmp rfl Res.nil), (.refl _), rfl, rfl⟩
 }
 }
theorem v1zzk {Δ : Prims} (g : Env Try.prog Δ) {Ar : List Item} {xs1 : (List UInt8)} {w1 : Value} {res : (Int)} (hr : v1zz xs1 = some res) :
    Sp Try.prog Δ 10 [w1] (fz w1 xs1 :: Ar) (fun v A => v = iv res ∧ A = fz w1 xs1 :: Ar) := by
 refine Sp.bd Try.func10 rfl rfl ?_
 unfold v1zz at hr
 refine T.q (T.r (TL.a rfl (T.nil (T.m (T.q (T.r ?_))))))
 refine TL.lit (α := Int) rfl rfl rfl rfl ([1, 3, 5, 3, 2, 4, 7] : List Int) (fun _ _ _ _ _ => (RA.cons (cs := [iv 1]) (a := (1 : Int)) rfl (RA.cons (cs := [iv 3]) (a := (3 : Int)) rfl (RA.cons (cs := [iv 5]) (a := (5 : Int)) rfl (RA.cons (cs := [iv 3]) (a := (3 : Int)) rfl (RA.cons (cs := [iv 2]) (a := (2 : Int)) rfl (RA.cons (cs := [iv 4]) (a := (4 : Int)) rfl (RA.cons (cs := [iv 7]) (a := (7 : Int)) rfl RA.nil)))))))) (fun w2 => ?_)
 refine TL.mv rfl ?_
 obtain ⟨x1, hx1, hr⟩ := bS hr
 refine TL.gh (.sl (.p p1 .e)) ?_
 refine TL.c rfl rfl rfl (v1yzk g hx1) ?_
 rintro _ _ ⟨rfl, rfl⟩
 obtain ⟨x2, hx2, hr⟩ := bS hr
 refine TL.ixu rfl a1 hx2 (fun b1 e33 hp1 => ?_)
 refine TL.ldek (m := 0) rfl a1 hp1 hx2 Rp.sc rfl (TL.a rfl (T.nil (T.m ?_)))
 refine T.ret ?_
 obtain rfl := Option.some.inj hr
 exact ⟨.inr rfl, _, _, (Res.tmp rfl Res.nil), (.sl (.p p0 (d1))), rfl, rfl⟩
theorem v2nzk {Δ : Prims} (g : Env Try.prog Δ) {Ar : List Item} {xs1 : (List UInt8)} {w1 : Value} {res : (GS)} (hr : v2nz xs1 = some res) :
    Sp Try.prog Δ 35 [w1] (fz w1 xs1 :: Ar) (fun v A => ∃ (rq1 : Nat) (rw1 : Value), v = pt rq1 0 ∧ A = fz w1 xs1 :: box rq1 [rw1, iv res.at_, iv res.seed] :: fz rw1 res.code :: Ar) := by
 refine Sp.bd Try.func35 rfl rfl ?_
 unfold v2nz at hr
 refine T.q (T.r (TL.a rfl (T.nil (T.m (T.q (T.r (TL.mv rfl (TL.mv rfl (TL.len rfl a0 ?_)))))))))
 obtain ⟨hc1, hr⟩ := cS hr
 refine TL.of (fun f k => WL.remI f rfl rfl rfl rfl rfl hc1.1 hc1.2 k) ?_
 refine TL.bld (cells := [w1, iv 0, iv ((xs1.length : Int) % 1000)]) rfl Try.underlying96 info96 rfl rfl rfl (by simp only [List.mapM_cons, List.mapM_nil, info22, info3, info3]; rfl) rfl (.h a0 inferInstance (.s rfl .n)) rfl ?_
 refine TL.bxo rfl rfl (.h a0 inferInstance (.s rfl (.s rfl .n))) (fun q1 => ?_)
 refine TL.a rfl (T.nil (T.m ?_))
 refine T.ret ?_
 obtain rfl := Option.some.inj hr
 exact ⟨.inr rfl, _, _, (Res.tmp rfl Res.nil), (.sl (.c a1 Pers.rC .e)), q1, w1, rfl, rfl⟩
theorem v2qzk {Δ : Prims} (g : Env Try.prog Δ) {Ar : List Item} {x1 : GS} {q1 : Nat} {w1 : Value} {res : (GS × Int)} (hr : v2qz x1 = some res) :
    Sp Try.prog Δ 117 [pt q1 0] (box q1 [w1, iv x1.at_, iv x1.seed] :: fz w1 x1.code :: Ar) (fun v A => ∃ (rw1 : Value), v = iv res.2 ∧ A = box q1 [rw1, iv res.1.at_, iv res.1.seed] :: fz rw1 res.1.code :: Ar) := by
 refine Sp.bd Try.func117 rfl rfl ?_
 unfold v2qz at hr
 refine T.q (T.r (TL.a rfl (T.nil (T.m (T.q (T.r (TL.mv rfl (TL.nc rfl (TL.fa rfl ?_)))))))))
 refine TL.ld rfl a0 rfl ?_
 obtain ⟨hc1, hr⟩ := cS hr
 refine TL.ad rfl hc1 (TL.nc rfl (TL.fa rfl ?_))
 refine TL.st rfl rfl e0 c1 (T.nil (T.m (T.q (T.q (T.rD r10 f10 rfl rfl kr kr mP (TL.mv rfl (TL.nc rfl (TL.fa rfl (TL.ld rfl a0 rfl ?_)))))))))
 refine TL.mv rfl (TL.nc rfl (TL.fa rfl (TL.ld rfl a0 rfl (TL.len rfl a1 (TL.bin rfl rfl (T.nil (T.m ?_)))))))
 refine T.cD rfl (fun hc2 => ?_) (fun hc2 => ?_)
 {
 replace hr := iP hr hc2
 refine T.q (T.rD [0, 1, 2, 3, 4, 5, 6, 7, 8, 9, 10, 11, 12, 13, 14, 15, 16, 17, 18, 19, 20, 21, 22, 23] [false, false, false, false, false, false, false, false, false, false, false, false, false, false, false, false, false, false, false, false, false, false, false, true] rfl rfl kr kr mP (TL.mv rfl (TL.mv rfl (TL.nc rfl (TL.fa rfl (TL.ld rfl a0 rfl ?_))))))
 obtain ⟨hc3, hr⟩ := cS hr
 refine TL.mu rfl hc3 (TL.mv rfl (TL.nc rfl (TL.fa rfl (TL.ld rfl a0 rfl (TL.mv rfl (TL.nc rfl (TL.fa rfl (TL.ld rfl a0 rfl ?_))))))))
 obtain ⟨hc4, hr⟩ := cS hr
 refine TL.su rfl hc4 ?_
 obtain ⟨x2, hx1, hr⟩ := bS hr
 refine TL.ixu rfl a1 hx1 (fun b1 e60 hp1 => ?_)
 refine TL.ldek (m := 0) rfl a1 hp1 hx1 Rp.sc rfl ?_
 refine TL.of (fun f k => WL.convN f rfl rfl rfl Try.underlying5 Try.underlying3 rfl topI64 (u8_bnd _).1 (u8_lt63 _) k) ?_
 obtain ⟨hc5, hr⟩ := cS hr
 refine TL.ad rfl hc5 ?_
 obtain ⟨hc6, hr⟩ := cS hr
 refine TL.ad rfl hc6 ?_
 obtain ⟨hc7, hr⟩ := cS hr
 refine TL.of (fun f k => WL.remI f rfl rfl rfl rfl rfl hc7.1 hc7.2 k) ?_
 refine TL.nc rfl (TL.fa rfl ?_)
 refine TL.st rfl rfl e0 c2 (T.nil (T.m (T.q (T.rD r13 f13 rfl rfl kr kr mP (TL.mv rfl (TL.nc rfl (TL.fa rfl (TL.ld rfl a0 rfl (TL.mv rfl ?_)))))))))
 refine TL.nc rfl (TL.fa rfl (TL.ld rfl a0 rfl ?_))
 obtain ⟨hc8, hr⟩ := cS hr
 refine TL.su rfl hc8 ?_
 obtain ⟨x3, hx2, hr⟩ := bS hr
 refine TL.ixu rfl a1 hx2 (fun b2 e79 hp2 => ?_)
 refine TL.ldek (m := 0) rfl a1 hp2 hx2 Rp.sc rfl ?_
 refine TL.of (fun f k => WL.convN f rfl rfl rfl Try.underlying5 Try.underlying3 rfl topI64 (u8_bnd _).1 (u8_lt63 _) k) ?_
 refine TL.a rfl (T.nil (T.m ?_))
 refine T.ret ?_
 refine T.thenRet ?_
 obtain rfl := Option.some.inj hr
 exact ⟨.inr rfl, _, _, (Res.tmp rfl Res.nil), (.refl _), w1, rfl, rfl⟩
 }
 {
 replace hr := iN hr hc2
 refine T.k (T.m (T.q (T.q (T.r (TL.mv rfl (TL.nc rfl (TL.fa rfl (TL.ld rfl a0 rfl (TL.bin rfl rfl ?_)))))))))
 refine T.nil (T.m ?_)
 refine T.cD rfl (fun hc9 => ?_) (fun hc9 => ?_)
 {
 replace hr := iP hr hc9
 refine T.q (T.r (TL.a rfl (T.nil (T.m ?_))))
 refine T.ret ?_
 refine T.thenRet ?_
 obtain rfl := Option.some.inj hr
 exact ⟨.inr rfl, _, _, (Res.tmp rfl Res.nil), (.refl _), w1, rfl, rfl⟩
 }
 {
 replace hr := iN hr hc9
 refine T.k (T.m (T.q (T.r (TL.mv rfl (TL.mv rfl (TL.nc rfl (TL.fa rfl (TL.ld rfl a0 rfl ?_))))))))
 obtain ⟨hc10, hr⟩ := cS hr
 refine TL.mu rfl hc10 ?_
 obtain ⟨hc11, hr⟩ := cS hr
 refine TL.ad rfl hc11 ?_
 obtain ⟨hc12, hr⟩ := cS hr
 refine TL.of (fun f k => WL.remI f rfl rfl rfl rfl rfl hc12.1 hc12.2 k) ?_
 refine TL.nc rfl (TL.fa rfl ?_)
 refine TL.st rfl rfl e0 c2 (T.nil (T.m (T.q (T.r (TL.mv rfl (TL.nc rfl (TL.fa rfl (TL.ld rfl a0 rfl ?_))))))))
 obtain ⟨hc13, hr⟩ := cS hr
 refine TL.of (fun f k => WL.quoI f rfl rfl rfl rfl rfl hc13.1 hc13.2.1 hc13.2.2 k) ?_
 obtain ⟨hc14, hr⟩ := cS hr
 refine TL.of (fun f k => WL.remI f rfl rfl rfl rfl rfl hc14.1 hc14.2 k) ?_
 refine TL.a rfl (T.nil (T.m ?_))
 refine T.ret ?_
 obtain rfl := Option.some.inj hr
 exact ⟨.inr rfl, _, _, (Res.tmp rfl Res.nil), (.refl _), w1, rfl, rfl⟩
 }
 }
theorem v36zk {Δ : Prims} (g : Env Try.prog Δ) {Ar : List Item} {x1 : GS} {q1 : Nat} {w1 : Value} {x2 : Int} {res : (GS × Int)} (hr : v36z x1 x2 = some res) :
    Sp Try.prog Δ 98 [pt q1 0, iv x2] (box q1 [w1, iv x1.at_, iv x1.seed] :: fz w1 x1.code :: Ar) (fun v A => ∃ (rw1 : Value), v = iv res.2 ∧ A = box q1 [rw1, iv res.1.at_, iv res.1.seed] :: fz rw1 res.1.code :: Ar) := by
 refine Sp.bd Try.func98 rfl rfl ?_
 unfold v36z at hr
 refine T.q (T.r (TL.a rfl (T.nil (T.m (T.q (T.q (T.r (TL.mv rfl (TL.bin rfl rfl ?_)))))))))
 refine T.nil (T.m ?_)
 refine T.cD rfl (fun hc1 => ?_) (fun hc1 => ?_)
 {
 replace hr := iP hr hc1
 refine T.q (T.r (TL.a rfl (T.nil (T.m ?_))))
 refine T.ret ?_
 refine T.thenRet ?_
 obtain rfl := Option.some.inj hr
 exact ⟨.inr rfl, _, _, (Res.tmp rfl Res.nil), (.refl _), w1, rfl, rfl⟩
 }
 {
 replace hr := iN hr hc1
 refine T.k (T.m (T.q (T.q (T.r (TL.mv rfl (TL.bin rfl rfl (T.nil (T.m ?_))))))))
 refine T.cD rfl (fun hc2 => ?_) (fun hc2 => ?_)
 {
 replace hr := iP hr hc2
 refine T.q (T.r (TL.mv rfl ?_))
 obtain ⟨x3, hx1, hr⟩ := bS hr
 refine TL.c rfl rfl rfl (v2qzk g hx1) ?_
 rintro _ _ ⟨w2, rfl, rfl⟩
 refine TL.mv rfl ?_
 obtain ⟨hc3, hr⟩ := cS hr
 refine TL.of (fun f k => WL.remI f rfl rfl rfl rfl rfl hc3.1 hc3.2 k) ?_
 refine TL.a rfl (T.nil (T.m ?_))
 refine T.ret ?_
 refine T.thenRet ?_
 obtain rfl := Option.some.inj hr
 exact ⟨.inr rfl, _, _, (Res.tmp rfl Res.nil), (.refl _), w2, rfl, rfl⟩
 }
 {
 replace hr := iN hr hc2
 refine T.k (T.m (T.q (T.r (TL.mv rfl ?_))))
 obtain ⟨x4, hx2, hr⟩ := bS hr
 refine TL.c rfl rfl rfl (v2qzk g hx2) ?_
 rintro _ _ ⟨w3, rfl, rfl⟩
 refine TL.a rfl (T.nil (T.m (T.q (T.r (TL.mv rfl ?_)))))
 obtain ⟨x5, hx3, hr⟩ := bS hr
 refine TL.c rfl rfl rfl (v2qzk g hx3) ?_
 rintro _ _ ⟨w4, rfl, rfl⟩
 refine TL.a rfl (T.nil (T.m (T.q (T.r (TL.mv rfl ?_)))))
 obtain ⟨x6, hx4, hr⟩ := bS hr
 refine TL.c rfl rfl rfl (v2qzk g hx4) ?_
 rintro _ _ ⟨w5, rfl, rfl⟩
 refine TL.a rfl (T.nil (T.m (T.q (T.r (TL.mv rfl ?_)))))
 obtain ⟨hc4, hr⟩ := cS hr
 refine TL.mu rfl hc4 (TL.mv rfl ?_)
 obtain ⟨hc5, hr⟩ := cS hr
 refine TL.mu rfl hc5 ?_
 obtain ⟨hc6, hr⟩ := cS hr
 refine TL.ad rfl hc6 (TL.mv rfl ?_)
 obtain ⟨hc7, hr⟩ := cS hr
 refine TL.ad rfl hc7 (TL.mv rfl ?_)
 obtain ⟨hc8, hr⟩ := cS hr
 refine TL.of (fun f k => WL.remI f rfl rfl rfl rfl rfl hc8.1 hc8.2 k) ?_
 refine TL.a rfl (T.nil (T.m ?_))
 refine T.ret ?_
 obtain rfl := Option.some.inj hr
 exact ⟨.inr rfl, _, _, (Res.tmp rfl Res.nil), (.refl _), w5, rfl, rfl⟩
 }
 }
theorem v2rzk {Δ : Prims} (g : Env Try.prog Δ) {Ar : List Item} {x1 : GS} {q1 : Nat} {w1 : Value} {x2 : Int} {res : (GS × (List UInt8))} (hr : v2rz x1 x2 = some res) :
    Sp Try.prog Δ 115 [pt q1 0, iv x2] (box q1 [w1, iv x1.at_, iv x1.seed] :: fz w1 x1.code :: Ar) (fun v A => ∃ (rw1 : Value), A = box q1 [rw1, iv res.1.at_, iv res.1.seed] :: fz rw1 res.1.code :: ow (rC UInt8) v res.2 :: Ar) := by
 refine Sp.bd Try.func115 rfl rfl ?_
 unfold v2rz at hr
 refine T.q (T.r (TL.a rfl (T.nil (T.m (T.q (T.r ?_))))))
 refine TL.lit (α := UInt8) rfl rfl rfl rfl ([] : List UInt8) (fun _ _ _ _ _ => RA.nil) (fun w2 => ?_)
 refine TL.a rfl (T.nil (T.m (T.q (T.q (T.r (TL.mv rfl (TL.mv rfl ?_)))))))
 obtain ⟨hc1, hr⟩ := cS hr
 refine TL.ad rfl hc1 ?_
 obtain ⟨x3, hx1, hr⟩ := bS hr
 refine TL.gh (.sl (.p p1 (.p p1 .e))) ?_
 refine TL.c rfl rfl rfl (v36zk g hx1) ?_
 rintro _ _ ⟨w3, rfl, rfl⟩
 refine TL.a rfl (T.nil (T.m (T.b ?_)))
 refine T.lp (fun k0 fr A => ∃ (xs1 : (List UInt8)) (x4 : Int) (xs2 : (List UInt8)) (x5 : Int) (x6 : Int) (w4 : Value) (w5 : Value), fr = [(0, pt q1 0), (5, w4), (6, iv x4)] ∧ A = box q1 [w5, iv x5, iv x6] :: ow (rC UInt8) w4 xs1 :: fz w5 xs2 :: Ar ∧ v2sz k0 xs1 x4 xs2 x5 x6 = some res) BIG ?_ ?_ ?_
 {
 exact ⟨_, _, (fl3), (.sl (.p p0 (.p p1 (.p p0 .e)))), ([] : List UInt8), x3.2, x3.1.code, x3.1.at_, x3.1.seed, w2, w3, rfl, rfl, hr⟩
 }
 {
 rintro fr A ⟨xs1, x4, xs2, x5, x6, w4, w5, -, -, hr⟩
 rw [v2sz] at hr
 cases hr
 }
 {
 rintro k0 _ _ ⟨xs1, x4, xs2, x5, x6, w4, w5, rfl, rfl, hr⟩
 rw [v2sz] at hr
 refine T.q (T.q (T.r (TL.mv rfl (TL.bin rfl rfl (T.nil (T.m ?_))))))
 refine T.cD rfl (fun hc2 => ?_) (fun hc2 => ?_)
 {
 replace hr := iP hr hc2
 refine T.k (T.m (T.q (T.b (T.r (TL.mv rfl (TL.mv rfl ?_))))))
 obtain ⟨x7, hx2, hr⟩ := bS hr
 refine TL.gh (.sl (.p p0 (.p p1 .e))) ?_
 refine TL.c rfl rfl rfl (v36zk g hx2) ?_
 rintro _ _ ⟨w6, rfl, rfl⟩
 refine TL.of (fun f k => WL.convB f rfl rfl rfl Try.underlying3 Try.underlying5 rfl k) ?_
 refine TL.lit (α := UInt8) rfl rfl rfl rfl ([(byteOf x7.2)] : List UInt8) (fun _ _ _ _ _ => (RA.cons (cs := [u8 (byteOf x7.2)]) (a := ((byteOf x7.2) : UInt8)) rfl RA.nil)) (fun w7 => ?_)
 obtain ⟨hc3, hr⟩ := cS hr
 refine TL.appR rfl p3 a0 hc3 (fun w8 => ?_)
 refine TL.a rfl (T.nil (T.bN (T.m (T.r (TL.mv rfl ?_)))))
 obtain ⟨hc4, hr⟩ := cS hr
 refine TL.su rfl hc4 (TL.a rfl (T.nil (T.m ?_)))
 exact ⟨_, _, (fl3), (.sl (.p p2 (.p p0 (.p p1 (d1))))), (xs1 ++ ([(byteOf x7.2)] : List UInt8)), (x4 - 1), x7.1.code, x7.1.at_, x7.1.seed, w8, w6, rfl, rfl, hr⟩
 }
 {
 replace hr := iN hr hc2
 refine T.exit ?_
 refine T.tE (T.tE (T.bH (T.m (T.q (T.r (TL.mv rfl (TL.a rfl (T.nil (T.m ?_)))))))))
 refine T.ret ?_
 obtain rfl := Option.some.inj hr
 exact ⟨.inr rfl, _, _, (Res.tmp rfl Res.nil), (.sl (.p p0 (.p p1 (.p p0 .e)))), w5, rfl⟩
 }
 }
theorem v2tzk {Δ : Prims} (g : Env Try.prog Δ) {Ar : List Item} {x1 : GS} {q1 : Nat} {w1 : Value} {x2 : Int} {res : (GS × (List GE))} (hr : v2tz x1 x2 = some res) :
    Sp Try.prog Δ 96 [pt q1 0, iv x2] (box q1 [w1, iv x1.at_, iv x1.seed] :: fz w1 x1.code :: Ar) (fun v A => ∃ (rw1 : Value), A = box q1 [rw1, iv res.1.at_, iv res.1.seed] :: fz rw1 res.1.code :: ow (rC GE) v res.2 :: Ar) := by
 refine Sp.bd Try.func96 rfl rfl ?_
 unfold v2tz at hr
 refine T.q (T.r (TL.a rfl (T.nil (T.m (T.q (T.r (TL.mv rfl (TL.mv rfl ?_))))))))
 obtain ⟨x3, hx1, hr⟩ := bS hr
 refine TL.c rfl rfl rfl (v36zk g hx1) ?_
 rintro _ _ ⟨w2, rfl, rfl⟩
 refine TL.a rfl (T.nil (T.m (T.q (T.r (TL.mv rfl ?_)))))
 refine TL.bld (cells := [iv 1, iv x3.2, .slice none 0 0]) rfl Try.underlying24 info24 rfl rfl rfl (by simp only [List.mapM_cons, List.mapM_nil, info3, info3, info22]; rfl) rfl (.s rfl (.s rfl .n)) rfl ?_
 refine TL.gh (.nilZ UInt8) ?_
 refine TL.gh (GE.mkV (s0 := 1) (s1 := x3.2) a0) ?_
 refine TL.lit1 rfl rfl p0 (fun w3 => ?_)
 refine TL.a rfl (T.nil (T.m (T.q (T.q (T.r (TL.mv rfl ?_))))))
 obtain ⟨x4, hx2, hr⟩ := bS hr
 refine TL.gh (.sl (.p p2 (.p p2 .e))) ?_
 refine TL.c rfl rfl rfl (v36zk g hx2) ?_
 rintro _ _ ⟨w4, rfl, rfl⟩
 obtain ⟨hc1, hr⟩ := cS hr
 refine TL.ad rfl hc1 (TL.a rfl (T.nil (T.m (T.b ?_))))
 refine T.lp (fun k0 fr A => ∃ (xs1 : (List GE)) (x5 : Int) (xs2 : (List UInt8)) (x6 : Int) (x7 : Int) (w5 : Value) (w6 : Value), fr = [(0, pt q1 0), (1, iv x2), (5, iv x3.2), (6, w5), (7, iv x5)] ∧ A = box q1 [w6, iv x6, iv x7] :: ow (rC GE) w5 xs1 :: fz w6 xs2 :: Ar ∧ v2uz x2 x3 k0 xs1 x5 xs2 x6 x7 = some res) BIG ?_ ?_ ?_
 {
 exact ⟨_, _, (fl5), (.sl (.p p0 (.p p1 (.p p0 (d1))))), ([({ Kind := 1, N := x3.2, Data := [] } : GE)] : List GE), ((2 : Int) + x4.2), x4.1.code, x4.1.at_, x4.1.seed, w3, w4, rfl, rfl, hr⟩
 }
 {
 rintro fr A ⟨xs1, x5, xs2, x6, x7, w5, w6, -, -, hr⟩
 rw [v2uz] at hr
 cases hr
 }
 {
 rintro k0 _ _ ⟨xs1, x5, xs2, x6, x7, w5, w6, rfl, rfl, hr⟩
 rw [v2uz] at hr
 refine T.q (T.q (T.r (TL.mv rfl (TL.bin rfl rfl (T.nil (T.m ?_))))))
 refine T.cD rfl (fun hc2 => ?_) (fun hc2 => ?_)
 {
 replace hr := iP hr hc2
 refine T.k (T.m (T.q (T.b (T.q (T.q (T.r (TL.mv rfl ?_)))))))
 obtain ⟨hc3, hr⟩ := cS hr
 refine TL.mu rfl hc3 (TL.a rfl (T.nil (T.m (T.b ?_))))
 refine T.lp (fun k1 fr A => ∃ (xs3 : (List GE)) (x8 : Int) (w7 : Value), fr = [(0, pt q1 0), (1, iv x2), (5, iv x3.2), (6, w7), (7, iv x5), (8, iv x8)] ∧ A = box q1 [w6, iv x6, iv x7] :: ow (rC GE) w7 xs3 :: fz w6 xs2 :: Ar ∧ v2vz xs2 x6 x7 x3 x5 (v2uz x2 x3 k0) k1 xs3 x8 = some res) BIG ?_ ?_ ?_
 {
 exact ⟨_, _, (fl6), (.refl _), xs1, ((3 : Int) * x2), w5, rfl, rfl, hr⟩
 }
 {
 rintro fr A ⟨xs3, x8, w7, -, -, hr⟩
 rw [v2vz] at hr
 cases hr
 }
 {
 rintro k1 _ _ ⟨xs3, x8, w7, rfl, rfl, hr⟩
 rw [v2vz] at hr
 refine T.q (T.q (T.r (TL.mv rfl (TL.bin rfl rfl (T.nil (T.m ?_))))))
 refine T.cD rfl (fun hc4 => ?_) (fun hc4 => ?_)
 {
 replace hr := iP hr hc4
 refine T.k (T.m (T.q (T.b (T.r (TL.mv rfl ?_)))))
 refine TL.bld (cells := [iv 2, iv 0, .slice none 0 0]) rfl Try.underlying24 info24 rfl rfl rfl (by simp only [List.mapM_cons, List.mapM_nil, info3, info3, info22]; rfl) rfl (.s rfl .n) rfl ?_
 refine TL.gh (.nilZ UInt8) ?_
 refine TL.gh (GE.mkV (s0 := 2) (s1 := 0) a0) ?_
 refine TL.lit1 rfl rfl p0 (fun w8 => ?_)
 obtain ⟨hc5, hr⟩ := cS hr
 refine TL.appR rfl p3 a0 hc5 (fun w9 => ?_)
 refine TL.a rfl (T.nil (T.bN (T.m (T.r (TL.mv rfl ?_)))))
 obtain ⟨hc6, hr⟩ := cS hr
 refine TL.su rfl hc6 (TL.a rfl (T.nil (T.m ?_)))
 exact ⟨_, _, (fl6), (.sl (.p p3 (.p p0 (.p p2 (d2))))), (xs3 ++ ([({ Kind := 2, N := 0, Data := [] } : GE)] : List GE)), (x8 - 1), w9, rfl, rfl, hr⟩
 }
 {
 replace hr := iN hr hc4
 refine T.exit ?_
 refine T.tE (T.tE (T.bH (T.m (T.r (TL.mv rfl (TL.mv rfl (TL.mv rfl ?_)))))))
 obtain ⟨x9, hx3, hr⟩ := bS hr
 refine TL.gh (.sl (.p p0 (.p p1 .e))) ?_
 refine TL.c rfl rfl rfl (v2rzk g hx3) ?_
 rintro w10 _ ⟨w11, rfl⟩
 refine TL.bld (cells := [iv 7, iv x3.2, w10]) rfl Try.underlying24 info24 rfl rfl rfl (by simp only [List.mapM_cons, List.mapM_nil, info3, info3, info22]; rfl) rfl (.s rfl (.s rfl (.h a2 inferInstance .n))) rfl ?_
 refine TL.mv rfl ?_
 refine TL.bld (cells := [iv 1, iv x3.2, .slice none 0 0]) rfl Try.underlying24 info24 rfl rfl rfl (by simp only [List.mapM_cons, List.mapM_nil, info3, info3, info22]; rfl) rfl (.s rfl (.s rfl .n)) rfl ?_
 refine TL.gh (.frz p2) ?_
 refine TL.gh (.nilZ UInt8) ?_
 refine TL.gh (GE.mkV (s0 := 1) (s1 := x3.2) a0) ?_
 refine TL.gh (GE.mkV (s0 := 7) (s1 := x3.2) a2) ?_
 refine TL.litV rfl rfl rfl rfl (.s (.s .n)) (fun w12 => ?_)
 obtain ⟨hc7, hr⟩ := cS hr
 refine TL.appR rfl p5 a0 hc7 (fun w13 => ?_)
 refine TL.a rfl (T.nil (T.bN (T.m (T.r (TL.mv rfl ?_)))))
 obtain ⟨hc8, hr⟩ := cS hr
 refine TL.su rfl hc8 (TL.a rfl (T.nil (T.m ?_)))
 exact ⟨_, _, (fl5), (.sl (.p p4 (.p p0 (.p p3 (d3))))), (xs3 ++ ([({ Kind := 7, N := x3.2, Data := x9.2 } : GE), ({ Kind := 1, N := x3.2, Data := [] } : GE)] : List GE)), (x5 - 1), x9.1.code, x9.1.at_, x9.1.seed, w13, w11, rfl, rfl, hr⟩
 }
 }
 }
 {
 replace hr := iN hr hc2
 refine T.exit ?_
 refine T.tE (T.tE (T.bH (T.m (T.q (T.r (TL.mv rfl (TL.a rfl (T.nil (T.m ?_)))))))))
 refine T.ret ?_
 obtain rfl := Option.some.inj hr
 exact ⟨.inr rfl, _, _, (Res.tmp rfl Res.nil), (.sl (.p p0 (.p p1 (.p p0 .e)))), w6, rfl⟩
 }
 }
theorem v38zk {Δ : Prims} (g : Env Try.prog Δ) {Ar : List Item} {x1 : GS} {q1 : Nat} {w1 : Value} {x2 : Int} {res : (Int)} (hr : v38z x1 x2 = some res) :
    Sp Try.prog Δ 116 [pt q1 0, iv x2] (box q1 [w1, iv x1.at_, iv x1.seed] :: fz w1 x1.code :: Ar) (fun v A => v = iv res ∧ A = box q1 [w1, iv x1.at_, iv x1.seed] :: fz w1 x1.code :: Ar) := by
 refine Sp.bd Try.func116 rfl rfl ?_
 unfold v38z at hr
 refine T.q (T.r (TL.a rfl (T.nil (T.m (T.q (T.r (TL.mv rfl (TL.nc rfl (TL.fa rfl ?_)))))))))
 refine TL.ld rfl a0 rfl (TL.len rfl a1 ?_)
 obtain ⟨hc1, hr⟩ := cS hr
 refine TL.of (fun f k => WL.quoI f rfl rfl rfl rfl rfl hc1.1 hc1.2.1 hc1.2.2 k) ?_
 obtain ⟨hc2, hr⟩ := cS hr
 refine TL.ad rfl hc2 (TL.mv rfl ?_)
 refine TL.of (fun f k => WL.min2 f rfl rfl rfl rfl rfl k) ?_
 refine TL.a rfl (T.nil (T.m ?_))
 refine T.ret ?_
 obtain rfl := Option.some.inj hr
 exact ⟨.inr rfl, _, _, (Res.tmp rfl Res.nil), (.refl _), rfl, rfl⟩
theorem v2wzk {Δ : Prims} (g : Env Try.prog Δ) {Ar : List Item} {x1 : GS} {q1 : Nat} {w1 : Value} {x2 : Int} {res : (GS × Bool)} (hr : v2wz x1 x2 = some res) :
    Sp Try.prog Δ 66 [pt q1 0, iv x2] (box q1 [w1, iv x1.at_, iv x1.seed] :: fz w1 x1.code :: Ar) (fun v A => ∃ (rw1 : Value), v = .bool res.2 ∧ A = box q1 [rw1, iv res.1.at_, iv res.1.seed] :: fz rw1 res.1.code :: Ar) := by
 refine Sp.bd Try.func66 rfl rfl ?_
 unfold v2wz at hr
 refine T.q (T.r (TL.a rfl (T.nil (T.m (T.q (T.r (TL.mv rfl (TL.mv rfl ?_))))))))
 obtain ⟨x3, hx1, hr⟩ := bS hr
 refine TL.c rfl rfl rfl (v36zk g hx1) ?_
 rintro _ _ ⟨w2, rfl, rfl⟩
 refine TL.mv rfl ?_
 obtain ⟨hc1, hr⟩ := cS hr
 refine TL.su rfl hc1 (TL.bin rfl rfl (TL.a rfl (T.nil (T.m ?_))))
 refine T.ret ?_
 obtain rfl := Option.some.inj hr
 exact ⟨.inr rfl, _, _, (Res.tmp rfl Res.nil), (.refl _), w2, rfl, rfl⟩
theorem v2xzk {Δ : Prims} (g : Env Try.prog Δ) {Ar : List Item} {x1 : GS} {q1 : Nat} {w1 : Value} {x2 : Int} {res : (GS × (List GE))} (hr : v2xz x1 x2 = some res) :
    Sp Try.prog Δ 97 [pt q1 0, iv x2] (box q1 [w1, iv x1.at_, iv x1.seed] :: fz w1 x1.code :: Ar) (fun v A => ∃ (rw1 : Value), A = box q1 [rw1, iv res.1.at_, iv res.1.seed] :: fz rw1 res.1.code :: ow (rC GE) v res.2 :: Ar) := by
 refine Sp.bd Try.func97 rfl rfl ?_
 unfold v2xz at hr
 refine T.q (T.r (TL.a rfl (T.nil (T.m (T.q (T.r ?_))))))
 refine TL.lit (α := GE) rfl rfl rfl rfl ([] : List GE) (fun _ _ _ _ _ => RA.nil) (fun w2 => ?_)
 refine TL.a rfl (T.nil (T.m (T.q (T.q (T.r (TL.mv rfl (TL.mv rfl ?_)))))))
 obtain ⟨x3, hx1, hr⟩ := bS hr
 refine TL.gh (.sl (.p p1 (.p p1 .e))) ?_
 refine TL.c rfl rfl rfl (v38zk g hx1) ?_
 rintro _ _ ⟨rfl, rfl⟩
 obtain ⟨hc1, hr⟩ := cS hr
 refine TL.ad rfl hc1 ?_
 obtain ⟨x4, hx2, hr⟩ := bS hr
 refine TL.c rfl rfl rfl (v36zk g hx2) ?_
 rintro _ _ ⟨w3, rfl, rfl⟩
 refine TL.a rfl (T.nil (T.m (T.b ?_)))
 refine T.lp (fun k0 fr A => ∃ (xs1 : (List GE)) (x5 : Int) (xs2 : (List UInt8)) (x6 : Int) (x7 : Int) (w4 : Value) (w5 : Value), fr = [(0, pt q1 0), (1, iv x2), (5, w4), (6, iv x5)] ∧ A = box q1 [w5, iv x6, iv x7] :: ow (rC GE) w4 xs1 :: fz w5 xs2 :: Ar ∧ v2zz x2 k0 xs1 x5 xs2 x6 x7 = some res) BIG ?_ ?_ ?_
 {
 exact ⟨_, _, (fl4), (.sl (.p p0 (.p p1 (.p p0 .e)))), ([] : List GE), x4.2, x4.1.code, x4.1.at_, x4.1.seed, w2, w3, rfl, rfl, hr⟩
 }
 {
 rintro fr A ⟨xs1, x5, xs2, x6, x7, w4, w5, -, -, hr⟩
 rw [v2zz] at hr
 cases hr
 }
 {
 rintro k0 _ _ ⟨xs1, x5, xs2, x6, x7, w4, w5, rfl, rfl, hr⟩
 rw [v2zz] at hr
 refine T.q (T.q (T.r (TL.mv rfl (TL.bin rfl rfl (T.nil (T.m ?_))))))
 refine T.cD rfl (fun hc2 => ?_) (fun hc2 => ?_)
 {
 replace hr := iP hr hc2
 refine T.k (T.m (T.q ?_))
 refine T.ct (fun fr A => ∃ (xs3 : (List GE)) (xs4 : (List UInt8)) (x8 : Int) (x9 : Int) (w6 : Value) (w7 : Value), fr = [(0, pt q1 0), (1, iv x2), (5, w6), (6, iv x5)] ∧ A = box q1 [w7, iv x8, iv x9] :: ow (rC GE) w6 xs3 :: fz w7 xs4 :: Ar ∧ v2yz x5 (v2zz x2 k0) xs3 xs4 x8 x9 = some res) ?_ ?_
 {
 refine T.b (T.q (T.r (TL.mv rfl ?_)))
 obtain ⟨x10, hx3, hr⟩ := bS hr
 refine TL.gh (.sl (.p p0 (.p p1 .e))) ?_
 refine TL.c rfl rfl rfl (v36zk g hx3) ?_
 rintro _ _ ⟨w8, rfl, rfl⟩
 refine T.nil (T.m (T.b (T.q (T.r (TL.bin rfl rfl (TL.a rfl (T.nil (T.m ?_))))))))
 refine T.cD rfl (fun hc3 => ?_) (fun hc3 => ?_)
 {
 replace hr := iP hr hc3
 refine T.r (TL.mv rfl (TL.mv rfl (TL.mv rfl ?_)))
 obtain ⟨x11, hx4, hr⟩ := bS hr
 refine TL.c rfl rfl rfl (v36zk g hx4) ?_
 rintro _ _ ⟨w9, rfl, rfl⟩
 refine TL.bld (cells := [iv 1, iv x11.2, .slice none 0 0]) rfl Try.underlying24 info24 rfl rfl rfl (by simp only [List.mapM_cons, List.mapM_nil, info3, info3, info22]; rfl) rfl (.s rfl (.s rfl .n)) rfl ?_
 refine TL.gh (.nilZ UInt8) ?_
 refine TL.gh (GE.mkV (s0 := 1) (s1 := x11.2) a0) ?_
 refine TL.lit1 rfl rfl p0 (fun w10 => ?_)
 obtain ⟨hc4, hr⟩ := cS hr
 refine TL.appR rfl p4 a0 hc4 (fun w11 => ?_)
 refine TL.a rfl (T.nil (T.bN (T.bN (T.m ?_))))
 exact ⟨_, _, (fl4), (.sl (.p p3 (.p p0 (.p p2 (d2))))), (xs1 ++ ([({ Kind := 1, N := x11.2, Data := [] } : GE)] : List GE)), x11.1.code, x11.1.at_, x11.1.seed, w11, w9, rfl, rfl, hr⟩
 }
 {
 replace hr := iN hr hc3
 refine T.q (T.r (TL.bin rfl rfl (TL.a rfl (T.nil (T.m ?_)))))
 refine T.cD rfl (fun hc5 => ?_) (fun hc5 => ?_)
 {
 replace hr := iP hr hc5
 refine T.r (TL.mv rfl (TL.mv rfl (TL.mv rfl ?_)))
 obtain ⟨x12, hx5, hr⟩ := bS hr
 refine TL.c rfl rfl rfl (v36zk g hx5) ?_
 rintro _ _ ⟨w12, rfl, rfl⟩
 refine TL.mv rfl ?_
 obtain ⟨x13, hx6, hr⟩ := bS hr
 refine TL.c rfl rfl rfl (v2rzk g hx6) ?_
 rintro w13 _ ⟨w14, rfl⟩
 refine TL.bld (cells := [iv 7, iv x12.2, w13]) rfl Try.underlying24 info24 rfl rfl rfl (by simp only [List.mapM_cons, List.mapM_nil, info3, info3, info22]; rfl) rfl (.s rfl (.s rfl (.h a2 inferInstance .n))) rfl ?_
 refine TL.gh (.frz p2) ?_
 refine TL.gh (GE.mkV (s0 := 7) (s1 := x12.2) a0) ?_
 refine TL.lit1 rfl rfl p0 (fun w15 => ?_)
 obtain ⟨hc6, hr⟩ := cS hr
 refine TL.appR rfl p4 a0 hc6 (fun w16 => ?_)
 refine TL.a rfl (T.nil (T.bN (T.bN (T.m ?_))))
 exact ⟨_, _, (fl4), (.sl (.p p3 (.p p0 (.p p2 (d2))))), (xs1 ++ ([({ Kind := 7, N := x12.2, Data := x13.2 } : GE)] : List GE)), x13.1.code, x13.1.at_, x13.1.seed, w16, w14, rfl, rfl, hr⟩
 }
 {
 replace hr := iN hr hc5
 refine T.q (T.r (TL.bin rfl rfl (TL.a rfl (T.nil (T.m ?_)))))
 refine T.cD rfl (fun hc7 => ?_) (fun hc7 => ?_)
 {
 replace hr := iP hr hc7
 refine T.regionI (fun n1 => [wR n1 1 [iv 3, iv 4]]) [1, 0, 2, 6, 3, 4, 5, 7, 8, 9, 10, 11] [(false, true, false), (false, true, false), (false, false, false), (false, true, false), (true, false, false), (false, true, false), (false, true, false), (true, false, true), (false, false, false), (false, false, false), (true, false, true), (false, false, false)] false rfl kr kr mP (fun n1 => ?_)
 refine TI.llit (α := Int) Nd.f rfl rfl rfl rfl (by repeat' (first | exact List.forall_mem_nil _ | refine List.forall_mem_cons.2 ⟨?_, ?_⟩ | rfl)) .z ?_
 refine TI.lt Nd.f rfl (.move (.inl rfl) rfl) ?_
 refine TI.op Nd.f ?_
 refine TL.mv rfl ?_
 refine T.nil ⟨rfl, fun n2 => ?_⟩
 refine TI.lt Nd.f rfl (.move (.inl rfl) rfl) ?_
 refine TI.op Nd.f ?_
 obtain ⟨x14, hx7, hr⟩ := bS hr
 refine TL.gh (.sl (.p p1 (.p p1 .e))) ?_
 refine TL.c rfl rfl rfl (v36zk g hx7) ?_
 rintro _ _ ⟨w17, rfl, rfl⟩
 refine T.nil ⟨rfl, fun n3 => ?_⟩
 obtain ⟨x15, hx8, hr⟩ := bS hr
 refine TI.lt Nd.f rfl (Step.indexLit rfl Try.underlying31 info3 rfl rfl rfl hx8) ?_
 refine TI.llr Nd.f rfl a2 .z (lit_cell hx8) ?_
 refine TI.op (.t (.r a2 .n)) ?_
 obtain ⟨x16, hx9, hr⟩ := bS hr
 refine TL.c rfl rfl rfl (v36zk g hx9) ?_
 rintro _ _ ⟨w18, rfl, rfl⟩
 refine T.nil ⟨rfl, fun n4 => ?_⟩
 refine TI.op Nd.f ?_
 refine TL.bld (cells := [iv x15, iv x16.2, .slice none 0 0]) rfl Try.underlying24 info24 rfl rfl rfl (by simp only [List.mapM_cons, List.mapM_nil, info3, info3, info22]; rfl) rfl (.s rfl (.s rfl .n)) rfl ?_
 refine T.nil ⟨rfl, fun n5 => ?_⟩
 refine TI.op Nd.f ?_
 refine TL.gh (.nilZ UInt8) ?_
 refine TL.gh (GE.mkV (s0 := x15) (s1 := x16.2) a0) ?_
 refine TL.lit1 rfl rfl p0 (fun w19 => ?_)
 refine T.nil ⟨rfl, fun n6 => ?_⟩
 refine TI.op (.t (.r a4 .n)) ?_
 obtain ⟨hc8, hr⟩ := cS hr
 refine TL.appR rfl p5 a0 hc8 (fun w20 => ?_)
 refine T.nil ⟨rfl, fun n7 => ?_⟩
 refine TI.op Nd.f ?_
 refine TL.a rfl ?_
 refine T.nil ⟨rfl, fun n8 => ?_⟩
 refine TI.nil Nd.f (T.bN (T.bN (T.m ?_)))
 exact ⟨_, _, (fl4), (.trans (.brw (r := (rC Int)) (xs := ([3, 4] : List Int)) (len := 2) p5 rfl (by decide) (fun _ => RL.ofRA (RA.cons (cs := [iv 3]) (a := (3 : Int)) rfl (RA.cons (cs := [iv 4]) (a := (4 : Int)) rfl RA.nil)))) (.sl (.p p4 (.p p1 (.p p3 (d3)))))), (xs1 ++ ([({ Kind := x15, N := x16.2, Data := [] } : GE)] : List GE)), x16.1.code, x16.1.at_, x16.1.seed, w20, w18, rfl, rfl, hr⟩
 }
 {
 replace hr := iN hr hc7
 refine T.q (T.r (TL.bin rfl rfl (TL.a rfl (T.nil (T.m ?_)))))
 refine T.cD rfl (fun hc9 => ?_) (fun hc9 => ?_)
 {
 replace hr := iP hr hc9
 refine T.q (T.r (TL.mv rfl ?_))
 obtain ⟨x17, hx10, hr⟩ := bS hr
 refine TL.c rfl rfl rfl (v2wzk g hx10) ?_
 rintro _ _ ⟨w21, rfl, rfl⟩
 refine T.nil (T.m ?_)
 refine T.cond rfl (fun hc10 => ?_) (fun hc10 => ?_)
 {
 replace hr := iBP hr hc10
 refine T.regionI (fun n9 => [wR n9 1 [iv 5, iv 6]]) [1, 0, 2, 6, 7, 3, 4, 5, 8, 9, 10, 11, 12] [(false, true, false), (false, true, false), (false, false, false), (false, true, false), (false, true, false), (true, false, false), (false, true, false), (false, true, false), (true, false, true), (false, false, false), (false, false, false), (true, false, true), (false, false, false)] false rfl kr kr mP (fun n9 => ?_)
 refine TI.llit (α := Int) Nd.f rfl rfl rfl rfl (by repeat' (first | exact List.forall_mem_nil _ | refine List.forall_mem_cons.2 ⟨?_, ?_⟩ | rfl)) .z ?_
 refine TI.lt Nd.f rfl (.move (.inl rfl) rfl) ?_
 refine TI.op Nd.f ?_
 refine TL.mv rfl ?_
 refine T.nil ⟨rfl, fun n10 => ?_⟩
 refine TI.lt Nd.f rfl (.move (.inl rfl) rfl) ?_
 refine TI.lt Nd.f rfl (.move (.inl rfl) rfl) ?_
 refine TI.op Nd.f ?_
 obtain ⟨x18, hx11, hr⟩ := bS hr
 refine TL.gh (.sl (.p p1 (.p p1 .e))) ?_
 refine TL.c rfl rfl rfl (v36zk g hx11) ?_
 rintro _ _ ⟨w22, rfl, rfl⟩
 refine T.nil ⟨rfl, fun n11 => ?_⟩
 obtain ⟨x19, hx12, hr⟩ := bS hr
 refine TI.lt Nd.f rfl (Step.indexLit rfl Try.underlying31 info3 rfl rfl rfl hx12) ?_
 refine TI.llr Nd.f rfl a2 .z (lit_cell hx12) ?_
 refine TI.op (.t (.r a2 .n)) ?_
 obtain ⟨x20, hx13, hr⟩ := bS hr
 refine TL.c rfl rfl rfl (v36zk g hx13) ?_
 rintro _ _ ⟨w23, rfl, rfl⟩
 refine T.nil ⟨rfl, fun n12 => ?_⟩
 refine TI.op Nd.f ?_
 refine TL.bld (cells := [iv x19, iv x20.2, .slice none 0 0]) rfl Try.underlying24 info24 rfl rfl rfl (by simp only [List.mapM_cons, List.mapM_nil, info3, info3, info22]; rfl) rfl (.s rfl (.s rfl .n)) rfl ?_
 refine T.nil ⟨rfl, fun n13 => ?_⟩
 refine TI.op Nd.f ?_
 refine TL.gh (.nilZ UInt8) ?_
 refine TL.gh (GE.mkV (s0 := x19) (s1 := x20.2) a0) ?_
 refine TL.lit1 rfl rfl p0 (fun w24 => ?_)
 refine T.nil ⟨rfl, fun n14 => ?_⟩
 refine TI.op (.t (.r a4 .n)) ?_
 obtain ⟨hc11, hr⟩ := cS hr
 refine TL.appR rfl p5 a0 hc11 (fun w25 => ?_)
 refine T.nil ⟨rfl, fun n15 => ?_⟩
 refine TI.op Nd.f ?_
 refine TL.a rfl ?_
 refine T.nil ⟨rfl, fun n16 => ?_⟩
 refine TI.nil Nd.f (T.bN (T.bN (T.m ?_)))
 exact ⟨_, _, (fl4), (.trans (.brw (r := (rC Int)) (xs := ([5, 6] : List Int)) (len := 2) p5 rfl (by decide) (fun _ => RL.ofRA (RA.cons (cs := [iv 5]) (a := (5 : Int)) rfl (RA.cons (cs := [iv 6]) (a := (6 : Int)) rfl RA.nil)))) (.sl (.p p4 (.p p1 (.p p3 (d3)))))), (xs1 ++ ([({ Kind := x19, N := x20.2, Data := [] } : GE)] : List GE)), x20.1.code, x20.1.at_, x20.1.seed, w25, w23, rfl, rfl, hr⟩
 }
 {
 replace hr := iBN hr hc10
 refine T.k (T.bN (T.bN (T.m ?_)))
 exact ⟨_, _, (fl4), (.sl (.p p0 (.p p1 (.p p0 .e)))), xs1, x17.1.code, x17.1.at_, x17.1.seed, w4, w21, rfl, rfl, hr⟩
 }
 }
 {
 replace hr := iN hr hc9
 refine T.r (TL.mv rfl (TL.mv rfl ?_))
 obtain ⟨x21, hx14, hr⟩ := bS hr
 refine TL.c rfl rfl rfl (v36zk g hx14) ?_
 rintro _ _ ⟨w26, rfl, rfl⟩
 refine TL.bld (cells := [iv 2, iv x21.2, .slice none 0 0]) rfl Try.underlying24 info24 rfl rfl rfl (by simp only [List.mapM_cons, List.mapM_nil, info3, info3, info22]; rfl) rfl (.s rfl (.s rfl .n)) rfl ?_
 refine TL.gh (.nilZ UInt8) ?_
 refine TL.gh (GE.mkV (s0 := 2) (s1 := x21.2) a0) ?_
 refine TL.lit1 rfl rfl p0 (fun w27 => ?_)
 obtain ⟨hc12, hr⟩ := cS hr
 refine TL.appR rfl p4 a0 hc12 (fun w28 => ?_)
 refine TL.a rfl (T.nil (T.bN (T.bN (T.m ?_))))
 exact ⟨_, _, (fl4), (.sl (.p p3 (.p p0 (.p p2 (d2))))), (xs1 ++ ([({ Kind := 2, N := x21.2, Data := [] } : GE)] : List GE)), x21.1.code, x21.1.at_, x21.1.seed, w28, w26, rfl, rfl, hr⟩
 }
 }
 }
 }
 }
 {
 rintro _ _ ⟨xs3, xs4, x8, x9, w6, w7, rfl, rfl, hr⟩
 unfold v2yz at hr
 refine T.r (TL.mv rfl ?_)
 obtain ⟨hc13, hr⟩ := cS hr
 refine TL.su rfl hc13 (TL.a rfl (T.nil (T.m ?_)))
 exact ⟨_, _, (fl4), (.refl _), xs3, (x5 - 1), xs4, x8, x9, w6, w7, rfl, rfl, hr⟩
 }
 }
 {
 replace hr := iN hr hc2
 refine T.exit ?_
 refine T.tE (T.tE (T.bH (T.m (T.q (T.r (TL.mv rfl (TL.a rfl (T.nil (T.m ?_)))))))))
 refine T.ret ?_
 obtain rfl := Option.some.inj hr
 exact ⟨.inr rfl, _, _, (Res.tmp rfl Res.nil), (.sl (.p p0 (.p p1 (.p p0 .e)))), w5, rfl⟩
 }
 }
theorem v2ozk {Δ : Prims} (g : Env Try.prog Δ) {Ar : List Item} {x1 : GS} {q1 : Nat} {w1 : Value} {x2 : Int} {res : (GS × (List GE))} (hr : v2oz x1 x2 = some res) :
    Sp Try.prog Δ 65 [pt q1 0, iv x2] (box q1 [w1, iv x1.at_, iv x1.seed] :: fz w1 x1.code :: Ar) (fun v A => ∃ (rw1 : Value), A = box q1 [rw1, iv res.1.at_, iv res.1.seed] :: fz rw1 res.1.code :: ow (rC GE) v res.2 :: Ar) := by
 refine Sp.bd Try.func65 rfl rfl ?_
 unfold v2oz at hr
 refine T.q (T.r (TL.a rfl (T.nil (T.m (T.q (T.r (TL.mv rfl (TL.mv rfl ?_))))))))
 obtain ⟨x3, hx1, hr⟩ := bS hr
 refine TL.c rfl rfl rfl (v2tzk g hx1) ?_
 rintro w2 _ ⟨w3, rfl⟩
 refine TL.a rfl (T.nil (T.m (T.q (T.r (TL.mv rfl (TL.mv rfl (TL.mv rfl ?_)))))))
 obtain ⟨x4, hx2, hr⟩ := bS hr
 refine TL.c rfl rfl rfl (v2xzk g hx2) ?_
 rintro w4 _ ⟨w5, rfl⟩
 obtain ⟨hc1, hr⟩ := cS hr
 refine TL.appR rfl p3 a2 hc1 (fun w6 => ?_)
 refine TL.a rfl (T.nil (T.m (T.q (T.q (T.r (TL.mv rfl ?_))))))
 obtain ⟨x5, hx3, hr⟩ := bS hr
 refine TL.gh (.sl (.p p1 (.p p1 .e))) ?_
 refine TL.c rfl rfl rfl (v2wzk g hx3) ?_
 rintro _ _ ⟨w7, rfl, rfl⟩
 refine T.nil (T.m ?_)
 refine T.ct (fun fr A => ∃ (xs1 : (List GE)) (xs2 : (List UInt8)) (x6 : Int) (x7 : Int) (w8 : Value) (w9 : Value), fr = [(5, w8)] ∧ A = box q1 [w9, iv x6, iv x7] :: ow (rC GE) w8 xs1 :: fz w9 xs2 :: Ar ∧ v2pz xs1 xs2 x6 x7 = some res) ?_ ?_
 {
 refine T.cond rfl (fun hc2 => ?_) (fun hc2 => ?_)
 {
 replace hr := iBP hr hc2
 refine T.r (TL.mv rfl (TL.mv rfl (TL.mv rfl ?_)))
 obtain ⟨x8, hx4, hr⟩ := bS hr
 refine TL.c rfl rfl rfl (v2tzk g hx4) ?_
 rintro w10 _ ⟨w11, rfl⟩
 obtain ⟨hc3, hr⟩ := cS hr
 refine TL.appR rfl p3 a2 hc3 (fun w12 => ?_)
 refine TL.a rfl (T.nil (T.m ?_))
 exact ⟨_, _, (fl1), (.sl (.p p1 (.p p0 (.p p0 (d2))))), ((x3.2 ++ x4.2) ++ x8.2), x8.1.code, x8.1.at_, x8.1.seed, w12, w11, rfl, rfl, hr⟩
 }
 {
 replace hr := iBN hr hc2
 refine T.k (T.m ?_)
 exact ⟨_, _, (fl1), (.sl (.p p0 (.p p1 (.p p0 (d1))))), (x3.2 ++ x4.2), x5.1.code, x5.1.at_, x5.1.seed, w6, w7, rfl, rfl, hr⟩
 }
 }
 {
 rintro _ _ ⟨xs1, xs2, x6, x7, w8, w9, rfl, rfl, hr⟩
 unfold v2pz at hr
 refine T.q (T.r (TL.mv rfl (TL.mv rfl (TL.len rfl a1 ?_))))
 refine TL.of (fun f k => WL.min2 f rfl rfl rfl rfl rfl k) ?_
 obtain ⟨xs3, hxs194, hr⟩ := bS hr
 refine TL.slt rfl p1 rfl ⟨_, rfl⟩ hxs194 (fun w13 => ?_)
 refine TL.a rfl (T.nil (T.m ?_))
 refine T.ret ?_
 obtain rfl := Option.some.inj hr
 exact ⟨.inr rfl, _, _, (Res.tmp rfl Res.nil), (.sl (.p p1 (.p p1 (.p p0 .e)))), w9, rfl⟩
 }
theorem v37zk {Δ : Prims} (g : Env Try.prog Δ) {Ar : List Item} {x1 : GS} {q1 : Nat} {w1 : Value} {xs1 : (List Str)} {w2 : Value} {res : (GS × Str)} (hr : v37z x1 xs1 = some res) :
    Sp Try.prog Δ 102 [pt q1 0, w2] (box q1 [w1, iv x1.at_, iv x1.seed] :: fz w1 x1.code :: fz w2 xs1 :: Ar) (fun v A => ∃ (rw1 : Value), v = str res.2 ∧ A = box q1 [rw1, iv res.1.at_, iv res.1.seed] :: fz rw1 res.1.code :: fz w2 xs1 :: Ar) := by
 refine Sp.bd Try.func102 rfl rfl ?_
 unfold v37z at hr
 refine T.q (T.r (TL.a rfl (T.nil (T.m (T.q (T.q (T.r (TL.mv rfl (TL.len rfl a2 ?_)))))))))
 refine TL.bin rfl rfl (T.nil (T.m ?_))
 refine T.cD rfl (fun hc1 => ?_) (fun hc1 => ?_)
 {
 replace hr := iP hr hc1
 refine T.q (T.r (TL.a rfl (T.nil (T.m ?_))))
 refine T.ret ?_
 refine T.thenRet ?_
 obtain rfl := Option.some.inj hr
 exact ⟨.inr rfl, _, _, (Res.tmp rfl Res.nil), (.refl _), w1, rfl, rfl⟩
 }
 {
 replace hr := iN hr hc1
 refine T.k (T.m (T.q (T.r (TL.mv rfl (TL.mv rfl (TL.mv rfl (TL.len rfl a2 ?_)))))))
 obtain ⟨x2, hx1, hr⟩ := bS hr
 refine TL.c rfl rfl rfl (v36zk g hx1) ?_
 rintro _ _ ⟨w3, rfl, rfl⟩
 obtain ⟨x3, hx2, hr⟩ := bS hr
 refine TL.ixu rfl a2 hx2 (fun b1 e49 hp1 => ?_)
 refine TL.ldek (m := 0) rfl a2 hp1 hx2 Rp.sc rfl (TL.a rfl (T.nil (T.m ?_)))
 refine T.ret ?_
 obtain rfl := Option.some.inj hr
 exact ⟨.inr rfl, _, _, (Res.tmp rfl Res.nil), (.refl _), w3, rfl, rfl⟩
 }
theorem v30zk {Δ : Prims} (g : Env Try.prog Δ) {Ar : List Item} {x1 : GS} {q1 : Nat} {w1 : Value} {res : (GS × GJob)} (hr : v30z x1 = some res) :
    Sp Try.prog Δ 68 [pt q1 0] (box q1 [w1, iv x1.at_, iv x1.seed] :: fz w1 x1.code :: Ar) (fun v A => ∃ (rw1 : Value), v = .agg [iv res.2.Client, iv res.2.Seq, str res.2.File, iv res.2.Version, str res.2.Script, str res.2.Text, .bool res.2.Ere, .bool res.2.Quiet].toArray ∧ A = box q1 [rw1, iv res.1.at_, iv res.1.seed] :: fz rw1 res.1.code :: Ar) := by
 refine Sp.bd Try.func68 rfl rfl ?_
 unfold v30z at hr
 refine T.q (T.r ?_)
 refine TL.al rfl (fun q2 => ?_)
 refine T.nil (T.m (T.q (T.r (TL.mv rfl ?_))))
 obtain ⟨x2, hx1, hr⟩ := bS hr
 refine TL.gh (.sl (.p p1 (.p p1 .e))) ?_
 refine TL.c rfl rfl rfl (v36zk g hx1) ?_
 rintro _ _ ⟨w2, rfl, rfl⟩
 obtain ⟨hc1, hr⟩ := cS hr
 refine TL.ad rfl hc1 (TL.mv rfl ?_)
 obtain ⟨x3, hx2, hr⟩ := bS hr
 refine TL.c rfl rfl rfl (v36zk g hx2) ?_
 rintro _ _ ⟨w3, rfl, rfl⟩
 obtain ⟨hc2, hr⟩ := cS hr
 refine TL.ad rfl hc2 (TL.mv rfl ?_)
 refine TL.lit (α := Str) rfl rfl rfl rfl ([([97] : List UInt8), ([98] : List UInt8), ([100, 101, 115, 107] : List UInt8)] : List Str) (fun _ _ _ _ _ => (RA.cons (α := Str) (cs := [str ([97] : List UInt8)]) (a := (([97] : List UInt8) : Str)) rfl (RA.cons (α := Str) (cs := [str ([98] : List UInt8)]) (a := (([98] : List UInt8) : Str)) rfl (RA.cons (α := Str) (cs := [str ([100, 101, 115, 107] : List UInt8)]) (a := (([100, 101, 115, 107] : List UInt8) : Str)) rfl RA.nil)))) (fun w4 => ?_)
 obtain ⟨x4, hx3, hr⟩ := bS hr
 refine TL.gh (.frz p0) ?_
 refine TL.gh (.sl (.p p1 (.p p1 (.p p0 .e)))) ?_
 refine TL.c rfl rfl rfl (v37zk g hx3) ?_
 rintro _ _ ⟨w5, rfl, rfl⟩
 refine TL.mv rfl ?_
 obtain ⟨x5, hx4, hr⟩ := bS hr
 refine TL.c rfl rfl rfl (v36zk g hx4) ?_
 rintro _ _ ⟨w6, rfl, rfl⟩
 refine TL.mv rfl ?_
 refine TL.lit (α := Str) rfl rfl rfl rfl ([([115, 47, 97, 47, 98, 47, 103] : List UInt8), ([112] : List UInt8), ([36, 100] : List UInt8), ([49, 33, 71, 59, 104, 59, 36, 33, 100] : List UInt8), ([115, 47] : List UInt8), ([119, 32, 120] : List UInt8), ([121, 47, 97, 98, 47, 98, 97, 47] : List UInt8), ([58, 97, 10, 98, 32, 97] : List UInt8), ([105, 32, 116, 111, 112] : List UInt8)] : List Str) (fun _ _ _ _ _ => (RA.cons (α := Str) (cs := [str ([115, 47, 97, 47, 98, 47, 103] : List UInt8)]) (a := (([115, 47, 97, 47, 98, 47, 103] : List UInt8) : Str)) rfl (RA.cons (α := Str) (cs := [str ([112] : List UInt8)]) (a := (([112] : List UInt8) : Str)) rfl (RA.cons (α := Str) (cs := [str ([36, 100] : List UInt8)]) (a := (([36, 100] : List UInt8) : Str)) rfl (RA.cons (α := Str) (cs := [str ([49, 33, 71, 59, 104, 59, 36, 33, 100] : List UInt8)]) (a := (([49, 33, 71, 59, 104, 59, 36, 33, 100] : List UInt8) : Str)) rfl (RA.cons (α := Str) (cs := [str ([115, 47] : List UInt8)]) (a := (([115, 47] : List UInt8) : Str)) rfl (RA.cons (α := Str) (cs := [str ([119, 32, 120] : List UInt8)]) (a := (([119, 32, 120] : List UInt8) : Str)) rfl (RA.cons (α := Str) (cs := [str ([121, 47, 97, 98, 47, 98, 97, 47] : List UInt8)]) (a := (([121, 47, 97, 98, 47, 98, 97, 47] : List UInt8) : Str)) rfl (RA.cons (α := Str) (cs := [str ([58, 97, 10, 98, 32, 97] : List UInt8)]) (a := (([58, 97, 10, 98, 32, 97] : List UInt8) : Str)) rfl (RA.cons (α := Str) (cs := [str ([105, 32, 116, 111, 112] : List UInt8)]) (a := (([105, 32, 116, 111, 112] : List UInt8) : Str)) rfl RA.nil)))))))))) (fun w7 => ?_)
 obtain ⟨x6, hx5, hr⟩ := bS hr
 refine TL.gh (.frz p0) ?_
 refine TL.gh (.sl (.p p1 (.p p1 (.p p0 .e)))) ?_
 refine TL.c rfl rfl rfl (v37zk g hx5) ?_
 rintro _ _ ⟨w8, rfl, rfl⟩
 refine TL.bld (cells := [iv ((1 : Int) + x2.2), iv ((1 : Int) + x3.2), str x4.2, iv x5.2, str x6.2, str ([] : List UInt8), .bool false, .bool false]) rfl Try.underlying100 info100 rfl rfl rfl (by simp only [List.mapM_cons, List.mapM_nil, info3, info3, info9, info3, info9, info9, info4, info4]; rfl) rfl (.s rfl (.s rfl (.s rfl (.s rfl (.s rfl .n))))) rfl ?_
 refine TL.al rfl (fun q3 => ?_)
 refine TL.sto (c' := [iv ((1 : Int) + x2.2), iv ((1 : Int) + x3.2), str x4.2, iv x5.2, str x6.2, str ([] : List UInt8), .bool false, .bool false]) rfl rfl rfl (.s rfl (.s rfl (.s rfl (.s rfl (.s rfl (.s rfl (.s rfl (.s rfl .n)))))))) e0 rfl (bl rfl) (T.nil (T.m (T.q (T.q (T.r (TL.fa rfl (TL.ld rfl a0 rfl (TL.bin rfl rfl (T.nil ?_)))))))))
 refine T.m ?_
 refine T.ct (fun fr A => ∃ (x7 : Str) (xs1 : (List UInt8)) (x8 : Int) (x9 : Int) (w9 : Value), fr = [(0, pt q1 0), (2, pt q2 0), (3, pt q3 0)] ∧ A = box q2 [iv 0, iv 0, str ([] : List UInt8), iv 0, str ([] : List UInt8), str ([] : List UInt8), .bool false, .bool false] :: box q3 [iv ((1 : Int) + x2.2), iv ((1 : Int) + x3.2), str x4.2, iv x5.2, str x6.2, str x7, .bool false, .bool false] :: box q1 [w9, iv x8, iv x9] :: fz w9 xs1 :: Ar ∧ v35z x2 x3 x4 x5 x6 x7 xs1 x8 x9 = some res) ?_ ?_
 {
 refine T.cD rfl (fun hc3 => ?_) (fun hc3 => ?_)
 {
 replace hr := iP hr hc3
 refine T.r (TL.mv rfl ?_)
 refine TL.lit (α := Str) rfl rfl rfl rfl ([([] : List UInt8), ([97, 10, 98, 10] : List UInt8), ([97, 98, 97, 98, 10] : List UInt8)] : List Str) (fun _ _ _ _ _ => (RA.cons (α := Str) (cs := [str ([] : List UInt8)]) (a := (([] : List UInt8) : Str)) rfl (RA.cons (α := Str) (cs := [str ([97, 10, 98, 10] : List UInt8)]) (a := (([97, 10, 98, 10] : List UInt8) : Str)) rfl (RA.cons (α := Str) (cs := [str ([97, 98, 97, 98, 10] : List UInt8)]) (a := (([97, 98, 97, 98, 10] : List UInt8) : Str)) rfl RA.nil)))) (fun w10 => ?_)
 obtain ⟨x10, hx6, hr⟩ := bS hr
 refine TL.gh (.frz p0) ?_
 refine TL.gh (.sl (.p p2 (.p p2 (.p p0 .e)))) ?_
 refine TL.c rfl rfl rfl (v37zk g hx6) ?_
 rintro _ _ ⟨w11, rfl, rfl⟩
 refine TL.fa rfl ?_
 refine TL.st rfl rfl e3 c5 (T.nil (T.m ?_))
 exact ⟨_, _, (fl3), (.sl (.p p6 (.p p3 (.p p0 (.p p0 (d3)))))), x10.2, x10.1.code, x10.1.at_, x10.1.seed, w11, rfl, rfl, hr⟩
 }
 {
 replace hr := iN hr hc3
 refine T.k (T.m ?_)
 exact ⟨_, _, (fl3), (.sl (.p p5 (.p p0 (.p p0 (.p p0 (d2)))))), ([] : List UInt8), x6.1.code, x6.1.at_, x6.1.seed, w8, rfl, rfl, hr⟩
 }
 }
 {
 rintro _ _ ⟨x7, xs1, x8, x9, w9, rfl, rfl, hr⟩
 unfold v35z at hr
 refine T.q (T.r (TL.mv rfl ?_))
 obtain ⟨x11, hx7, hr⟩ := bS hr
 refine TL.gh (.sl (.p p2 (.p p2 .e))) ?_
 refine TL.c rfl rfl rfl (v2wzk g hx7) ?_
 rintro _ _ ⟨w12, rfl, rfl⟩
 refine TL.fa rfl ?_
 refine TL.st rfl rfl e3 c6 (T.nil (T.m (T.q (T.r (TL.mv rfl ?_)))))
 obtain ⟨x12, hx8, hr⟩ := bS hr
 refine TL.c rfl rfl rfl (v2wzk g hx8) ?_
 rintro _ _ ⟨w13, rfl, rfl⟩
 refine TL.fa rfl ?_
 refine TL.st rfl rfl e3 c7 (T.nil (T.m (T.q (T.r (TL.ldN (l' := [iv ((1 : Int) + x2.2), iv ((1 : Int) + x3.2), str x4.2, iv x5.2, str x6.2, str x7, .bool x11.2, .bool x12.2]) rfl a3 rfl rfl (TL.sto (c' := [iv ((1 : Int) + x2.2), iv ((1 : Int) + x3.2), str x4.2, iv x5.2, str x6.2, str x7, .bool x11.2, .bool x12.2]) rfl rfl rfl (.s rfl (.s rfl (.s rfl (.s rfl (.s rfl (.s rfl (.s rfl (.s rfl .n)))))))) e2 rfl (bl rfl) (T.nil (T.m ?_))))))))
 refine T.ret ?_
 obtain rfl := Option.some.inj hr
 exact ⟨.inr rfl, _, _, (Res.cellN rfl a2 rfl rfl Res.nil), (.sl (.p p0 (.p p0 (d2)))), w13, rfl, rfl⟩
 }
theorem v39zk {Δ : Prims} (g : Env Try.prog Δ) {Ar : List Item} {x1 : Int} {res : ((List UInt8))} (hr : v39z x1 = some res) :
    Sp Try.prog Δ 99 [iv x1] (Ar) (fun v A => A = ow (rC UInt8) v res :: Ar) := by
 refine Sp.bd Try.func99 rfl rfl ?_
 unfold v39z at hr
 refine T.q (T.r (TL.a rfl (T.nil (T.m (T.q (T.r ?_))))))
 refine TL.lit (α := UInt8) rfl rfl rfl rfl ([] : List UInt8) (fun _ _ _ _ _ => RA.nil) (fun w1 => ?_)
 refine TL.a rfl (T.nil (T.m (T.q (T.b ?_))))
 refine T.lp (fun k0 fr A => ∃ (x2 : Int) (xs1 : (List UInt8)) (w2 : Value), fr = [(0, iv x2), (3, w2)] ∧ A = ow (rC UInt8) w2 xs1 :: Ar ∧ v3az k0 x2 xs1 = some res) BIG ?_ ?_ ?_
 {
 exact ⟨_, _, (fl2), (.refl _), x1, ([] : List UInt8), w1, rfl, rfl, hr⟩
 }
 {
 rintro fr A ⟨x2, xs1, w2, -, -, hr⟩
 rw [v3az] at hr
 cases hr
 }
 {
 rintro k0 _ _ ⟨x2, xs1, w2, rfl, rfl, hr⟩
 rw [v3az] at hr
 refine T.q (T.q (T.r (TL.mv rfl (TL.bin rfl rfl (T.nil (T.m ?_))))))
 refine T.cD rfl (fun hc1 => ?_) (fun hc1 => ?_)
 {
 replace hr := iP hr hc1
 refine T.k (T.m (T.b (T.q (T.r (TL.mv rfl (TL.mv rfl ?_))))))
 obtain ⟨hc2, hr⟩ := cS hr
 refine TL.of (fun f k => WL.remI f rfl rfl rfl rfl rfl hc2.1 hc2.2 k) ?_
 refine TL.of (fun f k => WL.convB f rfl rfl rfl Try.underlying3 Try.underlying5 rfl k) ?_
 refine TL.of (fun f k => GL.u8or f (byteOf (x2 % 128)) (128 : UInt8) rfl rfl rfl rfl rfl k) ?_
 refine TL.lit (α := UInt8) rfl rfl rfl rfl ([((byteOf (x2 % 128)) ||| (128 : UInt8))] : List UInt8) (fun _ _ _ _ _ => (RA.cons (cs := [u8 ((byteOf (x2 % 128)) ||| (128 : UInt8))]) (a := (((byteOf (x2 % 128)) ||| (128 : UInt8)) : UInt8)) rfl RA.nil)) (fun w3 => ?_)
 obtain ⟨hc3, hr⟩ := cS hr
 refine TL.appR rfl p1 a0 hc3 (fun w4 => ?_)
 refine TL.a rfl (T.nil (T.m (T.r (TL.mv rfl ?_))))
 obtain ⟨hc4, hr⟩ := cS hr
 refine TL.of (fun f k => WL.quoI f rfl rfl rfl rfl rfl hc4.1 hc4.2.1 hc4.2.2 k) ?_
 refine TL.a rfl (T.nil (T.bN (T.m ?_)))
 exact ⟨_, _, (fl2), (.sl (.p p0 (d1))), (x2 / 128), (xs1 ++ ([((byteOf (x2 % 128)) ||| (128 : UInt8))] : List UInt8)), w4, rfl, rfl, hr⟩
 }
 {
 replace hr := iN hr hc1
 refine T.exit ?_
 refine T.tE (T.tE (T.bH (T.m (T.q (T.r (TL.mv rfl (TL.mv rfl ?_)))))))
 refine TL.of (fun f k => WL.convB f rfl rfl rfl Try.underlying3 Try.underlying5 rfl k) ?_
 refine TL.lit (α := UInt8) rfl rfl rfl rfl ([(byteOf x2)] : List UInt8) (fun _ _ _ _ _ => (RA.cons (cs := [u8 (byteOf x2)]) (a := ((byteOf x2) : UInt8)) rfl RA.nil)) (fun w5 => ?_)
 obtain ⟨hc5, hr⟩ := cS hr
 refine TL.appR rfl p1 a0 hc5 (fun w6 => ?_)
 refine TL.a rfl (T.nil (T.m ?_))
 refine T.ret ?_
 obtain rfl := Option.some.inj hr
 exact ⟨.inr rfl, _, _, (Res.tmp rfl Res.nil), (.sl (.p p0 (d1))), rfl⟩
 }
 }
theorem v3dzk {Δ : Prims} (g : Env Try.prog Δ) {Ar : List Item} {x1 : Str} {res : ((List UInt8))} (hr : v3dz x1 = some res) :
    Sp Try.prog Δ 100 [str x1] (Ar) (fun v A => A = ow (rC UInt8) v res :: Ar) := by
 refine Sp.bd Try.func100 rfl rfl ?_
 unfold v3dz at hr
 refine T.q (T.r (TL.a rfl (T.nil (T.m (T.q (T.r (TL.mv rfl ?_)))))))
 refine TL.of (fun f k => GL.lenStr f rfl rfl rfl Try.underlying9 rfl k) ?_
 obtain ⟨x2, hx1, hr⟩ := bS hr
 refine TL.c rfl rfl rfl (v39zk g hx1) ?_
 rintro w1 _ rfl
 refine TL.mv rfl ?_
 obtain ⟨hc1, hr⟩ := cS hr
 refine TL.appS (ys := x1) rfl p0 hc1 (fun w2 => ?_)
 refine TL.a rfl (T.nil (T.m ?_))
 refine T.ret ?_
 obtain rfl := Option.some.inj hr
 exact ⟨.inr rfl, _, _, (Res.tmp rfl Res.nil), (.refl _), rfl⟩
theorem v3czk {Δ : Prims} (g : Env Try.prog Δ) {Ar : List Item} {x1 : Bool} {res : (Int)} (hr : v3cz x1 = some res) :
    Sp Try.prog Δ 101 [.bool x1] (Ar) (fun v A => v = iv res ∧ A = Ar) := by
 refine Sp.bd Try.func101 rfl rfl ?_
 unfold v3cz at hr
 refine T.q (T.r (TL.a rfl (T.nil (T.m (T.q (T.q (T.r (TL.mv rfl (T.nil ?_)))))))))
 refine T.m ?_
 refine T.cond rfl (fun hc1 => ?_) (fun hc1 => ?_)
 {
 replace hr := iBP hr hc1
 refine T.q (T.r (TL.a rfl (T.nil (T.m ?_))))
 refine T.ret ?_
 refine T.thenRet ?_
 obtain rfl := Option.some.inj hr
 exact ⟨.inr rfl, _, _, (Res.tmp rfl Res.nil), (.refl _), rfl, rfl⟩
 }
 {
 replace hr := iBN hr hc1
 refine T.k (T.m (T.q (T.r (TL.a rfl (T.nil (T.m ?_))))))
 refine T.ret ?_
 obtain rfl := Option.some.inj hr
 exact ⟨.inr rfl, _, _, (Res.tmp rfl Res.nil), (.refl _), rfl, rfl⟩
 }
theorem v3bzk {Δ : Prims} (g : Env Try.prog Δ) {Ar : List Item} {x1 : GJob} {res : ((List UInt8))} (hr : v3bz x1 = some res) :
    Sp Try.prog Δ 67 [.agg [iv x1.Client, iv x1.Seq, str x1.File, iv x1.Version, str x1.Script, str x1.Text, .bool x1.Ere, .bool x1.Quiet].toArray] (Ar) (fun v A => A = ow (rC UInt8) v res :: Ar) := by
 refine Sp.bd Try.func67 rfl rfl ?_
 unfold v3bz at hr
 refine T.q (T.r ?_)
 refine TL.bxo rfl rfl (.s rfl (.s rfl (.s rfl (.s rfl (.s rfl (.s rfl (.s rfl (.s rfl .n)))))))) (fun q1 => ?_)
 refine TL.a rfl (T.nil (T.m (T.q (T.rD [0, 1, 2, 3, 4, 5, 6, 7] [false, false, false, false, false, false, true, false] rfl rfl kr kr mP (TL.fa rfl (TL.ld rfl a0 rfl ?_))))))
 obtain ⟨x2, hx1, hr⟩ := bS hr
 refine TL.callR g rfl rfl rfl (Pz.out .n) (v39zk g (Ar := []) hx1) ?_
 rintro w1 _ rfl
 simp only [List.cons_append, List.nil_append]
 refine TL.fa rfl (TL.ld rfl a1 rfl ?_)
 obtain ⟨x3, hx2, hr⟩ := bS hr
 refine TL.callR g rfl rfl rfl (Pz.out .n) (v39zk g (Ar := []) hx2) ?_
 rintro w2 _ rfl
 simp only [List.cons_append, List.nil_append]
 obtain ⟨hc1, hr⟩ := cS hr
 refine TL.appR rfl p1 a0 hc1 (fun w3 => ?_)
 refine TL.a rfl (T.nil (T.m (T.q (T.r (TL.mv rfl (TL.fa rfl (TL.ld rfl a2 rfl ?_)))))))
 obtain ⟨x4, hx3, hr⟩ := bS hr
 refine TL.c rfl rfl rfl (v3dzk g hx3) ?_
 rintro w4 _ rfl
 obtain ⟨hc2, hr⟩ := cS hr
 refine TL.appR rfl p1 a0 hc2 (fun w5 => ?_)
 refine TL.a rfl (T.nil (T.m (T.q (T.r (TL.mv rfl (TL.fa rfl (TL.ld rfl a3 rfl ?_)))))))
 obtain ⟨x5, hx4, hr⟩ := bS hr
 refine TL.c rfl rfl rfl (v39zk g hx4) ?_
 rintro w6 _ rfl
 obtain ⟨hc3, hr⟩ := cS hr
 refine TL.appR rfl p1 a0 hc3 (fun w7 => ?_)
 refine TL.a rfl (T.nil (T.m (T.q (T.r (TL.mv rfl (TL.fa rfl (TL.ld rfl a4 rfl ?_)))))))
 obtain ⟨x6, hx5, hr⟩ := bS hr
 refine TL.c rfl rfl rfl (v3dzk g hx5) ?_
 rintro w8 _ rfl
 obtain ⟨hc4, hr⟩ := cS hr
 refine TL.appR rfl p1 a0 hc4 (fun w9 => ?_)
 refine TL.a rfl (T.nil (T.m (T.q (T.r (TL.mv rfl (TL.fa rfl (TL.ld rfl a5 rfl ?_)))))))
 obtain ⟨x7, hx6, hr⟩ := bS hr
 refine TL.c rfl rfl rfl (v3dzk g hx6) ?_
 rintro w10 _ rfl
 obtain ⟨hc5, hr⟩ := cS hr
 refine TL.appR rfl p1 a0 hc5 (fun w11 => ?_)
 refine TL.a rfl (T.nil (T.m (T.q (T.rD [0, 1, 2, 3, 4, 5, 6, 7, 8, 9, 10, 11, 12] [false, false, false, false, false, false, false, false, false, false, false, true, false] rfl rfl kr kr mP (TL.mv rfl (TL.fa rfl (TL.ld rfl a6 rfl ?_)))))))
 obtain ⟨x8, hx7, hr⟩ := bS hr
 refine TL.callR g rfl rfl rfl (Pz.out .n) (v3czk g (Ar := []) hx7) ?_
 rintro _ _ ⟨rfl, rfl⟩
 simp only [List.cons_append, List.nil_append]
 refine TL.fa rfl (TL.ld rfl a6 rfl ?_)
 obtain ⟨x9, hx8, hr⟩ := bS hr
 refine TL.callR g rfl rfl rfl (Pz.out .n) (v3czk g (Ar := []) hx8) ?_
 rintro _ _ ⟨rfl, rfl⟩
 simp only [List.cons_append, List.nil_append]
 obtain ⟨hc6, hr⟩ := cS hr
 refine TL.mu rfl hc6 ?_
 obtain ⟨hc7, hr⟩ := cS hr
 refine TL.ad rfl hc7 ?_
 refine TL.of (fun f k => WL.convB f rfl rfl rfl Try.underlying3 Try.underlying5 rfl k) ?_
 refine TL.lit (α := UInt8) rfl rfl rfl rfl ([(byteOf (x8 + ((2 : Int) * x9)))] : List UInt8) (fun _ _ _ _ _ => (RA.cons (cs := [u8 (byteOf (x8 + ((2 : Int) * x9)))]) (a := ((byteOf (x8 + ((2 : Int) * x9))) : UInt8)) rfl RA.nil)) (fun w12 => ?_)
 obtain ⟨hc8, hr⟩ := cS hr
 refine TL.appR rfl p1 a0 hc8 (fun w13 => ?_)
 refine TL.a rfl (T.nil (T.m ?_))
 refine T.ret ?_
 obtain rfl := Option.some.inj hr
 exact ⟨.inr rfl, _, _, (Res.tmp rfl Res.nil), (.sl (.p p0 (d7))), rfl⟩
theorem v31zk {Δ : Prims} (g : Env Try.prog Δ) {Ar : List Item} {x1 : GS} {q1 : Nat} {w1 : Value} {x2 : Int} {res : (GS × (List GE))} (hr : v31z x1 x2 = some res) :
    Sp Try.prog Δ 36 [pt q1 0, iv x2] (box q1 [w1, iv x1.at_, iv x1.seed] :: fz w1 x1.code :: Ar) (fun v A => ∃ (rw1 : Value), A = box q1 [rw1, iv res.1.at_, iv res.1.seed] :: fz rw1 res.1.code :: ow (rC GE) v res.2 :: Ar) := by
 refine Sp.bd Try.func36 rfl rfl ?_
 unfold v31z at hr
 refine T.q (T.r (TL.a rfl (T.nil (T.m (T.q (T.r (TL.mv rfl (TL.mv rfl ?_))))))))
 obtain ⟨x3, hx1, hr⟩ := bS hr
 refine TL.c rfl rfl rfl (v2ozk g hx1) ?_
 rintro w2 _ ⟨w3, rfl⟩
 refine TL.a rfl (T.nil (T.m (T.q (T.q (T.r (TL.a rfl (T.nil (T.m (T.b ?_)))))))))
 refine T.lp (fun k0 fr A => ∃ (xs1 : (List GE)) (x4 : Int) (xs2 : (List UInt8)) (x5 : Int) (x6 : Int) (w4 : Value), x3.2.length = xs1.length ∧ fr = [(0, pt q1 0), (5, w2), (6, iv x4)] ∧ A = box q1 [w4, iv x5, iv x6] :: ow (rC GE) w2 xs1 :: fz w4 xs2 :: Ar ∧ v34z x3 k0 xs1 x4 xs2 x5 x6 = some res) BIG ?_ ?_ ?_
 {
 exact ⟨_, _, (fl3), (.sl (.p p0 (.p p1 (.p p0 .e)))), x3.2, 0, x3.1.code, x3.1.at_, x3.1.seed, w3, lnE, rfl, rfl, hr⟩
 }
 {
 rintro fr A ⟨xs1, x4, xs2, x5, x6, w4, hl1, -, -, hr⟩
 rw [v34z] at hr
 cases hr
 }
 {
 rintro k0 _ _ ⟨xs1, x4, xs2, x5, x6, w4, hl1, rfl, rfl, hr⟩
 rw [v34z] at hr
 refine T.q (T.q (T.r (TL.mv rfl (TL.mv rfl (TL.lenE (m := x3.2.length) rfl a1 lnE (TL.bin rfl rfl (T.nil (T.m ?_))))))))
 refine T.cD rfl (fun hc1 => ?_) (fun hc1 => ?_)
 {
 replace hr := iP hr hc1
 refine T.k (T.m (T.q ?_))
 refine T.ct (fun fr A => ∃ (xs3 : (List GE)) (xs4 : (List UInt8)) (x7 : Int) (x8 : Int) (w5 : Value), x3.2.length = xs3.length ∧ fr = [(0, pt q1 0), (5, w2), (6, iv x4)] ∧ A = box q1 [w5, iv x7, iv x8] :: ow (rC GE) w2 xs3 :: fz w5 xs4 :: Ar ∧ v32z x4 (v34z x3 k0) xs3 xs4 x7 x8 = some res) ?_ ?_
 {
 refine T.b (T.q ?_)
 refine T.ct (fun fr A => ∃ (x9 : Bool) (xs5 : (List UInt8)) (x10 : Int) (x11 : Int) (w6 : Value), fr = [(0, pt q1 0), (5, w2), (6, iv x4), (26, .bool x9)] ∧ A = box q1 [w6, iv x10, iv x11] :: ow (rC GE) w2 xs1 :: fz w6 xs5 :: Ar ∧ v33z xs1 x4 (v34z x3 k0) x9 xs5 x10 x11 = some res) ?_ ?_
 {
 refine T.r (TL.mv rfl (TL.mv rfl ?_))
 obtain ⟨x12, hx2, hr⟩ := bS hr
 refine TL.ixu rfl a1 hx2 (fun b1 e1249 hp1 => ?_)
 refine TL.fa rfl ?_
 refine TL.gh (.sl (.p p1 .e)) ?_
 refine GE.fo hp1 hx2 (fun w7 => ?_)
 refine TL.lk (m := 0) rfl a0 rfl rfl (by decide) ?_
 refine TL.bin rfl rfl (TL.mv rfl ?_)
 refine TL.guardD rfl rfl rfl (fun hg1 => ?_) (fun hg1 => ?_)
 {
 replace hr := iP hr hg1
 refine TL.mv rfl ?_
 obtain ⟨x13, hx3, hr⟩ := bS hr
 refine TL.gh (.sl (.p p2 (.p p2 .e))) ?_
 refine TL.c rfl rfl rfl (v2wzk g hx3) ?_
 rintro _ _ ⟨w8, rfl, rfl⟩
 refine TL.of (fun f k => WL.not f rfl rfl rfl rfl k) ?_
 refine TL.of (fun f k => WL.pick f rfl rfl rfl rfl rfl k) ?_
 refine T.nil (T.m ?_)
 exact ⟨_, _, (fl4), (.trans (GE.u0 hx2 p2 a2) (.sl (.p p1 (.p p0 (.p p0 (d1)))))), (!x13.2), x13.1.code, x13.1.at_, x13.1.seed, w8, rfl, rfl, hr⟩
 }
 {
 replace hr := iN hr hg1
 refine TL.sk rfl (TL.sk rfl (TL.sk rfl ?_))
 refine TL.of (fun f k => WL.pick f rfl rfl rfl rfl rfl k) ?_
 refine T.nil (T.m ?_)
 exact ⟨_, _, (fl4), (.trans (GE.u0 hx2 p0 a0) (.sl (.p p2 (.p p0 (.p p1 (d1)))))), false, xs2, x5, x6, w4, rfl, rfl, hr⟩
 }
 }
 {
 rintro _ _ ⟨x9, xs5, x10, x11, w6, rfl, rfl, hr⟩
 unfold v33z at hr
 refine T.cond rfl (fun hc2 => ?_) (fun hc2 => ?_)
 {
 replace hr := iBP hr hc2
 refine T.r (TL.mv rfl (TL.mv rfl (TL.mv rfl ?_)))
 obtain ⟨x14, hx4, hr⟩ := bS hr
 refine TL.gh (.sl (.p p0 (.p p1 .e))) ?_
 refine TL.c rfl rfl rfl (v30zk g hx4) ?_
 rintro _ _ ⟨w9, rfl, rfl⟩
 obtain ⟨x15, hx5, hr⟩ := bS hr
 refine TL.c rfl rfl rfl (v3bzk g hx5) ?_
 rintro w10 _ rfl
 refine TL.gh (.frz p0) ?_
 obtain ⟨x16, hx6, hr⟩ := bS hr
 refine TL.ixu rfl a3 hx6 (fun b2 e1225 hp2 => ?_)
 refine TL.fa rfl ?_
 refine TL.gh (.sl (.p p3 .e)) ?_
 refine GE.fo hp2 hx6 (fun w11 => ?_)
 refine TL.stfs rfl a2 e0 c2 (T.nil (T.bN (T.m ?_)))
 exact ⟨_, _, (fl3), (.trans (GE.un p0 a1) (.sl (.p p3 (.p p0 (.p p2 (d2)))))), (setI xs1 x4 ({ Kind := x16.Kind, N := x16.N, Data := x15 } : GE)), x14.1.code, x14.1.at_, x14.1.seed, w9, lnE, rfl, rfl, hr⟩
 }
 {
 replace hr := iBN hr hc2
 refine T.k (T.bN (T.m ?_))
 exact ⟨_, _, (fl3), (.refl _), xs1, xs5, x10, x11, w6, lnE, rfl, rfl, hr⟩
 }
 }
 }
 {
 rintro _ _ ⟨xs3, xs4, x7, x8, w5, hl2, rfl, rfl, hr⟩
 unfold v32z at hr
 refine T.r (TL.mv rfl ?_)
 obtain ⟨hc3, hr⟩ := cS hr
 refine TL.ad rfl hc3 (TL.a rfl (T.nil (T.m ?_)))
 exact ⟨_, _, (fl3), (.refl _), xs3, (x4 + 1), xs4, x7, x8, w5, lnE, rfl, rfl, hr⟩
 }
 }
 {
 replace hr := iN hr hc1
 refine T.exit ?_
 refine T.tE (T.tE (T.bH (T.m (T.q (T.r (TL.mv rfl (TL.a rfl (T.nil (T.m ?_)))))))))
 refine T.ret ?_
 obtain rfl := Option.some.inj hr
 exact ⟨.inr rfl, _, _, (Res.tmp rfl Res.nil), (.sl (.p p0 (.p p1 (.p p0 .e)))), w4, rfl⟩
 }
 }
theorem v2kzk {Δ : Prims} (g : Env Try.prog Δ) {Ar : List Item} {xs1 : (List UInt8)} {w1 : Value} {x1 : Int} {res : ((List GE))} (hr : v2kz xs1 x1 = some res) :
    Sp Try.prog Δ 11 [w1, iv x1] (fz w1 xs1 :: Ar) (fun v A => A = fz w1 xs1 :: ow (rC GE) v res :: Ar) := by
 refine Sp.bd Try.func11 rfl rfl ?_
 unfold v2kz at hr
 refine T.q (T.r (TL.a rfl (T.nil (T.m (T.q (T.r (TL.mv rfl ?_)))))))
 obtain ⟨x2, hx1, hr⟩ := bS hr
 refine TL.c rfl rfl rfl (v2nzk g hx1) ?_
 rintro _ _ ⟨q1, w2, rfl, rfl⟩
 refine TL.mv rfl ?_
 obtain ⟨x3, hx2, hr⟩ := bS hr
 refine TL.gh (.sl (.p p1 (.p p1 .e))) ?_
 refine TL.c rfl rfl rfl (v31zk g hx2) ?_
 rintro w3 _ ⟨w4, rfl⟩
 refine TL.a rfl (T.nil (T.m ?_))
 refine T.ret ?_
 obtain rfl := Option.some.inj hr
 exact ⟨.inr rfl, _, _, (Res.tmp rfl Res.nil), (.sl (.p p3 (.p p2 (d2)))), rfl⟩
theorem v1rzk {Δ : Prims} (g : Env Try.prog Δ) {Ar : List Item} {x1 : Bool} {x2 : Int} {res : (Int)} (hr : v1rz x1 x2 = some res) :
    Sp Try.prog Δ 29 [.bool x1, iv x2] (Ar) (fun v A => v = iv res ∧ A = Ar) := by
 refine Sp.bd Try.func29 rfl rfl ?_
 unfold v1rz at hr
 refine T.q (T.r (TL.a rfl (T.nil (T.m (T.q (T.q (T.r (TL.mv rfl (T.nil ?_)))))))))
 refine T.m ?_
 refine T.cond rfl (fun hc1 => ?_) (fun hc1 => ?_)
 {
 replace hr := iBP hr hc1
 refine T.q (T.r (TL.a rfl (T.nil (T.m ?_))))
 refine T.ret ?_
 refine T.thenRet ?_
 obtain rfl := Option.some.inj hr
 exact ⟨.inr rfl, _, _, (Res.tmp rfl Res.nil), (.refl _), rfl, rfl⟩
 }
 {
 replace hr := iBN hr hc1
 refine T.k (T.m (T.q (T.r (TL.mv rfl (TL.a rfl (T.nil (T.m ?_)))))))
 refine T.ret ?_
 obtain rfl := Option.some.inj hr
 exact ⟨.inr rfl, _, _, (Res.tmp rfl Res.nil), (.refl _), rfl, rfl⟩
 }
theorem v1mzk {Δ : Prims} (g : Env Try.prog Δ) {Ar : List Item} {x1 : Int} {res : (Int)} (hr : v1mz x1 = some res) :
    Sp Try.prog Δ 28 [iv x1] (Ar) (fun v A => v = iv res ∧ A = Ar) := by
 refine Sp.bd Try.func28 rfl rfl ?_
 unfold v1mz at hr
 refine T.q (T.r (TL.a rfl (T.nil (T.m (T.q (T.r (TL.mv rfl (TL.bin rfl rfl ?_))))))))
 obtain ⟨x2, hx1, hr⟩ := bS hr
 refine TL.c rfl rfl rfl (v1rzk g hx1) ?_
 rintro _ _ ⟨rfl, rfl⟩
 refine TL.a rfl (T.nil (T.m ?_))
 refine T.ret ?_
 obtain rfl := Option.some.inj hr
 exact ⟨.inr rfl, _, _, (Res.tmp rfl Res.nil), (.refl _), rfl, rfl⟩
theorem v1szk {Δ : Prims} (g : Env Try.prog Δ) {Ar : List Item} {x1 x2 x3 : Int} {res : (Bool)} (hr : v1sz x1 x2 x3 = some res) :
    Sp Try.prog Δ 30 [iv x1, iv x2, iv x3] (Ar) (fun v A => v = .bool res ∧ A = Ar) := by
 refine Sp.bd Try.func30 rfl rfl ?_
 unfold v1sz at hr
 refine T.q (T.r (TL.a rfl (T.nil (T.m (T.q (T.r (TL.mv rfl (TL.mv rfl (TL.bin rfl rfl ?_)))))))))
 refine TL.mv rfl ?_
 refine TL.guardD rfl rfl rfl (fun hg1 => ?_) (fun hg1 => ?_)
 {
 replace hr := iP hr hg1
 refine TL.mv rfl (TL.mv rfl (TL.bin rfl rfl ?_))
 refine TL.of (fun f k => WL.pick f rfl rfl rfl rfl rfl k) ?_
 refine TL.a rfl (T.nil (T.m ?_))
 refine T.ret ?_
 obtain rfl := Option.some.inj hr
 exact ⟨.inr rfl, _, _, (Res.tmp rfl Res.nil), (.refl _), rfl, rfl⟩
 }
 {
 replace hr := iN hr hg1
 refine TL.sk rfl (TL.sk rfl (TL.sk rfl ?_))
 refine TL.of (fun f k => WL.pick f rfl rfl rfl rfl rfl k) ?_
 refine TL.a rfl (T.nil (T.m ?_))
 refine T.ret ?_
 obtain rfl := Option.some.inj hr
 exact ⟨.inr rfl, _, _, (Res.tmp rfl Res.nil), (.refl _), rfl, rfl⟩
 }
theorem v1kzk {Δ : Prims} (g : Env Try.prog Δ) {Ar : List Item} {xs1 : (List Int)} {w1 : Value} {res : (Int)} (hr : v1kz xs1 = some res) :
    Sp Try.prog Δ 27 [w1] (fz w1 xs1 :: Ar) (fun v A => v = iv res ∧ A = fz w1 xs1 :: Ar) := by
 refine Sp.bd Try.func27 rfl rfl ?_
 unfold v1kz at hr
 refine T.q (T.r (TL.a rfl (T.nil (T.m (T.q (T.q (T.r (TL.mv rfl (TL.len rfl a0 ?_)))))))))
 refine TL.mv rfl (T.nil (T.m (T.b ?_)))
 refine T.lp (fun k0 fr A => ∃ (x1 : Int), fr = [(5, w1), (6, iv (xs1.length : Int)), (7, iv x1)] ∧ A = fz w1 xs1 :: Ar ∧ v1lz xs1 k0 x1 = some res) BIG ?_ ?_ ?_
 {
 exact ⟨_, _, (fl3), (.refl _), 0, rfl, rfl, hr⟩
 }
 {
 rintro fr A ⟨x1, -, -, hr⟩
 rw [v1lz] at hr
 cases hr
 }
 {
 rintro k0 _ _ ⟨x1, rfl, rfl, hr⟩
 rw [v1lz] at hr
 refine T.q (T.r (TL.bin rfl rfl (T.nil (T.m (T.q ?_)))))
 refine T.cD rfl (fun hc1 => ?_) (fun hc1 => ?_)
 {
 replace hr := iP hr hc1
 refine T.k (T.m (T.q (T.b (T.q (T.r ?_)))))
 obtain ⟨x2, hx1, hr⟩ := bS hr
 refine TL.ixu rfl a0 hx1 (fun b1 e117 hp1 => ?_)
 refine TL.ldek (m := 0) rfl a0 hp1 hx1 Rp.sc rfl (TL.a rfl (T.nil (T.m (T.q (T.r (TL.mv rfl (TL.bin rfl rfl (T.nil (T.m ?_)))))))))
 refine T.condN rfl (fun hc2 => ?_) (fun hc2 => ?_)
 {
 replace hr := iN hr hc2
 refine T.q (T.r (TL.mv rfl (TL.a rfl (T.nil (T.m ?_)))))
 refine T.ret ?_
 refine T.blkRet ?_
 refine T.thenRet ?_
 refine T.thenRet ?_
 refine T.blkRet ?_
 refine T.thenRet ?_
 obtain rfl := Option.some.inj hr
 exact ⟨.inr rfl, _, _, (Res.tmp rfl Res.nil), (.refl _), rfl, rfl⟩
 }
 {
 replace hr := iP hr hc2
 refine T.k (T.bN (T.m (T.r ?_)))
 obtain ⟨hc3, hr⟩ := cS hr
 refine TL.ad rfl hc3 (TL.mv rfl (T.nil (T.m ?_)))
 exact ⟨_, _, (fl3), (.refl _), (x1 + 1), rfl, rfl, hr⟩
 }
 }
 {
 replace hr := iN hr hc1
 refine T.exit ?_
 refine T.tE (T.tE (T.bH (T.m (T.q (T.r (TL.a rfl (T.nil (T.m ?_))))))))
 refine T.ret ?_
 obtain rfl := Option.some.inj hr
 exact ⟨.inr rfl, _, _, (Res.tmp rfl Res.nil), (.refl _), rfl, rfl⟩
 }
 }
theorem v1ozk {Δ : Prims} (g : Env Try.prog Δ) {Ar : List Item} {x1 : Int} {res : (GC)} (hr : v1oz x1 = some res) :
    Sp Try.prog Δ 31 [iv x1] (Ar) (fun v A => ∃ (rq1 : Nat) (rw1 : Value) (rw2 : Value) (rw3 : Value), v = pt rq1 0 ∧ A = box rq1 [rw1, rw2, rw3, .bool res.Conflict] :: ow rGPeer rw1 res.Peers :: ow (rC GM) rw2 res.Net :: ow (rC GR) rw3 res.Chosen :: Ar) := by
 refine Sp.bd Try.func31 rfl rfl ?_
 unfold v1oz at hr
 refine T.q (T.r (TL.a rfl (T.nil (T.m (T.q (T.r ?_))))))
 refine TL.bld (cells := [.slice none 0 0, .slice none 0 0, .slice none 0 0, .bool false]) rfl Try.underlying30 info30 rfl rfl rfl (by simp only [List.mapM_cons, List.mapM_nil, info26, info27, info28, info4]; rfl) rfl .n rfl ?_
 refine TL.bxo rfl rfl (.s rfl (.s rfl (.s rfl (.s rfl .n)))) (fun q1 => ?_)
 refine TL.a rfl (T.nil (T.m (T.q (T.q (T.r (TL.mv rfl (TL.mv rfl (T.nil (T.m ?_)))))))))
 refine T.b ?_
 refine T.lp (fun k0 fr A => ∃ (x2 : Int) (xs1 : (List GP)) (w1 : Value), fr = [(3, pt q1 0), (6, iv x1), (7, iv x2)] ∧ A = box q1 [w1, .slice none 0 0, .slice none 0 0, .bool false] :: ow rGPeer w1 xs1 :: Ar ∧ v1pz x1 k0 x2 xs1 = some res) BIG ?_ ?_ ?_
 {
 exact ⟨_, _, (fl3), (.trans (.nilO rGPeer) (.sl (.p p1 (.p p0 .e)))), 0, ([]), (.slice none 0 0), rfl, rfl, hr⟩
 }
 {
 rintro fr A ⟨x2, xs1, w1, -, -, hr⟩
 rw [v1pz] at hr
 cases hr
 }
 {
 rintro k0 _ _ ⟨x2, xs1, w1, rfl, rfl, hr⟩
 rw [v1pz] at hr
 refine T.q (T.r (TL.bin rfl rfl (T.nil (T.m (T.q ?_)))))
 refine T.cD rfl (fun hc1 => ?_) (fun hc1 => ?_)
 {
 replace hr := iP hr hc1
 refine T.k (T.m (T.q (T.b (T.r (TL.mv rfl (TL.mv rfl (TL.nc rfl (TL.fa rfl (TL.ld rfl a0 rfl ?_)))))))))
 refine TL.bld (cells := [.bool true, iv 0, iv 0, iv 0, iv 0, .slice none 0 0, .slice none 0 0, .slice none 0 0, .slice none 0 0]) rfl Try.underlying42 info42 rfl rfl rfl (by simp only [List.mapM_cons, List.mapM_nil, info4, info3, info3, info3, info3, info28, info40, info31, info31]; rfl) rfl (.s rfl .n) rfl ?_
 refine TL.gh (GP.nilD (s0 := true) (s1 := 0) (s2 := 0) (s3 := 0) (s4 := 0)) ?_
 refine TL.lit1 rfl rfl p0 (fun w2 => ?_)
 obtain ⟨hc2, hr⟩ := cS hr
 refine TL.app rfl p2 p0 hc2 (fun w3 => ?_)
 refine TL.nc rfl (TL.fa rfl ?_)
 refine TL.sts rfl a0 e1 c0 (T.nil (T.bN (T.m (T.r ?_))))
 obtain ⟨hc3, hr⟩ := cS hr
 refine TL.ad rfl hc3 (TL.mv rfl (T.nil (T.m ?_)))
 exact ⟨_, _, (fl3), (.sl (.p p1 (.p p0 .e))), (x2 + 1), (xs1 ++ [({ Up := true, Term := 0, Vote := 0, Commit := 0, Role := 0, Log := [], Votes := [], Next := [], Match := [] } : GP)]), w3, rfl, rfl, hr⟩
 }
 {
 replace hr := iN hr hc1
 refine T.exit ?_
 refine T.tE (T.tE (T.bH (T.m (T.q (T.r (TL.mv rfl (TL.a rfl (T.nil (T.m ?_)))))))))
 refine T.ret ?_
 obtain rfl := Option.some.inj hr
 exact ⟨.inr rfl, _, _, (Res.tmp rfl Res.nil), (.trans (.nilO (rC GM)) (.trans (.nilO (rC GR)) (.sl (.p p2 (.p p2 (.p p1 (.p p0 .e))))))), q1, w1, (.slice none 0 0), (.slice none 0 0), rfl, rfl⟩
 }
 }
theorem v26zk {Δ : Prims} (g : Env Try.prog Δ) {Ar : List Item} {w : Value} {X : Item} {xs1 : List UInt8} [Rdb X w xs1] [Hdr X w xs1.length] {res : List UInt8} (hr : v26z xs1 = some res) :
    Sp Try.prog Δ 59 [w] (X :: Ar) (fun v A => A = X :: ow (rC UInt8) v res :: Ar) := by
 refine Sp.bd Try.func59 rfl rfl ?_
 obtain ⟨hlen, hr⟩ := cS hr
 obtain rfl := Option.some.inj hr
 refine T.q (T.r (TL.a rfl (T.nil (T.m (T.q (T.q (T.r (TL.mv rfl ?_))))))))
 refine TL.isNil rfl a0 (fun h0 => ?_) ?_
 · refine T.nil ?_
   refine T.m ?_
   refine T.condT rfl ?_
   refine T.q ?_
   refine T.r ?_
   refine TL.a rfl ?_
   refine T.nil ?_
   refine T.m ?_
   refine T.ret ?_
   repeat (refine T.thenRet ?_)
   have e := List.eq_nil_of_length_eq_zero h0
   exact ⟨.inr rfl, _, _, (Res.tmp rfl Res.nil), (.trans (.nilO (rC UInt8)) (.sl (.p p1 .e))), by rw [e]; rfl⟩
 · refine T.nil ?_
   refine T.m ?_
   refine T.condF rfl ?_
   refine T.k ?_
   refine T.m ?_
   refine T.q ?_
   refine T.r ?_
   refine TL.lit (α := UInt8) rfl rfl rfl rfl [] (fun _ _ _ _ _ => RA.nil) (fun w1 => ?_)
   refine TL.mv rfl ?_
   refine TL.appR rfl p0 a1 (by simpa using hlen) (fun w2 => ?_)
   refine TL.a rfl ?_
   refine T.nil ?_
   refine T.m ?_
   refine T.ret ?_
   exact ⟨.inr rfl, _, _, (Res.tmp rfl Res.nil), (.sl (.p p1 .e)), rfl⟩
theorem v1gzk {Δ : Prims} (g : Env Try.prog Δ) {Ar : List Item} {xs1 : (List GR)} {w1 : Value} {res : ((List GR))} (hr : v1gz xs1 = some res) :
    Sp Try.prog Δ 61 [w1] (fz w1 xs1 :: Ar) (fun v A => A = fz w1 xs1 :: ow (rC GR) v res :: Ar) := by
 refine Sp.bd Try.func61 rfl rfl ?_
 unfold v1gz at hr
 refine T.q (T.r (TL.a rfl (T.nil (T.m (T.q (T.r ?_))))))
 refine TL.lit (α := GR) rfl rfl rfl rfl ([] : List GR) (fun _ _ _ _ _ => RA.nil) (fun w2 => ?_)
 refine TL.a rfl (T.nil (T.m (T.q (T.q (T.r (TL.mv rfl (TL.len rfl a1 (TL.mv rfl (T.nil ?_)))))))))
 refine T.m (T.b ?_)
 refine T.lp (fun k0 fr A => ∃ (xs2 : (List GR)) (x1 : Int) (w3 : Value), fr = [(3, w3), (7, w1), (8, iv (xs1.length : Int)), (9, iv x1)] ∧ A = ow (rC GR) w3 xs2 :: fz w1 xs1 :: Ar ∧ v1hz xs1 k0 xs2 x1 = some res) BIG ?_ ?_ ?_
 {
 exact ⟨_, _, (fl4), (.refl _), ([] : List GR), 0, w2, rfl, rfl, hr⟩
 }
 {
 rintro fr A ⟨xs2, x1, w3, -, -, hr⟩
 rw [v1hz] at hr
 cases hr
 }
 {
 rintro k0 _ _ ⟨xs2, x1, w3, rfl, rfl, hr⟩
 rw [v1hz] at hr
 refine T.q (T.r (TL.bin rfl rfl (T.nil (T.m (T.q ?_)))))
 refine T.cD rfl (fun hc1 => ?_) (fun hc1 => ?_)
 {
 replace hr := iP hr hc1
 refine T.k (T.m (T.q (T.b (T.q (T.r ?_)))))
 obtain ⟨x2, hx1, hr⟩ := bS hr
 refine TL.ixu rfl a1 hx1 (fun b1 e527 hp1 => ?_)
 refine GR.ex a1 hp1 hx1 (fun w4 => ?_)
 refine TL.ldgN rfl a0 rfl ?_
 refine TL.al rfl (fun q1 => ?_)
 refine TL.sto (c' := [iv x2.Term, iv x2.Index, w4]) rfl rfl rfl (.s rfl (.s rfl (.h a2 inferInstance .n))) e0 rfl (bl rfl) (T.nil (T.m (T.q (T.r (TL.fa rfl (TL.ld rfl a0 rfl ?_))))))
 obtain ⟨x3, hx2, hr⟩ := bS hr
 refine TL.gh (.sl (.p p2 .e)) ?_
 refine TL.c rfl rfl rfl (v26zk g hx2) ?_
 rintro w5 _ rfl
 refine TL.fa rfl ?_
 refine TL.sts rfl a1 e2 c2 (T.nil (T.m (T.r (TL.mv rfl (TL.ldN (l' := [iv x2.Term, iv x2.Index, w5]) rfl a2 rfl rfl ?_)))))
 refine TL.gh (.frz p1) ?_
 refine TL.gh (GR.mkV (s0 := x2.Term) (s1 := x2.Index) a0) ?_
 refine TL.lit1 rfl rfl p0 (fun w6 => ?_)
 obtain ⟨hc2, hr⟩ := cS hr
 refine TL.appR rfl p5 a0 hc2 (fun w7 => ?_)
 refine TL.a rfl (T.nil (T.bN (T.m (T.r ?_))))
 obtain ⟨hc3, hr⟩ := cS hr
 refine TL.ad rfl hc3 (TL.mv rfl (T.nil (T.m ?_)))
 exact ⟨_, _, (fl4), (.sl (.p p0 (.p p5 (d5)))), (xs2 ++ ([({ Term := x2.Term, Index := x2.Index, Data := x3 } : GR)] : List GR)), (x1 + 1), w7, rfl, rfl, hr⟩
 }
 {
 replace hr := iN hr hc1
 refine T.exit ?_
 refine T.tE (T.tE (T.bH (T.m (T.q (T.r (TL.mv rfl (TL.a rfl (T.nil (T.m ?_)))))))))
 refine T.ret ?_
 obtain rfl := Option.some.inj hr
 exact ⟨.inr rfl, _, _, (Res.tmp rfl Res.nil), (.sl (.p p1 (.p p0 .e))), rfl⟩
 }
 }
theorem v0zk {Δ : Prims} (g : Env Try.prog Δ) {Ar : List Item} {x1 : GM} {w1 : Value} {res : (GM)} (hr : v0z x1 = some res) :
    Sp Try.prog Δ 64 [.agg [iv x1.Kind, iv x1.From, iv x1.To, iv x1.Term, iv x1.A, iv x1.B, iv x1.C, .bool x1.Ok, w1].toArray] (fz w1 x1.Log :: Ar) (fun v A => ∃ (rw1 : Value), v = .agg [iv res.Kind, iv res.From, iv res.To, iv res.Term, iv res.A, iv res.B, iv res.C, .bool res.Ok, rw1].toArray ∧ A = fz w1 x1.Log :: fz rw1 res.Log :: Ar) := by
 refine Sp.bd Try.func64 rfl rfl ?_
 unfold v0z at hr
 refine T.q (T.r ?_)
 refine TL.bxo rfl rfl (.s rfl (.s rfl (.s rfl (.s rfl (.s rfl (.s rfl (.s rfl (.s rfl (.h a0 inferInstance .n))))))))) (fun q1 => ?_)
 refine TL.al rfl (fun q2 => ?_)
 refine T.nil (T.m (T.q (T.r (TL.fa rfl (TL.ld rfl a1 rfl ?_)))))
 obtain ⟨x2, hx1, hr⟩ := bS hr
 refine TL.gh (.sl (.p p2 .e)) ?_
 refine TL.c rfl rfl rfl (v1gzk g hx1) ?_
 rintro w2 _ rfl
 refine TL.fa rfl ?_
 refine TL.sts rfl a1 e3 c8 (T.nil (T.m (T.q (T.r (TL.ldN (l' := [iv x1.Kind, iv x1.From, iv x1.To, iv x1.Term, iv x1.A, iv x1.B, iv x1.C, .bool x1.Ok, w2]) rfl a3 rfl rfl (TL.sto (c' := [iv x1.Kind, iv x1.From, iv x1.To, iv x1.Term, iv x1.A, iv x1.B, iv x1.C, .bool x1.Ok, w2]) rfl rfl rfl (.s rfl (.s rfl (.s rfl (.s rfl (.s rfl (.s rfl (.s rfl (.s rfl (.h a1 inferInstance .n))))))))) e2 rfl (bl rfl) (T.nil (T.m ?_))))))))
 refine T.ret ?_
 obtain rfl := Option.some.inj hr
 exact ⟨.inr rfl, _, _, (Res.cellN rfl a2 rfl rfl Res.nil), (.trans (.frz p1) (.sl (.p p1 (.p p0 (d2))))), w2, rfl, rfl⟩
theorem vyzk {Δ : Prims} (g : Env Try.prog Δ) {Ar : List Item} {x1 : GC} {q1 : Nat} {w1 w2 w3 : Value} {x2 : GM} {w4 : Value} {res : (GC)} (hr : vyz x1 x2 = some res) :
    Sp Try.prog Δ 55 [pt q1 0, .agg [iv x2.Kind, iv x2.From, iv x2.To, iv x2.Term, iv x2.A, iv x2.B, iv x2.C, .bool x2.Ok, w4].toArray] (box q1 [w1, w2, w3, .bool x1.Conflict] :: ow rGPeer w1 x1.Peers :: ow (rC GM) w2 x1.Net :: ow (rC GR) w3 x1.Chosen :: fz w4 x2.Log :: Ar) (fun v A => ∃ (rw1 : Value) (rw2 : Value), v = .tuple #[] ∧ A = box q1 [w1, rw1, rw2, .bool res.Conflict] :: ow rGPeer w1 res.Peers :: ow (rC GM) rw1 res.Net :: ow (rC GR) rw2 res.Chosen :: fz w4 x2.Log :: Ar) := by
 refine Sp.bd Try.func55 rfl rfl ?_
 unfold vyz at hr
 refine T.q (T.r ?_)
 refine TL.bxo rfl rfl (.s rfl (.s rfl (.s rfl (.s rfl (.s rfl (.s rfl (.s rfl (.s rfl (.h a4 inferInstance .n))))))))) (fun q2 => ?_)
 refine T.nil (T.m (T.q (T.r (TL.mv rfl (TL.nc rfl (TL.fa rfl (TL.ld rfl a1 rfl (TL.len rfl a3 (TL.bin rfl rfl ?_)))))))))
 refine T.nil (T.m ?_)
 refine T.cD rfl (fun hc1 => ?_) (fun hc1 => ?_)
 {
 replace hr := iP hr hc1
 refine T.regionI (fun n1 => []) [0, 1, 2, 3, 4, 5, 6, 7, 8, 9, 10, 11] [(false, true, false), (false, false, false), (false, false, false), (false, false, false), (false, false, false), (false, false, false), (false, false, false), (false, false, false), (true, false, false), (false, false, false), (false, false, false), (true, false, true)] false rfl kr kr mP (fun n1 => ?_)
 refine TI.lt Nd.f rfl (.move (.inl rfl) rfl) ?_
 refine TI.op Nd.f ?_
 refine TL.mv rfl ?_
 refine T.nil ⟨rfl, fun n2 => ?_⟩
 refine TI.op Nd.f ?_
 refine TL.nc rfl ?_
 refine T.nil ⟨rfl, fun n3 => ?_⟩
 refine TI.op Nd.f ?_
 refine TL.fa rfl ?_
 refine T.nil ⟨rfl, fun n4 => ?_⟩
 refine TI.op Nd.f ?_
 refine TL.ld rfl a1 rfl ?_
 refine T.nil ⟨rfl, fun n5 => ?_⟩
 refine TI.op Nd.f ?_
 refine TL.ldN (l' := [iv x2.Kind, iv x2.From, iv x2.To, iv x2.Term, iv x2.A, iv x2.B, iv x2.C, .bool x2.Ok, w4]) rfl a0 rfl rfl ?_
 refine T.nil ⟨rfl, fun n6 => ?_⟩
 refine TI.op Nd.f ?_
 obtain ⟨x3, hx1, hr⟩ := bS hr
 refine TL.callR g rfl rfl rfl (Pz.out (.c a5 Pers.rC .n)) (v0zk g (Ar := []) hx1) ?_
 rintro _ _ ⟨w5, rfl, rfl⟩
 simp only [List.cons_append, List.nil_append]
 refine T.nil ⟨rfl, fun n7 => ?_⟩
 refine TI.op Nd.f ?_
 refine TL.gh (GM.mkV (s0 := x3.Kind) (s1 := x3.From) (s2 := x3.To) (s3 := x3.Term) (s4 := x3.A) (s5 := x3.B) (s6 := x3.C) (s7 := x3.Ok) a1) ?_
 refine TL.lit1 rfl rfl p0 (fun w6 => ?_)
 refine T.nil ⟨rfl, fun n8 => ?_⟩
 refine TI.op Nd.f ?_
 obtain ⟨hc2, hr⟩ := cS hr
 refine TL.appR rfl p6 a0 hc2 (fun w7 => ?_)
 refine T.nil ⟨rfl, fun n9 => ?_⟩
 refine TI.op Nd.f ?_
 refine TL.nc rfl ?_
 refine T.nil ⟨rfl, fun n10 => ?_⟩
 refine TI.op Nd.f ?_
 refine TL.fa rfl ?_
 refine T.nil ⟨rfl, fun n11 => ?_⟩
 refine TI.op (.t .n) ?_
 refine TL.sts rfl a0 e5 c1 ?_
 refine T.nil ⟨rfl, fun n12 => ?_⟩
 refine TI.nil Nd.f ?_
 obtain rfl := Option.some.inj hr
 exact ⟨.inl rfl, _, _, Res.nil, (.sl (.p p5 (.p p5 (.p p0 (.p p4 (.p p1 (d4))))))), w7, w3, rfl, rfl⟩
 }
 {
 replace hr := iN hr hc1
 refine T.k ?_
 obtain rfl := Option.some.inj hr
 exact ⟨.inl rfl, _, _, Res.nil, (.sl (.p p1 (.p p1 (.p p1 (.p p1 (.p p1 (d1))))))), w2, w3, rfl, rfl⟩
 }
theorem v1fzk {Δ : Prims} (g : Env Try.prog Δ) {Ar : List Item} {x1 : GP} {b1 e16 : Nat} {w1 w2 : Value} {w3 w4 : Value} {x2 : Int} {res : (Int)} (hr : v1fz x1 x2 = some res) :
    Sp Try.prog Δ 94 [pt b1 e16, iv x2] (fel b1 e16 [.bool x1.Up, iv x1.Term, iv x1.Vote, iv x1.Commit, iv x1.Role, w1, w2, w3, w4] :: fz w1 x1.Log :: Ar) (fun v A => v = iv res ∧ A = fel b1 e16 [.bool x1.Up, iv x1.Term, iv x1.Vote, iv x1.Commit, iv x1.Role, w1, w2, w3, w4] :: fz w1 x1.Log :: Ar) := by
 refine Sp.bd Try.func94 rfl rfl ?_
 unfold v1fz at hr
 refine T.q (T.r (TL.a rfl (T.nil (T.m (T.q (T.q (T.r (TL.mv rfl (TL.bin rfl rfl ?_)))))))))
 refine T.nil (T.m ?_)
 refine T.cD rfl (fun hc1 => ?_) (fun hc1 => ?_)
 {
 replace hr := iP hr hc1
 refine T.q (T.r (TL.a rfl (T.nil (T.m ?_))))
 refine T.ret ?_
 refine T.thenRet ?_
 obtain rfl := Option.some.inj hr
 exact ⟨.inr rfl, _, _, (Res.tmp rfl Res.nil), (.refl _), rfl, rfl⟩
 }
 {
 replace hr := iN hr hc1
 refine T.k (T.m (T.q (T.r (TL.mv rfl (TL.nc rfl (TL.fa rfl (TL.ldg (m := 5) rfl a0 rfl rfl (TL.mv rfl ?_))))))))
 obtain ⟨hc2, hr⟩ := cS hr
 refine TL.su rfl hc2 ?_
 obtain ⟨x3, hx1, hr⟩ := bS hr
 refine TL.ixu rfl a1 hx1 (fun b2 e38 hp1 => ?_)
 refine GR.ex a1 hp1 hx1 (fun w5 => ?_)
 refine TL.fa rfl (TL.ldg (m := 0) rfl a0 rfl rfl (TL.a rfl (T.nil (T.m ?_))))
 refine T.ret ?_
 obtain rfl := Option.some.inj hr
 exact ⟨.inr rfl, _, _, (Res.tmp rfl Res.nil), (.sl (.p p2 (.p p2 (d2)))), rfl, rfl⟩
 }
theorem v1ezk {Δ : Prims} (g : Env Try.prog Δ) {Ar : List Item} {x1 : GP} {b1 e15 : Nat} {w1 w2 : Value} {w3 w4 : Value} {res : (Int × Int)} (hr : v1ez x1 = some res) :
    Sp Try.prog Δ 86 [pt b1 e15] (fel b1 e15 [.bool x1.Up, iv x1.Term, iv x1.Vote, iv x1.Commit, iv x1.Role, w1, w2, w3, w4] :: fz w1 x1.Log :: Ar) (fun v A => v = .tuple #[iv res.1, iv res.2] ∧ A = fel b1 e15 [.bool x1.Up, iv x1.Term, iv x1.Vote, iv x1.Commit, iv x1.Role, w1, w2, w3, w4] :: fz w1 x1.Log :: Ar) := by
 refine Sp.bd Try.func86 rfl rfl ?_
 unfold v1ez at hr
 refine T.q (T.r (TL.a rfl (TL.a rfl (T.nil (T.m (T.q (T.rD r14 f14 rfl rfl kr kr mP (TL.mv rfl (TL.nc rfl ?_)))))))))
 refine TL.fa rfl (TL.ldg (m := 5) rfl a0 rfl rfl (TL.len rfl a1 (TL.mv rfl (TL.mv rfl (TL.nc rfl (TL.fa rfl (TL.ldg (m := 5) rfl a0 rfl rfl (TL.len rfl a1 ?_))))))))
 obtain ⟨x2, hx1, hr⟩ := bS hr
 refine TL.callL g rfl rfl rfl (.e a0 (.z (v := w1) a1 inferInstance .n)) (v1fzk g (Ar := []) hx1) (R2 := fun v A => v = iv x2 ∧ A = []) (fun _ _ h => ⟨[], by obtain ⟨_, rfl⟩ := h; exact Sl.ent d2, .n, h.1, rfl⟩) ?_
 rintro _ _ ⟨rfl, rfl⟩
 simp only [List.cons_append, List.nil_append]
 refine TL.a rfl (TL.a rfl (T.nil (T.m ?_)))
 refine T.ret ?_
 obtain rfl := Option.some.inj hr
 exact ⟨.inr rfl, _, _, (Res.tmp rfl (Res.tmp rfl Res.nil)), (.refl _), rfl, rfl⟩
theorem v1nzk {Δ : Prims} (g : Env Try.prog Δ) {Ar : List Item} {x1 : Int} {res : (Int)} (hr : v1nz x1 = some res) :
    Sp Try.prog Δ 34 [iv x1] (Ar) (fun v A => v = iv res ∧ A = Ar) := by
 refine Sp.bd Try.func34 rfl rfl ?_
 unfold v1nz at hr
 refine T.q (T.r (TL.a rfl (T.nil (T.m (T.q (T.r (TL.mv rfl ?_)))))))
 obtain ⟨hc1, hr⟩ := cS hr
 refine TL.of (fun f k => WL.quoI f rfl rfl rfl rfl rfl hc1.1 hc1.2.1 hc1.2.2 k) ?_
 obtain ⟨hc2, hr⟩ := cS hr
 refine TL.ad rfl hc2 (TL.a rfl (T.nil (T.m ?_)))
 refine T.ret ?_
 obtain rfl := Option.some.inj hr
 exact ⟨.inr rfl, _, _, (Res.tmp rfl Res.nil), (.refl _), rfl, rfl⟩
theorem v2dzk {Δ : Prims} (g : Env Try.prog Δ) {Ar : List Item} {xs1 : (List UInt8)} {w1 : Value} {xs2 : (List UInt8)} {w2 : Value} {res : (Bool)} (hr : v2dz xs1 xs2 = some res) :
    Sp Try.prog Δ 75 [w1, w2] (fz w1 xs1 :: fz w2 xs2 :: Ar) (fun v A => v = .bool res ∧ A = fz w1 xs1 :: fz w2 xs2 :: Ar) := by
 refine Sp.bd Try.func75 rfl rfl ?_
 unfold v2dz at hr
 refine T.q (T.r (TL.a rfl (T.nil (T.m (T.q (T.q (T.r (TL.mv rfl (TL.len rfl a0 ?_)))))))))
 refine TL.mv rfl (TL.len rfl a1 (TL.bin rfl rfl (T.nil (T.m ?_))))
 refine T.condN rfl (fun hc1 => ?_) (fun hc1 => ?_)
 {
 replace hr := iN hr hc1
 refine T.q (T.r (TL.a rfl (T.nil (T.m ?_))))
 refine T.ret ?_
 refine T.thenRet ?_
 obtain rfl := Option.some.inj hr
 exact ⟨.inr rfl, _, _, (Res.tmp rfl Res.nil), (.refl _), rfl, rfl⟩
 }
 {
 replace hr := iP hr hc1
 refine T.k (T.m (T.q (T.q (T.r (TL.mv rfl (TL.len rfl a0 (TL.mv rfl (T.nil (T.m ?_)))))))))
 refine T.b ?_
 refine T.lp (fun k0 fr A => ∃ (x1 : Int), fr = [(0, w1), (1, w2), (12, iv (xs1.length : Int)), (13, iv x1)] ∧ A = fz w1 xs1 :: fz w2 xs2 :: Ar ∧ v2ez xs1 xs2 k0 x1 = some res) BIG ?_ ?_ ?_
 {
 exact ⟨_, _, (fl4), (.refl _), 0, rfl, rfl, hr⟩
 }
 {
 rintro fr A ⟨x1, -, -, hr⟩
 rw [v2ez] at hr
 cases hr
 }
 {
 rintro k0 _ _ ⟨x1, rfl, rfl, hr⟩
 rw [v2ez] at hr
 refine T.q (T.r (TL.bin rfl rfl (T.nil (T.m (T.q ?_)))))
 refine T.cD rfl (fun hc2 => ?_) (fun hc2 => ?_)
 {
 replace hr := iP hr hc2
 refine T.k (T.m (T.q (T.b (T.q (T.r (TL.mv rfl (TL.a rfl (T.nil (T.m ?_)))))))))
 refine T.q (T.rD r9 f9 rfl rfl kr kr mP (TL.mv rfl (TL.mv rfl ?_)))
 obtain ⟨x2, hx1, hr⟩ := bS hr
 refine TL.ixu rfl a0 hx1 (fun b1 e184 hp1 => ?_)
 refine TL.ldek (m := 0) rfl a0 hp1 hx1 Rp.sc rfl (TL.mv rfl (TL.mv rfl ?_))
 obtain ⟨x3, hx2, hr⟩ := bS hr
 refine TL.ixu rfl a1 hx2 (fun b2 e195 hp2 => ?_)
 refine TL.ldek (m := 0) rfl a1 hp2 hx2 Rp.sc rfl (TL.bin rfl rfl (T.nil (T.m ?_)))
 refine T.condN rfl (fun hc3 => ?_) (fun hc3 => ?_)
 {
 replace hr := iN hr hc3
 refine T.q (T.r (TL.a rfl (T.nil (T.m ?_))))
 refine T.ret ?_
 refine T.blkRet ?_
 refine T.thenRet ?_
 refine T.thenRet ?_
 refine T.blkRet ?_
 refine T.thenRet ?_
 obtain rfl := Option.some.inj hr
 exact ⟨.inr rfl, _, _, (Res.tmp rfl Res.nil), (.refl _), rfl, rfl⟩
 }
 {
 replace hr := iP hr hc3
 refine T.k (T.bN (T.m (T.r ?_)))
 obtain ⟨hc4, hr⟩ := cS hr
 refine TL.ad rfl hc4 (TL.mv rfl (T.nil (T.m ?_)))
 exact ⟨_, _, (fl4), (.refl _), (x1 + 1), rfl, rfl, hr⟩
 }
 }
 {
 replace hr := iN hr hc2
 refine T.exit ?_
 refine T.tE (T.tE (T.bH (T.m (T.q (T.r (TL.a rfl (T.nil (T.m ?_))))))))
 refine T.ret ?_
 obtain rfl := Option.some.inj hr
 exact ⟨.inr rfl, _, _, (Res.tmp rfl Res.nil), (.refl _), rfl, rfl⟩
 }
 }
 }
theorem v1qzk {Δ : Prims} (g : Env Try.prog Δ) {Ar : List Item} {x1 : GR} {w1 : Value} {x2 : GR} {w2 : Value} {res : (Bool)} (hr : v1qz x1 x2 = some res) :
    Sp Try.prog Δ 41 [.agg [iv x1.Term, iv x1.Index, w1].toArray, .agg [iv x2.Term, iv x2.Index, w2].toArray] (fz w1 x1.Data :: fz w2 x2.Data :: Ar) (fun v A => v = .bool res ∧ A = fz w1 x1.Data :: fz w2 x2.Data :: Ar) := by
 refine Sp.bd Try.func41 rfl rfl ?_
 unfold v1qz at hr
 refine T.q (T.r ?_)
 refine TL.bxo rfl rfl (.s rfl (.s rfl (.h a0 inferInstance .n))) (fun q1 => ?_)
 refine TL.bxo rfl rfl (.s rfl (.s rfl (.h a2 inferInstance .n))) (fun q2 => ?_)
 refine TL.a rfl (T.nil (T.m (T.q (T.r (TL.fa rfl (TL.ld rfl a1 rfl (TL.fa rfl (TL.ld rfl a0 rfl (TL.bin rfl rfl ?_)))))))))
 refine TL.mv rfl ?_
 refine TL.guardD rfl rfl rfl (fun hg1 => ?_) (fun hg1 => ?_)
 {
 replace hr := iP hr hg1
 refine TL.fa rfl (TL.ld rfl a1 rfl (TL.fa rfl (TL.ld rfl a0 rfl (TL.bin rfl rfl ?_))))
 refine TL.of (fun f k => WL.pick f rfl rfl rfl rfl rfl k) ?_
 refine TL.mv rfl ?_
 refine TL.guardD rfl rfl rfl (fun hg2 => ?_) (fun hg2 => ?_)
 {
 replace hr := iP hr hg2
 refine TL.fa rfl (TL.ld rfl a1 rfl (TL.fa rfl (TL.ld rfl a0 rfl ?_)))
 obtain ⟨x3, hx1, hr⟩ := bS hr
 refine TL.gh (.sl (.p p2 (.p p2 .e))) ?_
 refine TL.c rfl rfl rfl (v2dzk g hx1) ?_
 rintro _ _ ⟨rfl, rfl⟩
 refine TL.of (fun f k => WL.pick f rfl rfl rfl rfl rfl k) ?_
 refine TL.a rfl (T.nil (T.m ?_))
 refine T.ret ?_
 obtain rfl := Option.some.inj hr
 exact ⟨.inr rfl, _, _, (Res.tmp rfl Res.nil), (.sl (.p p0 (.p p0 (d2)))), rfl, rfl⟩
 }
 {
 replace hr := iN hr hg2
 refine TL.sk rfl (TL.sk rfl (TL.sk rfl (TL.sk rfl (TL.sk rfl ?_))))
 refine TL.of (fun f k => WL.pick f rfl rfl rfl rfl rfl k) ?_
 refine TL.a rfl (T.nil (T.m ?_))
 refine T.ret ?_
 obtain rfl := Option.some.inj hr
 exact ⟨.inr rfl, _, _, (Res.tmp rfl Res.nil), (.sl (.p p2 (.p p2 (d2)))), rfl, rfl⟩
 }
 }
 {
 replace hr := iN hr hg1
 refine TL.sk rfl (TL.sk rfl (TL.sk rfl (TL.sk rfl (TL.sk rfl ?_))))
 refine TL.of (fun f k => WL.pick f rfl rfl rfl rfl rfl k) ?_
 refine TL.mv rfl (TL.sk rfl (TL.sk rfl (TL.sk rfl (TL.sk rfl (TL.sk rfl ?_)))))
 refine TL.of (fun f k => WL.pick f rfl rfl rfl rfl rfl k) ?_
 refine TL.a rfl (T.nil (T.m ?_))
 refine T.ret ?_
 obtain rfl := Option.some.inj hr
 exact ⟨.inr rfl, _, _, (Res.tmp rfl Res.nil), (.sl (.p p2 (.p p2 (d2)))), rfl, rfl⟩
 }
theorem vezk {Δ : Prims} (g : Env Try.prog Δ) {Ar : List Item} {x1 : GC} {q1 : Nat} {w1 w2 w3 : Value} {x2 : Int} {res : (GC)} (hr : vez x1 x2 = some res) :
    Sp Try.prog Δ 95 [pt q1 0, iv x2] (box q1 [w1, w2, w3, .bool x1.Conflict] :: ow rGPeer w1 x1.Peers :: ow (rC GM) w2 x1.Net :: ow (rC GR) w3 x1.Chosen :: Ar) (fun v A => ∃ (rw1 : Value) (rw2 : Value), v = .tuple #[] ∧ A = box q1 [w1, rw1, rw2, .bool res.Conflict] :: ow rGPeer w1 res.Peers :: ow (rC GM) rw1 res.Net :: ow (rC GR) rw2 res.Chosen :: Ar) := by
 refine Sp.bd Try.func95 rfl rfl ?_
 unfold vez at hr
 refine T.q (T.r (TL.mv rfl (TL.nc rfl (TL.fa rfl (TL.ld rfl a0 rfl (TL.mv rfl ?_))))))
 obtain ⟨x3, hx1, hr⟩ := bS hr
 refine TL.ixu rfl a1 hx1 (fun b1 el1 hp1 => ?_)
 refine TL.a rfl (T.nil (T.m (T.q (T.rD r11 f11 rfl rfl kr kr mP (TL.mv rfl (TL.nc rfl (TL.fa rfl ?_)))))))
 refine TL.gh (.sl (.p p1 .e)) ?_
 refine GP.foD hp1 hx1 (fun w4 w5 w6 w7 => ?_)
 refine TL.lk (m := 5) rfl a0 rfl rfl (by decide) ?_
 refine TL.mv rfl (TL.nc rfl (TL.fa rfl ?_))
 refine TL.lk (m := 3) rfl a0 rfl rfl (by decide) ?_
 obtain ⟨xs1, hxs46, hr⟩ := bS hr
 refine TL.slr rfl a1 rfl ⟨_, rfl⟩ hxs46 (fun w8 _ _ => ?_)
 refine TL.len rfl a1 (TL.mv rfl (T.nil (T.m (T.b ?_))))
 refine T.lp (fun k0 fr A => ∃ (x4 : Int) (xs2 : (List GR)) (x5 : Bool) (w9 : Value), fr = [(0, pt q1 0), (21, w8), (22, iv (xs1.length : Int)), (23, iv x4)] ∧ A = box q1 [w1, w2, w9, .bool x5] :: foc rGPeer w1 x1.Peers x2 b1 el1 [.bool x3.Up, iv x3.Term, iv x3.Vote, iv x3.Commit, iv x3.Role, w4, w5, w6, w7] :: ow (rC GR) w4 x3.Log :: ow (rC Bool) w5 x3.Votes :: ow (rC Int) w6 x3.Next :: ow (rC Int) w7 x3.Match :: ow (rC GM) w2 x1.Net :: ow (rC GR) w9 xs2 :: Ar ∧ vgz xs1 x1 k0 x4 xs2 x5 = some res) BIG ?_ ?_ ?_
 {
 exact ⟨_, _, (fl4), (.sl (.p p5 (.p p0 (.p p0 (.p p0 (.p p0 (.p p0 (.p p0 (.p p0 .e))))))))), 0, x1.Chosen, x1.Conflict, w3, rfl, rfl, hr⟩
 }
 {
 rintro fr A ⟨x4, xs2, x5, w9, -, -, hr⟩
 rw [vgz] at hr
 cases hr
 }
 {
 rintro k0 _ _ ⟨x4, xs2, x5, w9, rfl, rfl, hr⟩
 rw [vgz] at hr
 refine T.q (T.r (TL.bin rfl rfl (T.nil (T.m (T.q ?_)))))
 refine T.cD rfl (fun hc1 => ?_) (fun hc1 => ?_)
 {
 replace hr := iP hr hc1
 refine T.k (T.m (T.q ?_))
 refine T.ct (fun fr A => ∃ (xs3 : (List GR)) (x6 : Bool) (w10 : Value), fr = [(0, pt q1 0), (21, w8), (22, iv (xs1.length : Int)), (23, iv x4)] ∧ A = box q1 [w1, w2, w10, .bool x6] :: foc rGPeer w1 x1.Peers x2 b1 el1 [.bool x3.Up, iv x3.Term, iv x3.Vote, iv x3.Commit, iv x3.Role, w4, w5, w6, w7] :: ow (rC GR) w4 x3.Log :: ow (rC Bool) w5 x3.Votes :: ow (rC Int) w6 x3.Next :: ow (rC Int) w7 x3.Match :: ow (rC GM) w2 x1.Net :: ow (rC GR) w10 xs3 :: Ar ∧ vfz x4 (vgz xs1 x1 k0) xs3 x6 = some res) ?_ ?_
 {
 refine T.b (T.q (T.r (TL.mv rfl ?_)))
 obtain ⟨x7, hx2, hr⟩ := bS hr
 refine TL.ixu rfl a2 hx2 (fun b2 e1116 hp2 => ?_)
 refine GR.ldE rfl a2 hp2 hx2 (fun w11 => ?_)
 refine TL.al rfl (fun q2 => ?_)
 refine TL.a rfl (TL.sto (c' := [iv x7.Term, iv x7.Index, w11]) rfl rfl rfl (.s rfl (.s rfl (.h a1 inferInstance .n))) e0 rfl (bl rfl) (T.nil (T.m (T.b (T.q (T.r (TL.mv rfl (TL.mv rfl (TL.nc rfl ?_)))))))))
 refine TL.fa rfl (TL.ld rfl a2 rfl (TL.len rfl a9 (TL.bin rfl rfl (TL.a rfl (T.nil (T.m ?_))))))
 refine T.cD rfl (fun hc2 => ?_) (fun hc2 => ?_)
 {
 replace hr := iP hr hc2
 refine T.regionI (fun n1 => []) [0, 1, 2, 3, 4, 5, 6, 7, 8, 9, 10] [(false, true, false), (false, false, false), (false, false, false), (false, false, false), (false, false, false), (false, false, false), (false, false, false), (true, false, false), (false, false, false), (false, false, false), (true, false, true)] false rfl kr kr mP (fun n1 => ?_)
 refine TI.lt Nd.f rfl (.move (.inl rfl) rfl) ?_
 refine TI.op Nd.f ?_
 refine TL.mv rfl ?_
 refine T.nil ⟨rfl, fun n2 => ?_⟩
 refine TI.op Nd.f ?_
 refine TL.nc rfl ?_
 refine T.nil ⟨rfl, fun n3 => ?_⟩
 refine TI.op Nd.f ?_
 refine TL.fa rfl ?_
 refine T.nil ⟨rfl, fun n4 => ?_⟩
 refine TI.op Nd.f ?_
 refine TL.ld rfl a2 rfl ?_
 refine T.nil ⟨rfl, fun n5 => ?_⟩
 refine TI.op Nd.f ?_
 refine TL.ldN (l' := [iv x7.Term, iv x7.Index, w11]) rfl a0 rfl rfl ?_
 refine T.nil ⟨rfl, fun n6 => ?_⟩
 refine TI.op Nd.f ?_
 refine TL.gh (GR.mkV (s0 := x7.Term) (s1 := x7.Index) a1) ?_
 refine TL.lit1 rfl rfl p0 (fun w12 => ?_)
 refine T.nil ⟨rfl, fun n7 => ?_⟩
 refine TI.op Nd.f ?_
 obtain ⟨hc3, hr⟩ := cS hr
 refine TL.appR rfl p10 a0 hc3 (fun w13 => ?_)
 refine T.nil ⟨rfl, fun n8 => ?_⟩
 refine TI.op Nd.f ?_
 refine TL.nc rfl ?_
 refine T.nil ⟨rfl, fun n9 => ?_⟩
 refine TI.op Nd.f ?_
 refine TL.fa rfl ?_
 refine T.nil ⟨rfl, fun n10 => ?_⟩
 refine TI.op (.t .n) ?_
 refine TL.sts rfl a0 e4 c2 ?_
 refine T.nil ⟨rfl, fun n11 => ?_⟩
 refine TI.nil Nd.f (T.bN (T.bN (T.m ?_)))
 exact ⟨_, _, (fl4), (.sl (.p p4 (.p p4 (.p p4 (.p p4 (.p p4 (.p p4 (.p p4 (.p p0 (d3)))))))))), (xs2 ++ ([({ Term := x7.Term, Index := x7.Index, Data := x7.Data } : GR)] : List GR)), x5, w13, rfl, rfl, hr⟩
 }
 {
 replace hr := iN hr hc2
 refine T.q (T.rD r11 f11 rfl rfl kr kr mP (TL.ldN (l' := [iv x7.Term, iv x7.Index, w11]) rfl a0 rfl rfl (TL.mv rfl (TL.nc rfl (TL.fa rfl (TL.ld rfl a2 rfl (TL.mv rfl ?_)))))))
 obtain ⟨x8, hx3, hr⟩ := bS hr
 refine TL.ixu rfl a9 hx3 (fun b3 e1227 hp3 => ?_)
 refine TL.gh (.sl (.p p9 .e)) ?_
 refine GR.fo hp3 hx3 (fun w14 => ?_)
 refine TL.ldfN rfl a0 rfl rfl ?_
 obtain ⟨x9, hx4, hr⟩ := bS hr
 refine TL.callR g rfl rfl rfl (Pz.out (.c a3 Pers.rC (.c a1 Pers.rC .n))) (v1qzk g (Ar := []) hx4) ?_
 rintro _ _ ⟨rfl, rfl⟩
 simp only [List.cons_append, List.nil_append]
 refine TL.of (fun f k => WL.not f rfl rfl rfl rfl k) ?_
 refine TL.a rfl (T.nil (T.m ?_))
 refine T.cond rfl (fun hc4 => ?_) (fun hc4 => ?_)
 {
 replace hr := iBP hr hc4
 refine T.r (TL.mv rfl (TL.nc rfl (TL.fa rfl ?_)))
 refine TL.st rfl rfl e6 c3 (T.nil (T.bN (T.bN (T.m ?_))))
 exact ⟨_, _, (fl4), (.trans (GR.u0 hx3 p2 a1) (.sl (.p p6 (.p p6 (.p p6 (.p p6 (.p p6 (.p p6 (.p p6 (.p p0 (d5))))))))))), xs2, true, w9, rfl, rfl, hr⟩
 }
 {
 replace hr := iBN hr hc4
 refine T.k (T.bN (T.bN (T.m ?_)))
 exact ⟨_, _, (fl4), (.trans (GR.u0 hx3 p2 a1) (.sl (.p p6 (.p p6 (.p p6 (.p p6 (.p p6 (.p p6 (.p p6 (.p p0 (d5))))))))))), xs2, x5, w9, rfl, rfl, hr⟩
 }
 }
 }
 {
 rintro _ _ ⟨xs3, x6, w10, rfl, rfl, hr⟩
 unfold vfz at hr
 refine T.r ?_
 obtain ⟨hc5, hr⟩ := cS hr
 refine TL.ad rfl hc5 (TL.mv rfl (T.nil (T.m ?_)))
 exact ⟨_, _, (fl4), (.refl _), (x4 + 1), xs3, x6, w10, rfl, rfl, hr⟩
 }
 }
 {
 replace hr := iN hr hc1
 refine T.exit ?_
 refine T.tE (T.tE (T.bH ?_))
 obtain rfl := Option.some.inj hr
 exact ⟨.inl rfl, _, _, Res.nil, (.trans (GP.u0D hx1 p1 p1 p1 p1 p1) (.sl (.p p1 (.p p0 (.p p0 (.p p0 .e)))))), w2, w9, rfl, rfl⟩
 }
 }
theorem vhzk {Δ : Prims} (g : Env Try.prog Δ) {Ar : List Item} {x1 : GC} {q1 : Nat} {w1 w2 w3 : Value} {x2 : Int} {res : (GC)} (hr : vhz x1 x2 = some res) :
    Sp Try.prog Δ 60 [pt q1 0, iv x2] (box q1 [w1, w2, w3, .bool x1.Conflict] :: ow rGPeer w1 x1.Peers :: ow (rC GM) w2 x1.Net :: ow (rC GR) w3 x1.Chosen :: Ar) (fun v A => ∃ (rw1 : Value) (rw2 : Value), v = .tuple #[] ∧ A = box q1 [w1, rw1, rw2, .bool res.Conflict] :: ow rGPeer w1 res.Peers :: ow (rC GM) rw1 res.Net :: ow (rC GR) rw2 res.Chosen :: Ar) := by
 refine Sp.bd Try.func60 rfl rfl ?_
 unfold vhz at hr
 refine T.q (T.r (TL.mv rfl (TL.nc rfl (TL.fa rfl (TL.ld rfl a0 rfl (TL.mv rfl ?_))))))
 obtain ⟨x3, hx1, hr⟩ := bS hr
 refine TL.ixu rfl a1 hx1 (fun b1 el1 hp1 => ?_)
 refine TL.a rfl (T.nil (T.m (T.q (T.q (T.r (TL.mv rfl (TL.nc rfl (TL.fa rfl ?_))))))))
 refine TL.gh (.sl (.p p1 .e)) ?_
 refine GP.foD hp1 hx1 (fun w4 w5 w6 w7 => ?_)
 refine TL.lk (m := 5) rfl a0 rfl rfl (by decide) ?_
 refine TL.len rfl a1 (TL.a rfl (T.nil (T.m ?_)))
 refine T.ct (fun fr A => ∃ (xs1 : (List GP)), x1.Peers.length = xs1.length ∧ fr = [(0, pt q1 0), (1, iv x2)] ∧ A = box q1 [w1, w2, w3, .bool x1.Conflict] :: ow rGPeer w1 xs1 :: ow (rC GM) w2 x1.Net :: ow (rC GR) w3 x1.Chosen :: Ar ∧ viz x1 x2 xs1 = some res) ?_ ?_
 {
 refine T.b ?_
 refine T.lp (fun k1 fr A => ∃ (x4 : Int), fr = [(0, pt q1 0), (1, iv x2), (4, pt b1 el1), (5, iv x4)] ∧ A = box q1 [w1, w2, w3, .bool x1.Conflict] :: ow rGPeer w1 x1.Peers :: ow (rC GM) w2 x1.Net :: ow (rC GR) w3 x1.Chosen :: Ar ∧ vlz x3 x1 x2 k1 x4 = some res) BIG ?_ ?_ ?_
 {
 exact ⟨_, _, (fl4), (.trans (GP.u0D hx1 p0 p0 p0 p0 p0) (.sl (.p p1 (.p p0 (.p p0 (.p p0 .e)))))), (x3.Log.length : Int), rfl, rfl, hr⟩
 }
 {
 rintro fr A ⟨x4, -, -, hr⟩
 rw [vlz] at hr
 cases hr
 }
 {
 rintro k1 _ _ ⟨x4, rfl, rfl, hr⟩
 rw [vlz] at hr
 refine T.q (T.q (T.r (TL.mv rfl (TL.mv rfl (TL.nc rfl (TL.fa rfl ?_))))))
 refine TL.gh (.sl (.p p1 .e)) ?_
 refine GP.foD hp1 hx1 (fun w8 w9 w10 w11 => ?_)
 refine TL.lk (m := 3) rfl a0 rfl rfl (by decide) ?_
 refine TL.bin rfl rfl (T.nil (T.m ?_))
 refine T.cD rfl (fun hc1 => ?_) (fun hc1 => ?_)
 {
 replace hr := iP hr hc1
 refine T.k (T.m (T.q (T.b (T.q (T.r (TL.a rfl (T.nil (T.m (T.q ?_)))))))))
 refine T.q (T.r (TL.mv rfl (TL.nc rfl (TL.fa rfl ?_))))
 refine TL.lk (m := 8) rfl a0 rfl rfl (by decide) ?_
 refine TL.len rfl a4 (TL.mv rfl (T.nil (T.m (T.b ?_))))
 refine T.lp (fun k2 fr A => ∃ (x5 : Int) (x6 : Int), fr = [(0, pt q1 0), (1, iv x2), (4, pt b1 el1), (5, iv x4), (6, iv x5), (31, w11), (32, iv (x3.Match.length : Int)), (33, iv x6)] ∧ A = box q1 [w1, w2, w3, .bool x1.Conflict] :: foc rGPeer w1 x1.Peers x2 b1 el1 [.bool x3.Up, iv x3.Term, iv x3.Vote, iv x3.Commit, iv x3.Role, w8, w9, w10, w11] :: ow (rC GR) w8 x3.Log :: ow (rC Bool) w9 x3.Votes :: ow (rC Int) w10 x3.Next :: ow (rC Int) w11 x3.Match :: ow (rC GM) w2 x1.Net :: ow (rC GR) w3 x1.Chosen :: Ar ∧ vmz x3 x4 x1 x2 (vlz x3 x1 x2 k1) k2 x5 x6 = some res) BIG ?_ ?_ ?_
 {
 exact ⟨_, _, (fl8), (.sl (.p p5 (.p p0 (.p p0 (.p p0 (.p p0 (.p p0 (.p p0 (.p p0 .e))))))))), 0, 0, rfl, rfl, hr⟩
 }
 {
 rintro fr A ⟨x5, x6, -, -, hr⟩
 rw [vmz] at hr
 cases hr
 }
 {
 rintro k2 _ _ ⟨x5, x6, rfl, rfl, hr⟩
 rw [vmz] at hr
 refine T.q (T.r (TL.bin rfl rfl (T.nil (T.m (T.q ?_)))))
 refine T.cD rfl (fun hc2 => ?_) (fun hc2 => ?_)
 {
 replace hr := iP hr hc2
 refine T.k (T.m (T.q ?_))
 refine T.ct (fun fr A => ∃ (x7 : Int), fr = [(0, pt q1 0), (1, iv x2), (4, pt b1 el1), (5, iv x4), (6, iv x7), (31, w11), (32, iv (x3.Match.length : Int)), (33, iv x6)] ∧ A = box q1 [w1, w2, w3, .bool x1.Conflict] :: foc rGPeer w1 x1.Peers x2 b1 el1 [.bool x3.Up, iv x3.Term, iv x3.Vote, iv x3.Commit, iv x3.Role, w8, w9, w10, w11] :: ow (rC GR) w8 x3.Log :: ow (rC Bool) w9 x3.Votes :: ow (rC Int) w10 x3.Next :: ow (rC Int) w11 x3.Match :: ow (rC GM) w2 x1.Net :: ow (rC GR) w3 x1.Chosen :: Ar ∧ vjz x6 (vmz x3 x4 x1 x2 (vlz x3 x1 x2 k1) k2) x7 = some res) ?_ ?_
 {
 refine T.b (T.q (T.r ?_))
 obtain ⟨x8, hx2, hr⟩ := bS hr
 refine TL.ixu rfl a5 hx2 (fun b2 e8640 hp2 => ?_)
 refine TL.ldek (m := 0) rfl a5 hp2 hx2 Rp.sc rfl (TL.a rfl (T.nil (T.m (T.q (T.r (TL.mv rfl (TL.mv rfl (TL.bin rfl rfl (T.nil ?_)))))))))
 refine T.m ?_
 refine T.cD rfl (fun hc3 => ?_) (fun hc3 => ?_)
 {
 replace hr := iP hr hc3
 refine T.r (TL.mv rfl ?_)
 obtain ⟨hc4, hr⟩ := cS hr
 refine TL.ad rfl hc4 (TL.a rfl (T.nil (T.bN (T.m ?_))))
 exact ⟨_, _, (fl8), (.refl _), (x5 + 1), rfl, rfl, hr⟩
 }
 {
 replace hr := iN hr hc3
 refine T.k (T.bN (T.m ?_))
 exact ⟨_, _, (fl8), (.refl _), x5, rfl, rfl, hr⟩
 }
 }
 {
 rintro _ _ ⟨x7, rfl, rfl, hr⟩
 unfold vjz at hr
 refine T.r ?_
 obtain ⟨hc5, hr⟩ := cS hr
 refine TL.ad rfl hc5 (TL.mv rfl (T.nil (T.m ?_)))
 exact ⟨_, _, (fl8), (.refl _), x7, (x6 + 1), rfl, rfl, hr⟩
 }
 }
 {
 replace hr := iN hr hc2
 refine T.exit ?_
 refine T.tE (T.tE (T.bH (T.m (T.q ?_))))
 refine T.ct (fun fr A => ∃ (x9 : Bool), fr = [(0, pt q1 0), (1, iv x2), (4, pt b1 el1), (5, iv x4), (60, .bool x9)] ∧ A = box q1 [w1, w2, w3, .bool x1.Conflict] :: ow rGPeer w1 x1.Peers :: ow (rC GM) w2 x1.Net :: ow (rC GR) w3 x1.Chosen :: Ar ∧ vkz x1 x2 x3 x4 (vlz x3 x1 x2 k1) x9 = some res) ?_ ?_
 {
 refine T.rD r18 f18 rfl rfl kr kr mP (TL.mv rfl (TL.mv rfl (TL.nc rfl (TL.fa rfl (TL.ld rfl a0 rfl (TL.len rfl a1 ?_))))))
 obtain ⟨x10, hx3, hr⟩ := bS hr
 refine TL.callR g rfl rfl rfl (Pz.out .n) (v1nzk g (Ar := []) hx3) ?_
 rintro _ _ ⟨rfl, rfl⟩
 simp only [List.cons_append, List.nil_append]
 refine TL.bin rfl rfl (TL.mv rfl ?_)
 refine TL.guardD rfl rfl rfl (fun hg1 => ?_) (fun hg1 => ?_)
 {
 replace hr := iP hr hg1
 refine TL.mv rfl (TL.mv rfl ?_)
 obtain ⟨x11, hx4, hr⟩ := bS hr
 refine TL.callL g rfl rfl rfl (.f a1 rfl (.z (v := w8) a2 inferInstance .n)) (v1fzk g (Ar := []) hx4) (R2 := fun v A => v = iv x11 ∧ A = []) (fun _ _ h => ⟨[], by obtain ⟨_, rfl⟩ := h; exact Sl.ent d2, .n, h.1, rfl⟩) ?_
 rintro _ _ ⟨rfl, rfl⟩
 simp only [List.cons_append, List.nil_append]
 refine TL.mv rfl (TL.nc rfl (TL.fa rfl ?_))
 refine TL.lk (m := 1) rfl a1 rfl rfl (by decide) ?_
 refine TL.bin rfl rfl ?_
 refine TL.of (fun f k => WL.pick f rfl rfl rfl rfl rfl k) ?_
 refine T.nil (T.m ?_)
 exact ⟨_, _, (fl5), (.trans (GP.u0D hx1 p1 p1 p1 p1 p1) (.sl (.p p1 (.p p0 (.p p0 (.p p0 .e)))))), (decide (x11 = x3.Term)), rfl, rfl, hr⟩
 }
 {
 replace hr := iN hr hg1
 refine TL.sk rfl (TL.sk rfl (TL.sk rfl (TL.sk rfl (TL.sk rfl (TL.sk rfl (TL.sk rfl (TL.sk rfl ?_)))))))
 refine TL.of (fun f k => WL.pick f rfl rfl rfl rfl rfl k) ?_
 refine T.nil (T.m ?_)
 exact ⟨_, _, (fl5), (.trans (GP.u0D hx1 p1 p1 p1 p1 p1) (.sl (.p p1 (.p p0 (.p p0 (.p p0 .e)))))), false, rfl, rfl, hr⟩
 }
 }
 {
 rintro _ _ ⟨x9, rfl, rfl, hr⟩
 unfold vkz at hr
 refine T.cond rfl (fun hc6 => ?_) (fun hc6 => ?_)
 {
 replace hr := iBP hr hc6
 refine T.q (T.r (TL.mv rfl (TL.mv rfl (TL.nc rfl (TL.fa rfl ?_)))))
 refine TL.gh (.sl (.p p1 .e)) ?_
 refine GP.foD hp1 hx1 (fun w12 w13 w14 w15 => ?_)
 refine TL.stf rfl rfl e0 c3 (T.nil (T.m ?_))
 refine T.exit ?_
 refine T.blkOut (by decide) ?_
 refine T.tE (T.tE (T.bH (T.m ?_)))
 exact ⟨_, _, (fl2), (.trans (GP.unD p0 p0 p0 p0 p0) (.sl (.p p1 (.p p0 (.p p0 (.p p0 .e)))))), (setI x1.Peers x2 ({ Up := x3.Up, Term := x3.Term, Vote := x3.Vote, Commit := x4, Role := x3.Role, Log := x3.Log, Votes := x3.Votes, Next := x3.Next, Match := x3.Match } : GP)), lnE, rfl, rfl, hr⟩
 }
 {
 replace hr := iBN hr hc6
 refine T.k (T.bN (T.m (T.r (TL.mv rfl ?_))))
 obtain ⟨hc7, hr⟩ := cS hr
 refine TL.su rfl hc7 (TL.a rfl (T.nil (T.m ?_)))
 exact ⟨_, _, (fl4), (.refl _), (x4 - 1), rfl, rfl, hr⟩
 }
 }
 }
 }
 }
 {
 replace hr := iN hr hc1
 refine T.exit ?_
 refine T.tE (T.tE (T.bH (T.m ?_)))
 exact ⟨_, _, (fl2), (.trans (GP.u0D hx1 p0 p0 p0 p0 p0) (.sl (.p p1 (.p p0 (.p p0 (.p p0 .e)))))), x1.Peers, lnE, rfl, rfl, hr⟩
 }
 }
 }
 {
 rintro _ _ ⟨xs1, hl1, rfl, rfl, hr⟩
 unfold viz at hr
 refine T.r (TL.mv rfl (TL.mv rfl ?_))
 obtain ⟨x12, hx5, hr⟩ := bS hr
 refine TL.hv (v := w1) a1 (fun hv1 => ?_)
 refine TL.c rfl rfl rfl (vezk g hx5) ?_
 rintro _ _ ⟨w16, w17, rfl, rfl⟩
 refine TL.hv (v := w1) a1 (fun hv2 => ?_)
 have hl2 : x1.Peers.length = x12.Peers.length := Eq.trans lnE (Hv.eq hv1 hv2)
 refine T.nil ?_
 obtain rfl := Option.some.inj hr
 exact ⟨.inl rfl, _, _, Res.nil, (.refl _), w16, w17, rfl, rfl⟩
 }
theorem v1izk {Δ : Prims} (g : Env Try.prog Δ) {Ar : List Item} {xs1 : (List GR)} {w1 : Value} {X0 : Item} [Rdb X0 w1 xs1] [Hdr X0 w1 xs1.length] {res : ((List GR))} (hr : v1iz xs1 = some res) :
    Sp Try.prog Δ 61 [w1] (X0 :: Ar) (fun v A => A = X0 :: ow (rC GR) v res :: Ar) := by
 refine Sp.bd Try.func61 rfl rfl ?_
 unfold v1iz at hr
 refine T.q (T.r (TL.a rfl (T.nil (T.m (T.q (T.r ?_))))))
 refine TL.lit (α := GR) rfl rfl rfl rfl ([] : List GR) (fun _ _ _ _ _ => RA.nil) (fun w2 => ?_)
 refine TL.a rfl (T.nil (T.m (T.q (T.q (T.r (TL.mv rfl (TL.len rfl a1 (TL.mv rfl (T.nil ?_)))))))))
 refine T.m (T.b ?_)
 refine T.lp (fun k0 fr A => ∃ (xs2 : (List GR)) (x1 : Int) (w3 : Value), fr = [(3, w3), (7, w1), (8, iv (xs1.length : Int)), (9, iv x1)] ∧ A = ow (rC GR) w3 xs2 :: X0 :: Ar ∧ v1jz xs1 k0 xs2 x1 = some res) BIG ?_ ?_ ?_
 {
 exact ⟨_, _, (fl4), (.refl _), ([] : List GR), 0, w2, rfl, rfl, hr⟩
 }
 {
 rintro fr A ⟨xs2, x1, w3, -, -, hr⟩
 rw [v1jz] at hr
 cases hr
 }
 {
 rintro k0 _ _ ⟨xs2, x1, w3, rfl, rfl, hr⟩
 rw [v1jz] at hr
 refine T.q (T.r (TL.bin rfl rfl (T.nil (T.m (T.q ?_)))))
 refine T.cD rfl (fun hc1 => ?_) (fun hc1 => ?_)
 {
 replace hr := iP hr hc1
 refine T.k (T.m (T.q (T.b (T.q (T.r ?_)))))
 obtain ⟨x2, hx1, hr⟩ := bS hr
 refine TL.ixu rfl a1 hx1 (fun b1 e597 hp1 => ?_)
 refine GR.ldE rfl a1 hp1 hx1 (fun w4 => ?_)
 refine TL.al rfl (fun q1 => ?_)
 refine TL.sto (c' := [iv x2.Term, iv x2.Index, w4]) rfl rfl rfl (.s rfl (.s rfl (.h a1 inferInstance .n))) e0 rfl (bl rfl) (T.nil (T.m (T.q (T.r (TL.fa rfl (TL.ld rfl a0 rfl ?_))))))
 obtain ⟨x3, hx2, hr⟩ := bS hr
 refine TL.gh (.sl (.p p1 .e)) ?_
 refine TL.c rfl rfl rfl (v26zk g hx2) ?_
 rintro w5 _ rfl
 refine TL.fa rfl ?_
 refine TL.sts rfl a1 e2 c2 (T.nil (T.m (T.r (TL.mv rfl (TL.ldN (l' := [iv x2.Term, iv x2.Index, w5]) rfl a2 rfl rfl ?_)))))
 refine TL.gh (.frz p1) ?_
 refine TL.gh (GR.mkV (s0 := x2.Term) (s1 := x2.Index) a0) ?_
 refine TL.lit1 rfl rfl p0 (fun w6 => ?_)
 obtain ⟨hc2, hr⟩ := cS hr
 refine TL.appR rfl p4 a0 hc2 (fun w7 => ?_)
 refine TL.a rfl (T.nil (T.bN (T.m (T.r ?_))))
 obtain ⟨hc3, hr⟩ := cS hr
 refine TL.ad rfl hc3 (TL.mv rfl (T.nil (T.m ?_)))
 exact ⟨_, _, (fl4), (.sl (.p p0 (.p p4 (d4)))), (xs2 ++ ([({ Term := x2.Term, Index := x2.Index, Data := x3 } : GR)] : List GR)), (x1 + 1), w7, rfl, rfl, hr⟩
 }
 {
 replace hr := iN hr hc1
 refine T.exit ?_
 refine T.tE (T.tE (T.bH (T.m (T.q (T.r (TL.mv rfl (TL.a rfl (T.nil (T.m ?_)))))))))
 refine T.ret ?_
 obtain rfl := Option.some.inj hr
 exact ⟨.inr rfl, _, _, (Res.tmp rfl Res.nil), (.sl (.p p1 (.p p0 .e))), rfl⟩
 }
 }
theorem v1zk {Δ : Prims} (g : Env Try.prog Δ) {Ar : List Item} {x1 : GM} {w1 : Value} {X0_8 : Item} [Rdb X0_8 w1 x1.Log] [Hdr X0_8 w1 x1.Log.length] {res : (GM)} (hr : v1z x1 = some res) :
    Sp Try.prog Δ 64 [.agg [iv x1.Kind, iv x1.From, iv x1.To, iv x1.Term, iv x1.A, iv x1.B, iv x1.C, .bool x1.Ok, w1].toArray] (X0_8 :: Ar) (fun v A => ∃ (rw1 : Value), v = .agg [iv res.Kind, iv res.From, iv res.To, iv res.Term, iv res.A, iv res.B, iv res.C, .bool res.Ok, rw1].toArray ∧ A = X0_8 :: fz rw1 res.Log :: Ar) := by
 refine Sp.bd Try.func64 rfl rfl ?_
 unfold v1z at hr
 refine T.q (T.r ?_)
 refine TL.bxo rfl rfl (.s rfl (.s rfl (.s rfl (.s rfl (.s rfl (.s rfl (.s rfl (.s rfl (.h a0 inferInstance .n))))))))) (fun q1 => ?_)
 refine TL.al rfl (fun q2 => ?_)
 refine T.nil (T.m (T.q (T.r (TL.fa rfl (TL.ld rfl a1 rfl ?_)))))
 obtain ⟨x2, hx1, hr⟩ := bS hr
 refine TL.gh (.sl (.p p2 .e)) ?_
 refine TL.c rfl rfl rfl (v1izk g hx1) ?_
 rintro w2 _ rfl
 refine TL.fa rfl ?_
 refine TL.sts rfl a1 e3 c8 (T.nil (T.m (T.q (T.r (TL.ldN (l' := [iv x1.Kind, iv x1.From, iv x1.To, iv x1.Term, iv x1.A, iv x1.B, iv x1.C, .bool x1.Ok, w2]) rfl a3 rfl rfl (TL.sto (c' := [iv x1.Kind, iv x1.From, iv x1.To, iv x1.Term, iv x1.A, iv x1.B, iv x1.C, .bool x1.Ok, w2]) rfl rfl rfl (.s rfl (.s rfl (.s rfl (.s rfl (.s rfl (.s rfl (.s rfl (.s rfl (.h a1 inferInstance .n))))))))) e2 rfl (bl rfl) (T.nil (T.m ?_))))))))
 refine T.ret ?_
 obtain rfl := Option.some.inj hr
 exact ⟨.inr rfl, _, _, (Res.cellN rfl a2 rfl rfl Res.nil), (.trans (.frz p1) (.sl (.p p1 (.p p0 (d2))))), w2, rfl, rfl⟩
theorem vxzk {Δ : Prims} (g : Env Try.prog Δ) {Ar : List Item} {x1 : GC} {q1 : Nat} {w1 w2 w3 : Value} {x2 x3 : Int} {res : (GC)} (hr : vxz x1 x2 x3 = some res) :
    Sp Try.prog Δ 89 [pt q1 0, iv x2, iv x3] (box q1 [w1, w2, w3, .bool x1.Conflict] :: ow rGPeer w1 x1.Peers :: ow (rC GM) w2 x1.Net :: ow (rC GR) w3 x1.Chosen :: Ar) (fun v A => ∃ (rw1 : Value) (rw2 : Value), v = .tuple #[] ∧ A = box q1 [w1, rw1, rw2, .bool res.Conflict] :: ow rGPeer w1 res.Peers :: ow (rC GM) rw1 res.Net :: ow (rC GR) rw2 res.Chosen :: Ar) := by
 refine Sp.bd Try.func89 rfl rfl ?_
 unfold vxz at hr
 refine T.q (T.r (TL.mv rfl (TL.nc rfl (TL.fa rfl (TL.ld rfl a0 rfl (TL.mv rfl ?_))))))
 obtain ⟨x4, hx1, hr⟩ := bS hr
 refine TL.ixu rfl a1 hx1 (fun b1 el1 hp1 => ?_)
 refine TL.a rfl (T.nil (T.m (T.q (T.r (TL.mv rfl (TL.nc rfl (TL.fa rfl ?_)))))))
 refine TL.gh (.sl (.p p1 .e)) ?_
 refine GP.foD hp1 hx1 (fun w4 w5 w6 w7 => ?_)
 refine TL.lk (m := 7) rfl a0 rfl rfl (by decide) ?_
 refine TL.mv rfl ?_
 obtain ⟨x5, hx2, hr⟩ := bS hr
 refine TL.ixu rfl a3 hx2 (fun b2 e58 hp2 => ?_)
 refine TL.ldek (m := 0) rfl a3 hp2 hx2 Rp.sc rfl ?_
 obtain ⟨hc1, hr⟩ := cS hr
 refine TL.su rfl hc1 (TL.a rfl (T.nil (T.m (T.rD [0, 1, 2, 3, 4, 5, 6, 7, 8, 9, 10, 11, 12, 13, 14, 15, 16, 17, 18, 19, 20, 21, 22] [false, false, false, false, false, false, false, false, false, false, false, false, false, false, false, false, false, false, false, false, false, false, true] rfl rfl kr kr mP (TL.mv rfl (TL.mv rfl (TL.mv rfl (TL.mv rfl (TL.nc rfl ?_)))))))))
 refine TL.fa rfl ?_
 refine TL.lk (m := 1) rfl a0 rfl rfl (by decide) ?_
 refine TL.mv rfl (TL.mv rfl (TL.mv rfl ?_))
 obtain ⟨x6, hx3, hr⟩ := bS hr
 refine TL.callL g rfl rfl rfl (.f a0 rfl (.z (v := w4) a1 inferInstance .n)) (v1fzk g (Ar := []) hx3) (R2 := fun v A => v = iv x6 ∧ A = []) (fun _ _ h => ⟨[], by obtain ⟨_, rfl⟩ := h; exact Sl.ent d2, .n, h.1, rfl⟩) ?_
 rintro _ _ ⟨rfl, rfl⟩
 simp only [List.cons_append, List.nil_append]
 refine TL.mv rfl (TL.nc rfl (TL.fa rfl ?_))
 refine TL.lk (m := 3) rfl a0 rfl rfl (by decide) ?_
 refine TL.mv rfl (TL.nc rfl (TL.fa rfl ?_))
 refine TL.lk (m := 5) rfl a0 rfl rfl (by decide) ?_
 refine TL.mv rfl ?_
 obtain ⟨xs1, hxs76, hr⟩ := bS hr
 refine TL.slr rfl a1 ⟨_, rfl⟩ rfl hxs76 (fun w8 _ _ => ?_)
 refine TL.bld (cells := [iv 3, iv x2, iv x3, iv x4.Term, iv (x5 - 1), iv x6, iv x4.Commit, .bool false, w8]) rfl Try.underlying85 info85 rfl rfl rfl (by simp only [List.mapM_cons, List.mapM_nil, info3, info3, info3, info3, info3, info3, info3, info4, info28]; rfl) rfl (.s rfl (.s rfl (.s rfl (.s rfl (.s rfl (.s rfl (.s rfl (.h a1 inferInstance .n)))))))) rfl ?_
 refine TL.callIn (args := [pt q1 0, .agg [iv 3, iv x2, iv x3, iv x4.Term, iv (x5 - 1), iv x6, iv x4.Commit, .bool false, w8].toArray]) rfl rfl rfl Try.func55 rfl rfl ?_
 refine T.q (T.r ?_)
 refine TL.bxo rfl rfl (.s rfl (.s rfl (.s rfl (.s rfl (.s rfl (.s rfl (.s rfl (.s rfl (.h a1 inferInstance .n))))))))) (fun q2 => ?_)
 refine T.nil (T.m (T.q (T.r (TL.mv rfl (TL.nc rfl (TL.fa rfl (TL.ld rfl a6 rfl (TL.len rfl a7 (TL.bin rfl rfl ?_)))))))))
 refine T.nil (T.m ?_)
 refine T.cD rfl (fun hc2 => ?_) (fun hc2 => ?_)
 {
 replace hr := iP hr hc2
 refine T.regionI (fun n1 => [wB q1 [w1, w2, w3, .bool x1.Conflict]]) [0, 1, 2, 3, 4, 5, 6, 7, 8, 9, 10, 11] [(false, true, false), (false, true, false), (false, true, false), (false, true, false), (false, true, false), (false, false, false), (true, false, false), (false, false, false), (true, false, true), (false, false, false), (false, false, false), (true, false, true)] false rfl kr kr mP (fun n1 => ?_)
 refine TI.lt Nd.f rfl (.move (.inl rfl) rfl) ?_
 refine TI.lt Nd.f rfl (.move (.inl rfl) rfl) ?_
 refine TI.lt Nd.f rfl (.nilCheck rfl rfl) ?_
 refine TI.lfa Nd.f rfl ?_
 refine TI.llb Nd.f rfl a6 .z rfl ?_
 refine TI.op Nd.f ?_
 refine TL.ldN (l' := [iv 3, iv x2, iv x3, iv x4.Term, iv (x5 - 1), iv x6, iv x4.Commit, .bool false, w8]) rfl a0 rfl rfl ?_
 refine T.nil ⟨rfl, fun n2 => ?_⟩
 refine TI.op Nd.f ?_
 obtain ⟨x7, hx4, hr⟩ := bS hr
 refine TL.gh (.sl (.p p2 .e)) ?_
 refine TL.c rfl rfl rfl (v1zk g hx4) ?_
 rintro _ _ ⟨w9, rfl, rfl⟩
 refine T.nil ⟨rfl, fun n3 => ?_⟩
 refine TI.op Nd.f ?_
 refine TL.gh (GM.mkV (s0 := x7.Kind) (s1 := x7.From) (s2 := x7.To) (s3 := x7.Term) (s4 := x7.A) (s5 := x7.B) (s6 := x7.C) (s7 := x7.Ok) a1) ?_
 refine TL.lit1 rfl rfl p0 (fun w10 => ?_)
 refine T.nil ⟨rfl, fun n4 => ?_⟩
 refine TI.op (.t (.b a8 .n)) ?_
 obtain ⟨hc3, hr⟩ := cS hr
 refine TL.appR rfl p9 a0 hc3 (fun w11 => ?_)
 refine T.nil ⟨rfl, fun n5 => ?_⟩
 refine TI.op Nd.f ?_
 refine TL.nc rfl ?_
 refine T.nil ⟨rfl, fun n6 => ?_⟩
 refine TI.op Nd.f ?_
 refine TL.fa rfl ?_
 refine T.nil ⟨rfl, fun n7 => ?_⟩
 refine TI.op (.t (.b a9 .n)) ?_
 refine TL.sts rfl a0 e9 c1 ?_
 refine T.nil ⟨rfl, fun n8 => ?_⟩
 refine TI.nil Nd.f ?_
 refine ⟨.inl rfl, _, _, Res.nil, .refl _, ?_⟩
 refine T.nil ?_
 obtain rfl := Option.some.inj hr
 exact ⟨.inl rfl, _, _, Res.nil, (.trans (GP.u0D hx1 p5 p2 p4 p4 p4) (.sl (.p p5 (.p p0 (.p p0 (.p p3 (d3))))))), w11, w3, rfl, rfl⟩
 }
 {
 replace hr := iN hr hc2
 refine T.k ?_
 refine ⟨.inl rfl, _, _, Res.nil, .refl _, ?_⟩
 refine T.nil ?_
 obtain rfl := Option.some.inj hr
 exact ⟨.inl rfl, _, _, Res.nil, (.trans (GP.u0D hx1 p1 p1 p1 p1 p1) (.sl (.p p2 (.p p0 (.p p1 (.p p1 (d1))))))), w2, w3, rfl, rfl⟩
 }
theorem vnzk {Δ : Prims} (g : Env Try.prog Δ) {Ar : List Item} {x1 : GC} {q1 : Nat} {w1 w2 w3 : Value} {x2 : Int} {res : (GC)} (hr : vnz x1 x2 = some res) :
    Sp Try.prog Δ 87 [pt q1 0, iv x2] (box q1 [w1, w2, w3, .bool x1.Conflict] :: ow rGPeer w1 x1.Peers :: ow (rC GM) w2 x1.Net :: ow (rC GR) w3 x1.Chosen :: Ar) (fun v A => ∃ (rw1 : Value) (rw2 : Value), v = .tuple #[] ∧ A = box q1 [w1, rw1, rw2, .bool res.Conflict] :: ow rGPeer w1 res.Peers :: ow (rC GM) rw1 res.Net :: ow (rC GR) rw2 res.Chosen :: Ar) := by
 refine Sp.bd Try.func87 rfl rfl ?_
 unfold vnz at hr
 refine T.q (T.r ?_)
 refine TL.bx rfl rfl (one1 rfl) (fun q2 => ?_)
 refine TL.bx rfl rfl (one1 rfl) (fun q3 => ?_)
 refine T.nil (T.m (T.q (T.rD r8 f8 rfl rfl kr kr mP (TL.ld rfl a1 rfl (TL.nc rfl (TL.fa rfl (TL.ld rfl a2 rfl (TL.ld rfl a0 rfl ?_))))))))
 obtain ⟨x3, hx1, hr⟩ := bS hr
 refine TL.ixu rfl a3 hx1 (fun b1 el1 hp1 => ?_)
 refine TL.a rfl (TL.a rfl (T.nil (T.m (T.q (T.q (T.r (TL.mv rfl (TL.nc rfl (TL.fa rfl ?_)))))))))
 refine TL.gh (.sl (.p p3 .e)) ?_
 refine GP.foD hp1 hx1 (fun w4 w5 w6 w7 => ?_)
 refine TL.lk (m := 6) rfl a0 rfl rfl (by decide) ?_
 refine TL.len rfl a2 (TL.mv rfl (T.nil (T.m (T.b ?_))))
 refine T.lp (fun k0 fr A => ∃ (x4 : Int) (x5 : Int), fr = [(2, pt q2 0), (3, pt q3 0), (4, pt b1 el1), (5, iv x4), (17, w5), (18, iv (x3.Votes.length : Int)), (19, iv x5)] ∧ A = box q3 [iv x2] :: box q2 [pt q1 0] :: box q1 [w1, w2, w3, .bool x1.Conflict] :: foc rGPeer w1 x1.Peers x2 b1 el1 [.bool x3.Up, iv x3.Term, iv x3.Vote, iv x3.Commit, iv x3.Role, w4, w5, w6, w7] :: ow (rC GR) w4 x3.Log :: ow (rC Bool) w5 x3.Votes :: ow (rC Int) w6 x3.Next :: ow (rC Int) w7 x3.Match :: ow (rC GM) w2 x1.Net :: ow (rC GR) w3 x1.Chosen :: Ar ∧ vrz x3 x1 x2 k0 x4 x5 = some res) BIG ?_ ?_ ?_
 {
 exact ⟨_, _, (fl7), (.sl (.p p5 (.p p5 (.p p5 (.p p0 (.p p0 (.p p0 (.p p0 (.p p0 (.p p0 (.p p0 .e))))))))))), 0, 0, rfl, rfl, hr⟩
 }
 {
 rintro fr A ⟨x4, x5, -, -, hr⟩
 rw [vrz] at hr
 cases hr
 }
 {
 rintro k0 _ _ ⟨x4, x5, rfl, rfl, hr⟩
 rw [vrz] at hr
 refine T.q (T.r (TL.bin rfl rfl (T.nil (T.m (T.q ?_)))))
 refine T.cD rfl (fun hc1 => ?_) (fun hc1 => ?_)
 {
 replace hr := iP hr hc1
 refine T.k (T.m (T.q ?_))
 refine T.ct (fun fr A => ∃ (x6 : Int), fr = [(2, pt q2 0), (3, pt q3 0), (4, pt b1 el1), (5, iv x6), (17, w5), (18, iv (x3.Votes.length : Int)), (19, iv x5)] ∧ A = box q3 [iv x2] :: box q2 [pt q1 0] :: box q1 [w1, w2, w3, .bool x1.Conflict] :: foc rGPeer w1 x1.Peers x2 b1 el1 [.bool x3.Up, iv x3.Term, iv x3.Vote, iv x3.Commit, iv x3.Role, w4, w5, w6, w7] :: ow (rC GR) w4 x3.Log :: ow (rC Bool) w5 x3.Votes :: ow (rC Int) w6 x3.Next :: ow (rC Int) w7 x3.Match :: ow (rC GM) w2 x1.Net :: ow (rC GR) w3 x1.Chosen :: Ar ∧ voz x5 (vrz x3 x1 x2 k0) x6 = some res) ?_ ?_
 {
 refine T.b (T.q (T.r ?_))
 obtain ⟨x7, hx2, hr⟩ := bS hr
 refine TL.ixu rfl a5 hx2 (fun b2 e877 hp2 => ?_)
 refine TL.ldek (m := 0) rfl a5 hp2 hx2 Rp.sc rfl (TL.a rfl (T.nil (T.m (T.q (T.r (TL.mv rfl (T.nil (T.m ?_))))))))
 refine T.cond rfl (fun hc2 => ?_) (fun hc2 => ?_)
 {
 replace hr := iBP hr hc2
 refine T.r (TL.mv rfl ?_)
 obtain ⟨hc3, hr⟩ := cS hr
 refine TL.ad rfl hc3 (TL.a rfl (T.nil (T.bN (T.m ?_))))
 exact ⟨_, _, (fl7), (.refl _), (x4 + 1), rfl, rfl, hr⟩
 }
 {
 replace hr := iBN hr hc2
 refine T.k (T.bN (T.m ?_))
 exact ⟨_, _, (fl7), (.refl _), x4, rfl, rfl, hr⟩
 }
 }
 {
 rintro _ _ ⟨x6, rfl, rfl, hr⟩
 unfold voz at hr
 refine T.r ?_
 obtain ⟨hc4, hr⟩ := cS hr
 refine TL.ad rfl hc4 (TL.mv rfl (T.nil (T.m ?_)))
 exact ⟨_, _, (fl7), (.refl _), x6, (x5 + 1), rfl, rfl, hr⟩
 }
 }
 {
 replace hr := iN hr hc1
 refine T.exit ?_
 refine T.tE (T.tE (T.bH (T.m (T.q (T.q ?_)))))
 refine T.ct (fun fr A => ∃ (x8 : Bool), fr = [(2, pt q2 0), (3, pt q3 0), (4, pt b1 el1), (41, .bool x8)] ∧ A = box q3 [iv x2] :: box q2 [pt q1 0] :: box q1 [w1, w2, w3, .bool x1.Conflict] :: ow rGPeer w1 x1.Peers :: ow (rC GM) w2 x1.Net :: ow (rC GR) w3 x1.Chosen :: Ar ∧ vpz x1 x3 x2 x8 = some res) ?_ ?_
 {
 refine T.r (TL.mv rfl (TL.nc rfl (TL.fa rfl ?_)))
 refine TL.lk (m := 4) rfl a3 rfl rfl (by decide) ?_
 refine TL.bin rfl rfl (TL.mv rfl ?_)
 refine TL.guardN rfl rfl rfl (fun hg1 => ?_) (fun hg1 => ?_)
 {
 replace hr := iN hr hg1
 refine TL.sk rfl (TL.sk rfl (TL.sk rfl (TL.sk rfl (TL.sk rfl (TL.sk rfl (TL.sk rfl (TL.sk rfl ?_)))))))
 refine TL.of (fun f k => WL.pick f rfl rfl rfl rfl rfl k) ?_
 refine T.nil (T.m ?_)
 exact ⟨_, _, (fl4), (.trans (GP.u0D hx1 p3 p3 p3 p3 p3) (.sl (.p p1 (.p p1 (.p p1 (.p p0 (.p p0 (.p p0 .e)))))))), true, rfl, rfl, hr⟩
 }
 {
 replace hr := iP hr hg1
 refine TL.mv rfl (TL.ld rfl a1 rfl (TL.nc rfl (TL.fa rfl (TL.ld rfl a2 rfl (TL.len rfl a3 ?_)))))
 obtain ⟨x9, hx3, hr⟩ := bS hr
 refine TL.c rfl rfl rfl (v1nzk g hx3) ?_
 rintro _ _ ⟨rfl, rfl⟩
 refine TL.bin rfl rfl ?_
 refine TL.of (fun f k => WL.pick f rfl rfl rfl rfl rfl k) ?_
 refine T.nil (T.m ?_)
 exact ⟨_, _, (fl4), (.trans (GP.u0D hx1 p3 p3 p3 p3 p3) (.sl (.p p1 (.p p1 (.p p1 (.p p0 (.p p0 (.p p0 .e)))))))), (decide (x4 < x9)), rfl, rfl, hr⟩
 }
 }
 {
 rintro _ _ ⟨x8, rfl, rfl, hr⟩
 unfold vpz at hr
 refine T.cond rfl (fun hc5 => ?_) (fun hc5 => ?_)
 {
 replace hr := iBP hr hc5
 refine T.ret ?_
 refine T.thenRet ?_
 obtain rfl := Option.some.inj hr
 exact ⟨.inr rfl, _, _, Res.nil, (.sl (.p p2 (.p p2 (.p p2 (.p p2 (d2)))))), w2, w3, rfl, rfl⟩
 }
 {
 replace hr := iBN hr hc5
 refine T.k (T.m (T.q (T.r (TL.mv rfl (TL.mv rfl (TL.nc rfl (TL.fa rfl ?_)))))))
 refine TL.gh (.sl (.p p3 .e)) ?_
 refine GP.foD hp1 hx1 (fun w8 w9 w10 w11 => ?_)
 refine TL.stf rfl rfl e0 c4 (TL.nc rfl (TL.fa rfl ?_))
 refine TL.gh (.nilO (rC Bool)) ?_
 refine TL.stf rfl rfl e1 c6 (T.nil (T.m (T.q ?_)))
 refine T.regionI (fun n1 => [wR n1 1 (List.replicate (x1.Peers.length : Int).toNat [iv 0]).flatten]) [15, 16, 17, 18, 19, 20, 0, 1, 2, 3, 4, 5, 6, 7, 8, 9, 10, 11, 12, 13, 14, 21, 22, 23, 24, 25, 26] [(false, false, false), (false, false, false), (false, false, false), (false, false, false), (false, true, false), (false, true, false), (false, false, false), (false, true, false), (false, false, false), (false, false, false), (false, false, false), (false, false, false), (false, false, false), (false, false, false), (false, false, false), (false, false, false), (false, false, false), (false, false, false), (false, false, false), (false, false, false), (false, false, false), (false, false, false), (false, false, false), (true, false, false), (false, false, false), (false, false, false), (true, false, true)] false rfl kr kr mP (fun n1 => ?_)
 refine TI.lb0 Nd.f rfl a7 rfl ?_
 refine TI.st0 Nd.f rfl (.nilCheck rfl rfl) (TI.fa0 Nd.f rfl ?_)
 refine TI.lb0 Nd.f rfl a8 rfl ?_
 refine TI.lln Nd.f rfl a1 ?_
 obtain ⟨hc6, hr⟩ := cS hr
 refine TI.lmk Nd.f rfl hc6.1 hc6.2 .z ?_
 refine TI.op Nd.f ?_
 refine TL.mv rfl ?_
 refine T.nil ⟨rfl, fun n2 => ?_⟩
 refine TI.lt Nd.f rfl (.move (.inl rfl) rfl) ?_
 refine TI.op Nd.f ?_
 refine TL.mv rfl ?_
 refine T.nil ⟨rfl, fun n3 => ?_⟩
 refine TI.op Nd.f ?_
 refine TL.nc rfl ?_
 refine T.nil ⟨rfl, fun n4 => ?_⟩
 refine TI.op Nd.f ?_
 refine TL.fa rfl ?_
 refine T.nil ⟨rfl, fun n5 => ?_⟩
 refine TI.op Nd.f ?_
 refine TL.lk (m := 5) rfl a2 rfl rfl (by decide) ?_
 refine T.nil ⟨rfl, fun n6 => ?_⟩
 refine TI.op Nd.f ?_
 refine TL.len rfl a3 ?_
 refine T.nil ⟨rfl, fun n7 => ?_⟩
 refine TI.op Nd.f ?_
 obtain ⟨hc7, hr⟩ := cS hr
 refine TL.ad rfl hc7 ?_
 refine T.nil ⟨rfl, fun n8 => ?_⟩
 refine TI.op Nd.f ?_
 refine TL.lit (α := Int) rfl rfl rfl rfl ([((x3.Log.length : Int) + 1)] : List Int) (fun _ _ _ _ _ => (RA.cons (cs := [iv ((x3.Log.length : Int) + 1)]) (a := (((x3.Log.length : Int) + 1) : Int)) rfl RA.nil)) (fun w12 => ?_)
 refine T.nil ⟨rfl, fun n9 => ?_⟩
 refine TI.op Nd.f ?_
 refine TL.ld rfl a9 rfl ?_
 refine T.nil ⟨rfl, fun n10 => ?_⟩
 refine TI.op Nd.f ?_
 refine TL.nc rfl ?_
 refine T.nil ⟨rfl, fun n11 => ?_⟩
 refine TI.op Nd.f ?_
 refine TL.fa rfl ?_
 refine T.nil ⟨rfl, fun n12 => ?_⟩
 refine TI.op Nd.f ?_
 refine TL.ld rfl a10 rfl ?_
 refine T.nil ⟨rfl, fun n13 => ?_⟩
 refine TI.op Nd.f ?_
 refine TL.len rfl a3 ?_
 refine T.nil ⟨rfl, fun n14 => ?_⟩
 refine TI.op Nd.f ?_
 obtain ⟨x10, hx4, hr⟩ := bS hr
 refine TL.callN g rfl rfl rfl (v2gz g hx4 a0) (fun w13 => ?_)
 refine T.nil ⟨rfl, fun n15 => ?_⟩
 refine TI.op Nd.f ?_
 refine TL.nc rfl ?_
 refine T.nil ⟨rfl, fun n16 => ?_⟩
 refine TI.op Nd.f ?_
 refine TL.fa rfl ?_
 refine T.nil ⟨rfl, fun n17 => ?_⟩
 refine TI.op Nd.f ?_
 refine TL.stfs rfl a0 e4 c7 ?_
 refine T.nil ⟨rfl, fun n18 => ?_⟩
 refine TI.op Nd.f ?_
 refine TL.nc rfl ?_
 refine T.nil ⟨rfl, fun n19 => ?_⟩
 refine TI.op Nd.f ?_
 refine TL.fa rfl ?_
 refine T.nil ⟨rfl, fun n20 => ?_⟩
 refine TI.op (.t (.r a2 .n)) ?_
 refine TL.stfs rfl a2 e4 c8 ?_
 refine T.nil ⟨rfl, fun n21 => ?_⟩
 refine TI.nil Nd.f (T.m (T.q (T.rD [0, 1, 2, 3, 4, 5, 6, 7, 8, 9, 10, 11] [false, false, false, false, false, false, false, false, false, false, false, true] rfl rfl kr kr mP ?_)))
 refine TL.gh (.brw (r := (rC Int)) (xs := (List.replicate (x1.Peers.length : Int).toNat (0 : Int))) (len := (x1.Peers.length : Int).toNat) p2 (by simp) (by unfold UNK; omega) (fun _ => RL.replicate rfl _)) ?_
 refine TL.mv rfl (TL.nc rfl (TL.fa rfl ?_))
 refine TL.lk (m := 8) rfl a4 rfl rfl (by decide) ?_
 refine TL.ld rfl a9 rfl (TL.mv rfl (TL.nc rfl (TL.fa rfl ?_)))
 refine TL.lk (m := 5) rfl a4 rfl rfl (by decide) ?_
 refine TL.len rfl a5 ?_
 obtain ⟨x11, hx5, hr⟩ := bS hr
 refine TL.ixu rfl a0 hx5 (fun b3 e1114 hp3 => ?_)
 refine TL.ste rfl rfl e0 hp3 hx5 (fun _ _ _ _ _ => rfl) ?_
 refine T.nil (T.m (T.q (T.r (TL.ld rfl a10 rfl (TL.ld rfl a9 rfl ?_)))))
 obtain ⟨x12, hx6, hr⟩ := bS hr
 refine TL.gh (.trans (GP.unD p4 p4 p3 p1 p0) (.sl (.p p7 (.p p0 (.p p6 (.p p6 .e)))))) ?_
 refine TL.hv (v := w1) a1 (fun hv1 => ?_)
 refine TL.c rfl rfl rfl (vhzk g hx6) ?_
 rintro _ _ ⟨w14, w15, rfl, rfl⟩
 refine TL.hv (v := w1) a1 (fun hv2 => ?_)
 have hl1 : x1.Peers.length = x12.Peers.length := Eq.trans lnE (Hv.eq hv1 hv2)
 refine T.nil (T.m (T.r (TL.ld rfl a9 rfl (TL.ld rfl a8 rfl ?_))))
 refine TL.of (fun f k => WL.mkFunc f rfl rfl rfl rfl rfl k) ?_
 refine TL.callIn (args := [pt q1 0, iv x2, .func (.func 113) [].toArray [pt q2 0, pt q3 0].toArray]) rfl rfl rfl Try.func90 rfl rfl ?_
 refine T.q (T.r (TL.mv rfl (TL.nc rfl (TL.fa rfl (TL.ld rfl a0 rfl ?_)))))
 refine TL.lenE (m := x1.Peers.length) rfl a1 lnE (TL.mv rfl (T.nil (T.m (T.b ?_))))
 refine T.lp (fun k3 fr A => ∃ (x13 : Int) (xs1 : (List GP)) (xs2 : (List GM)) (xs3 : (List GR)) (x14 : Bool) (w16 : Value) (w17 : Value), x1.Peers.length = xs1.length ∧ fr = [(1, iv x2), (2, .func (.func 113) [].toArray [pt q2 0, pt q3 0].toArray), (11, iv (x1.Peers.length : Int)), (12, iv x13)] ∧ A = box q3 [iv x2] :: box q2 [pt q1 0] :: box q1 [w1, w16, w17, .bool x14] :: ow rGPeer w1 xs1 :: ow (rC GM) w16 xs2 :: ow (rC GR) w17 xs3 :: Ar ∧ vsz x1 x2 k3 x13 xs1 xs2 xs3 x14 = some res) BIG ?_ ?_ ?_
 {
 exact ⟨_, _, (fl4), (.sl (.p p8 (.p p8 (.p p0 (.p p0 (.p p0 (.p p0 (d4)))))))), 0, x12.Peers, x12.Net, x12.Chosen, x12.Conflict, w14, w15, lnE, rfl, rfl, hr⟩
 }
 {
 rintro fr A ⟨x13, xs1, xs2, xs3, x14, w16, w17, hl2, -, -, hr⟩
 rw [vsz] at hr
 cases hr
 }
 {
 rintro k3 _ _ ⟨x13, xs1, xs2, xs3, x14, w16, w17, hl2, rfl, rfl, hr⟩
 rw [vsz] at hr
 refine T.q (T.r (TL.bin rfl rfl (T.nil (T.m (T.q ?_)))))
 refine T.cD rfl (fun hc8 => ?_) (fun hc8 => ?_)
 {
 replace hr := iP hr hc8
 refine T.k (T.m (T.q ?_))
 refine T.ct (fun fr A => ∃ (xs4 : (List GP)) (xs5 : (List GM)) (xs6 : (List GR)) (x15 : Bool) (w18 : Value) (w19 : Value), x1.Peers.length = xs4.length ∧ fr = [(1, iv x2), (2, .func (.func 113) [].toArray [pt q2 0, pt q3 0].toArray), (11, iv (x1.Peers.length : Int)), (12, iv x13)] ∧ A = box q3 [iv x2] :: box q2 [pt q1 0] :: box q1 [w1, w18, w19, .bool x15] :: ow rGPeer w1 xs4 :: ow (rC GM) w18 xs5 :: ow (rC GR) w19 xs6 :: Ar ∧ vqz x13 (vsz x1 x2 k3) xs4 xs5 xs6 x15 = some res) ?_ ?_
 {
 refine T.b (T.q (T.r (TL.mv rfl (TL.a rfl (T.nil (T.m (T.q (T.r (TL.mv rfl ?_)))))))))
 refine TL.mv rfl (TL.bin rfl rfl (T.nil (T.m ?_)))
 refine T.condN rfl (fun hc9 => ?_) (fun hc9 => ?_)
 {
 replace hr := iN hr hc9
 refine T.r (TL.mv rfl (TL.mv rfl ?_))
 refine TL.callIn (args := [iv x13, pt q2 0, pt q3 0]) rfl rfl rfl Try.func113 rfl rfl ?_
 refine T.r (TL.ld rfl a1 rfl (TL.ld rfl a0 rfl (TL.mv rfl ?_)))
 obtain ⟨x16, hx7, hr⟩ := bS hr
 refine TL.gh (.sl (.p p2 (.p p2 (.p p2 (.p p2 .e))))) ?_
 refine TL.hv (v := w1) a1 (fun hv3 => ?_)
 refine TL.c rfl rfl rfl (vxzk g hx7) ?_
 rintro _ _ ⟨w20, w21, rfl, rfl⟩
 refine TL.hv (v := w1) a1 (fun hv4 => ?_)
 have hl3 : x1.Peers.length = x16.Peers.length := Eq.trans lnE (Hv.eq hv3 hv4)
 refine T.nil ?_
 refine ⟨.inl rfl, _, _, Res.nil, .refl _, ?_⟩
 refine T.nil (T.bN (T.m ?_))
 exact ⟨_, _, (fl4), (.sl (.p p4 (.p p4 (.p p0 (.p p0 (.p p0 (.p p0 .e))))))), x16.Peers, x16.Net, x16.Chosen, x16.Conflict, w20, w21, lnE, rfl, rfl, hr⟩
 }
 {
 replace hr := iP hr hc9
 refine T.k (T.bN (T.m ?_))
 exact ⟨_, _, (fl4), (.refl _), xs1, xs2, xs3, x14, w16, w17, lnE, rfl, rfl, hr⟩
 }
 }
 {
 rintro _ _ ⟨xs4, xs5, xs6, x15, w18, w19, hl4, rfl, rfl, hr⟩
 unfold vqz at hr
 refine T.r ?_
 obtain ⟨hc10, hr⟩ := cS hr
 refine TL.ad rfl hc10 (TL.mv rfl (T.nil (T.m ?_)))
 exact ⟨_, _, (fl4), (.refl _), (x13 + 1), xs4, xs5, xs6, x15, w18, w19, lnE, rfl, rfl, hr⟩
 }
 }
 {
 replace hr := iN hr hc8
 refine T.exit ?_
 refine T.tE (T.tE (T.bH ?_))
 refine ⟨.inl rfl, _, _, Res.nil, .refl _, ?_⟩
 refine T.nil ?_
 obtain rfl := Option.some.inj hr
 exact ⟨.inl rfl, _, _, Res.nil, (.sl (.p p2 (.p p2 (.p p2 (.p p2 (d2)))))), w16, w17, rfl, rfl⟩
 }
 }
 }
 }
 }
 }
theorem v27zk {Δ : Prims} (g : Env Try.prog Δ) {Ar : List Item} {w : Value} {X : Item} {xs1 : List GR} [Rdb X w xs1] [Hdr X w xs1.length] {res : List GR} (hr : v27z xs1 = some res) :
    Sp Try.prog Δ 114 [w] (X :: Ar) (fun v A => A = X :: ow (rC GR) v res :: Ar) := by
 refine Sp.bd Try.func114 rfl rfl ?_
 obtain ⟨hlen, hr⟩ := cS hr
 obtain rfl := Option.some.inj hr
 refine T.q (T.r (TL.a rfl (T.nil (T.m (T.q (T.q (T.r (TL.mv rfl ?_))))))))
 refine TL.isNil rfl a0 (fun h0 => ?_) ?_
 · refine T.nil ?_
   refine T.m ?_
   refine T.condT rfl ?_
   refine T.q ?_
   refine T.r ?_
   refine TL.a rfl ?_
   refine T.nil ?_
   refine T.m ?_
   refine T.ret ?_
   repeat (refine T.thenRet ?_)
   have e := List.eq_nil_of_length_eq_zero h0
   exact ⟨.inr rfl, _, _, (Res.tmp rfl Res.nil), (.trans (.nilO (rC GR)) (.sl (.p p1 .e))), by rw [e]; rfl⟩
 · refine T.nil ?_
   refine T.m ?_
   refine T.condF rfl ?_
   refine T.k ?_
   refine T.m ?_
   refine T.q ?_
   refine T.r ?_
   refine TL.lit (α := GR) rfl rfl rfl rfl [] (fun _ _ _ _ _ => RA.nil) (fun w1 => ?_)
   refine TL.mv rfl ?_
   refine TL.appR rfl p0 a1 (by simpa using hlen) (fun w2 => ?_)
   refine TL.a rfl ?_
   refine T.nil ?_
   refine T.m ?_
   refine T.ret ?_
   exact ⟨.inr rfl, _, _, (Res.tmp rfl Res.nil), (.sl (.p p1 .e)), rfl⟩
theorem vzzk {Δ : Prims} (g : Env Try.prog Δ) {Ar : List Item} {x1 : GC} {q1 : Nat} {w1 w2 w3 : Value} {x2 : GM} {w4 : Value} {x3 : GM} {w5 : Value} {res : (GC)} (hr : vzz x1 x2 x3 = some res) :
    Sp Try.prog Δ 88 [pt q1 0, .agg [iv x2.Kind, iv x2.From, iv x2.To, iv x2.Term, iv x2.A, iv x2.B, iv x2.C, .bool x2.Ok, w4].toArray, .agg [iv x3.Kind, iv x3.From, iv x3.To, iv x3.Term, iv x3.A, iv x3.B, iv x3.C, .bool x3.Ok, w5].toArray] (box q1 [w1, w2, w3, .bool x1.Conflict] :: ow rGPeer w1 x1.Peers :: ow (rC GM) w2 x1.Net :: ow (rC GR) w3 x1.Chosen :: fz w4 x2.Log :: fz w5 x3.Log :: Ar) (fun v A => ∃ (rw1 : Value) (rw2 : Value), v = .tuple #[] ∧ A = box q1 [w1, rw1, rw2, .bool res.Conflict] :: ow rGPeer w1 res.Peers :: ow (rC GM) rw1 res.Net :: ow (rC GR) rw2 res.Chosen :: fz w4 x2.Log :: fz w5 x3.Log :: Ar) := by
 refine Sp.bd Try.func88 rfl rfl ?_
 unfold vzz at hr
 refine T.q (T.r ?_)
 refine TL.bxo rfl rfl (.s rfl (.s rfl (.s rfl (.s rfl (.s rfl (.s rfl (.s rfl (.s rfl (.h a4 inferInstance .n))))))))) (fun q2 => ?_)
 refine TL.bxo rfl rfl (.s rfl (.s rfl (.s rfl (.s rfl (.s rfl (.s rfl (.s rfl (.s rfl (.h a6 inferInstance .n))))))))) (fun q3 => ?_)
 refine T.nil (T.m (T.q (T.rD r8 f8 rfl rfl kr kr mP (TL.mv rfl (TL.nc rfl (TL.fa rfl (TL.ld rfl a2 rfl (TL.fa rfl (TL.ld rfl a1 rfl ?_)))))))))
 obtain ⟨x4, hx1, hr⟩ := bS hr
 refine TL.ixu rfl a3 hx1 (fun b1 el1 hp1 => ?_)
 refine TL.a rfl (T.nil (T.m (T.q (T.r (TL.fa rfl ?_)))))
 refine TL.st rfl rfl e0 c0 (T.nil (T.m (T.q (T.q (T.rD r7 f7 rfl rfl kr kr mP (TL.fa rfl (TL.ld rfl a1 rfl (TL.mv rfl (TL.nc rfl ?_)))))))))
 refine TL.fa rfl ?_
 refine TL.gh (.sl (.p p3 .e)) ?_
 refine GP.foD hp1 hx1 (fun w6 w7 w8 w9 => ?_)
 refine TL.lk (m := 1) rfl a0 rfl rfl (by decide) ?_
 refine TL.bin rfl rfl (T.nil (T.m ?_))
 refine T.cD rfl (fun hc1 => ?_) (fun hc1 => ?_)
 {
 replace hr := iP hr hc1
 refine T.q (T.r (TL.mv rfl (TL.nc rfl (TL.fa rfl ?_))))
 refine TL.lk (m := 1) rfl a0 rfl rfl (by decide) ?_
 refine TL.fa rfl ?_
 refine TL.st rfl rfl e5 c3 (T.nil (T.m (T.q (T.r (TL.mv rfl (TL.ldN (l' := [iv 4, iv x3.From, iv x3.To, iv x4.Term, iv x3.A, iv x3.B, iv x3.C, .bool x3.Ok, w5]) rfl a5 rfl rfl ?_))))))
 obtain ⟨x5, hx2, hr⟩ := bS hr
 refine TL.gh (.trans (GP.u0D hx1 p0 p0 p0 p0 p0) (.sl (.p p3 (.p p0 (.p p2 (.p p2 (.p p3 .e))))))) ?_
 refine TL.hv (v := w1) a1 (fun hv1 => ?_)
 refine TL.c rfl rfl rfl (vyzk g hx2) ?_
 rintro _ _ ⟨w10, w11, rfl, rfl⟩
 refine TL.hv (v := w1) a1 (fun hv2 => ?_)
 have hl1 : x1.Peers.length = x5.Peers.length := Eq.trans lnE (Hv.eq hv1 hv2)
 refine T.nil (T.m ?_)
 refine T.ret ?_
 refine T.thenRet ?_
 obtain rfl := Option.some.inj hr
 exact ⟨.inr rfl, _, _, Res.nil, (.sl (.p p0 (.p p0 (.p p0 (.p p0 (.p p3 (.p p0 (d2)))))))), w10, w11, rfl, rfl⟩
 }
 {
 replace hr := iN hr hc1
 refine T.k (T.m (T.q (T.r (TL.mv rfl (TL.fa rfl (TL.ld rfl a6 rfl ?_))))))
 refine TL.callIn (args := [pt b1 el1, iv x2.Term]) rfl rfl rfl Try.func85 rfl rfl ?_
 refine T.q (T.q (T.r (TL.mv rfl (TL.mv rfl (TL.nc rfl (TL.fa rfl ?_))))))
 refine TL.lk (m := 1) rfl a0 rfl rfl (by decide) ?_
 refine TL.bin rfl rfl (T.nil (T.m ?_))
 refine T.ct (fun fr A => ∃ (xs1 : (List GP)), x1.Peers.length = xs1.length ∧ fr = [(0, pt b1 el1)] ∧ A = box q3 [iv 4, iv x3.From, iv x3.To, iv x3.Term, iv x3.A, iv x3.B, iv x3.C, .bool x3.Ok, w5] :: box q2 [iv x2.Kind, iv x2.From, iv x2.To, iv x2.Term, iv x2.A, iv x2.B, iv x2.C, .bool x2.Ok, w4] :: box q1 [w1, w2, w3, .bool x1.Conflict] :: fz w5 x3.Log :: fz w4 x2.Log :: ow rGPeer w1 xs1 :: ow (rC GM) w2 x1.Net :: ow (rC GR) w3 x1.Chosen :: Ar ∧ v10z x2 x1 x3 xs1 = some res) ?_ ?_
 {
 refine T.cD rfl (fun hc2 => ?_) (fun hc2 => ?_)
 {
 replace hr := iP hr hc2
 refine T.r (TL.mv rfl (TL.mv rfl (TL.mv rfl (TL.nc rfl (TL.fa rfl ?_)))))
 refine TL.stf rfl rfl e0 c1 (TL.nc rfl (TL.fa rfl ?_))
 refine TL.stf rfl rfl e0 c2 (T.nil (T.m ?_))
 exact ⟨_, _, (fl1), (.trans (GP.unD p0 p0 p0 p0 p0) (.sl (.p p1 (.p p1 (.p p1 (.p p4 (.p p3 (.p p0 (.p p0 (.p p0 .e)))))))))), (setI x1.Peers x2.To ({ Up := x4.Up, Term := x2.Term, Vote := 0, Commit := x4.Commit, Role := x4.Role, Log := x4.Log, Votes := x4.Votes, Next := x4.Next, Match := x4.Match } : GP)), lnE, rfl, rfl, hr⟩
 }
 {
 replace hr := iN hr hc2
 refine T.k (T.m ?_)
 exact ⟨_, _, (fl1), (.trans (GP.u0D hx1 p0 p0 p0 p0 p0) (.sl (.p p1 (.p p1 (.p p1 (.p p4 (.p p3 (.p p0 (.p p0 (.p p0 .e)))))))))), x1.Peers, lnE, rfl, rfl, hr⟩
 }
 }
 {
 rintro _ _ ⟨xs1, hl2, rfl, rfl, hr⟩
 unfold v10z at hr
 refine T.r (TL.mv rfl ?_)
 refine TL.callIn (args := [pt b1 el1]) rfl rfl rfl Try.func92 rfl rfl ?_
 refine T.r (TL.mv rfl (TL.mv rfl (TL.mv rfl (TL.mv rfl (TL.nc rfl (TL.fa rfl ?_))))))
 obtain ⟨x6, hx3, hr⟩ := bS hr
 refine TL.gh (.sl (.p p5 .e)) ?_
 refine GP.foD hp1 hx3 (fun w12 w13 w14 w15 => ?_)
 refine TL.stf rfl rfl e0 c4 (TL.nc rfl (TL.fa rfl ?_))
 refine TL.gh (.nilO (rC Bool)) ?_
 refine TL.stf rfl rfl e1 c6 (TL.nc rfl (TL.fa rfl ?_))
 refine TL.gh (.nilO (rC Int)) ?_
 refine TL.stf rfl rfl e2 c7 (TL.nc rfl (TL.fa rfl ?_))
 refine TL.gh (.nilO (rC Int)) ?_
 refine TL.stf rfl rfl e3 c8 (T.nil ?_)
 refine ⟨.inl rfl, _, _, Res.nil, .refl _, ?_⟩
 refine T.nil ?_
 refine ⟨.inl rfl, _, _, Res.nil, .refl _, ?_⟩
 refine T.nil (T.m (T.q (T.r (TL.mv rfl (TL.nc rfl (TL.fa rfl ?_))))))
 refine TL.lk (m := 1) rfl a3 rfl rfl (by decide) ?_
 refine TL.fa rfl ?_
 refine TL.st rfl rfl e8 c3 (T.nil (T.m (T.q (T.q ?_))))
 refine T.ct (fun fr A => ∃ (x7 : Bool), fr = [(0, pt q1 0), (4, pt q2 0), (5, pt q3 0), (6, pt b1 el1), (58, .bool x7)] ∧ A = box q3 [iv 4, iv x3.From, iv x3.To, iv x6.Term, iv x3.A, iv x3.B, iv x3.C, .bool x3.Ok, w5] :: box q2 [iv x2.Kind, iv x2.From, iv x2.To, iv x2.Term, iv x2.A, iv x2.B, iv x2.C, .bool x2.Ok, w4] :: box q1 [w1, w2, w3, .bool x1.Conflict] :: fz w5 x3.Log :: fz w4 x2.Log :: ow rGPeer w1 (setI xs1 x2.To ({ Up := x6.Up, Term := x6.Term, Vote := x6.Vote, Commit := x6.Commit, Role := 0, Log := x6.Log, Votes := [], Next := [], Match := [] } : GP)) :: ow (rC GM) w2 x1.Net :: ow (rC GR) w3 x1.Chosen :: Ar ∧ v11z x2 xs1 x6 x1 x3 x7 = some res) ?_ ?_
 {
 refine T.rD r17 f17 rfl rfl kr kr mP (TL.fa rfl (TL.ld rfl a9 rfl (TL.mv rfl (TL.nc rfl (TL.fa rfl ?_)))))
 refine TL.lk (m := 5) rfl a3 rfl rfl (by decide) ?_
 refine TL.len rfl a4 (TL.bin rfl rfl (TL.mv rfl ?_))
 refine TL.guardD rfl rfl rfl (fun hg1 => ?_) (fun hg1 => ?_)
 {
 replace hr := iP hr hg1
 refine TL.sk rfl (TL.sk rfl (TL.sk rfl (TL.sk rfl (TL.sk rfl (TL.sk rfl (TL.sk rfl ?_))))))
 refine TL.of (fun f k => WL.pick f rfl rfl rfl rfl rfl k) ?_
 refine T.nil (T.m ?_)
 exact ⟨_, _, (fl5), (.trans (GP.unD p3 p3 p2 p0 p0) (.sl (.p p4 (.p p4 (.p p4 (.p p4 (.p p4 (.p p0 (.p p3 (.p p3 (d3))))))))))), true, rfl, rfl, hr⟩
 }
 {
 replace hr := iN hr hg1
 refine TL.mv rfl (TL.fa rfl (TL.ld rfl a9 rfl ?_))
 obtain ⟨x8, hx4, hr⟩ := bS hr
 refine TL.callL g rfl rfl rfl (.f a3 rfl (.z (v := w12) a4 inferInstance .n)) (v1fzk g (Ar := []) hx4) (R2 := fun v A => v = iv x8 ∧ A = []) (fun _ _ h => ⟨[], by obtain ⟨_, rfl⟩ := h; exact Sl.ent d2, .n, h.1, rfl⟩) ?_
 rintro _ _ ⟨rfl, rfl⟩
 simp only [List.cons_append, List.nil_append]
 refine TL.fa rfl (TL.ld rfl a9 rfl (TL.bin rfl rfl ?_))
 refine TL.of (fun f k => WL.pick f rfl rfl rfl rfl rfl k) ?_
 refine T.nil (T.m ?_)
 exact ⟨_, _, (fl5), (.trans (GP.unD p3 p3 p2 p0 p0) (.sl (.p p4 (.p p4 (.p p4 (.p p4 (.p p4 (.p p0 (.p p3 (.p p3 (d3))))))))))), (!decide (x8 = x2.B)), rfl, rfl, hr⟩
 }
 }
 {
 rintro _ _ ⟨x7, rfl, rfl, hr⟩
 unfold v11z at hr
 refine T.cond rfl (fun hc3 => ?_) (fun hc3 => ?_)
 {
 replace hr := iBP hr hc3
 refine T.q (T.rD [0, 1, 2, 3, 4, 5, 6, 7, 8, 9, 10] [false, false, false, false, false, false, false, false, false, false, true] rfl rfl kr kr mP (TL.fa rfl (TL.ld rfl a1 rfl ?_)))
 obtain ⟨hc4, hr⟩ := cS hr
 refine TL.su rfl hc4 (TL.mv rfl (TL.nc rfl (TL.fa rfl ?_)))
 refine TL.gh (.sl (.p p5 .e)) ?_
 refine GP.rfD hp1 hx3 (fun w16 w17 w18 w19 => ?_)
 refine TL.lk (m := 5) rfl a0 rfl rfl (by decide) ?_
 refine TL.len rfl a1 ?_
 refine TL.of (fun f k => WL.min2 f rfl rfl rfl rfl rfl k) ?_
 refine TL.fa rfl ?_
 refine TL.st rfl rfl e5 c4 (T.nil (T.m (T.q (T.r (TL.mv rfl (TL.ldN (l' := [iv 4, iv x3.From, iv x3.To, iv x6.Term, iv (if (x6.Log.length : Int) < (x2.A - 1) then (x6.Log.length : Int) else (x2.A - 1)), iv x3.B, iv x3.C, .bool x3.Ok, w5]) rfl a5 rfl rfl ?_))))))
 obtain ⟨x9, hx5, hr⟩ := bS hr
 refine TL.gh (.trans (GP.unD p0 p0 p0 p0 p0) (.sl (.p p3 (.p p0 (.p p4 (.p p4 (.p p2 .e))))))) ?_
 refine TL.hv (v := w1) a1 (fun hv3 => ?_)
 refine TL.c rfl rfl rfl (vyzk g hx5) ?_
 rintro _ _ ⟨w20, w21, rfl, rfl⟩
 refine TL.hv (v := w1) a1 (fun hv4 => ?_)
 have hl3 : x1.Peers.length = x9.Peers.length := Eq.trans lnE (Hv.eq hv3 hv4)
 refine T.nil (T.m ?_)
 refine T.ret ?_
 refine T.thenRet ?_
 obtain rfl := Option.some.inj hr
 exact ⟨.inr rfl, _, _, Res.nil, (.sl (.p p0 (.p p0 (.p p0 (.p p0 (.p p3 (.p p0 (d2)))))))), w20, w21, rfl, rfl⟩
 }
 {
 replace hr := iBN hr hc3
 refine T.k (T.m (T.q (T.r (TL.fa rfl (TL.ld rfl a1 rfl (TL.a rfl (T.nil (T.m (T.q ?_)))))))))
 refine T.q (T.r (TL.fa rfl (TL.ld rfl a1 rfl (TL.len rfl a4 (TL.mv rfl (T.nil (T.m (T.b ?_))))))))
 refine T.lp (fun k2 fr A => ∃ (x10 : Int) (x11 : Int) (xs2 : (List GP)), x1.Peers.length = xs2.length ∧ fr = [(0, pt q1 0), (4, pt q2 0), (5, pt q3 0), (6, pt b1 el1), (7, iv x10), (75, w4), (76, iv (x2.Log.length : Int)), (77, iv x11)] ∧ A = box q3 [iv 4, iv x3.From, iv x3.To, iv x6.Term, iv x3.A, iv x3.B, iv x3.C, .bool x3.Ok, w5] :: box q2 [iv x2.Kind, iv x2.From, iv x2.To, iv x2.Term, iv x2.A, iv x2.B, iv x2.C, .bool x2.Ok, w4] :: box q1 [w1, w2, w3, .bool x1.Conflict] :: fz w4 x2.Log :: fz w5 x3.Log :: ow rGPeer w1 xs2 :: ow (rC GM) w2 x1.Net :: ow (rC GR) w3 x1.Chosen :: Ar ∧ v15z x2 x1 x3 x6 k2 x10 x11 xs2 = some res) BIG ?_ ?_ ?_
 {
 exact ⟨_, _, (fl8), (.sl (.p p0 (.p p0 (.p p0 (.p p1 (.p p0 (.p p0 (.p p0 (.p p0 .e))))))))), x2.A, 0, (setI xs1 x2.To ({ Up := x6.Up, Term := x6.Term, Vote := x6.Vote, Commit := x6.Commit, Role := 0, Log := x6.Log, Votes := [], Next := [], Match := [] } : GP)), lnE, rfl, rfl, hr⟩
 }
 {
 rintro fr A ⟨x10, x11, xs2, hl4, -, -, hr⟩
 rw [v15z] at hr
 cases hr
 }
 {
 rintro k2 _ _ ⟨x10, x11, xs2, hl4, rfl, rfl, hr⟩
 rw [v15z] at hr
 refine T.q (T.r (TL.bin rfl rfl (T.nil (T.m (T.q ?_)))))
 refine T.cD rfl (fun hc5 => ?_) (fun hc5 => ?_)
 {
 replace hr := iP hr hc5
 refine T.k (T.m (T.q ?_))
 refine T.ct (fun fr A => ∃ (x12 : Int) (xs3 : (List GP)), x1.Peers.length = xs3.length ∧ fr = [(0, pt q1 0), (4, pt q2 0), (5, pt q3 0), (6, pt b1 el1), (7, iv x12), (75, w4), (76, iv (x2.Log.length : Int)), (77, iv x11)] ∧ A = box q3 [iv 4, iv x3.From, iv x3.To, iv x6.Term, iv x3.A, iv x3.B, iv x3.C, .bool x3.Ok, w5] :: box q2 [iv x2.Kind, iv x2.From, iv x2.To, iv x2.Term, iv x2.A, iv x2.B, iv x2.C, .bool x2.Ok, w4] :: box q1 [w1, w2, w3, .bool x1.Conflict] :: fz w4 x2.Log :: fz w5 x3.Log :: ow rGPeer w1 xs3 :: ow (rC GM) w2 x1.Net :: ow (rC GR) w3 x1.Chosen :: Ar ∧ v12z x11 (v15z x2 x1 x3 x6 k2) x12 xs3 = some res) ?_ ?_
 {
 refine T.b (T.q (T.r ?_))
 obtain ⟨x13, hx6, hr⟩ := bS hr
 refine TL.ixu rfl a3 hx6 (fun b2 e5244 hp2 => ?_)
 refine GR.ex a3 hp2 hx6 (fun w22 => ?_)
 refine TL.ldgN rfl a0 rfl ?_
 refine TL.al rfl (fun q4 => ?_)
 refine TL.sto (c' := [iv x13.Term, iv x13.Index, w22]) rfl rfl rfl (.s rfl (.s rfl (.h a2 inferInstance .n))) e0 rfl (bl rfl) (T.nil (T.m (T.q (T.r (TL.fa rfl (TL.ld rfl a0 rfl (TL.a rfl (T.nil (T.m ?_)))))))))
 refine T.q (T.q ?_)
 refine T.ct (fun fr A => ∃ (x14 : Bool), fr = [(0, pt q1 0), (4, pt q2 0), (5, pt q3 0), (6, pt b1 el1), (7, iv x13.Index), (9, pt q4 0), (75, w4), (76, iv (x2.Log.length : Int)), (77, iv x11), (97, .bool x14)] ∧ A = box q3 [iv 4, iv x3.From, iv x3.To, iv x6.Term, iv x3.A, iv x3.B, iv x3.C, .bool x3.Ok, w5] :: box q2 [iv x2.Kind, iv x2.From, iv x2.To, iv x2.Term, iv x2.A, iv x2.B, iv x2.C, .bool x2.Ok, w4] :: box q4 [iv x13.Term, iv x13.Index, w22] :: box q1 [w1, w2, w3, .bool x1.Conflict] :: fz w4 x2.Log :: fz w5 x3.Log :: fz w22 x13.Data :: ow rGPeer w1 xs2 :: ow (rC GM) w2 x1.Net :: ow (rC GR) w3 x1.Chosen :: Ar ∧ v13z xs2 x2 x13 x11 (v15z x2 x1 x3 x6 k2) x14 = some res) ?_ ?_
 {
 refine T.rD r15 f15 rfl rfl kr kr mP (TL.mv rfl (TL.mv rfl (TL.nc rfl (TL.fa rfl ?_))))
 obtain ⟨x15, hx7, hr⟩ := bS hr
 refine TL.gh (.sl (.p p8 .e)) ?_
 refine GP.foD hp1 hx7 (fun w23 w24 w25 w26 => ?_)
 refine TL.lk (m := 5) rfl a0 rfl rfl (by decide) ?_
 refine TL.len rfl a1 (TL.bin rfl rfl (TL.mv rfl ?_))
 refine TL.guardD rfl rfl rfl (fun hg2 => ?_) (fun hg2 => ?_)
 {
 replace hr := iP hr hg2
 refine TL.mv rfl (TL.mv rfl ?_)
 obtain ⟨x16, hx8, hr⟩ := bS hr
 refine TL.callL g rfl rfl rfl (.f a0 rfl (.z (v := w23) a1 inferInstance .n)) (v1fzk g (Ar := []) hx8) (R2 := fun v A => v = iv x16 ∧ A = []) (fun _ _ h => ⟨[], by obtain ⟨_, rfl⟩ := h; exact Sl.ent d2, .n, h.1, rfl⟩) ?_
 rintro _ _ ⟨rfl, rfl⟩
 simp only [List.cons_append, List.nil_append]
 refine TL.fa rfl (TL.ld rfl a5 rfl (TL.bin rfl rfl ?_))
 refine TL.of (fun f k => WL.pick f rfl rfl rfl rfl rfl k) ?_
 refine T.nil (T.m ?_)
 exact ⟨_, _, (fl10), (.trans (GP.u0D hx7 p0 p0 p0 p0 p0) (.sl (.p p4 (.p p4 (.p p1 (.p p3 (.p p3 (.p p3 (.p p2 (.p p0 (.p p1 (.p p1 (d1))))))))))))), (!decide (x16 = x13.Term)), rfl, rfl, hr⟩
 }
 {
 replace hr := iN hr hg2
 refine TL.sk rfl (TL.sk rfl (TL.sk rfl (TL.sk rfl (TL.sk rfl (TL.sk rfl ?_)))))
 refine TL.of (fun f k => WL.pick f rfl rfl rfl rfl rfl k) ?_
 refine T.nil (T.m ?_)
 exact ⟨_, _, (fl10), (.trans (GP.u0D hx7 p0 p0 p0 p0 p0) (.sl (.p p4 (.p p4 (.p p1 (.p p3 (.p p3 (.p p3 (.p p2 (.p p0 (.p p1 (.p p1 (d1))))))))))))), false, rfl, rfl, hr⟩
 }
 }
 {
 rintro _ _ ⟨x14, rfl, rfl, hr⟩
 unfold v13z at hr
 refine T.ct (fun fr A => ∃ (xs4 : (List GP)), x1.Peers.length = xs4.length ∧ fr = [(0, pt q1 0), (4, pt q2 0), (5, pt q3 0), (6, pt b1 el1), (7, iv x13.Index), (9, pt q4 0), (75, w4), (76, iv (x2.Log.length : Int)), (77, iv x11)] ∧ A = box q3 [iv 4, iv x3.From, iv x3.To, iv x6.Term, iv x3.A, iv x3.B, iv x3.C, .bool x3.Ok, w5] :: box q2 [iv x2.Kind, iv x2.From, iv x2.To, iv x2.Term, iv x2.A, iv x2.B, iv x2.C, .bool x2.Ok, w4] :: box q4 [iv x13.Term, iv x13.Index, w22] :: box q1 [w1, w2, w3, .bool x1.Conflict] :: fz w4 x2.Log :: fz w5 x3.Log :: fz w22 x13.Data :: ow rGPeer w1 xs4 :: ow (rC GM) w2 x1.Net :: ow (rC GR) w3 x1.Chosen :: Ar ∧ v14z x2 x13 x11 (v15z x2 x1 x3 x6 k2) xs4 = some res) ?_ ?_
 {
 refine T.cond rfl (fun hc6 => ?_) (fun hc6 => ?_)
 {
 replace hr := iBP hr hc6
 refine T.r (TL.mv rfl (TL.mv rfl (TL.nc rfl (TL.fa rfl ?_))))
 obtain ⟨x17, hx9, hr⟩ := bS hr
 refine TL.gh (.sl (.p p7 .e)) ?_
 refine GP.foD hp1 hx9 (fun w27 w28 w29 w30 => ?_)
 refine TL.lk (m := 5) rfl a0 rfl rfl (by decide) ?_
 refine TL.mv rfl ?_
 obtain ⟨hc7, hr⟩ := cS hr
 refine TL.su rfl hc7 ?_
 obtain ⟨xs5, hxs5535, hr⟩ := bS hr
 refine TL.slr rfl a1 rfl ⟨_, rfl⟩ hxs5535 (fun w31 _ _ => ?_)
 obtain ⟨x18, hx10, hr⟩ := bS hr
 refine TL.gh (.sl (.p p1 .e)) ?_
 refine TL.c rfl rfl rfl (v27zk g hx10) ?_
 rintro w32 _ rfl
 refine TL.nc rfl (TL.fa rfl ?_)
 refine TL.stfs rfl a1 e2 c5 (T.nil (T.m ?_))
 exact ⟨_, _, (fl9), (.trans (GP.unD p2 p1 p1 p1 p1) (.sl (.p p2 (.p p2 (.p p2 (.p p2 (.p p2 (.p p2 (.p p2 (.p p0 (.p p1 (.p p1 (d1))))))))))))), (setI xs2 x2.To ({ Up := x17.Up, Term := x17.Term, Vote := x17.Vote, Commit := x17.Commit, Role := x17.Role, Log := x18, Votes := x17.Votes, Next := x17.Next, Match := x17.Match } : GP)), lnE, rfl, rfl, hr⟩
 }
 {
 replace hr := iBN hr hc6
 refine T.k (T.m ?_)
 exact ⟨_, _, (fl9), (.refl _), xs2, lnE, rfl, rfl, hr⟩
 }
 }
 {
 rintro _ _ ⟨xs4, hl5, rfl, rfl, hr⟩
 unfold v14z at hr
 refine T.q (T.r (TL.mv rfl (TL.mv rfl (TL.nc rfl (TL.fa rfl ?_)))))
 obtain ⟨x19, hx11, hr⟩ := bS hr
 refine TL.gh (.sl (.p p7 .e)) ?_
 refine GP.foD hp1 hx11 (fun w33 w34 w35 w36 => ?_)
 refine TL.lk (m := 5) rfl a0 rfl rfl (by decide) ?_
 refine TL.len rfl a1 (TL.bin rfl rfl (T.nil (T.m ?_)))
 refine T.cD rfl (fun hc8 => ?_) (fun hc8 => ?_)
 {
 replace hr := iP hr hc8
 refine T.regionI (fun n1 => []) [0, 1, 2, 3, 4, 5, 6, 7, 8, 9, 10] [(false, true, false), (false, false, false), (false, false, false), (false, false, false), (false, false, false), (false, false, false), (false, false, false), (true, false, false), (false, false, false), (false, false, false), (true, false, true)] false rfl kr kr mP (fun n1 => ?_)
 refine TI.lt Nd.f rfl (.move (.inl rfl) rfl) ?_
 refine TI.op Nd.f ?_
 refine TL.mv rfl ?_
 refine T.nil ⟨rfl, fun n2 => ?_⟩
 refine TI.op Nd.f ?_
 refine TL.nc rfl ?_
 refine T.nil ⟨rfl, fun n3 => ?_⟩
 refine TI.op Nd.f ?_
 refine TL.fa rfl ?_
 refine T.nil ⟨rfl, fun n4 => ?_⟩
 refine TI.op Nd.f ?_
 refine TL.lk (m := 5) rfl a0 rfl rfl (by decide) ?_
 refine T.nil ⟨rfl, fun n5 => ?_⟩
 refine TI.op Nd.f ?_
 refine TL.ldN (l' := [iv x13.Term, iv x13.Index, w22]) rfl a7 rfl rfl ?_
 refine T.nil ⟨rfl, fun n6 => ?_⟩
 refine TI.op Nd.f ?_
 refine TL.gh (GR.mkV (s0 := x13.Term) (s1 := x13.Index) a11) ?_
 refine TL.lit1 rfl rfl p0 (fun w37 => ?_)
 refine T.nil ⟨rfl, fun n7 => ?_⟩
 refine TI.op Nd.f ?_
 obtain ⟨hc9, hr⟩ := cS hr
 refine TL.appR rfl p2 a0 hc9 (fun w38 => ?_)
 refine T.nil ⟨rfl, fun n8 => ?_⟩
 refine TI.op Nd.f ?_
 refine TL.nc rfl ?_
 refine T.nil ⟨rfl, fun n9 => ?_⟩
 refine TI.op Nd.f ?_
 refine TL.fa rfl ?_
 refine T.nil ⟨rfl, fun n10 => ?_⟩
 refine TI.op (.t .n) ?_
 refine TL.stfs rfl a0 e2 c5 ?_
 refine T.nil ⟨rfl, fun n11 => ?_⟩
 refine TI.nil Nd.f (T.bN (T.m ?_))
 exact ⟨_, _, (fl8), (.trans (GP.unD p2 p0 p1 p1 p1) (.sl (.p p2 (.p p2 (.p p3 (.p p3 (.p p3 (.p p0 (.p p3 (.p p3 (d3))))))))))), x13.Index, (setI xs4 x2.To ({ Up := x19.Up, Term := x19.Term, Vote := x19.Vote, Commit := x19.Commit, Role := x19.Role, Log := (x19.Log ++ ([({ Term := x13.Term, Index := x13.Index, Data := x13.Data } : GR)] : List GR)), Votes := x19.Votes, Next := x19.Next, Match := x19.Match } : GP)), lnE, rfl, rfl, hr⟩
 }
 {
 replace hr := iN hr hc8
 refine T.k (T.bN (T.m ?_))
 exact ⟨_, _, (fl8), (.trans (GP.u0D hx11 p0 p0 p0 p0 p0) (.sl (.p p1 (.p p1 (.p p2 (.p p2 (.p p2 (.p p0 (.p p2 (.p p2 (d2))))))))))), x13.Index, xs4, lnE, rfl, rfl, hr⟩
 }
 }
 }
 }
 {
 rintro _ _ ⟨x12, xs3, hl6, rfl, rfl, hr⟩
 unfold v12z at hr
 refine T.r ?_
 obtain ⟨hc10, hr⟩ := cS hr
 refine TL.ad rfl hc10 (TL.mv rfl (T.nil (T.m ?_)))
 exact ⟨_, _, (fl8), (.refl _), x12, (x11 + 1), xs3, lnE, rfl, rfl, hr⟩
 }
 }
 {
 replace hr := iN hr hc5
 refine T.exit ?_
 refine T.tE (T.tE (T.bH (T.m (T.q (T.rD [0, 1, 2, 3, 4, 5, 6, 7, 8, 9, 10, 11, 12] [false, false, false, false, false, false, false, false, false, false, false, false, true] rfl rfl kr kr mP (TL.mv rfl (TL.mv rfl (TL.nc rfl (TL.fa rfl ?_)))))))))
 obtain ⟨x20, hx12, hr⟩ := bS hr
 refine TL.gh (.sl (.p p5 .e)) ?_
 refine GP.foD hp1 hx12 (fun w39 w40 w41 w42 => ?_)
 refine TL.lk (m := 3) rfl a0 rfl rfl (by decide) ?_
 refine TL.fa rfl (TL.ld rfl a6 rfl (TL.mv rfl ?_))
 refine TL.of (fun f k => WL.min2 f rfl rfl rfl rfl rfl k) ?_
 refine TL.of (fun f k => WL.max2 f rfl rfl rfl rfl rfl k) ?_
 refine TL.nc rfl (TL.fa rfl ?_)
 refine TL.stf rfl rfl e0 c3 (T.nil (T.m (T.q (T.r (TL.mv rfl (TL.fa rfl (TL.ld rfl a6 rfl ?_)))))))
 obtain ⟨x21, hx13, hr⟩ := bS hr
 refine TL.gh (.trans (GP.unD p0 p0 p0 p0 p0) (.sl (.p p3 (.p p0 (.p p4 (.p p4 .e)))))) ?_
 refine TL.hv (v := w1) a1 (fun hv5 => ?_)
 refine TL.c rfl rfl rfl (vezk g hx13) ?_
 rintro _ _ ⟨w43, w44, rfl, rfl⟩
 refine TL.hv (v := w1) a1 (fun hv6 => ?_)
 have hl7 : x1.Peers.length = x21.Peers.length := Eq.trans lnE (Hv.eq hv5 hv6)
 refine T.nil (T.m (T.q (T.r (TL.mv rfl (TL.fa rfl ?_)))))
 refine TL.st rfl rfl e4 c7 (TL.fa rfl ?_)
 refine TL.st rfl rfl e4 c4 (T.nil (T.m (T.r (TL.mv rfl (TL.ldN (l' := [iv 4, iv x3.From, iv x3.To, iv x6.Term, iv x10, iv x3.B, iv x3.C, .bool true, w5]) rfl a4 rfl rfl ?_)))))
 obtain ⟨x22, hx14, hr⟩ := bS hr
 refine TL.gh (.sl (.p p0 (.p p0 (.p p0 (.p p0 (.p p3 .e)))))) ?_
 refine TL.hv (v := w1) a1 (fun hv7 => ?_)
 refine TL.c rfl rfl rfl (vyzk g hx14) ?_
 rintro _ _ ⟨w45, w46, rfl, rfl⟩
 refine TL.hv (v := w1) a1 (fun hv8 => ?_)
 have hl8 : x1.Peers.length = x22.Peers.length := Eq.trans lnE (Hv.eq hv7 hv8)
 refine T.nil ?_
 obtain rfl := Option.some.inj hr
 exact ⟨.inl rfl, _, _, Res.nil, (.sl (.p p0 (.p p0 (.p p0 (.p p0 (.p p3 (.p p0 (d2)))))))), w45, w46, rfl, rfl⟩
 }
 }
 }
 }
 }
 }
theorem v7zk {Δ : Prims} (g : Env Try.prog Δ) {Ar : List Item} {x1 : GC} {q1 : Nat} {w1 w2 w3 : Value} {x2 : GM} {w4 : Value} {res : (GC)} (hr : v7z x1 x2 = some res) :
    Sp Try.prog Δ 57 [pt q1 0, .agg [iv x2.Kind, iv x2.From, iv x2.To, iv x2.Term, iv x2.A, iv x2.B, iv x2.C, .bool x2.Ok, w4].toArray] (box q1 [w1, w2, w3, .bool x1.Conflict] :: ow rGPeer w1 x1.Peers :: ow (rC GM) w2 x1.Net :: ow (rC GR) w3 x1.Chosen :: fz w4 x2.Log :: Ar) (fun v A => ∃ (rw1 : Value) (rw2 : Value), v = .tuple #[] ∧ A = box q1 [w1, rw1, rw2, .bool res.Conflict] :: ow rGPeer w1 res.Peers :: ow (rC GM) rw1 res.Net :: ow (rC GR) rw2 res.Chosen :: fz w4 x2.Log :: Ar) := by
 refine Sp.bd Try.func57 rfl rfl ?_
 unfold v7z at hr
 refine T.q (T.r ?_)
 refine TL.bxo rfl rfl (.s rfl (.s rfl (.s rfl (.s rfl (.s rfl (.s rfl (.s rfl (.s rfl (.h a4 inferInstance .n))))))))) (fun q2 => ?_)
 refine T.nil (T.m (T.q (T.rD r8 f8 rfl rfl kr kr mP (TL.mv rfl (TL.nc rfl (TL.fa rfl (TL.ld rfl a1 rfl (TL.fa rfl (TL.ld rfl a0 rfl ?_)))))))))
 obtain ⟨x3, hx1, hr⟩ := bS hr
 refine TL.ixu rfl a2 hx1 (fun b1 el1 hp1 => ?_)
 refine TL.a rfl (T.nil (T.m (T.q (T.q (T.r (TL.mv rfl (TL.nc rfl (TL.fa rfl ?_))))))))
 refine TL.gh (.sl (.p p2 .e)) ?_
 refine GP.foD hp1 hx1 (fun w5 w6 w7 w8 => ?_)
 refine TL.lk (m := 0) rfl a0 rfl rfl (by decide) ?_
 refine TL.of (fun f k => WL.not f rfl rfl rfl rfl k) ?_
 refine T.nil (T.m ?_)
 refine T.cond rfl (fun hc1 => ?_) (fun hc1 => ?_)
 {
 replace hr := iBP hr hc1
 refine T.ret ?_
 refine T.thenRet ?_
 obtain rfl := Option.some.inj hr
 exact ⟨.inr rfl, _, _, Res.nil, (.trans (GP.u0D hx1 p0 p0 p0 p0 p0) (.sl (.p p2 (.p p0 (.p p1 (.p p1 (.p p1 (d1)))))))), w2, w3, rfl, rfl⟩
 }
 {
 replace hr := iBN hr hc1
 refine T.k (T.m (T.q (T.q (T.rD r7 f7 rfl rfl kr kr mP (TL.fa rfl (TL.ld rfl a5 rfl (TL.mv rfl (TL.nc rfl (TL.fa rfl ?_)))))))))
 refine TL.lk (m := 1) rfl a0 rfl rfl (by decide) ?_
 refine TL.bin rfl rfl (T.nil (T.m ?_))
 refine T.ct (fun fr A => ∃ (xs1 : (List GP)), x1.Peers.length = xs1.length ∧ fr = [(0, pt q1 0), (3, pt q2 0), (4, pt b1 el1)] ∧ A = box q2 [iv x2.Kind, iv x2.From, iv x2.To, iv x2.Term, iv x2.A, iv x2.B, iv x2.C, .bool x2.Ok, w4] :: box q1 [w1, w2, w3, .bool x1.Conflict] :: fz w4 x2.Log :: ow rGPeer w1 xs1 :: ow (rC GM) w2 x1.Net :: ow (rC GR) w3 x1.Chosen :: Ar ∧ v8z x2 x1 xs1 = some res) ?_ ?_
 {
 refine T.cD rfl (fun hc2 => ?_) (fun hc2 => ?_)
 {
 replace hr := iP hr hc2
 refine T.r (TL.mv rfl (TL.fa rfl (TL.ld rfl a5 rfl ?_)))
 refine TL.callIn (args := [pt b1 el1, iv x2.Term]) rfl rfl rfl Try.func85 rfl rfl ?_
 refine T.q (T.q (T.r (TL.mv rfl (TL.mv rfl (TL.nc rfl (TL.fa rfl ?_))))))
 refine TL.lk (m := 1) rfl a0 rfl rfl (by decide) ?_
 refine TL.bin rfl rfl (T.nil (T.m ?_))
 refine T.ct (fun fr A => ∃ (xs2 : (List GP)), x1.Peers.length = xs2.length ∧ fr = [(0, pt b1 el1)] ∧ A = box q2 [iv x2.Kind, iv x2.From, iv x2.To, iv x2.Term, iv x2.A, iv x2.B, iv x2.C, .bool x2.Ok, w4] :: box q1 [w1, w2, w3, .bool x1.Conflict] :: fz w4 x2.Log :: ow rGPeer w1 xs2 :: ow (rC GM) w2 x1.Net :: ow (rC GR) w3 x1.Chosen :: Ar ∧ vdz x2 x1 xs2 = some res) ?_ ?_
 {
 refine T.cD rfl (fun hc3 => ?_) (fun hc3 => ?_)
 {
 replace hr := iP hr hc3
 refine T.r (TL.mv rfl (TL.mv rfl (TL.mv rfl (TL.nc rfl (TL.fa rfl ?_)))))
 refine TL.stf rfl rfl e0 c1 (TL.nc rfl (TL.fa rfl ?_))
 refine TL.stf rfl rfl e0 c2 (T.nil (T.m ?_))
 exact ⟨_, _, (fl1), (.trans (GP.unD p0 p0 p0 p0 p0) (.sl (.p p1 (.p p1 (.p p3 (.p p0 (.p p0 (.p p0 .e)))))))), (setI x1.Peers x2.To ({ Up := x3.Up, Term := x2.Term, Vote := 0, Commit := x3.Commit, Role := x3.Role, Log := x3.Log, Votes := x3.Votes, Next := x3.Next, Match := x3.Match } : GP)), lnE, rfl, rfl, hr⟩
 }
 {
 replace hr := iN hr hc3
 refine T.k (T.m ?_)
 exact ⟨_, _, (fl1), (.trans (GP.u0D hx1 p0 p0 p0 p0 p0) (.sl (.p p1 (.p p1 (.p p3 (.p p0 (.p p0 (.p p0 .e)))))))), x1.Peers, lnE, rfl, rfl, hr⟩
 }
 }
 {
 rintro _ _ ⟨xs2, hl1, rfl, rfl, hr⟩
 unfold vdz at hr
 refine T.r (TL.mv rfl ?_)
 refine TL.callIn (args := [pt b1 el1]) rfl rfl rfl Try.func92 rfl rfl ?_
 refine T.r (TL.mv rfl (TL.mv rfl (TL.mv rfl (TL.mv rfl (TL.nc rfl (TL.fa rfl ?_))))))
 obtain ⟨x4, hx2, hr⟩ := bS hr
 refine TL.gh (.sl (.p p3 .e)) ?_
 refine GP.foD hp1 hx2 (fun w9 w10 w11 w12 => ?_)
 refine TL.stf rfl rfl e0 c4 (TL.nc rfl (TL.fa rfl ?_))
 refine TL.gh (.nilO (rC Bool)) ?_
 refine TL.stf rfl rfl e1 c6 (TL.nc rfl (TL.fa rfl ?_))
 refine TL.gh (.nilO (rC Int)) ?_
 refine TL.stf rfl rfl e2 c7 (TL.nc rfl (TL.fa rfl ?_))
 refine TL.gh (.nilO (rC Int)) ?_
 refine TL.stf rfl rfl e3 c8 (T.nil ?_)
 refine ⟨.inl rfl, _, _, Res.nil, .refl _, ?_⟩
 refine T.nil ?_
 refine ⟨.inl rfl, _, _, Res.nil, .refl _, ?_⟩
 refine T.nil (T.m ?_)
 exact ⟨_, _, (fl3), (.trans (GP.unD p3 p3 p2 p0 p0) (.sl (.p p4 (.p p4 (.p p4 (.p p0 (.p p3 (.p p3 (d3))))))))), (setI xs2 x2.To ({ Up := x4.Up, Term := x4.Term, Vote := x4.Vote, Commit := x4.Commit, Role := 0, Log := x4.Log, Votes := [], Next := [], Match := [] } : GP)), lnE, rfl, rfl, hr⟩
 }
 }
 {
 replace hr := iN hr hc2
 refine T.k (T.m ?_)
 exact ⟨_, _, (fl3), (.trans (GP.u0D hx1 p0 p0 p0 p0 p0) (.sl (.p p1 (.p p1 (.p p3 (.p p0 (.p p0 (.p p0 .e)))))))), x1.Peers, lnE, rfl, rfl, hr⟩
 }
 }
 {
 rintro _ _ ⟨xs1, hl2, rfl, rfl, hr⟩
 unfold v8z at hr
 refine T.q (T.r (TL.fa rfl (TL.ld rfl a0 rfl (TL.fa rfl (TL.ld rfl a0 rfl ?_)))))
 refine TL.bld (cells := [iv 0, iv x2.To, iv x2.From, iv 0, iv 0, iv 0, iv 0, .bool false, .slice none 0 0]) rfl Try.underlying85 info85 rfl rfl rfl (by simp only [List.mapM_cons, List.mapM_nil, info3, info3, info3, info3, info3, info3, info3, info4, info28]; rfl) rfl (.s rfl (.s rfl .n)) rfl ?_
 refine TL.al rfl (fun q3 => ?_)
 refine TL.sto (c' := [iv 0, iv x2.To, iv x2.From, iv 0, iv 0, iv 0, iv 0, .bool false, .slice none 0 0]) rfl rfl rfl (.s rfl (.s rfl (.s rfl (.s rfl (.s rfl (.s rfl (.s rfl (.s rfl (.s rfl .n))))))))) e0 rfl (bl rfl) (T.nil (T.m (T.q (T.r (TL.fa rfl (TL.ld rfl a1 rfl (T.nil (T.m (T.b ?_)))))))))
 refine T.q (T.r (TL.bin rfl rfl (TL.a rfl (T.nil (T.m ?_)))))
 refine T.cD rfl (fun hc4 => ?_) (fun hc4 => ?_)
 {
 replace hr := iP hr hc4
 refine T.q (T.r (TL.mv rfl ?_))
 obtain ⟨x5, hx3, hr⟩ := bS hr
 obtain ⟨x6, hx4, hr⟩ := bS hr
 refine TL.gh (.sl (.p p4 .e)) ?_
 refine GP.foD hp1 hx3 (fun w13 w14 w15 w16 => ?_)
 refine TL.callL g rfl rfl rfl (.f a0 rfl (.z (v := w13) a1 inferInstance .n)) (v1ezk g (Ar := []) hx4) (R2 := fun v A => v = .tuple #[iv x6.1, iv x6.2] ∧ A = []) (fun _ _ h => ⟨[], by obtain ⟨_, rfl⟩ := h; exact Sl.ent d2, .n, h.1, rfl⟩) ?_
 rintro _ _ ⟨rfl, rfl⟩
 simp only [List.cons_append, List.nil_append]
 refine TL.mv rfl ?_
 refine TL.of (fun f k => WL.extract f rfl rfl rfl rfl rfl k) ?_
 refine TL.of (fun f k => WL.extract f rfl rfl rfl rfl rfl k) ?_
 refine TL.a rfl (TL.a rfl (T.nil (T.m (T.q ?_))))
 refine T.regionI (fun n1 => [wF b1 el1 [.bool x5.Up, iv x5.Term, iv x5.Vote, iv x5.Commit, iv x5.Role, w13, w14, w15, w16]]) [0, 1, 2, 3, 4, 5, 6, 7] [(false, true, false), (false, true, false), (false, true, false), (false, true, false), (false, false, false), (true, false, false), (false, false, false), (true, false, true)] false rfl kr kr mP (fun n1 => ?_)
 refine TI.lt Nd.f rfl (.move (.inl rfl) rfl) ?_
 refine TI.lt Nd.f rfl (.nilCheck rfl rfl) ?_
 refine TI.lfa Nd.f rfl ?_
 refine TI.lld (m := 1) Nd.f rfl a0 rfl .z rfl rfl ?_
 refine TI.op Nd.f ?_
 refine TL.fa rfl ?_
 refine T.nil ⟨rfl, fun n2 => ?_⟩
 refine TI.op Nd.f ?_
 refine TL.st rfl rfl e5 c0 ?_
 refine T.nil ⟨rfl, fun n3 => ?_⟩
 refine TI.op Nd.f ?_
 refine TL.fa rfl ?_
 refine T.nil ⟨rfl, fun n4 => ?_⟩
 refine TI.op (.t (.f a0 rfl .n)) ?_
 refine TL.st rfl rfl e5 c3 ?_
 refine T.nil ⟨rfl, fun n5 => ?_⟩
 refine TI.nil Nd.f (T.m (T.q (T.q ?_)))
 refine T.ct (fun fr A => ∃ (x7 : Bool), fr = [(0, pt q1 0), (3, pt q2 0), (4, pt b1 el1), (5, pt q3 0), (92, .bool x7)] ∧ A = box q2 [iv x2.Kind, iv x2.From, iv x2.To, iv x2.Term, iv x2.A, iv x2.B, iv x2.C, .bool x2.Ok, w4] :: box q3 [iv 2, iv x2.To, iv x2.From, iv x5.Term, iv 0, iv 0, iv 0, .bool false, .slice none 0 0] :: box q1 [w1, w2, w3, .bool x1.Conflict] :: fz w4 x2.Log :: ow rGPeer w1 xs1 :: ow (rC GM) w2 x1.Net :: ow (rC GR) w3 x1.Chosen :: Ar ∧ v9z x2 x1 x5 xs1 x7 = some res) ?_ ?_
 {
 refine T.rD [0, 1, 2, 3, 4, 5, 6, 7, 8, 9, 10, 11, 12, 13, 14, 15, 16, 17, 18, 19, 20, 21, 22, 23, 24, 25, 26, 27, 28, 29, 30, 31, 32, 33, 34, 35, 36, 37, 38, 39, 40, 41] [false, false, false, false, false, false, false, false, false, false, false, false, false, false, false, false, false, false, false, false, false, false, false, false, false, false, false, false, false, false, false, false, false, false, false, false, false, false, false, false, false, false] rfl rfl kr kr mP (TL.fa rfl (TL.ld rfl a6 rfl (TL.mv rfl (TL.nc rfl (TL.fa rfl ?_)))))
 refine TL.lk (m := 1) rfl a0 rfl rfl (by decide) ?_
 refine TL.bin rfl rfl (TL.mv rfl ?_)
 refine TL.guardD rfl rfl rfl (fun hg1 => ?_) (fun hg1 => ?_)
 {
 replace hr := iP hr hg1
 refine TL.mv rfl (TL.nc rfl (TL.fa rfl ?_))
 refine TL.lk (m := 2) rfl a0 rfl rfl (by decide) ?_
 refine TL.bin rfl rfl (TL.mv rfl ?_)
 refine TL.guardD rfl rfl rfl (fun hg2 => ?_) (fun hg2 => ?_)
 {
 replace hr := iP hr hg2
 refine TL.sk rfl (TL.sk rfl (TL.sk rfl (TL.sk rfl (TL.sk rfl (TL.sk rfl (TL.sk rfl (TL.sk rfl ?_)))))))
 refine TL.of (fun f k => WL.pick f rfl rfl rfl rfl rfl k) ?_
 refine TL.of (fun f k => WL.pick f rfl rfl rfl rfl rfl k) ?_
 refine TL.mv rfl (TL.fa rfl (TL.ld rfl a6 rfl (TL.mv rfl (TL.bin rfl rfl (TL.mv rfl ?_)))))
 refine TL.guardD rfl rfl rfl (fun hg3 => ?_) (fun hg3 => ?_)
 {
 replace hr := iP hr hg3
 refine TL.sk rfl (TL.sk rfl (TL.sk rfl (TL.sk rfl (TL.sk rfl (TL.sk rfl (TL.sk rfl (TL.sk rfl (TL.sk rfl (TL.sk rfl ?_)))))))))
 refine TL.of (fun f k => WL.pick f rfl rfl rfl rfl rfl k) ?_
 refine TL.of (fun f k => WL.pick f rfl rfl rfl rfl rfl k) ?_
 refine T.nil (T.m ?_)
 exact ⟨_, _, (fl5), (.trans (GP.u0D hx3 p0 p0 p0 p0 p0) (.sl (.p p2 (.p p1 (.p p1 (.p p1 (.p p0 (.p p0 (.p p0 .e))))))))), true, rfl, rfl, hr⟩
 }
 {
 replace hr := iN hr hg3
 refine TL.fa rfl (TL.ld rfl a6 rfl (TL.mv rfl (TL.bin rfl rfl (TL.mv rfl ?_))))
 refine TL.guardD rfl rfl rfl (fun hg4 => ?_) (fun hg4 => ?_)
 {
 replace hr := iP hr hg4
 refine TL.fa rfl (TL.ld rfl a6 rfl (TL.mv rfl (TL.bin rfl rfl ?_)))
 refine TL.of (fun f k => WL.pick f rfl rfl rfl rfl rfl k) ?_
 refine TL.of (fun f k => WL.pick f rfl rfl rfl rfl rfl k) ?_
 refine TL.of (fun f k => WL.pick f rfl rfl rfl rfl rfl k) ?_
 refine T.nil (T.m ?_)
 exact ⟨_, _, (fl5), (.trans (GP.u0D hx3 p0 p0 p0 p0 p0) (.sl (.p p2 (.p p1 (.p p1 (.p p1 (.p p0 (.p p0 (.p p0 .e))))))))), (decide (x6.1 ≤ x2.A)), rfl, rfl, hr⟩
 }
 {
 replace hr := iN hr hg4
 refine TL.sk rfl (TL.sk rfl (TL.sk rfl (TL.sk rfl ?_)))
 refine TL.of (fun f k => WL.pick f rfl rfl rfl rfl rfl k) ?_
 refine TL.of (fun f k => WL.pick f rfl rfl rfl rfl rfl k) ?_
 refine TL.of (fun f k => WL.pick f rfl rfl rfl rfl rfl k) ?_
 refine T.nil (T.m ?_)
 exact ⟨_, _, (fl5), (.trans (GP.u0D hx3 p0 p0 p0 p0 p0) (.sl (.p p2 (.p p1 (.p p1 (.p p1 (.p p0 (.p p0 (.p p0 .e))))))))), false, rfl, rfl, hr⟩
 }
 }
 }
 {
 replace hr := iN hr hg2
 refine TL.mv rfl (TL.nc rfl (TL.fa rfl ?_))
 refine TL.lk (m := 2) rfl a0 rfl rfl (by decide) ?_
 refine TL.fa rfl (TL.ld rfl a6 rfl ?_)
 obtain ⟨hc5, hr⟩ := cS hr
 refine TL.ad rfl hc5 (TL.bin rfl rfl ?_)
 refine TL.of (fun f k => WL.pick f rfl rfl rfl rfl rfl k) ?_
 refine TL.of (fun f k => WL.pick f rfl rfl rfl rfl rfl k) ?_
 refine TL.mv rfl ?_
 refine TL.guardD rfl rfl rfl (fun hg5 => ?_) (fun hg5 => ?_)
 {
 replace hr := iP hr hg5
 refine TL.fa rfl (TL.ld rfl a6 rfl (TL.mv rfl (TL.bin rfl rfl (TL.mv rfl ?_))))
 refine TL.guardD rfl rfl rfl (fun hg6 => ?_) (fun hg6 => ?_)
 {
 replace hr := iP hr hg6
 refine TL.sk rfl (TL.sk rfl (TL.sk rfl (TL.sk rfl (TL.sk rfl (TL.sk rfl (TL.sk rfl (TL.sk rfl (TL.sk rfl (TL.sk rfl ?_)))))))))
 refine TL.of (fun f k => WL.pick f rfl rfl rfl rfl rfl k) ?_
 refine TL.of (fun f k => WL.pick f rfl rfl rfl rfl rfl k) ?_
 refine T.nil (T.m ?_)
 exact ⟨_, _, (fl5), (.trans (GP.u0D hx3 p0 p0 p0 p0 p0) (.sl (.p p2 (.p p1 (.p p1 (.p p1 (.p p0 (.p p0 (.p p0 .e))))))))), true, rfl, rfl, hr⟩
 }
 {
 replace hr := iN hr hg6
 refine TL.fa rfl (TL.ld rfl a6 rfl (TL.mv rfl (TL.bin rfl rfl (TL.mv rfl ?_))))
 refine TL.guardD rfl rfl rfl (fun hg7 => ?_) (fun hg7 => ?_)
 {
 replace hr := iP hr hg7
 refine TL.fa rfl (TL.ld rfl a6 rfl (TL.mv rfl (TL.bin rfl rfl ?_)))
 refine TL.of (fun f k => WL.pick f rfl rfl rfl rfl rfl k) ?_
 refine TL.of (fun f k => WL.pick f rfl rfl rfl rfl rfl k) ?_
 refine TL.of (fun f k => WL.pick f rfl rfl rfl rfl rfl k) ?_
 refine T.nil (T.m ?_)
 exact ⟨_, _, (fl5), (.trans (GP.u0D hx3 p0 p0 p0 p0 p0) (.sl (.p p2 (.p p1 (.p p1 (.p p1 (.p p0 (.p p0 (.p p0 .e))))))))), (decide (x6.1 ≤ x2.A)), rfl, rfl, hr⟩
 }
 {
 replace hr := iN hr hg7
 refine TL.sk rfl (TL.sk rfl (TL.sk rfl (TL.sk rfl ?_)))
 refine TL.of (fun f k => WL.pick f rfl rfl rfl rfl rfl k) ?_
 refine TL.of (fun f k => WL.pick f rfl rfl rfl rfl rfl k) ?_
 refine TL.of (fun f k => WL.pick f rfl rfl rfl rfl rfl k) ?_
 refine T.nil (T.m ?_)
 exact ⟨_, _, (fl5), (.trans (GP.u0D hx3 p0 p0 p0 p0 p0) (.sl (.p p2 (.p p1 (.p p1 (.p p1 (.p p0 (.p p0 (.p p0 .e))))))))), false, rfl, rfl, hr⟩
 }
 }
 }
 {
 replace hr := iN hr hg5
 refine TL.sk rfl (TL.sk rfl (TL.sk rfl (TL.sk rfl (TL.sk rfl (TL.sk rfl (TL.sk rfl (TL.sk rfl (TL.sk rfl (TL.sk rfl ?_)))))))))
 refine TL.sk rfl (TL.sk rfl (TL.sk rfl (TL.sk rfl (TL.sk rfl (TL.sk rfl ?_)))))
 refine TL.of (fun f k => WL.pick f rfl rfl rfl rfl rfl k) ?_
 refine T.nil (T.m ?_)
 exact ⟨_, _, (fl5), (.trans (GP.u0D hx3 p0 p0 p0 p0 p0) (.sl (.p p2 (.p p1 (.p p1 (.p p1 (.p p0 (.p p0 (.p p0 .e))))))))), false, rfl, rfl, hr⟩
 }
 }
 }
 {
 replace hr := iN hr hg1
 refine TL.sk rfl (TL.sk rfl (TL.sk rfl (TL.sk rfl (TL.sk rfl (TL.sk rfl (TL.sk rfl (TL.sk rfl (TL.sk rfl (TL.sk rfl ?_)))))))))
 refine TL.sk rfl (TL.sk rfl (TL.sk rfl (TL.sk rfl (TL.sk rfl ?_))))
 refine TL.of (fun f k => WL.pick f rfl rfl rfl rfl rfl k) ?_
 refine TL.mv rfl (TL.sk rfl (TL.sk rfl (TL.sk rfl (TL.sk rfl (TL.sk rfl (TL.sk rfl (TL.sk rfl (TL.sk rfl (TL.sk rfl ?_)))))))))
 refine TL.sk rfl (TL.sk rfl (TL.sk rfl (TL.sk rfl (TL.sk rfl (TL.sk rfl (TL.sk rfl ?_))))))
 refine TL.of (fun f k => WL.pick f rfl rfl rfl rfl rfl k) ?_
 refine T.nil (T.m ?_)
 exact ⟨_, _, (fl5), (.trans (GP.u0D hx3 p0 p0 p0 p0 p0) (.sl (.p p2 (.p p1 (.p p1 (.p p1 (.p p0 (.p p0 (.p p0 .e))))))))), false, rfl, rfl, hr⟩
 }
 }
 {
 rintro _ _ ⟨x7, rfl, rfl, hr⟩
 unfold v9z at hr
 refine T.ct (fun fr A => ∃ (x8 : Bool) (xs3 : (List GP)), x1.Peers.length = xs3.length ∧ fr = [(0, pt q1 0), (5, pt q3 0)] ∧ A = box q3 [iv 2, iv x2.To, iv x2.From, iv x5.Term, iv 0, iv 0, iv 0, .bool x8, .slice none 0 0] :: box q1 [w1, w2, w3, .bool x1.Conflict] :: ow rGPeer w1 xs3 :: ow (rC GM) w2 x1.Net :: ow (rC GR) w3 x1.Chosen :: fz w4 x2.Log :: Ar ∧ vaz x1 x2 x5 x8 xs3 = some res) ?_ ?_
 {
 refine T.cond rfl (fun hc6 => ?_) (fun hc6 => ?_)
 {
 replace hr := iBP hr hc6
 refine T.r (TL.mv rfl (TL.fa rfl (TL.ld rfl a0 rfl ?_)))
 obtain ⟨hc7, hr⟩ := cS hr
 refine TL.ad rfl hc7 (TL.nc rfl (TL.fa rfl ?_))
 refine TL.gh (.sl (.p p4 .e)) ?_
 refine GP.foD hp1 hx3 (fun w17 w18 w19 w20 => ?_)
 refine TL.stf rfl rfl e0 c2 (TL.fa rfl ?_)
 refine TL.st rfl rfl e6 c7 (T.nil (T.m ?_))
 exact ⟨_, _, (fl2), (.trans (GP.unD p0 p0 p0 p0 p0) (.sl (.p p2 (.p p2 (.p p0 (.p p2 (.p p2 (.p p1 (d1))))))))), true, (setI xs1 x2.To ({ Up := x5.Up, Term := x5.Term, Vote := (x2.From + 1), Commit := x5.Commit, Role := x5.Role, Log := x5.Log, Votes := x5.Votes, Next := x5.Next, Match := x5.Match } : GP)), lnE, rfl, rfl, hr⟩
 }
 {
 replace hr := iBN hr hc6
 refine T.k (T.m ?_)
 exact ⟨_, _, (fl2), (.sl (.p p1 (.p p1 (.p p2 (.p p2 (.p p2 (.p p1 (d1)))))))), false, xs1, lnE, rfl, rfl, hr⟩
 }
 }
 {
 rintro _ _ ⟨x8, xs3, hl3, rfl, rfl, hr⟩
 unfold vaz at hr
 refine T.r (TL.mv rfl (TL.ldN (l' := [iv 2, iv x2.To, iv x2.From, iv x5.Term, iv 0, iv 0, iv 0, .bool x8, .slice none 0 0]) rfl a0 rfl rfl ?_))
 obtain ⟨x9, hx5, hr⟩ := bS hr
 refine TL.gh (.trans (.nilZ GR) (.sl (.p p2 (.p p2 (.p p2 (.p p2 (.p p0 .e))))))) ?_
 refine TL.hv (v := w1) a1 (fun hv1 => ?_)
 refine TL.c rfl rfl rfl (vyzk g hx5) ?_
 rintro _ _ ⟨w21, w22, rfl, rfl⟩
 refine TL.hv (v := w1) a1 (fun hv2 => ?_)
 have hl4 : x1.Peers.length = x9.Peers.length := Eq.trans lnE (Hv.eq hv1 hv2)
 refine T.nil (T.bN ?_)
 obtain rfl := Option.some.inj hr
 exact ⟨.inl rfl, _, _, Res.nil, (.sl (.p p0 (.p p0 (.p p0 (.p p0 (.p p2 (d2))))))), w21, w22, rfl, rfl⟩
 }
 }
 }
 {
 replace hr := iN hr hc4
 refine T.q (T.r (TL.bin rfl rfl (TL.a rfl (T.nil (T.m ?_)))))
 refine T.cD rfl (fun hc8 => ?_) (fun hc8 => ?_)
 {
 replace hr := iP hr hc8
 refine T.q ?_
 refine T.ct (fun fr A => ∃ (x10 : Bool), fr = [(0, pt q1 0), (3, pt q2 0), (4, pt b1 el1), (122, .bool x10)] ∧ A = box q2 [iv x2.Kind, iv x2.From, iv x2.To, iv x2.Term, iv x2.A, iv x2.B, iv x2.C, .bool x2.Ok, w4] :: box q1 [w1, w2, w3, .bool x1.Conflict] :: fz w4 x2.Log :: ow rGPeer w1 xs1 :: ow (rC GM) w2 x1.Net :: ow (rC GR) w3 x1.Chosen :: Ar ∧ vbz xs1 x2 x1 x10 = some res) ?_ ?_
 {
 refine T.rD r18 f18 rfl rfl kr kr mP (TL.fa rfl (TL.ld rfl a1 rfl (TL.mv rfl (TL.nc rfl (TL.fa rfl ?_)))))
 obtain ⟨x11, hx6, hr⟩ := bS hr
 refine TL.gh (.sl (.p p4 .e)) ?_
 refine GP.foD hp1 hx6 (fun w23 w24 w25 w26 => ?_)
 refine TL.lk (m := 1) rfl a0 rfl rfl (by decide) ?_
 refine TL.bin rfl rfl (TL.mv rfl ?_)
 refine TL.guardD rfl rfl rfl (fun hg8 => ?_) (fun hg8 => ?_)
 {
 replace hr := iP hr hg8
 refine TL.mv rfl (TL.nc rfl (TL.fa rfl ?_))
 refine TL.lk (m := 4) rfl a0 rfl rfl (by decide) ?_
 refine TL.bin rfl rfl ?_
 refine TL.of (fun f k => WL.pick f rfl rfl rfl rfl rfl k) ?_
 refine TL.mv rfl ?_
 refine TL.guardD rfl rfl rfl (fun hg9 => ?_) (fun hg9 => ?_)
 {
 replace hr := iP hr hg9
 refine TL.fa rfl (TL.ld rfl a6 rfl ?_)
 refine TL.of (fun f k => WL.pick f rfl rfl rfl rfl rfl k) ?_
 refine T.nil (T.m ?_)
 exact ⟨_, _, (fl4), (.trans (GP.u0D hx6 p0 p0 p0 p0 p0) (.sl (.p p2 (.p p2 (.p p2 (.p p0 (.p p1 (.p p1 (d1))))))))), x2.Ok, rfl, rfl, hr⟩
 }
 {
 replace hr := iN hr hg9
 refine TL.sk rfl (TL.sk rfl ?_)
 refine TL.of (fun f k => WL.pick f rfl rfl rfl rfl rfl k) ?_
 refine T.nil (T.m ?_)
 exact ⟨_, _, (fl4), (.trans (GP.u0D hx6 p0 p0 p0 p0 p0) (.sl (.p p2 (.p p2 (.p p2 (.p p0 (.p p1 (.p p1 (d1))))))))), false, rfl, rfl, hr⟩
 }
 }
 {
 replace hr := iN hr hg8
 refine TL.sk rfl (TL.sk rfl (TL.sk rfl (TL.sk rfl (TL.sk rfl ?_))))
 refine TL.of (fun f k => WL.pick f rfl rfl rfl rfl rfl k) ?_
 refine TL.mv rfl (TL.sk rfl (TL.sk rfl ?_))
 refine TL.of (fun f k => WL.pick f rfl rfl rfl rfl rfl k) ?_
 refine T.nil (T.m ?_)
 exact ⟨_, _, (fl4), (.trans (GP.u0D hx6 p0 p0 p0 p0 p0) (.sl (.p p2 (.p p2 (.p p2 (.p p0 (.p p1 (.p p1 (d1))))))))), false, rfl, rfl, hr⟩
 }
 }
 {
 rintro _ _ ⟨x10, rfl, rfl, hr⟩
 unfold vbz at hr
 refine T.cond rfl (fun hc9 => ?_) (fun hc9 => ?_)
 {
 replace hr := iBP hr hc9
 refine T.q (T.rD [0, 1, 2, 3, 4, 5, 6, 7] [false, false, false, false, false, false, false, true] rfl rfl kr kr mP (TL.mv rfl (TL.nc rfl (TL.fa rfl ?_))))
 obtain ⟨x12, hx7, hr⟩ := bS hr
 refine TL.gh (.sl (.p p3 .e)) ?_
 refine GP.foD hp1 hx7 (fun w27 w28 w29 w30 => ?_)
 refine TL.lk (m := 6) rfl a0 rfl rfl (by decide) ?_
 refine TL.fa rfl (TL.ld rfl a5 rfl ?_)
 obtain ⟨x13, hx8, hr⟩ := bS hr
 refine TL.ixu rfl a2 hx8 (fun b2 e512 hp2 => ?_)
 refine TL.ste rfl rfl e2 hp2 hx8 (fun _ _ _ _ _ => rfl) ?_
 refine T.nil (T.m (T.r (TL.mv rfl (TL.fa rfl (TL.ld rfl a5 rfl ?_)))))
 obtain ⟨x14, hx9, hr⟩ := bS hr
 refine TL.gh (.trans (GP.unD p0 p0 p0 p0 p0) (.sl (.p p2 (.p p0 (.p p2 (.p p2 .e)))))) ?_
 refine TL.hv (v := w1) a1 (fun hv3 => ?_)
 refine TL.c rfl rfl rfl (vnzk g hx9) ?_
 rintro _ _ ⟨w31, w32, rfl, rfl⟩
 refine TL.hv (v := w1) a1 (fun hv4 => ?_)
 have hl5 : x1.Peers.length = x14.Peers.length := Eq.trans lnE (Hv.eq hv3 hv4)
 refine T.nil (T.bN ?_)
 obtain rfl := Option.some.inj hr
 exact ⟨.inl rfl, _, _, Res.nil, (.sl (.p p0 (.p p0 (.p p0 (.p p0 (.p p1 (d1))))))), w31, w32, rfl, rfl⟩
 }
 {
 replace hr := iBN hr hc9
 refine T.k (T.bN ?_)
 obtain rfl := Option.some.inj hr
 exact ⟨.inl rfl, _, _, Res.nil, (.sl (.p p1 (.p p2 (.p p2 (.p p2 (.p p1 (d1))))))), w2, w3, rfl, rfl⟩
 }
 }
 }
 {
 replace hr := iN hr hc8
 refine T.q (T.r (TL.bin rfl rfl (TL.a rfl (T.nil (T.m ?_)))))
 refine T.cD rfl (fun hc10 => ?_) (fun hc10 => ?_)
 {
 replace hr := iP hr hc10
 refine T.r (TL.mv rfl (TL.ldN (l' := [iv x2.Kind, iv x2.From, iv x2.To, iv x2.Term, iv x2.A, iv x2.B, iv x2.C, .bool x2.Ok, w4]) rfl a1 rfl rfl (TL.ldN (l' := [iv 0, iv x2.To, iv x2.From, iv 0, iv 0, iv 0, iv 0, .bool false, .slice none 0 0]) rfl a0 rfl rfl ?_)))
 obtain ⟨x15, hx10, hr⟩ := bS hr
 refine TL.gh (.trans (.nilZ GR) (.sl (.p p3 (.p p4 (.p p4 (.p p4 (.p p3 (.p p0 .e)))))))) ?_
 refine TL.hv (v := w1) a1 (fun hv5 => ?_)
 refine TL.c rfl rfl rfl (vzzk g hx10) ?_
 rintro _ _ ⟨w33, w34, rfl, rfl⟩
 refine TL.hv (v := w1) a1 (fun hv6 => ?_)
 have hl6 : x1.Peers.length = x15.Peers.length := Eq.trans lnE (Hv.eq hv5 hv6)
 refine T.nil (T.bN ?_)
 obtain rfl := Option.some.inj hr
 exact ⟨.inl rfl, _, _, Res.nil, (.sl (.p p0 (.p p0 (.p p0 (.p p0 (.p p0 (d3))))))), w33, w34, rfl, rfl⟩
 }
 {
 replace hr := iN hr hc10
 refine T.q (T.r (TL.bin rfl rfl (TL.a rfl (T.nil (T.m ?_)))))
 refine T.cD rfl (fun hc11 => ?_) (fun hc11 => ?_)
 {
 replace hr := iP hr hc11
 refine T.q (T.q ?_)
 refine T.ct (fun fr A => ∃ (x16 : Bool), fr = [(0, pt q1 0), (3, pt q2 0), (4, pt b1 el1), (155, .bool x16)] ∧ A = box q2 [iv x2.Kind, iv x2.From, iv x2.To, iv x2.Term, iv x2.A, iv x2.B, iv x2.C, .bool x2.Ok, w4] :: box q1 [w1, w2, w3, .bool x1.Conflict] :: fz w4 x2.Log :: ow rGPeer w1 xs1 :: ow (rC GM) w2 x1.Net :: ow (rC GR) w3 x1.Chosen :: Ar ∧ vcz xs1 x1 x2 x16 = some res) ?_ ?_
 {
 refine T.rD r14 f14 rfl rfl kr kr mP (TL.fa rfl (TL.ld rfl a1 rfl (TL.mv rfl (TL.nc rfl (TL.fa rfl ?_)))))
 obtain ⟨x17, hx11, hr⟩ := bS hr
 refine TL.gh (.sl (.p p4 .e)) ?_
 refine GP.foD hp1 hx11 (fun w35 w36 w37 w38 => ?_)
 refine TL.lk (m := 1) rfl a0 rfl rfl (by decide) ?_
 refine TL.bin rfl rfl (TL.mv rfl ?_)
 refine TL.guardN rfl rfl rfl (fun hg10 => ?_) (fun hg10 => ?_)
 {
 replace hr := iN hr hg10
 refine TL.sk rfl (TL.sk rfl (TL.sk rfl (TL.sk rfl (TL.sk rfl ?_))))
 refine TL.of (fun f k => WL.pick f rfl rfl rfl rfl rfl k) ?_
 refine T.nil (T.m ?_)
 exact ⟨_, _, (fl4), (.trans (GP.u0D hx11 p0 p0 p0 p0 p0) (.sl (.p p2 (.p p2 (.p p2 (.p p0 (.p p1 (.p p1 (d1))))))))), true, rfl, rfl, hr⟩
 }
 {
 replace hr := iP hr hg10
 refine TL.mv rfl (TL.nc rfl (TL.fa rfl ?_))
 refine TL.lk (m := 4) rfl a0 rfl rfl (by decide) ?_
 refine TL.bin rfl rfl ?_
 refine TL.of (fun f k => WL.pick f rfl rfl rfl rfl rfl k) ?_
 refine T.nil (T.m ?_)
 exact ⟨_, _, (fl4), (.trans (GP.u0D hx11 p0 p0 p0 p0 p0) (.sl (.p p2 (.p p2 (.p p2 (.p p0 (.p p1 (.p p1 (d1))))))))), (!decide (x17.Role = 2)), rfl, rfl, hr⟩
 }
 }
 {
 rintro _ _ ⟨x16, rfl, rfl, hr⟩
 unfold vcz at hr
 refine T.cond rfl (fun hc12 => ?_) (fun hc12 => ?_)
 {
 replace hr := iBP hr hc12
 refine T.ret ?_
 refine T.thenRet ?_
 refine T.blkRet ?_
 obtain rfl := Option.some.inj hr
 exact ⟨.inr rfl, _, _, Res.nil, (.sl (.p p1 (.p p2 (.p p2 (.p p2 (.p p1 (d1))))))), w2, w3, rfl, rfl⟩
 }
 {
 replace hr := iBN hr hc12
 refine T.k (T.m (T.q (T.r (TL.fa rfl (TL.ld rfl a0 rfl (T.nil (T.m ?_)))))))
 refine T.cond rfl (fun hc13 => ?_) (fun hc13 => ?_)
 {
 replace hr := iBP hr hc13
 refine T.q ?_
 refine T.regionI (fun n6 => [wB q2 [iv x2.Kind, iv x2.From, iv x2.To, iv x2.Term, iv x2.A, iv x2.B, iv x2.C, .bool x2.Ok, w4]]) [0, 1, 2, 3, 4, 5, 6, 7, 8, 9, 10, 11, 12, 13, 14, 15, 16, 17, 18, 19, 20, 21, 22, 23, 24, 25, 26, 27, 28, 29, 30, 31, 32, 33, 34, 35, 36, 37, 38] [(false, false, false), (false, false, false), (false, false, false), (false, false, false), (false, false, false), (false, false, false), (false, false, false), (false, false, false), (false, false, false), (false, false, false), (false, true, false), (false, true, false), (false, false, false), (false, false, false), (false, false, false), (false, false, false), (false, false, false), (false, false, false), (false, false, false), (false, false, false), (false, false, false), (false, false, false), (false, false, false), (false, false, false), (false, false, false), (false, false, false), (false, false, false), (false, false, false), (false, false, false), (false, false, false), (false, false, false), (false, true, false), (false, true, false), (false, true, false), (false, true, false), (false, false, false), (true, false, false), (false, false, false), (true, false, true)] false rfl kr kr mP (fun n6 => ?_)
 refine TI.op Nd.f ?_
 refine TL.mv rfl ?_
 refine T.nil ⟨rfl, fun n7 => ?_⟩
 refine TI.op Nd.f ?_
 refine TL.nc rfl ?_
 refine T.nil ⟨rfl, fun n8 => ?_⟩
 refine TI.op Nd.f ?_
 refine TL.fa rfl ?_
 refine T.nil ⟨rfl, fun n9 => ?_⟩
 refine TI.op Nd.f ?_
 obtain ⟨x18, hx12, hr⟩ := bS hr
 refine TL.gh (.sl (.p p3 .e)) ?_
 refine GP.foD hp1 hx12 (fun w39 w40 w41 w42 => ?_)
 refine TL.lk (m := 8) rfl a0 rfl rfl (by decide) ?_
 refine T.nil ⟨rfl, fun n10 => ?_⟩
 refine TI.op Nd.f ?_
 refine TL.fa rfl ?_
 refine T.nil ⟨rfl, fun n11 => ?_⟩
 refine TI.op Nd.f ?_
 refine TL.ld rfl a5 rfl ?_
 refine T.nil ⟨rfl, fun n12 => ?_⟩
 refine TI.op Nd.f ?_
 refine TL.mv rfl ?_
 refine T.nil ⟨rfl, fun n13 => ?_⟩
 refine TI.op Nd.f ?_
 refine TL.nc rfl ?_
 refine T.nil ⟨rfl, fun n14 => ?_⟩
 refine TI.op Nd.f ?_
 refine TL.fa rfl ?_
 refine T.nil ⟨rfl, fun n15 => ?_⟩
 refine TI.op Nd.f ?_
 refine TL.lk (m := 7) rfl a0 rfl rfl (by decide) ?_
 refine T.nil ⟨rfl, fun n16 => ?_⟩
 refine TI.lfa Nd.f rfl ?_
 refine TI.llb Nd.f rfl a5 .z rfl ?_
 refine TI.op Nd.f ?_
 refine TL.mv rfl ?_
 refine T.nil ⟨rfl, fun n17 => ?_⟩
 refine TI.op Nd.f ?_
 refine TL.nc rfl ?_
 refine T.nil ⟨rfl, fun n18 => ?_⟩
 refine TI.op Nd.f ?_
 refine TL.fa rfl ?_
 refine T.nil ⟨rfl, fun n19 => ?_⟩
 refine TI.op Nd.f ?_
 refine TL.lk (m := 8) rfl a0 rfl rfl (by decide) ?_
 refine T.nil ⟨rfl, fun n20 => ?_⟩
 refine TI.op Nd.f ?_
 refine TL.fa rfl ?_
 refine T.nil ⟨rfl, fun n21 => ?_⟩
 refine TI.op Nd.f ?_
 refine TL.ld rfl a5 rfl ?_
 refine T.nil ⟨rfl, fun n22 => ?_⟩
 refine TI.op Nd.f ?_
 obtain ⟨x19, hx13, hr⟩ := bS hr
 refine TL.ixu rfl a4 hx13 (fun b3 e739 hp3 => ?_)
 refine T.nil ⟨rfl, fun n23 => ?_⟩
 refine TI.op Nd.f ?_
 refine TL.ldek (m := 0) rfl a4 hp3 hx13 Rp.sc rfl ?_
 refine T.nil ⟨rfl, fun n24 => ?_⟩
 refine TI.op Nd.f ?_
 refine TL.fa rfl ?_
 refine T.nil ⟨rfl, fun n25 => ?_⟩
 refine TI.op Nd.f ?_
 refine TL.ld rfl a5 rfl ?_
 refine T.nil ⟨rfl, fun n26 => ?_⟩
 refine TI.op Nd.f ?_
 refine TL.of (fun f k => WL.max2 f rfl rfl rfl rfl rfl k) ?_
 refine T.nil ⟨rfl, fun n27 => ?_⟩
 refine TI.op Nd.f ?_
 refine TL.mv rfl ?_
 refine T.nil ⟨rfl, fun n28 => ?_⟩
 refine TI.op Nd.f ?_
 refine TL.nc rfl ?_
 refine T.nil ⟨rfl, fun n29 => ?_⟩
 refine TI.op Nd.f ?_
 refine TL.fa rfl ?_
 refine T.nil ⟨rfl, fun n30 => ?_⟩
 refine TI.op Nd.f ?_
 refine TL.lk (m := 7) rfl a0 rfl rfl (by decide) ?_
 refine T.nil ⟨rfl, fun n31 => ?_⟩
 refine TI.op Nd.f ?_
 refine TL.fa rfl ?_
 refine T.nil ⟨rfl, fun n32 => ?_⟩
 refine TI.op Nd.f ?_
 refine TL.ld rfl a5 rfl ?_
 refine T.nil ⟨rfl, fun n33 => ?_⟩
 refine TI.op Nd.f ?_
 obtain ⟨x20, hx14, hr⟩ := bS hr
 refine TL.ixu rfl a3 hx14 (fun b4 e763 hp4 => ?_)
 refine T.nil ⟨rfl, fun n34 => ?_⟩
 refine TI.op Nd.f ?_
 refine TL.ldek (m := 0) rfl a3 hp4 hx14 Rp.sc rfl ?_
 refine T.nil ⟨rfl, fun n35 => ?_⟩
 refine TI.lfa Nd.f rfl ?_
 refine TI.llb Nd.f rfl a5 .z rfl ?_
 obtain ⟨hc14, hr⟩ := cS hr
 refine TI.lt Nd.f rfl (Step.addI rfl rfl rfl hc14.1 hc14.2) ?_
 refine TI.lt Nd.f rfl (Step.max2' rfl rfl rfl) ?_
 refine TI.op Nd.f ?_
 obtain ⟨x21, hx15, hr⟩ := bS hr
 refine TL.ixu rfl a4 hx15 (fun b5 e779 hp5 => ?_)
 refine T.nil ⟨rfl, fun n36 => ?_⟩
 refine TI.op Nd.f ?_
 refine TL.ste rfl rfl e4 hp5 hx15 (fun _ _ _ _ _ => rfl) ?_
 refine T.nil ⟨rfl, fun n37 => ?_⟩
 refine TI.op Nd.f ?_
 obtain ⟨x22, hx16, hr⟩ := bS hr
 refine TL.ixu rfl a3 hx16 (fun b6 e806 hp6 => ?_)
 refine T.nil ⟨rfl, fun n38 => ?_⟩
 refine TI.op (.t (.b a5 .n)) ?_
 refine TL.ste rfl rfl e3 hp6 hx16 (fun _ _ _ _ _ => rfl) ?_
 refine T.nil ⟨rfl, fun n39 => ?_⟩
 refine TI.nil Nd.f (T.m (T.r (TL.mv rfl (TL.fa rfl (TL.ld rfl a5 rfl ?_)))))
 obtain ⟨x23, hx17, hr⟩ := bS hr
 refine TL.gh (.trans (GP.unD p0 p0 p0 p0 p0) (.sl (.p p2 (.p p0 (.p p2 (.p p2 .e)))))) ?_
 refine TL.hv (v := w1) a1 (fun hv7 => ?_)
 refine TL.c rfl rfl rfl (vhzk g hx17) ?_
 rintro _ _ ⟨w43, w44, rfl, rfl⟩
 refine TL.hv (v := w1) a1 (fun hv8 => ?_)
 have hl7 : x1.Peers.length = x23.Peers.length := Eq.trans lnE (Hv.eq hv7 hv8)
 refine T.nil (T.bN ?_)
 obtain rfl := Option.some.inj hr
 exact ⟨.inl rfl, _, _, Res.nil, (.sl (.p p0 (.p p0 (.p p0 (.p p0 (.p p1 (d1))))))), w43, w44, rfl, rfl⟩
 }
 {
 replace hr := iBN hr hc13
 refine T.q (T.rD r12 f12 rfl rfl kr kr mP (TL.fa rfl (TL.ld rfl a0 rfl ?_)))
 obtain ⟨hc15, hr⟩ := cS hr
 refine TL.ad rfl hc15 (TL.mv rfl (TL.nc rfl (TL.fa rfl ?_)))
 obtain ⟨x24, hx18, hr⟩ := bS hr
 refine TL.gh (.sl (.p p3 .e)) ?_
 refine GP.foD hp1 hx18 (fun w45 w46 w47 w48 => ?_)
 refine TL.lk (m := 7) rfl a0 rfl rfl (by decide) ?_
 refine TL.fa rfl (TL.ld rfl a5 rfl ?_)
 obtain ⟨x25, hx19, hr⟩ := bS hr
 refine TL.ixu rfl a3 hx19 (fun b7 e903 hp7 => ?_)
 refine TL.ldek (m := 0) rfl a3 hp7 hx19 Rp.sc rfl (TL.bin rfl rfl (T.nil (T.m ?_)))
 refine T.cD rfl (fun hc16 => ?_) (fun hc16 => ?_)
 {
 replace hr := iP hr hc16
 refine T.q (T.rD [0, 1, 2, 3, 4, 5, 6, 7, 8, 9, 10, 11, 12, 13, 14, 15, 16, 17, 18, 19, 20] [false, false, false, false, false, false, false, false, false, false, false, false, false, false, false, false, false, false, false, false, true] rfl rfl kr kr mP (TL.mv rfl (TL.nc rfl (TL.fa rfl ?_))))
 refine TL.lk (m := 7) rfl a0 rfl rfl (by decide) ?_
 refine TL.fa rfl (TL.ld rfl a5 rfl (TL.mv rfl (TL.nc rfl (TL.fa rfl ?_))))
 refine TL.lk (m := 8) rfl a0 rfl rfl (by decide) ?_
 refine TL.fa rfl (TL.ld rfl a5 rfl ?_)
 obtain ⟨x26, hx20, hr⟩ := bS hr
 refine TL.ixu rfl a4 hx20 (fun b8 e918 hp8 => ?_)
 refine TL.ldek (m := 0) rfl a4 hp8 hx20 Rp.sc rfl ?_
 obtain ⟨hc17, hr⟩ := cS hr
 refine TL.ad rfl hc17 (TL.fa rfl (TL.ld rfl a5 rfl ?_))
 obtain ⟨hc18, hr⟩ := cS hr
 refine TL.ad rfl hc18 ?_
 refine TL.of (fun f k => WL.max2 f rfl rfl rfl rfl rfl k) ?_
 obtain ⟨x27, hx21, hr⟩ := bS hr
 refine TL.ixu rfl a3 hx21 (fun b9 e933 hp9 => ?_)
 refine TL.ste rfl rfl e3 hp9 hx21 (fun _ _ _ _ _ => rfl) ?_
 refine T.nil (T.m (T.r (TL.mv rfl (TL.fa rfl (TL.ld rfl a5 rfl (TL.fa rfl (TL.ld rfl a5 rfl ?_)))))))
 obtain ⟨x28, hx22, hr⟩ := bS hr
 refine TL.gh (.trans (GP.unD p0 p0 p0 p0 p0) (.sl (.p p2 (.p p0 (.p p2 (.p p2 .e)))))) ?_
 refine TL.hv (v := w1) a1 (fun hv9 => ?_)
 refine TL.c rfl rfl rfl (vxzk g hx22) ?_
 rintro _ _ ⟨w49, w50, rfl, rfl⟩
 refine TL.hv (v := w1) a1 (fun hv10 => ?_)
 have hl8 : x1.Peers.length = x28.Peers.length := Eq.trans lnE (Hv.eq hv9 hv10)
 refine T.nil (T.bN ?_)
 obtain rfl := Option.some.inj hr
 exact ⟨.inl rfl, _, _, Res.nil, (.sl (.p p0 (.p p0 (.p p0 (.p p0 (.p p1 (d1))))))), w49, w50, rfl, rfl⟩
 }
 {
 replace hr := iN hr hc16
 refine T.k (T.bN ?_)
 obtain rfl := Option.some.inj hr
 exact ⟨.inl rfl, _, _, Res.nil, (.trans (GP.u0D hx18 p0 p0 p0 p0 p0) (.sl (.p p2 (.p p0 (.p p2 (.p p2 (.p p1 (d1)))))))), w2, w3, rfl, rfl⟩
 }
 }
 }
 }
 }
 {
 replace hr := iN hr hc11
 refine T.k (T.bN ?_)
 obtain rfl := Option.some.inj hr
 exact ⟨.inl rfl, _, _, Res.nil, (.sl (.p p2 (.p p3 (.p p3 (.p p3 (.p p2 (d2))))))), w2, w3, rfl, rfl⟩
 }
 }
 }
 }
 }
 }
theorem v16zk {Δ : Prims} (g : Env Try.prog Δ) {Ar : List Item} {x1 : GC} {q1 : Nat} {w1 w2 w3 : Value} {x2 : Int} {res : (GC)} (hr : v16z x1 x2 = some res) :
    Sp Try.prog Δ 58 [pt q1 0, iv x2] (box q1 [w1, w2, w3, .bool x1.Conflict] :: ow rGPeer w1 x1.Peers :: ow (rC GM) w2 x1.Net :: ow (rC GR) w3 x1.Chosen :: Ar) (fun v A => ∃ (rw1 : Value) (rw2 : Value), v = .tuple #[] ∧ A = box q1 [w1, rw1, rw2, .bool res.Conflict] :: ow rGPeer w1 res.Peers :: ow (rC GM) rw1 res.Net :: ow (rC GR) rw2 res.Chosen :: Ar) := by
 refine Sp.bd Try.func58 rfl rfl ?_
 unfold v16z at hr
 refine T.q (T.r ?_)
 refine TL.bx rfl rfl (one1 rfl) (fun q2 => ?_)
 refine TL.bx rfl rfl (one1 rfl) (fun q3 => ?_)
 refine T.nil (T.m (T.q (T.rD [0, 1, 2, 3, 4, 5, 6, 7] [false, false, false, false, false, false, false, true] rfl rfl kr kr mP (TL.ld rfl a1 rfl (TL.nc rfl (TL.fa rfl (TL.ld rfl a2 rfl (TL.ld rfl a0 rfl ?_))))))))
 obtain ⟨x3, hx1, hr⟩ := bS hr
 refine TL.ixu rfl a3 hx1 (fun b1 el1 hp1 => ?_)
 refine TL.al rfl (fun q4 => ?_)
 refine TL.st rfl rfl e0 c0 (T.nil (T.m (T.b (T.q (T.r (TL.ld rfl a0 rfl (TL.nc rfl (TL.fa rfl ?_))))))))
 refine TL.gh (.sl (.p p4 .e)) ?_
 refine GP.foD hp1 hx1 (fun w4 w5 w6 w7 => ?_)
 refine TL.lk (m := 4) rfl a0 rfl rfl (by decide) ?_
 refine TL.bin rfl rfl (TL.a rfl (T.nil (T.m ?_)))
 refine T.cD rfl (fun hc1 => ?_) (fun hc1 => ?_)
 {
 replace hr := iP hr hc1
 refine T.r (TL.ld rfl a7 rfl (TL.ld rfl a6 rfl ?_))
 refine TL.of (fun f k => WL.mkFunc f rfl rfl rfl rfl rfl k) ?_
 refine TL.callIn (args := [pt q1 0, iv x2, .func (.func 91) [].toArray [pt q2 0, pt q3 0].toArray]) rfl rfl rfl Try.func90 rfl rfl ?_
 refine T.q (T.r (TL.mv rfl (TL.nc rfl (TL.fa rfl (TL.ld rfl a8 rfl (TL.len rfl a0 (TL.mv rfl (T.nil (T.m ?_)))))))))
 refine T.b ?_
 refine T.lp (fun k0 fr A => ∃ (x4 : Int) (xs1 : (List GP)) (xs2 : (List GM)) (xs3 : (List GR)) (x5 : Bool) (w8 : Value) (w9 : Value), x1.Peers.length = xs1.length ∧ fr = [(1, iv x2), (2, .func (.func 91) [].toArray [pt q2 0, pt q3 0].toArray), (11, iv (x1.Peers.length : Int)), (12, iv x4)] ∧ A = box q3 [iv x2] :: box q2 [pt q1 0] :: box q1 [w1, w8, w9, .bool x5] :: ow rGPeer w1 xs1 :: ow (rC GM) w8 xs2 :: ow (rC GR) w9 xs3 :: Ar ∧ v19z x1 x2 k0 x4 xs1 xs2 xs3 x5 = some res) BIG ?_ ?_ ?_
 {
 exact ⟨_, _, (fl4), (.trans (GP.u0D hx1 p0 p0 p0 p0 p0) (.sl (.p p2 (.p p2 (.p p2 (.p p0 (.p p1 (.p p1 (d1))))))))), 0, x1.Peers, x1.Net, x1.Chosen, x1.Conflict, w2, w3, lnE, rfl, rfl, hr⟩
 }
 {
 rintro fr A ⟨x4, xs1, xs2, xs3, x5, w8, w9, hl1, -, -, hr⟩
 rw [v19z] at hr
 cases hr
 }
 {
 rintro k0 _ _ ⟨x4, xs1, xs2, xs3, x5, w8, w9, hl1, rfl, rfl, hr⟩
 rw [v19z] at hr
 refine T.q (T.r (TL.bin rfl rfl (T.nil (T.m (T.q ?_)))))
 refine T.cD rfl (fun hc2 => ?_) (fun hc2 => ?_)
 {
 replace hr := iP hr hc2
 refine T.k (T.m (T.q ?_))
 refine T.ct (fun fr A => ∃ (xs4 : (List GP)) (xs5 : (List GM)) (xs6 : (List GR)) (x6 : Bool) (w10 : Value) (w11 : Value), x1.Peers.length = xs4.length ∧ fr = [(1, iv x2), (2, .func (.func 91) [].toArray [pt q2 0, pt q3 0].toArray), (11, iv (x1.Peers.length : Int)), (12, iv x4)] ∧ A = box q3 [iv x2] :: box q2 [pt q1 0] :: box q1 [w1, w10, w11, .bool x6] :: ow rGPeer w1 xs4 :: ow (rC GM) w10 xs5 :: ow (rC GR) w11 xs6 :: Ar ∧ v17z x4 (v19z x1 x2 k0) xs4 xs5 xs6 x6 = some res) ?_ ?_
 {
 refine T.b (T.q (T.r (TL.mv rfl (TL.a rfl (T.nil (T.m (T.q (T.r (TL.mv rfl ?_)))))))))
 refine TL.mv rfl (TL.bin rfl rfl (T.nil (T.m ?_)))
 refine T.condN rfl (fun hc3 => ?_) (fun hc3 => ?_)
 {
 replace hr := iN hr hc3
 refine T.r (TL.mv rfl (TL.mv rfl ?_))
 refine TL.callIn (args := [iv x4, pt q2 0, pt q3 0]) rfl rfl rfl Try.func91 rfl rfl ?_
 refine T.r (TL.ld rfl a1 rfl (TL.ld rfl a0 rfl (TL.mv rfl ?_)))
 obtain ⟨x7, hx2, hr⟩ := bS hr
 refine TL.gh (.sl (.p p2 (.p p2 (.p p2 (.p p2 .e))))) ?_
 refine TL.hv (v := w1) a1 (fun hv1 => ?_)
 refine TL.c rfl rfl rfl (vxzk g hx2) ?_
 rintro _ _ ⟨w12, w13, rfl, rfl⟩
 refine TL.hv (v := w1) a1 (fun hv2 => ?_)
 have hl2 : x1.Peers.length = x7.Peers.length := Eq.trans lnE (Hv.eq hv1 hv2)
 refine T.nil ?_
 refine ⟨.inl rfl, _, _, Res.nil, .refl _, ?_⟩
 refine T.nil (T.bN (T.m ?_))
 exact ⟨_, _, (fl4), (.sl (.p p4 (.p p4 (.p p0 (.p p0 (.p p0 (.p p0 .e))))))), x7.Peers, x7.Net, x7.Chosen, x7.Conflict, w12, w13, lnE, rfl, rfl, hr⟩
 }
 {
 replace hr := iP hr hc3
 refine T.k (T.bN (T.m ?_))
 exact ⟨_, _, (fl4), (.refl _), xs1, xs2, xs3, x5, w8, w9, lnE, rfl, rfl, hr⟩
 }
 }
 {
 rintro _ _ ⟨xs4, xs5, xs6, x6, w10, w11, hl3, rfl, rfl, hr⟩
 unfold v17z at hr
 refine T.r ?_
 obtain ⟨hc4, hr⟩ := cS hr
 refine TL.ad rfl hc4 (TL.mv rfl (T.nil (T.m ?_)))
 exact ⟨_, _, (fl4), (.refl _), (x4 + 1), xs4, xs5, xs6, x6, w10, w11, lnE, rfl, rfl, hr⟩
 }
 }
 {
 replace hr := iN hr hc2
 refine T.exit ?_
 refine T.tE (T.tE (T.bH ?_))
 refine ⟨.inl rfl, _, _, Res.nil, .refl _, ?_⟩
 refine T.nil (T.bN ?_)
 obtain rfl := Option.some.inj hr
 exact ⟨.inl rfl, _, _, Res.nil, (.sl (.p p2 (.p p2 (.p p2 (.p p2 (d2)))))), w8, w9, rfl, rfl⟩
 }
 }
 }
 {
 replace hr := iN hr hc1
 refine T.q (T.r (TL.ld rfl a5 rfl (TL.nc rfl (TL.fa rfl ?_))))
 refine TL.lk (m := 1) rfl a0 rfl rfl (by decide) ?_
 refine TL.bin rfl rfl (TL.a rfl (T.nil (T.m ?_)))
 refine T.cD rfl (fun hc5 => ?_) (fun hc5 => ?_)
 {
 replace hr := iP hr hc5
 refine T.q (T.r (TL.ld rfl a5 rfl ?_))
 refine TL.callIn (args := [pt b1 el1]) rfl rfl rfl Try.func92 rfl rfl ?_
 refine T.r (TL.mv rfl (TL.mv rfl (TL.mv rfl (TL.mv rfl (TL.nc rfl (TL.fa rfl ?_))))))
 refine TL.stf rfl rfl e0 c4 (TL.nc rfl (TL.fa rfl ?_))
 refine TL.gh (.nilO (rC Bool)) ?_
 refine TL.stf rfl rfl e1 c6 (TL.nc rfl (TL.fa rfl ?_))
 refine TL.gh (.nilO (rC Int)) ?_
 refine TL.stf rfl rfl e2 c7 (TL.nc rfl (TL.fa rfl ?_))
 refine TL.gh (.nilO (rC Int)) ?_
 refine TL.stf rfl rfl e3 c8 (T.nil ?_)
 refine ⟨.inl rfl, _, _, Res.nil, .refl _, ?_⟩
 refine T.nil (T.m (T.q (T.r (TL.ld rfl a8 rfl (TL.nc rfl (TL.fa rfl ?_))))))
 refine TL.lk (m := 1) rfl a3 rfl rfl (by decide) ?_
 obtain ⟨hc6, hr⟩ := cS hr
 refine TL.ad rfl hc6 (TL.nc rfl (TL.fa rfl ?_))
 refine TL.stf rfl rfl e3 c1 (T.nil (T.m (T.q ?_)))
 refine T.regionI (fun n1 => [wB q4 [pt b1 el1], wR n1 1 (List.replicate (x1.Peers.length : Int).toNat [.bool false]).flatten]) [5, 6, 7, 8, 9, 10, 0, 1, 2, 3, 4, 11, 12, 13, 14, 15, 16, 17, 18, 19] [(false, false, false), (false, false, false), (false, false, false), (false, false, false), (false, true, false), (false, true, false), (false, false, false), (false, true, false), (false, true, false), (false, false, false), (false, false, false), (false, false, false), (false, false, false), (true, false, false), (false, false, false), (false, false, false), (true, false, true), (false, false, false), (false, false, false), (true, false, true)] false rfl kr kr mP (fun n1 => ?_)
 refine TI.lb0 Nd.f rfl a10 rfl ?_
 refine TI.st0 Nd.f rfl (.nilCheck rfl rfl) (TI.fa0 Nd.f rfl ?_)
 refine TI.lb0 Nd.f rfl a11 rfl ?_
 refine TI.lln Nd.f rfl a3 ?_
 obtain ⟨hc7, hr⟩ := cS hr
 refine TI.lmk Nd.f rfl hc7.1 hc7.2 (.s .z) ?_
 refine TI.op Nd.f ?_
 refine TL.ld rfl a9 rfl ?_
 refine T.nil ⟨rfl, fun n2 => ?_⟩
 refine TI.llb Nd.f rfl a9 .z rfl ?_
 refine TI.llb Nd.f rfl a9 .z rfl ?_
 refine TI.op Nd.f ?_
 refine TL.ld rfl a10 rfl ?_
 refine T.nil ⟨rfl, fun n3 => ?_⟩
 refine TI.op Nd.f ?_
 obtain ⟨hc8, hr⟩ := cS hr
 refine TL.ad rfl hc8 ?_
 refine T.nil ⟨rfl, fun n4 => ?_⟩
 refine TI.op Nd.f ?_
 refine TL.nc rfl ?_
 refine T.nil ⟨rfl, fun n5 => ?_⟩
 refine TI.op Nd.f ?_
 refine TL.fa rfl ?_
 refine T.nil ⟨rfl, fun n6 => ?_⟩
 refine TI.op Nd.f ?_
 refine TL.stf rfl rfl e4 c2 ?_
 refine T.nil ⟨rfl, fun n7 => ?_⟩
 refine TI.op Nd.f ?_
 refine TL.nc rfl ?_
 refine T.nil ⟨rfl, fun n8 => ?_⟩
 refine TI.op Nd.f ?_
 refine TL.fa rfl ?_
 refine T.nil ⟨rfl, fun n9 => ?_⟩
 refine TI.op (.t (.b a9 (.r a0 .n))) ?_
 refine TL.stf rfl rfl e4 c4 ?_
 refine T.nil ⟨rfl, fun n10 => ?_⟩
 refine TI.op Nd.f ?_
 refine TL.nc rfl ?_
 refine T.nil ⟨rfl, fun n11 => ?_⟩
 refine TI.op Nd.f ?_
 refine TL.fa rfl ?_
 refine T.nil ⟨rfl, fun n12 => ?_⟩
 refine TI.op (.t (.b a9 (.r a0 .n))) ?_
 refine TL.stfs rfl a0 e4 c6 ?_
 refine T.nil ⟨rfl, fun n13 => ?_⟩
 refine TI.nil Nd.f (T.m (T.q (T.rD [0, 1, 2, 3, 4, 5, 6] [false, false, false, false, false, false, true] rfl rfl kr kr mP ?_)))
 refine TL.gh (.brw (r := (rC Bool)) (xs := (List.replicate (x1.Peers.length : Int).toNat (false : Bool))) (len := (x1.Peers.length : Int).toNat) p0 (by simp) (by unfold UNK; omega) (fun _ => RL.replicate rfl _)) ?_
 refine TL.ld rfl a9 rfl (TL.nc rfl (TL.fa rfl ?_))
 refine TL.lk (m := 6) rfl a4 rfl rfl (by decide) ?_
 refine TL.ld rfl a10 rfl ?_
 obtain ⟨x8, hx3, hr⟩ := bS hr
 refine TL.ixu rfl a0 hx3 (fun b2 e925 hp2 => ?_)
 refine TL.ste rfl rfl e0 hp2 hx3 (fun _ _ _ _ _ => rfl) ?_
 refine T.nil (T.m (T.q (T.r (TL.ld rfl a9 rfl ?_))))
 obtain ⟨x9, hx4, hr⟩ := bS hr
 refine TL.callL g rfl rfl rfl (.f a4 rfl (.z (v := w4) a5 inferInstance .n)) (v1ezk g (Ar := []) hx4) (R2 := fun v A => v = .tuple #[iv x9.1, iv x9.2] ∧ A = []) (fun _ _ h => ⟨[], by obtain ⟨_, rfl⟩ := h; exact Sl.ent d2, .n, h.1, rfl⟩) ?_
 rintro _ _ ⟨rfl, rfl⟩
 simp only [List.cons_append, List.nil_append]
 refine TL.mv rfl ?_
 refine TL.of (fun f k => WL.extract f rfl rfl rfl rfl rfl k) ?_
 refine TL.of (fun f k => WL.extract f rfl rfl rfl rfl rfl k) ?_
 refine TL.al rfl (fun q5 => ?_)
 refine TL.al rfl (fun q6 => ?_)
 refine TL.st rfl rfl e1 c0 (TL.st rfl rfl e0 c0 (T.nil (T.m (T.q (T.r (TL.ld rfl a13 rfl (TL.ld rfl a12 rfl ?_)))))))
 refine TL.of (fun f k => WL.mkFunc f rfl rfl rfl rfl rfl k) ?_
 refine TL.callIn (args := [pt q1 0, iv x2, .func (.func 93) [].toArray [pt q2 0, pt q3 0, pt q4 0, pt q5 0, pt q6 0].toArray]) rfl rfl rfl Try.func90 rfl rfl ?_
 refine T.q (T.r (TL.mv rfl (TL.nc rfl (TL.fa rfl (TL.ld rfl a14 rfl (TL.len rfl a6 (TL.mv rfl (T.nil (T.m ?_)))))))))
 refine T.b ?_
 refine T.lp (fun k2 fr A => ∃ (x10 : Int) (xs7 : (List GP)) (xs8 : (List GM)) (xs9 : (List GR)) (x11 : Bool) (w14 : Value) (w15 : Value), x1.Peers.length = xs7.length ∧ fr = [(1, iv x2), (2, .func (.func 93) [].toArray [pt q2 0, pt q3 0, pt q4 0, pt q5 0, pt q6 0].toArray), (11, iv (x1.Peers.length : Int)), (12, iv x10)] ∧ A = box q4 [pt b1 el1] :: box q3 [iv x2] :: box q6 [iv x9.2] :: box q2 [pt q1 0] :: box q5 [iv x9.1] :: box q1 [w1, w14, w15, .bool x11] :: ow rGPeer w1 xs7 :: ow (rC GM) w14 xs8 :: ow (rC GR) w15 xs9 :: Ar ∧ v1az x1 x2 x9 k2 x10 xs7 xs8 xs9 x11 = some res) BIG ?_ ?_ ?_
 {
 exact ⟨_, _, (fl4), (.trans (GP.unD p6 p6 p2 p2 p2) (.sl (.p p7 (.p p7 (.p p1 (.p p6 (.p p1 (.p p5 (.p p0 (.p p4 (.p p4 (d4)))))))))))), 0, (setI x1.Peers x2 ({ Up := x3.Up, Term := (x3.Term + 1), Vote := (x2 + 1), Commit := x3.Commit, Role := 1, Log := x3.Log, Votes := (setI (List.replicate (x1.Peers.length : Int).toNat (false : Bool)) x2 true), Next := [], Match := [] } : GP)), x1.Net, x1.Chosen, x1.Conflict, w2, w3, lnE, rfl, rfl, hr⟩
 }
 {
 rintro fr A ⟨x10, xs7, xs8, xs9, x11, w14, w15, hl4, -, -, hr⟩
 rw [v1az] at hr
 cases hr
 }
 {
 rintro k2 _ _ ⟨x10, xs7, xs8, xs9, x11, w14, w15, hl4, rfl, rfl, hr⟩
 rw [v1az] at hr
 refine T.q (T.r (TL.bin rfl rfl (T.nil (T.m (T.q ?_)))))
 refine T.cD rfl (fun hc9 => ?_) (fun hc9 => ?_)
 {
 replace hr := iP hr hc9
 refine T.k (T.m (T.q ?_))
 refine T.ct (fun fr A => ∃ (xs10 : (List GP)) (xs11 : (List GM)) (xs12 : (List GR)) (x12 : Bool) (w16 : Value) (w17 : Value), x1.Peers.length = xs10.length ∧ fr = [(1, iv x2), (2, .func (.func 93) [].toArray [pt q2 0, pt q3 0, pt q4 0, pt q5 0, pt q6 0].toArray), (11, iv (x1.Peers.length : Int)), (12, iv x10)] ∧ A = box q4 [pt b1 el1] :: box q3 [iv x2] :: box q6 [iv x9.2] :: box q2 [pt q1 0] :: box q5 [iv x9.1] :: box q1 [w1, w16, w17, .bool x12] :: ow rGPeer w1 xs10 :: ow (rC GM) w16 xs11 :: ow (rC GR) w17 xs12 :: Ar ∧ v18z x10 (v1az x1 x2 x9 k2) xs10 xs11 xs12 x12 = some res) ?_ ?_
 {
 refine T.b (T.q (T.r (TL.mv rfl (TL.a rfl (T.nil (T.m (T.q (T.r (TL.mv rfl ?_)))))))))
 refine TL.mv rfl (TL.bin rfl rfl (T.nil (T.m ?_)))
 refine T.condN rfl (fun hc10 => ?_) (fun hc10 => ?_)
 {
 replace hr := iN hr hc10
 refine T.r (TL.mv rfl (TL.mv rfl ?_))
 refine TL.callIn (args := [iv x10, pt q2 0, pt q3 0, pt q4 0, pt q5 0, pt q6 0]) rfl rfl rfl Try.func93 rfl rfl ?_
 refine T.rD [0, 1, 2, 3, 4, 5, 6, 7, 8, 9, 10] [false, false, false, false, false, false, false, false, false, false, true] rfl rfl kr kr mP (TL.ld rfl a3 rfl (TL.ld rfl a1 rfl (TL.mv rfl (TL.ld rfl a0 rfl (TL.nc rfl (TL.fa rfl ?_))))))
 obtain ⟨x13, hx5, hr⟩ := bS hr
 refine TL.gh (.sl (.p p6 .e)) ?_
 refine GP.foD hp1 hx5 (fun w18 w19 w20 w21 => ?_)
 refine TL.lk (m := 1) rfl a0 rfl rfl (by decide) ?_
 refine TL.ld rfl a9 rfl (TL.ld rfl a7 rfl ?_)
 refine TL.bld (cells := [iv 1, iv x2, iv x10, iv x13.Term, iv x9.1, iv x9.2, iv 0, .bool false, .slice none 0 0]) rfl Try.underlying85 info85 rfl rfl rfl (by simp only [List.mapM_cons, List.mapM_nil, info3, info3, info3, info3, info3, info3, info3, info4, info28]; rfl) rfl (.s rfl (.s rfl (.s rfl (.s rfl (.s rfl (.s rfl .n)))))) rfl ?_
 obtain ⟨x14, hx6, hr⟩ := bS hr
 refine TL.gh (.trans (GP.u0D hx5 p0 p0 p0 p0 p0) (.trans (.nilZ GR) (.sl (.p p7 (.p p1 (.p p6 (.p p6 (.p p0 .e)))))))) ?_
 refine TL.hv (v := w1) a1 (fun hv3 => ?_)
 refine TL.c rfl rfl rfl (vyzk g hx6) ?_
 rintro _ _ ⟨w22, w23, rfl, rfl⟩
 refine TL.hv (v := w1) a1 (fun hv4 => ?_)
 have hl5 : x1.Peers.length = x14.Peers.length := Eq.trans lnE (Hv.eq hv3 hv4)
 refine T.nil ?_
 refine ⟨.inl rfl, _, _, Res.nil, .refl _, ?_⟩
 refine T.nil (T.bN (T.m ?_))
 exact ⟨_, _, (fl4), (.sl (.p p5 (.p p5 (.p p5 (.p p5 (.p p5 (.p p0 (.p p0 (.p p0 (.p p0 (d1))))))))))), x14.Peers, x14.Net, x14.Chosen, x14.Conflict, w22, w23, lnE, rfl, rfl, hr⟩
 }
 {
 replace hr := iP hr hc10
 refine T.k (T.bN (T.m ?_))
 exact ⟨_, _, (fl4), (.refl _), xs7, xs8, xs9, x11, w14, w15, lnE, rfl, rfl, hr⟩
 }
 }
 {
 rintro _ _ ⟨xs10, xs11, xs12, x12, w16, w17, hl6, rfl, rfl, hr⟩
 unfold v18z at hr
 refine T.r ?_
 obtain ⟨hc11, hr⟩ := cS hr
 refine TL.ad rfl hc11 (TL.mv rfl (T.nil (T.m ?_)))
 exact ⟨_, _, (fl4), (.refl _), (x10 + 1), xs10, xs11, xs12, x12, w16, w17, lnE, rfl, rfl, hr⟩
 }
 }
 {
 replace hr := iN hr hc9
 refine T.exit ?_
 refine T.tE (T.tE (T.bH ?_))
 refine ⟨.inl rfl, _, _, Res.nil, .refl _, ?_⟩
 refine T.nil (T.m (T.r (TL.ld rfl a3 rfl (TL.ld rfl a1 rfl ?_))))
 obtain ⟨x15, hx7, hr⟩ := bS hr
 refine TL.gh (.sl (.p p5 (.p p5 (.p p5 (.p p5 .e))))) ?_
 refine TL.hv (v := w1) a1 (fun hv5 => ?_)
 refine TL.c rfl rfl rfl (vnzk g hx7) ?_
 rintro _ _ ⟨w24, w25, rfl, rfl⟩
 refine TL.hv (v := w1) a1 (fun hv6 => ?_)
 have hl7 : x1.Peers.length = x15.Peers.length := Eq.trans lnE (Hv.eq hv5 hv6)
 refine T.nil (T.bN ?_)
 obtain rfl := Option.some.inj hr
 exact ⟨.inl rfl, _, _, Res.nil, (.sl (.p p0 (.p p0 (.p p0 (.p p0 (d5)))))), w24, w25, rfl, rfl⟩
 }
 }
 }
 {
 replace hr := iN hr hc5
 refine T.k (T.bN ?_)
 obtain rfl := Option.some.inj hr
 exact ⟨.inl rfl, _, _, Res.nil, (.trans (GP.u0D hx1 p0 p0 p0 p0 p0) (.sl (.p p4 (.p p0 (.p p3 (.p p3 (d3))))))), w2, w3, rfl, rfl⟩
 }
 }
theorem vtzk {Δ : Prims} (g : Env Try.prog Δ) {Ar : List Item} {x1 : GC} {q1 : Nat} {w1 w2 w3 : Value} {x2 : GE} {w4 : Value} {res : (GC × Int)} (hr : vtz x1 x2 = some res) :
    Sp Try.prog Δ 32 [pt q1 0, .agg [iv x2.Kind, iv x2.N, w4].toArray] (box q1 [w1, w2, w3, .bool x1.Conflict] :: ow rGPeer w1 x1.Peers :: ow (rC GM) w2 x1.Net :: ow (rC GR) w3 x1.Chosen :: fz w4 x2.Data :: Ar) (fun v A => ∃ (rw1 : Value) (rw2 : Value), v = iv res.2 ∧ A = box q1 [w1, rw1, rw2, .bool res.1.Conflict] :: ow rGPeer w1 res.1.Peers :: ow (rC GM) rw1 res.1.Net :: ow (rC GR) rw2 res.1.Chosen :: fz w4 x2.Data :: Ar) := by
 refine Sp.bd Try.func32 rfl rfl ?_
 unfold vtz at hr
 refine T.q (T.r ?_)
 refine TL.bxo rfl rfl (.s rfl (.s rfl (.h a4 inferInstance .n))) (fun q2 => ?_)
 refine TL.a rfl (T.nil (T.m (T.q (T.q (T.r (TL.fa rfl (TL.ld rfl a0 rfl (T.nil (T.m ?_)))))))))
 refine T.b (T.q (T.q (T.r (TL.bin rfl rfl (TL.a rfl (T.nil (T.m ?_)))))))
 refine T.ct (fun fr A => ∃ (x3 : Bool), fr = [(0, pt q1 0), (3, pt q2 0), (8, iv x2.Kind), (9, .bool x3)] ∧ A = box q2 [iv x2.Kind, iv x2.N, w4] :: box q1 [w1, w2, w3, .bool x1.Conflict] :: fz w4 x2.Data :: ow rGPeer w1 x1.Peers :: ow (rC GM) w2 x1.Net :: ow (rC GR) w3 x1.Chosen :: Ar ∧ vuz x1 x2 x3 = some res) ?_ ?_
 {
 refine T.cD rfl (fun hc1 => ?_) (fun hc1 => ?_)
 {
 replace hr := iP hr hc1
 refine T.k (T.m ?_)
 exact ⟨_, _, (fl4), (.sl (.p p0 (.p p0 (.p p3 (.p p0 (.p p0 (.p p0 .e))))))), (decide (x2.Kind = 2)), rfl, rfl, hr⟩
 }
 {
 replace hr := iN hr hc1
 refine T.q (T.r (TL.bin rfl rfl (TL.a rfl (T.nil (T.m ?_)))))
 refine T.cD rfl (fun hc2 => ?_) (fun hc2 => ?_)
 {
 replace hr := iP hr hc2
 refine T.k (T.m ?_)
 exact ⟨_, _, (fl4), (.sl (.p p0 (.p p0 (.p p3 (.p p0 (.p p0 (.p p0 .e))))))), (decide (x2.Kind = 3)), rfl, rfl, hr⟩
 }
 {
 replace hr := iN hr hc2
 refine T.r (TL.bin rfl rfl (TL.a rfl (T.nil (T.m ?_))))
 exact ⟨_, _, (fl4), (.sl (.p p0 (.p p0 (.p p3 (.p p0 (.p p0 (.p p0 .e))))))), (decide (x2.Kind = 4)), rfl, rfl, hr⟩
 }
 }
 }
 {
 rintro _ _ ⟨x3, rfl, rfl, hr⟩
 unfold vuz at hr
 refine T.cond rfl (fun hc3 => ?_) (fun hc3 => ?_)
 {
 replace hr := iBP hr hc3
 refine T.q (T.q (T.rD r10 f10 rfl rfl kr kr mP (TL.fa rfl (TL.ld rfl a0 rfl (TL.mv rfl (TL.nc rfl (TL.fa rfl (TL.ld rfl a1 rfl (TL.len rfl a4 ?_)))))))))
 obtain ⟨hc4, hr⟩ := cS hr
 refine TL.su rfl hc4 ?_
 obtain ⟨x4, hx1, hr⟩ := bS hr
 refine TL.callR g rfl rfl rfl (Pz.out .n) (v1szk g (Ar := []) hx1) ?_
 rintro _ _ ⟨rfl, rfl⟩
 simp only [List.cons_append, List.nil_append]
 refine TL.of (fun f k => WL.not f rfl rfl rfl rfl k) ?_
 refine T.nil (T.m ?_)
 refine T.cond rfl (fun hc5 => ?_) (fun hc5 => ?_)
 {
 replace hr := iBP hr hc5
 refine T.q (T.r (TL.a rfl (T.nil (T.m ?_))))
 refine T.ret ?_
 refine T.thenRet ?_
 refine T.blkRet ?_
 refine T.thenRet ?_
 obtain rfl := Option.some.inj hr
 exact ⟨.inr rfl, _, _, (Res.tmp rfl Res.nil), (.sl (.p p1 (.p p2 (.p p2 (.p p2 (.p p1 (d1))))))), w2, w3, rfl, rfl⟩
 }
 {
 replace hr := iBN hr hc5
 refine T.k (T.m (T.q (T.rD [0, 1, 2, 3, 4, 5, 6, 7, 8, 9] [false, false, false, false, false, false, false, false, false, true] rfl rfl kr kr mP (TL.mv rfl (TL.nc rfl (TL.fa rfl (TL.ld rfl a1 rfl (TL.fa rfl (TL.ld rfl a0 rfl ?_)))))))))
 obtain ⟨x5, hx2, hr⟩ := bS hr
 refine TL.ixu rfl a4 hx2 (fun b1 e437 hp1 => ?_)
 refine TL.gh (.sl (.p p4 .e)) ?_
 refine GM.fo hp1 hx2 (fun w5 => ?_)
 refine TL.ldfN rfl a0 rfl rfl ?_
 refine TL.al rfl (fun q3 => ?_)
 refine TL.sto (c' := [iv x5.Kind, iv x5.From, iv x5.To, iv x5.Term, iv x5.A, iv x5.B, iv x5.C, .bool x5.Ok, w5]) rfl rfl rfl (.s rfl (.s rfl (.s rfl (.s rfl (.s rfl (.s rfl (.s rfl (.s rfl (.h a2 inferInstance .n))))))))) e0 rfl (bl rfl) (T.nil (T.m (T.q (T.q (T.r (TL.fa rfl (TL.ld rfl a3 rfl (TL.bin rfl rfl (T.nil ?_)))))))))
 refine T.m ?_
 refine T.cD rfl (fun hc6 => ?_) (fun hc6 => ?_)
 {
 replace hr := iP hr hc6
 refine T.q (T.r (TL.mv rfl (TL.ldN (l' := [iv x5.Kind, iv x5.From, iv x5.To, iv x5.Term, iv x5.A, iv x5.B, iv x5.C, .bool x5.Ok, w5]) rfl a0 rfl rfl ?_)))
 obtain ⟨x6, hx3, hr⟩ := bS hr
 refine TL.gh (.trans (GM.u0 hx2 p1 a1) (.sl (.p p4 (.p p5 (.p p0 (.p p4 (.p p1 .e))))))) ?_
 refine TL.hv (v := w1) a1 (fun hv1 => ?_)
 refine TL.c rfl rfl rfl (vyzk g hx3) ?_
 rintro _ _ ⟨w6, w7, rfl, rfl⟩
 refine TL.hv (v := w1) a1 (fun hv2 => ?_)
 have hl1 : x1.Peers.length = x6.Peers.length := Eq.trans lnE (Hv.eq hv1 hv2)
 refine T.nil (T.m (T.q (T.r (TL.a rfl (T.nil (T.m ?_))))))
 refine T.ret ?_
 refine T.thenRet ?_
 refine T.blkRet ?_
 refine T.thenRet ?_
 obtain rfl := Option.some.inj hr
 exact ⟨.inr rfl, _, _, (Res.tmp rfl Res.nil), (.sl (.p p0 (.p p0 (.p p0 (.p p0 (.p p3 (d3))))))), w6, w7, rfl, rfl⟩
 }
 {
 replace hr := iN hr hc6
 refine T.k (T.m (T.q ?_))
 refine T.regionI (fun n1 => []) [0, 1, 2, 3, 4, 5, 6, 7, 8, 9, 10, 11, 12, 13] [(false, true, false), (false, false, false), (false, false, false), (false, false, false), (false, false, false), (false, false, false), (false, false, false), (false, false, false), (false, false, false), (false, false, false), (true, false, false), (false, false, false), (false, false, false), (true, false, true)] false rfl kr kr mP (fun n1 => ?_)
 refine TI.lt Nd.f rfl (.move (.inl rfl) rfl) ?_
 refine TI.op Nd.f ?_
 refine TL.mv rfl ?_
 refine T.nil ⟨rfl, fun n2 => ?_⟩
 refine TI.op Nd.f ?_
 refine TL.nc rfl ?_
 refine T.nil ⟨rfl, fun n3 => ?_⟩
 refine TI.op Nd.f ?_
 refine TL.fa rfl ?_
 refine T.nil ⟨rfl, fun n4 => ?_⟩
 refine TI.op Nd.f ?_
 refine TL.ld rfl a4 rfl ?_
 refine T.nil ⟨rfl, fun n5 => ?_⟩
 refine TI.op Nd.f ?_
 refine TL.fa rfl ?_
 refine T.nil ⟨rfl, fun n6 => ?_⟩
 refine TI.op Nd.f ?_
 refine TL.ld rfl a3 rfl ?_
 refine T.nil ⟨rfl, fun n7 => ?_⟩
 refine TI.op Nd.f ?_
 refine TL.fa rfl ?_
 refine T.nil ⟨rfl, fun n8 => ?_⟩
 refine TI.op Nd.f ?_
 refine TL.ld rfl a3 rfl ?_
 refine T.nil ⟨rfl, fun n9 => ?_⟩
 refine TI.op Nd.f ?_
 obtain ⟨hc7, hr⟩ := cS hr
 refine TL.ad rfl hc7 ?_
 refine T.nil ⟨rfl, fun n10 => ?_⟩
 refine TI.op Nd.f ?_
 obtain ⟨xs1, hxs589, hr⟩ := bS hr
 refine TL.gh (GM.u0 hx2 p1 a1) ?_
 refine TL.callD rfl rfl rfl p0 (v2az g hxs589) (fun w8 => ?_)
 refine T.nil ⟨rfl, fun n11 => ?_⟩
 refine TI.op Nd.f ?_
 refine TL.nc rfl ?_
 refine T.nil ⟨rfl, fun n12 => ?_⟩
 refine TI.op Nd.f ?_
 refine TL.fa rfl ?_
 refine T.nil ⟨rfl, fun n13 => ?_⟩
 refine TI.op (.t .n) ?_
 refine TL.sts rfl a0 e4 c1 ?_
 refine T.nil ⟨rfl, fun n14 => ?_⟩
 refine TI.nil Nd.f (T.m (T.q (T.q (T.r (TL.fa rfl (TL.ld rfl a3 rfl (TL.bin rfl rfl (T.nil (T.m ?_)))))))))
 refine T.cD rfl (fun hc8 => ?_) (fun hc8 => ?_)
 {
 replace hr := iP hr hc8
 refine T.r (TL.mv rfl (TL.ldN (l' := [iv x5.Kind, iv x5.From, iv x5.To, iv x5.Term, iv x5.A, iv x5.B, iv x5.C, .bool x5.Ok, w5]) rfl a1 rfl rfl ?_))
 obtain ⟨x7, hx4, hr⟩ := bS hr
 refine TL.gh (.sl (.p p4 (.p p5 (.p p0 (.p p4 (.p p1 .e)))))) ?_
 refine TL.hv (v := w1) a1 (fun hv3 => ?_)
 refine TL.c rfl rfl rfl (v7zk g hx4) ?_
 rintro _ _ ⟨w9, w10, rfl, rfl⟩
 refine TL.hv (v := w1) a1 (fun hv4 => ?_)
 have hl2 : x1.Peers.length = x7.Peers.length := Eq.trans lnE (Hv.eq hv3 hv4)
 refine T.nil (T.m (T.q (T.r (TL.a rfl (T.nil (T.m ?_))))))
 refine T.ret ?_
 refine T.blkRet ?_
 refine T.thenRet ?_
 obtain rfl := Option.some.inj hr
 exact ⟨.inr rfl, _, _, (Res.tmp rfl Res.nil), (.sl (.p p0 (.p p0 (.p p0 (.p p0 (.p p3 (d3))))))), w9, w10, rfl, rfl⟩
 }
 {
 replace hr := iN hr hc8
 refine T.k (T.m (T.q (T.r (TL.a rfl (T.nil (T.m ?_))))))
 refine T.ret ?_
 refine T.blkRet ?_
 refine T.thenRet ?_
 obtain rfl := Option.some.inj hr
 exact ⟨.inr rfl, _, _, (Res.tmp rfl Res.nil), (.sl (.p p4 (.p p5 (.p p0 (.p p4 (.p p3 (d3))))))), w8, w3, rfl, rfl⟩
 }
 }
 }
 }
 {
 replace hr := iBN hr hc3
 refine T.q (T.q (T.r (TL.bin rfl rfl (TL.a rfl (T.nil (T.m ?_))))))
 refine T.ct (fun fr A => ∃ (x8 : Bool), fr = [(0, pt q1 0), (3, pt q2 0), (56, .bool x8)] ∧ A = box q2 [iv x2.Kind, iv x2.N, w4] :: box q1 [w1, w2, w3, .bool x1.Conflict] :: fz w4 x2.Data :: ow rGPeer w1 x1.Peers :: ow (rC GM) w2 x1.Net :: ow (rC GR) w3 x1.Chosen :: Ar ∧ vvz x1 x2 x8 = some res) ?_ ?_
 {
 refine T.cD rfl (fun hc9 => ?_) (fun hc9 => ?_)
 {
 replace hr := iP hr hc9
 refine T.k (T.m ?_)
 exact ⟨_, _, (fl3), (.refl _), (decide (x2.Kind = 1)), rfl, rfl, hr⟩
 }
 {
 replace hr := iN hr hc9
 refine T.q (T.r (TL.bin rfl rfl (TL.a rfl (T.nil (T.m ?_)))))
 refine T.cD rfl (fun hc10 => ?_) (fun hc10 => ?_)
 {
 replace hr := iP hr hc10
 refine T.k (T.m ?_)
 exact ⟨_, _, (fl3), (.refl _), (decide (x2.Kind = 5)), rfl, rfl, hr⟩
 }
 {
 replace hr := iN hr hc10
 refine T.q (T.r (TL.bin rfl rfl (TL.a rfl (T.nil (T.m ?_)))))
 refine T.cD rfl (fun hc11 => ?_) (fun hc11 => ?_)
 {
 replace hr := iP hr hc11
 refine T.k (T.m ?_)
 exact ⟨_, _, (fl3), (.refl _), (decide (x2.Kind = 6)), rfl, rfl, hr⟩
 }
 {
 replace hr := iN hr hc11
 refine T.r (TL.bin rfl rfl (TL.a rfl (T.nil (T.m ?_))))
 exact ⟨_, _, (fl3), (.refl _), (decide (x2.Kind = 7)), rfl, rfl, hr⟩
 }
 }
 }
 }
 {
 rintro _ _ ⟨x8, rfl, rfl, hr⟩
 unfold vvz at hr
 refine T.cond rfl (fun hc12 => ?_) (fun hc12 => ?_)
 {
 replace hr := iBP hr hc12
 refine T.k (T.bN (T.m (T.q (T.q (T.rD r10 f10 rfl rfl kr kr mP (TL.fa rfl (TL.ld rfl a0 rfl (TL.mv rfl (TL.nc rfl ?_)))))))))
 refine TL.fa rfl (TL.ld rfl a1 rfl (TL.len rfl a3 ?_))
 obtain ⟨hc13, hr⟩ := cS hr
 refine TL.su rfl hc13 ?_
 obtain ⟨x9, hx5, hr⟩ := bS hr
 refine TL.callR g rfl rfl rfl (Pz.out .n) (v1szk g (Ar := []) hx5) ?_
 rintro _ _ ⟨rfl, rfl⟩
 simp only [List.cons_append, List.nil_append]
 refine TL.of (fun f k => WL.not f rfl rfl rfl rfl k) ?_
 refine T.nil (T.m ?_)
 refine T.cond rfl (fun hc14 => ?_) (fun hc14 => ?_)
 {
 replace hr := iBP hr hc14
 refine T.q (T.r (TL.a rfl (T.nil (T.m ?_))))
 refine T.ret ?_
 refine T.thenRet ?_
 obtain rfl := Option.some.inj hr
 exact ⟨.inr rfl, _, _, (Res.tmp rfl Res.nil), (.sl (.p p1 (.p p2 (.p p2 (.p p2 (.p p1 (d1))))))), w2, w3, rfl, rfl⟩
 }
 {
 replace hr := iBN hr hc14
 refine T.k (T.m (T.q (T.rD r8 f8 rfl rfl kr kr mP (TL.mv rfl (TL.nc rfl (TL.fa rfl (TL.ld rfl a1 rfl (TL.fa rfl (TL.ld rfl a0 rfl ?_)))))))))
 obtain ⟨x10, hx6, hr⟩ := bS hr
 refine TL.ixu rfl a3 hx6 (fun b2 el1 hp2 => ?_)
 refine TL.a rfl (T.nil (T.m (T.q (T.q (T.rD r8 f8 rfl rfl kr kr mP (TL.mv rfl (TL.nc rfl (TL.fa rfl ?_))))))))
 refine TL.gh (.sl (.p p3 .e)) ?_
 refine GP.foD hp2 hx6 (fun w11 w12 w13 w14 => ?_)
 refine TL.lk (m := 0) rfl a0 rfl rfl (by decide) ?_
 refine TL.fa rfl (TL.ld rfl a5 rfl (TL.bin rfl rfl ?_))
 refine TL.of (fun f k => WL.eqBool f rfl rfl rfl (by decide) Try.underlying4 rfl rfl k) ?_
 refine T.nil (T.m ?_)
 refine T.cond rfl (fun hc15 => ?_) (fun hc15 => ?_)
 {
 replace hr := iBP hr hc15
 refine T.q (T.r (TL.a rfl (T.nil (T.m ?_))))
 refine T.ret ?_
 refine T.thenRet ?_
 obtain rfl := Option.some.inj hr
 exact ⟨.inr rfl, _, _, (Res.tmp rfl Res.nil), (.trans (GP.u0D hx6 p0 p0 p0 p0 p0) (.sl (.p p2 (.p p0 (.p p2 (.p p2 (.p p1 (d1)))))))), w2, w3, rfl, rfl⟩
 }
 {
 replace hr := iBN hr hc15
 refine T.k (T.m (T.q (T.q (T.r (TL.fa rfl (TL.ld rfl a5 rfl (T.nil (T.m (T.b ?_)))))))))
 refine T.q (T.r (TL.bin rfl rfl (TL.a rfl (T.nil (T.m ?_)))))
 refine T.cD rfl (fun hc16 => ?_) (fun hc16 => ?_)
 {
 replace hr := iP hr hc16
 refine T.r (TL.mv rfl (TL.fa rfl (TL.ld rfl a5 rfl ?_)))
 obtain ⟨x11, hx7, hr⟩ := bS hr
 refine TL.gh (.trans (GP.u0D hx6 p0 p0 p0 p0 p0) (.sl (.p p2 (.p p0 (.p p2 (.p p2 .e)))))) ?_
 refine TL.hv (v := w1) a1 (fun hv5 => ?_)
 refine TL.c rfl rfl rfl (v16zk g hx7) ?_
 rintro _ _ ⟨w15, w16, rfl, rfl⟩
 refine TL.hv (v := w1) a1 (fun hv6 => ?_)
 have hl3 : x1.Peers.length = x11.Peers.length := Eq.trans lnE (Hv.eq hv5 hv6)
 refine T.nil (T.bN (T.m (T.q (T.r (TL.a rfl (T.nil (T.m ?_)))))))
 refine T.ret ?_
 obtain rfl := Option.some.inj hr
 exact ⟨.inr rfl, _, _, (Res.tmp rfl Res.nil), (.sl (.p p0 (.p p0 (.p p0 (.p p0 (.p p1 (d1))))))), w15, w16, rfl, rfl⟩
 }
 {
 replace hr := iN hr hc16
 refine T.q (T.r (TL.bin rfl rfl (TL.a rfl (T.nil (T.m ?_)))))
 refine T.cD rfl (fun hc17 => ?_) (fun hc17 => ?_)
 {
 replace hr := iP hr hc17
 refine T.rD [0, 1, 2, 3, 4, 5, 6, 7, 8, 9, 10, 11, 12, 13, 14, 15] [false, false, false, false, false, false, false, false, false, false, false, false, false, false, false, true] rfl rfl kr kr mP (TL.mv rfl (TL.mv rfl (TL.nc rfl (TL.fa rfl ?_))))
 refine TL.lk (m := 1) rfl a0 rfl rfl (by decide) ?_
 refine TL.mv rfl (TL.nc rfl (TL.fa rfl ?_))
 refine TL.lk (m := 2) rfl a0 rfl rfl (by decide) ?_
 refine TL.mv rfl (TL.nc rfl (TL.fa rfl ?_))
 refine TL.lk (m := 5) rfl a0 rfl rfl (by decide) ?_
 refine TL.bld (cells := [.bool false, iv x10.Term, iv x10.Vote, iv 0, iv 0, w11, .slice none 0 0, .slice none 0 0, .slice none 0 0]) rfl Try.underlying42 info42 rfl rfl rfl (by simp only [List.mapM_cons, List.mapM_nil, info4, info3, info3, info3, info3, info28, info40, info31, info31]; rfl) rfl (.s rfl (.s rfl (.h a1 inferInstance .n))) rfl ?_
 refine TL.nc rfl ?_
 refine TL.gh (.nilO (rC Bool)) ?_
 refine TL.gh (.nilO (rC Int)) ?_
 refine TL.gh (.nilO (rC Int)) ?_
 refine TL.stf0 (cs' := [.bool false, iv x10.Term, iv x10.Vote, iv 0, iv 0, w11, (.slice none 0 0), (.slice none 0 0), (.slice none 0 0)]) rfl rfl rfl (.s rfl (.s rfl (.s rfl (.s rfl (.s rfl (.h a4 inferInstance (.s rfl (.s rfl (.s rfl .n))))))))) e3 rfl (bl rfl) (T.nil (T.bN (T.m (T.q (T.r (TL.a rfl (T.nil (T.m ?_))))))))
 refine T.ret ?_
 obtain rfl := Option.some.inj hr
 exact ⟨.inr rfl, _, _, (Res.tmp rfl Res.nil), (.trans (GP.unD p3 p3 p2 p0 p0) (.sl (.p p5 (.p p0 (.p p5 (.p p5 (.p p4 (d4)))))))), w2, w3, rfl, rfl⟩
 }
 {
 replace hr := iN hr hc17
 refine T.q (T.r (TL.bin rfl rfl (TL.a rfl (T.nil (T.m ?_)))))
 refine T.cD rfl (fun hc18 => ?_) (fun hc18 => ?_)
 {
 replace hr := iP hr hc18
 refine T.r (TL.mv rfl (TL.nc rfl (TL.fa rfl ?_)))
 refine TL.stf rfl rfl e0 c0 (T.nil (T.bN (T.m (T.q (T.r (TL.a rfl (T.nil (T.m ?_))))))))
 refine T.ret ?_
 obtain rfl := Option.some.inj hr
 exact ⟨.inr rfl, _, _, (Res.tmp rfl Res.nil), (.trans (GP.unD p0 p0 p0 p0 p0) (.sl (.p p2 (.p p0 (.p p2 (.p p2 (.p p1 (d1)))))))), w2, w3, rfl, rfl⟩
 }
 {
 replace hr := iN hr hc18
 refine T.q (T.r (TL.bin rfl rfl (TL.a rfl (T.nil (T.m ?_)))))
 refine T.cD rfl (fun hc19 => ?_) (fun hc19 => ?_)
 {
 replace hr := iP hr hc19
 refine T.q (T.b (T.q (T.r (TL.mv rfl (TL.nc rfl (TL.fa rfl ?_))))))
 refine TL.lk (m := 4) rfl a0 rfl rfl (by decide) ?_
 refine TL.bin rfl rfl (TL.a rfl (T.nil (T.m ?_)))
 refine T.condN rfl (fun hc20 => ?_) (fun hc20 => ?_)
 {
 replace hr := iN hr hc20
 refine T.q (T.r (TL.a rfl (T.nil (T.m ?_))))
 refine T.ret ?_
 refine T.blkRet ?_
 refine T.thenRet ?_
 refine T.blkRet ?_
 refine T.thenRet ?_
 obtain rfl := Option.some.inj hr
 exact ⟨.inr rfl, _, _, (Res.tmp rfl Res.nil), (.trans (GP.u0D hx6 p0 p0 p0 p0 p0) (.sl (.p p2 (.p p0 (.p p2 (.p p2 (.p p1 (d1)))))))), w2, w3, rfl, rfl⟩
 }
 {
 replace hr := iP hr hc20
 refine T.q ?_
 refine T.ct (fun fr A => ∃ (x12 : Bool), fr = [(0, pt q1 0), (3, pt q2 0), (6, pt b2 el1), (124, .bool x12)] ∧ A = box q2 [iv x2.Kind, iv x2.N, w4] :: box q1 [w1, w2, w3, .bool x1.Conflict] :: fz w4 x2.Data :: ow rGPeer w1 x1.Peers :: ow (rC GM) w2 x1.Net :: ow (rC GR) w3 x1.Chosen :: Ar ∧ vwz x1 x10 x2 x12 = some res) ?_ ?_
 {
 refine T.r (TL.fa rfl (TL.ld rfl a5 rfl (TL.len rfl a7 (TL.bin rfl rfl (TL.mv rfl ?_)))))
 refine TL.guardD rfl rfl rfl (fun hg1 => ?_) (fun hg1 => ?_)
 {
 replace hr := iP hr hg1
 refine TL.sk rfl (TL.sk rfl (TL.sk rfl (TL.sk rfl (TL.sk rfl (TL.sk rfl ?_)))))
 refine TL.of (fun f k => WL.pick f rfl rfl rfl rfl rfl k) ?_
 refine TL.a rfl (T.nil (T.m ?_))
 exact ⟨_, _, (fl4), (.trans (GP.u0D hx6 p0 p0 p0 p0 p0) (.sl (.p p1 (.p p1 (.p p1 (.p p0 (.p p0 (.p p0 .e)))))))), true, rfl, rfl, hr⟩
 }
 {
 replace hr := iN hr hg1
 refine TL.mv rfl (TL.nc rfl (TL.fa rfl ?_))
 refine TL.lk (m := 5) rfl a0 rfl rfl (by decide) ?_
 refine TL.len rfl a1 (TL.bin rfl rfl ?_)
 refine TL.of (fun f k => WL.pick f rfl rfl rfl rfl rfl k) ?_
 refine TL.a rfl (T.nil (T.m ?_))
 exact ⟨_, _, (fl4), (.trans (GP.u0D hx6 p0 p0 p0 p0 p0) (.sl (.p p1 (.p p1 (.p p1 (.p p0 (.p p0 (.p p0 .e)))))))), (decide ((100 : Int) ≤ (x10.Log.length : Int))), rfl, rfl, hr⟩
 }
 }
 {
 rintro _ _ ⟨x12, rfl, rfl, hr⟩
 unfold vwz at hr
 refine T.cond rfl (fun hc21 => ?_) (fun hc21 => ?_)
 {
 replace hr := iBP hr hc21
 refine T.q (T.r (TL.a rfl (T.nil (T.m ?_))))
 refine T.ret ?_
 refine T.blkRet ?_
 refine T.thenRet ?_
 refine T.blkRet ?_
 refine T.thenRet ?_
 obtain rfl := Option.some.inj hr
 exact ⟨.inr rfl, _, _, (Res.tmp rfl Res.nil), (.sl (.p p1 (.p p2 (.p p2 (.p p2 (.p p1 (d1))))))), w2, w3, rfl, rfl⟩
 }
 {
 replace hr := iBN hr hc21
 refine T.k (T.bN (T.m (T.q ?_)))
 refine T.regionI (fun n15 => []) [0, 1, 2, 3, 4, 5, 6, 7, 8, 9, 10, 11, 12, 13, 14, 15, 16, 17, 18, 19, 20, 21, 22, 23] [(false, true, false), (false, false, false), (false, false, false), (false, false, false), (false, false, false), (false, false, false), (false, false, false), (false, false, false), (false, false, false), (false, false, false), (false, false, false), (false, false, false), (false, false, false), (false, false, false), (false, false, false), (false, false, false), (false, false, false), (false, false, false), (false, false, false), (false, false, false), (true, false, false), (false, false, false), (false, false, false), (true, false, true)] false rfl kr kr mP (fun n15 => ?_)
 refine TI.lt Nd.f rfl (.move (.inl rfl) rfl) ?_
 refine TI.op Nd.f ?_
 refine TL.mv rfl ?_
 refine T.nil ⟨rfl, fun n16 => ?_⟩
 refine TI.op Nd.f ?_
 refine TL.nc rfl ?_
 refine T.nil ⟨rfl, fun n17 => ?_⟩
 refine TI.op Nd.f ?_
 refine TL.fa rfl ?_
 refine T.nil ⟨rfl, fun n18 => ?_⟩
 refine TI.op Nd.f ?_
 refine TL.gh (.sl (.p p3 .e)) ?_
 refine GP.foD hp2 hx6 (fun w17 w18 w19 w20 => ?_)
 refine TL.lk (m := 5) rfl a0 rfl rfl (by decide) ?_
 refine T.nil ⟨rfl, fun n19 => ?_⟩
 refine TI.op Nd.f ?_
 refine TL.mv rfl ?_
 refine T.nil ⟨rfl, fun n20 => ?_⟩
 refine TI.op Nd.f ?_
 refine TL.nc rfl ?_
 refine T.nil ⟨rfl, fun n21 => ?_⟩
 refine TI.op Nd.f ?_
 refine TL.fa rfl ?_
 refine T.nil ⟨rfl, fun n22 => ?_⟩
 refine TI.op Nd.f ?_
 refine TL.lk (m := 1) rfl a0 rfl rfl (by decide) ?_
 refine T.nil ⟨rfl, fun n23 => ?_⟩
 refine TI.op Nd.f ?_
 refine TL.mv rfl ?_
 refine T.nil ⟨rfl, fun n24 => ?_⟩
 refine TI.op Nd.f ?_
 refine TL.nc rfl ?_
 refine T.nil ⟨rfl, fun n25 => ?_⟩
 refine TI.op Nd.f ?_
 refine TL.fa rfl ?_
 refine T.nil ⟨rfl, fun n26 => ?_⟩
 refine TI.op Nd.f ?_
 refine TL.lk (m := 5) rfl a0 rfl rfl (by decide) ?_
 refine T.nil ⟨rfl, fun n27 => ?_⟩
 refine TI.op Nd.f ?_
 refine TL.len rfl a1 ?_
 refine T.nil ⟨rfl, fun n28 => ?_⟩
 refine TI.op Nd.f ?_
 obtain ⟨hc22, hr⟩ := cS hr
 refine TL.ad rfl hc22 ?_
 refine T.nil ⟨rfl, fun n29 => ?_⟩
 refine TI.op Nd.f ?_
 refine TL.fa rfl ?_
 refine T.nil ⟨rfl, fun n30 => ?_⟩
 refine TI.op Nd.f ?_
 refine TL.ld rfl a5 rfl ?_
 refine T.nil ⟨rfl, fun n31 => ?_⟩
 refine TI.op Nd.f ?_
 obtain ⟨x13, hx8, hr⟩ := bS hr
 refine TL.callR g rfl rfl rfl (Pz.out (.c a7 Pers.rC .n)) (v26zk g (Ar := []) hx8) ?_
 rintro w21 _ rfl
 simp only [List.cons_append, List.nil_append]
 refine T.nil ⟨rfl, fun n32 => ?_⟩
 refine TI.op Nd.f ?_
 refine TL.bld (cells := [iv x10.Term, iv ((x10.Log.length : Int) + 1), w21]) rfl Try.underlying35 info35 rfl rfl rfl (by simp only [List.mapM_cons, List.mapM_nil, info3, info3, info22]; rfl) rfl (.s rfl (.s rfl (.h a1 inferInstance .n))) rfl ?_
 refine T.nil ⟨rfl, fun n33 => ?_⟩
 refine TI.op Nd.f ?_
 refine TL.gh (.frz p1) ?_
 refine TL.gh (GR.mkV (s0 := x10.Term) (s1 := ((x10.Log.length : Int) + 1)) a0) ?_
 refine TL.lit1 rfl rfl p0 (fun w22 => ?_)
 refine T.nil ⟨rfl, fun n34 => ?_⟩
 refine TI.op Nd.f ?_
 obtain ⟨hc23, hr⟩ := cS hr
 refine TL.appR rfl p4 a0 hc23 (fun w23 => ?_)
 refine T.nil ⟨rfl, fun n35 => ?_⟩
 refine TI.op Nd.f ?_
 refine TL.nc rfl ?_
 refine T.nil ⟨rfl, fun n36 => ?_⟩
 refine TI.op Nd.f ?_
 refine TL.fa rfl ?_
 refine T.nil ⟨rfl, fun n37 => ?_⟩
 refine TI.op (.t .n) ?_
 refine TL.stfs rfl a0 e4 c5 ?_
 refine T.nil ⟨rfl, fun n38 => ?_⟩
 refine TI.nil Nd.f (T.m (T.q (T.rD [0, 1, 2, 3, 4, 5, 6, 7, 8, 9, 10, 11, 12] [false, false, false, false, false, false, false, false, false, false, false, false, true] rfl rfl kr kr mP (TL.mv rfl (TL.nc rfl (TL.fa rfl ?_))))))
 refine TL.lk (m := 8) rfl a4 rfl rfl (by decide) ?_
 refine TL.fa rfl (TL.ld rfl a8 rfl (TL.mv rfl (TL.nc rfl (TL.fa rfl ?_))))
 refine TL.lk (m := 5) rfl a4 rfl rfl (by decide) ?_
 refine TL.len rfl a0 ?_
 obtain ⟨x14, hx9, hr⟩ := bS hr
 refine TL.ixu rfl a7 hx9 (fun b3 e1006 hp3 => ?_)
 refine TL.ste rfl rfl e7 hp3 hx9 (fun _ _ _ _ _ => rfl) ?_
 refine T.nil (T.m (T.r (TL.mv rfl (TL.fa rfl (TL.ld rfl a8 rfl ?_)))))
 obtain ⟨x15, hx10, hr⟩ := bS hr
 refine TL.gh (.trans (GP.unD p4 p0 p3 p3 p3) (.sl (.p p5 (.p p0 (.p p5 (.p p5 .e)))))) ?_
 refine TL.hv (v := w1) a1 (fun hv7 => ?_)
 refine TL.c rfl rfl rfl (vhzk g hx10) ?_
 rintro _ _ ⟨w24, w25, rfl, rfl⟩
 refine TL.hv (v := w1) a1 (fun hv8 => ?_)
 have hl4 : x1.Peers.length = x15.Peers.length := Eq.trans lnE (Hv.eq hv7 hv8)
 refine T.nil (T.bN (T.m (T.q (T.r (TL.a rfl (T.nil (T.m ?_)))))))
 refine T.ret ?_
 obtain rfl := Option.some.inj hr
 exact ⟨.inr rfl, _, _, (Res.tmp rfl Res.nil), (.sl (.p p0 (.p p0 (.p p0 (.p p0 (.p p2 (d4))))))), w24, w25, rfl, rfl⟩
 }
 }
 }
 }
 {
 replace hr := iN hr hc19
 refine T.k (T.bN (T.m (T.q (T.r (TL.a rfl (T.nil (T.m ?_)))))))
 refine T.ret ?_
 obtain rfl := Option.some.inj hr
 exact ⟨.inr rfl, _, _, (Res.tmp rfl Res.nil), (.trans (GP.u0D hx6 p0 p0 p0 p0 p0) (.sl (.p p2 (.p p0 (.p p2 (.p p2 (.p p1 (d1)))))))), w2, w3, rfl, rfl⟩
 }
 }
 }
 }
 }
 }
 }
 {
 replace hr := iBN hr hc12
 refine T.q (T.r (TL.a rfl (T.nil (T.m ?_))))
 refine T.ret ?_
 refine T.blkRet ?_
 refine T.thenRet ?_
 obtain rfl := Option.some.inj hr
 exact ⟨.inr rfl, _, _, (Res.tmp rfl Res.nil), (.sl (.p p1 (.p p2 (.p p2 (.p p2 (.p p1 (d1))))))), w2, w3, rfl, rfl⟩
 }
 }
 }
 }
theorem v25zk {Δ : Prims} (g : Env Try.prog Δ) {Ar : List Item} {w : Value} {X : Item} {xs1 : List Bool} [Rdb X w xs1] [Hdr X w xs1.length] {res : List Bool} (hr : v25z xs1 = some res) :
    Sp Try.prog Δ 62 [w] (X :: Ar) (fun v A => A = X :: ow (rC Bool) v res :: Ar) := by
 refine Sp.bd Try.func62 rfl rfl ?_
 obtain ⟨hlen, hr⟩ := cS hr
 obtain rfl := Option.some.inj hr
 refine T.q (T.r (TL.a rfl (T.nil (T.m (T.q (T.q (T.r (TL.mv rfl ?_))))))))
 refine TL.isNil rfl a0 (fun h0 => ?_) ?_
 · refine T.nil ?_
   refine T.m ?_
   refine T.condT rfl ?_
   refine T.q ?_
   refine T.r ?_
   refine TL.a rfl ?_
   refine T.nil ?_
   refine T.m ?_
   refine T.ret ?_
   repeat (refine T.thenRet ?_)
   have e := List.eq_nil_of_length_eq_zero h0
   exact ⟨.inr rfl, _, _, (Res.tmp rfl Res.nil), (.trans (.nilO (rC Bool)) (.sl (.p p1 .e))), by rw [e]; rfl⟩
 · refine T.nil ?_
   refine T.m ?_
   refine T.condF rfl ?_
   refine T.k ?_
   refine T.m ?_
   refine T.q ?_
   refine T.r ?_
   refine TL.lit (α := Bool) rfl rfl rfl rfl [] (fun _ _ _ _ _ => RA.nil) (fun w1 => ?_)
   refine TL.mv rfl ?_
   refine TL.appR rfl p0 a1 (by simpa using hlen) (fun w2 => ?_)
   refine TL.a rfl ?_
   refine T.nil ?_
   refine T.m ?_
   refine T.ret ?_
   exact ⟨.inr rfl, _, _, (Res.tmp rfl Res.nil), (.sl (.p p1 .e)), rfl⟩
theorem v28zk {Δ : Prims} (g : Env Try.prog Δ) {Ar : List Item} {w : Value} {X : Item} {xs1 : List Int} [Rdb X w xs1] [Hdr X w xs1.length] {res : List Int} (hr : v28z xs1 = some res) :
    Sp Try.prog Δ 63 [w] (X :: Ar) (fun v A => A = X :: ow (rC Int) v res :: Ar) := by
 refine Sp.bd Try.func63 rfl rfl ?_
 obtain ⟨hlen, hr⟩ := cS hr
 obtain rfl := Option.some.inj hr
 refine T.q (T.r (TL.a rfl (T.nil (T.m (T.q (T.q (T.r (TL.mv rfl ?_))))))))
 refine TL.isNil rfl a0 (fun h0 => ?_) ?_
 · refine T.nil ?_
   refine T.m ?_
   refine T.condT rfl ?_
   refine T.q ?_
   refine T.r ?_
   refine TL.a rfl ?_
   refine T.nil ?_
   refine T.m ?_
   refine T.ret ?_
   repeat (refine T.thenRet ?_)
   have e := List.eq_nil_of_length_eq_zero h0
   exact ⟨.inr rfl, _, _, (Res.tmp rfl Res.nil), (.trans (.nilO (rC Int)) (.sl (.p p1 .e))), by rw [e]; rfl⟩
 · refine T.nil ?_
   refine T.m ?_
   refine T.condF rfl ?_
   refine T.k ?_
   refine T.m ?_
   refine T.q ?_
   refine T.r ?_
   refine TL.lit (α := Int) rfl rfl rfl rfl [] (fun _ _ _ _ _ => RA.nil) (fun w1 => ?_)
   refine TL.mv rfl ?_
   refine TL.appR rfl p0 a1 (by simpa using hlen) (fun w2 => ?_)
   refine TL.a rfl ?_
   refine T.nil ?_
   refine T.m ?_
   refine T.ret ?_
   exact ⟨.inr rfl, _, _, (Res.tmp rfl Res.nil), (.sl (.p p1 .e)), rfl⟩
theorem v1bzk {Δ : Prims} (g : Env Try.prog Δ) {Ar : List Item} {x1 : GC} {q1 : Nat} {w1 w2 w3 : Value} {res : (GC)} (hr : v1bz x1 = some res) :
    Sp Try.prog Δ 33 [pt q1 0] (box q1 [w1, w2, w3, .bool x1.Conflict] :: ow rGPeer w1 x1.Peers :: ow (rC GM) w2 x1.Net :: ow (rC GR) w3 x1.Chosen :: Ar) (fun v A => ∃ (rw1 : Value) (rw2 : Value) (rw3 : Value), v = .agg [rw1, rw2, rw3, .bool res.Conflict].toArray ∧ A = box q1 [w1, w2, w3, .bool x1.Conflict] :: ow rGPeer w1 x1.Peers :: ow (rC GM) w2 x1.Net :: ow (rC GR) w3 x1.Chosen :: fz rw1 res.Peers :: fz rw2 res.Net :: fz rw3 res.Chosen :: Ar) := by
 refine Sp.bd Try.func33 rfl rfl ?_
 unfold v1bz at hr
 refine T.q (T.r ?_)
 refine TL.al rfl (fun q2 => ?_)
 refine T.nil (T.m (T.q ?_))
 refine T.regionI (fun n1 => [wB q1 [w1, w2, w3, .bool x1.Conflict], wB n1 [.slice none 0 0, .slice none 0 0, .slice none 0 0, .bool false]]) [10, 0, 1, 2, 3, 5, 6, 7, 8, 4, 9, 11] [(false, true, false), (false, false, false), (false, false, false), (false, false, false), (false, false, false), (false, true, false), (false, true, false), (false, true, false), (false, true, false), (true, false, false), (false, false, false), (true, false, true)] false rfl kr kr mP (fun n1 => ?_)
 refine TI.lal Nd.f rfl (.s .z) ?_
 refine TI.op Nd.f ?_
 refine TL.mv rfl ?_
 refine T.nil ⟨rfl, fun n2 => ?_⟩
 refine TI.op Nd.f ?_
 refine TL.nc rfl ?_
 refine T.nil ⟨rfl, fun n3 => ?_⟩
 refine TI.op Nd.f ?_
 refine TL.fa rfl ?_
 refine T.nil ⟨rfl, fun n4 => ?_⟩
 refine TI.op Nd.f ?_
 refine TL.ld rfl a2 rfl ?_
 refine T.nil ⟨rfl, fun n5 => ?_⟩
 refine TI.lt Nd.f rfl (.move (.inl rfl) rfl) ?_
 refine TI.lt Nd.f rfl (.nilCheck rfl rfl) ?_
 refine TI.lfa Nd.f rfl ?_
 refine TI.llb Nd.f rfl a2 .z rfl ?_
 refine TI.op Nd.f ?_
 obtain ⟨x2, hx1, hr⟩ := bS hr
 refine TL.gh (.sl (.p p5 .e)) ?_
 refine TL.c rfl rfl rfl (v1izk g hx1) ?_
 rintro w4 _ rfl
 refine T.nil ⟨rfl, fun n6 => ?_⟩
 refine TI.op Nd.f ?_
 refine TL.bld (cells := [.slice none 0 0, .slice none 0 0, w4, .bool x1.Conflict]) rfl Try.underlying30 info30 rfl rfl rfl (by simp only [List.mapM_cons, List.mapM_nil, info26, info27, info28, info4]; rfl) rfl (.h a1 inferInstance (.s rfl .n)) rfl ?_
 refine T.nil ⟨rfl, fun n7 => ?_⟩
 refine TI.op (.t (.b a4 (.b a2 .n))) ?_
 refine TL.sto (c' := [.slice none 0 0, .slice none 0 0, w4, .bool x1.Conflict]) rfl rfl rfl (.s rfl (.s rfl (.h a1 inferInstance (.s rfl .n)))) e2 rfl (bl rfl) ?_
 refine T.nil ⟨rfl, fun n8 => ?_⟩
 refine TI.nil Nd.f (T.m (T.q (T.q (T.r (TL.mv rfl (TL.nc rfl (TL.fa rfl (TL.ld rfl a4 rfl (TL.len rfl a5 ?_)))))))))
 refine TL.mv rfl (T.nil (T.m (T.b ?_)))
 refine T.lp (fun k0 fr A => ∃ (x3 : Int) (xs1 : (List GP)) (w5 : Value), fr = [(0, pt q1 0), (2, pt q2 0), (3, pt n1 0), (21, w1), (22, iv (x1.Peers.length : Int)), (23, iv x3)] ∧ A = box n1 [w5, .slice none 0 0, w4, .bool x1.Conflict] :: box q2 [.slice none 0 0, .slice none 0 0, .slice none 0 0, .bool false] :: box q1 [w1, w2, w3, .bool x1.Conflict] :: ow rGPeer w1 x1.Peers :: ow (rC GP) w5 xs1 :: ow (rC GR) w4 x2 :: ow (rC GM) w2 x1.Net :: ow (rC GR) w3 x1.Chosen :: Ar ∧ v1cz x1 x2 k0 x3 xs1 = some res) BIG ?_ ?_ ?_
 {
 exact ⟨_, _, (fl6), (.trans (.nilO (rC GP)) (.sl (.p p3 (.p p3 (.p p3 (.p p3 (.p p0 (.p p1 (.p p1 (.p p0 .e)))))))))), 0, ([]), (.slice none 0 0), rfl, rfl, hr⟩
 }
 {
 rintro fr A ⟨x3, xs1, w5, -, -, hr⟩
 rw [v1cz] at hr
 cases hr
 }
 {
 rintro k0 _ _ ⟨x3, xs1, w5, rfl, rfl, hr⟩
 rw [v1cz] at hr
 refine T.q (T.r (TL.bin rfl rfl (T.nil (T.m (T.q ?_)))))
 refine T.cD rfl (fun hc1 => ?_) (fun hc1 => ?_)
 {
 replace hr := iP hr hc1
 refine T.k (T.m (T.q (T.b (T.q (T.r ?_)))))
 obtain ⟨x4, hx2, hr⟩ := bS hr
 refine TL.ixu rfl a3 hx2 (fun b1 el1 hp1 => ?_)
 refine TL.gh (.sl (.p p3 .e)) ?_
 refine GP.foD hp1 hx2 (fun w6 w7 w8 w9 => ?_)
 refine TL.ldfN rfl a0 rfl rfl ?_
 refine TL.al rfl (fun q3 => ?_)
 refine TL.sto (c' := [.bool x4.Up, iv x4.Term, iv x4.Vote, iv x4.Commit, iv x4.Role, w6, w7, w8, w9]) rfl rfl rfl (.s rfl (.s rfl (.s rfl (.s rfl (.s rfl (.h a2 inferInstance (.h a3 inferInstance (.h a4 inferInstance (.h a5 inferInstance .n))))))))) e0 rfl (bl rfl) (T.nil (T.m (T.q ?_)))
 refine T.regionI (fun n9 => [wB q3 [.bool x4.Up, iv x4.Term, iv x4.Vote, iv x4.Commit, iv x4.Role, w6, w7, w8, w9]]) [0, 1, 3, 4, 6, 7, 9, 10, 2, 5, 8, 11, 12, 13, 14, 15, 16, 17, 18, 19] [(false, false, false), (false, false, false), (false, true, false), (false, true, false), (false, true, false), (false, true, false), (false, true, false), (false, true, false), (true, false, false), (false, false, false), (false, false, false), (false, false, false), (false, false, false), (true, false, true), (false, false, false), (true, false, false), (false, false, false), (true, false, false), (false, false, false), (true, false, false)] false rfl kr kr mP (fun n9 => ?_)
 refine TI.op Nd.f ?_
 refine TL.fa rfl ?_
 refine T.nil ⟨rfl, fun n10 => ?_⟩
 refine TI.op Nd.f ?_
 refine TL.ld rfl a0 rfl ?_
 refine T.nil ⟨rfl, fun n11 => ?_⟩
 refine TI.lfa Nd.f rfl ?_
 refine TI.llb Nd.f rfl a0 .z rfl ?_
 refine TI.lfa Nd.f rfl ?_
 refine TI.llb Nd.f rfl a0 .z rfl ?_
 refine TI.lfa Nd.f rfl ?_
 refine TI.llb Nd.f rfl a0 .z rfl ?_
 refine TI.op Nd.f ?_
 obtain ⟨x5, hx3, hr⟩ := bS hr
 refine TL.gh (.sl (.p p2 .e)) ?_
 refine TL.c rfl rfl rfl (v1izk g hx3) ?_
 rintro w10 _ rfl
 refine T.nil ⟨rfl, fun n12 => ?_⟩
 refine TI.op Nd.f ?_
 obtain ⟨x6, hx4, hr⟩ := bS hr
 refine TL.callL g rfl rfl rfl (.z (v := w7) a4 inferInstance .n) (v25zk g (Ar := []) (w := w7) (X := fz w7 x4.Votes) hx4) (R2 := fun v A => A = [ow (rC Bool) v x6]) (fun _ _ h => ⟨_, by subst h; exact Sl.ent (.p p1 d1), .c inferInstance .n, rfl⟩) ?_
 rintro w11 _ rfl
 simp only [List.cons_append, List.nil_append]
 refine T.nil ⟨rfl, fun n13 => ?_⟩
 refine TI.op Nd.f ?_
 obtain ⟨x7, hx5, hr⟩ := bS hr
 refine TL.callL g rfl rfl rfl (.z (v := w8) a6 inferInstance .n) (v28zk g (Ar := []) (w := w8) (X := fz w8 x4.Next) hx5) (R2 := fun v A => A = [ow (rC Int) v x7]) (fun _ _ h => ⟨_, by subst h; exact Sl.ent (.p p1 d1), .c inferInstance .n, rfl⟩) ?_
 rintro w12 _ rfl
 simp only [List.cons_append, List.nil_append]
 refine T.nil ⟨rfl, fun n14 => ?_⟩
 refine TI.op Nd.f ?_
 obtain ⟨x8, hx6, hr⟩ := bS hr
 refine TL.callL g rfl rfl rfl (.z (v := w9) a8 inferInstance .n) (v28zk g (Ar := []) (w := w9) (X := fz w9 x4.Match) hx6) (R2 := fun v A => A = [ow (rC Int) v x8]) (fun _ _ h => ⟨_, by subst h; exact Sl.ent (.p p1 d1), .c inferInstance .n, rfl⟩) ?_
 rintro w13 _ rfl
 simp only [List.cons_append, List.nil_append]
 refine T.nil ⟨rfl, fun n15 => ?_⟩
 refine TI.op Nd.f ?_
 refine TL.fa rfl ?_
 refine T.nil ⟨rfl, fun n16 => ?_⟩
 refine TI.op (.t (.b a5 .n)) ?_
 refine TL.sts rfl a4 e5 c5 ?_
 refine T.nil ⟨rfl, fun n17 => ?_⟩
 refine TI.op Nd.f ?_
 refine TL.fa rfl ?_
 refine T.nil ⟨rfl, fun n18 => ?_⟩
 refine TI.op Nd.f ?_
 refine TL.sts rfl a2 e5 c6 ?_
 refine T.nil ⟨rfl, fun n19 => ?_⟩
 refine TI.op Nd.f ?_
 refine TL.fa rfl ?_
 refine T.nil ⟨rfl, fun n20 => ?_⟩
 refine TI.op Nd.f ?_
 refine TL.sts rfl a1 e5 c7 ?_
 refine T.nil ⟨rfl, fun n21 => ?_⟩
 refine TI.op Nd.f ?_
 refine TL.fa rfl ?_
 refine T.nil ⟨rfl, fun n22 => ?_⟩
 refine TI.op Nd.f ?_
 refine TL.sts rfl a0 e5 c8 ?_
 refine T.nil ⟨rfl, fun n23 => ?_⟩
 refine TI.nil Nd.f (T.m (T.r (TL.fa rfl (TL.ld rfl a10 rfl ?_))))
 refine TL.ldN (l' := [.bool x4.Up, iv x4.Term, iv x4.Vote, iv x4.Commit, iv x4.Role, w10, w11, w12, w13]) rfl a5 rfl rfl ?_
 refine TL.gh (.trans (.frz p4) (.trans (.frz p3) (.trans (.frz p3) (.frz p3)))) ?_
 refine TL.gh (GP.mkV (s0 := x4.Up) (s1 := x4.Term) (s2 := x4.Vote) (s3 := x4.Commit) (s4 := x4.Role) a3 a2 a1 a0) ?_
 refine TL.lit1 rfl rfl p0 (fun w14 => ?_)
 obtain ⟨hc2, hr⟩ := cS hr
 refine TL.appR rfl p14 a0 hc2 (fun w15 => ?_)
 refine TL.fa rfl ?_
 refine TL.sts rfl a0 e12 c0 (T.nil (T.bN (T.m (T.r ?_))))
 obtain ⟨hc3, hr⟩ := cS hr
 refine TL.ad rfl hc3 (TL.mv rfl (T.nil (T.m ?_)))
 exact ⟨_, _, (fl6), (.trans (GP.u0D hx2 p8 p6 p7 p7 p7) (.sl (.p p8 (.p p8 (.p p8 (.p p0 (.p p0 (.p p6 (.p p6 (.p p6 (d6))))))))))), (x3 + 1), (xs1 ++ ([({ Up := x4.Up, Term := x4.Term, Vote := x4.Vote, Commit := x4.Commit, Role := x4.Role, Log := x5, Votes := x6, Next := x7, Match := x8 } : GP)] : List GP)), w15, rfl, rfl, hr⟩
 }
 {
 replace hr := iN hr hc1
 refine T.exit ?_
 refine T.tE (T.tE (T.bH (T.m (T.q (T.q (T.r (TL.mv rfl (TL.nc rfl (TL.fa rfl ?_)))))))))
 refine TL.ld rfl a2 rfl (TL.len rfl a6 (TL.mv rfl (T.nil (T.m (T.b ?_)))))
 refine T.lp (fun k1 fr A => ∃ (x9 : Int) (xs2 : (List GM)) (w16 : Value), fr = [(2, pt q2 0), (3, pt n1 0), (53, w2), (54, iv (x1.Net.length : Int)), (55, iv x9)] ∧ A = box n1 [w5, w16, w4, .bool x1.Conflict] :: box q2 [.slice none 0 0, .slice none 0 0, .slice none 0 0, .bool false] :: box q1 [w1, w2, w3, .bool x1.Conflict] :: ow (rC GM) w2 x1.Net :: ow (rC GP) w5 xs1 :: ow (rC GM) w16 xs2 :: ow (rC GR) w4 x2 :: ow rGPeer w1 x1.Peers :: ow (rC GR) w3 x1.Chosen :: Ar ∧ v1dz x1 xs1 x2 k1 x9 xs2 = some res) BIG ?_ ?_ ?_
 {
 exact ⟨_, _, (fl5), (.trans (.nilO (rC GM)) (.sl (.p p1 (.p p1 (.p p1 (.p p4 (.p p2 (.p p0 (.p p1 (.p p0 (.p p0 .e))))))))))), 0, ([]), (.slice none 0 0), rfl, rfl, hr⟩
 }
 {
 rintro fr A ⟨x9, xs2, w16, -, -, hr⟩
 rw [v1dz] at hr
 cases hr
 }
 {
 rintro k1 _ _ ⟨x9, xs2, w16, rfl, rfl, hr⟩
 rw [v1dz] at hr
 refine T.q (T.r (TL.bin rfl rfl (T.nil (T.m (T.q ?_)))))
 refine T.cD rfl (fun hc4 => ?_) (fun hc4 => ?_)
 {
 replace hr := iP hr hc4
 refine T.k (T.m (T.q (T.b (T.q (T.r ?_)))))
 obtain ⟨x10, hx7, hr⟩ := bS hr
 refine TL.ixu rfl a3 hx7 (fun b2 e8899 hp2 => ?_)
 refine TL.gh (.sl (.p p3 .e)) ?_
 refine GM.fo hp2 hx7 (fun w17 => ?_)
 refine TL.ldfN rfl a0 rfl rfl ?_
 refine TL.al rfl (fun q4 => ?_)
 refine TL.sto (c' := [iv x10.Kind, iv x10.From, iv x10.To, iv x10.Term, iv x10.A, iv x10.B, iv x10.C, .bool x10.Ok, w17]) rfl rfl rfl (.s rfl (.s rfl (.s rfl (.s rfl (.s rfl (.s rfl (.s rfl (.s rfl (.h a2 inferInstance .n))))))))) e0 rfl (bl rfl) (T.nil (T.m (T.rD [0, 1, 2, 3, 4, 5, 6, 7] [false, false, false, false, false, true, false, true] rfl rfl kr kr mP (TL.fa rfl (TL.ld rfl a3 rfl ?_)))))
 refine TL.ldN (l' := [iv x10.Kind, iv x10.From, iv x10.To, iv x10.Term, iv x10.A, iv x10.B, iv x10.C, .bool x10.Ok, w17]) rfl a0 rfl rfl ?_
 obtain ⟨x11, hx8, hr⟩ := bS hr
 refine TL.callR g rfl rfl rfl (Pz.out (.c a2 Pers.rC .n)) (v0zk g (Ar := []) hx8) ?_
 rintro _ _ ⟨w18, rfl, rfl⟩
 simp only [List.cons_append, List.nil_append]
 refine TL.gh (GM.mkV (s0 := x11.Kind) (s1 := x11.From) (s2 := x11.To) (s3 := x11.Term) (s4 := x11.A) (s5 := x11.B) (s6 := x11.C) (s7 := x11.Ok) a1) ?_
 refine TL.lit1 rfl rfl p0 (fun w19 => ?_)
 obtain ⟨hc5, hr⟩ := cS hr
 refine TL.appR rfl p10 a0 hc5 (fun w20 => ?_)
 refine TL.fa rfl ?_
 refine TL.sts rfl a0 e7 c1 (T.nil (T.bN (T.m (T.r ?_))))
 obtain ⟨hc6, hr⟩ := cS hr
 refine TL.ad rfl hc6 (TL.mv rfl (T.nil (T.m ?_)))
 exact ⟨_, _, (fl5), (.trans (GM.u0 hx7 p5 a2) (.sl (.p p7 (.p p7 (.p p7 (.p p0 (.p p6 (.p p0 (.p p5 (.p p5 (.p p5 (d5)))))))))))), (x9 + 1), (xs2 ++ ([({ Kind := x11.Kind, From := x11.From, To := x11.To, Term := x11.Term, A := x11.A, B := x11.B, C := x11.C, Ok := x11.Ok, Log := x11.Log } : GM)] : List GM)), w20, rfl, rfl, hr⟩
 }
 {
 replace hr := iN hr hc4
 refine T.exit ?_
 refine T.tE (T.tE (T.bH (T.m (T.q (T.r (TL.ldN (l' := [w5, w16, w4, .bool x1.Conflict]) rfl a0 rfl rfl (TL.sto (c' := [w5, w16, w4, .bool x1.Conflict]) rfl rfl rfl (.h a4 inferInstance (.h a5 inferInstance (.h a6 inferInstance (.s rfl .n)))) e1 rfl (bl rfl) (T.nil (T.m ?_)))))))))
 refine T.ret ?_
 obtain rfl := Option.some.inj hr
 exact ⟨.inr rfl, _, _, (Res.cellN rfl a1 rfl rfl Res.nil), (.trans (.frz p4) (.trans (.frz p5) (.trans (.frz p6) (.sl (.p p5 (.p p6 (.p p5 (.p p5 (.p p2 (.p p1 (.p p0 (d2)))))))))))), w5, w16, w4, rfl, rfl⟩
 }
 }
 }
 }
theorem v5zk {Δ : Prims} (g : Env Try.prog Δ) {Ar : List Item} {x1 : Int} {xs1 : (List GE)} {w1 : Value} {res : (GC × (List Int) × Int)} (hr : v5z x1 xs1 = some res) :
    Sp Try.prog Δ 8 [iv x1, w1] (fz w1 xs1 :: Ar) (fun v A => ∃ (rw1 : Value) (rw2 : Value) (rw3 : Value) (rw4 : Value), v = .tuple #[.agg [rw1, rw2, rw3, .bool res.1.Conflict].toArray, rw4, iv res.2.2] ∧ A = fz w1 xs1 :: fz rw1 res.1.Peers :: fz rw2 res.1.Net :: fz rw3 res.1.Chosen :: ow (rC Int) rw4 res.2.1 :: Ar) := by
 refine Sp.bd Try.func8 rfl rfl ?_
 unfold v5z at hr
 refine T.q (T.r ?_)
 refine TL.al rfl (fun q1 => ?_)
 refine TL.a rfl (TL.a rfl (T.nil (T.m (T.q (T.q (T.r (TL.mv rfl (TL.len rfl a1 ?_))))))))
 obtain ⟨x2, hx1, hr⟩ := bS hr
 refine TL.c rfl rfl rfl (v1mzk g hx1) ?_
 rintro _ _ ⟨rfl, rfl⟩
 refine TL.mv rfl ?_
 obtain ⟨x3, hx2, hr⟩ := bS hr
 refine TL.c rfl rfl rfl (v1szk g hx2) ?_
 rintro _ _ ⟨rfl, rfl⟩
 obtain ⟨x4, hx3, hr⟩ := bS hr
 refine TL.c rfl rfl rfl (v1rzk g hx3) ?_
 rintro _ _ ⟨rfl, rfl⟩
 refine TL.mv rfl (TL.len rfl a1 (TL.bin rfl rfl ?_))
 obtain ⟨x5, hx4, hr⟩ := bS hr
 refine TL.c rfl rfl rfl (v1rzk g hx4) ?_
 rintro _ _ ⟨rfl, rfl⟩
 refine TL.lit (α := Int) rfl rfl rfl rfl ([x2, x4, x5] : List Int) (fun _ _ _ _ _ => (RA.cons (cs := [iv x2]) (a := (x2 : Int)) rfl (RA.cons (cs := [iv x4]) (a := (x4 : Int)) rfl (RA.cons (cs := [iv x5]) (a := (x5 : Int)) rfl RA.nil)))) (fun w2 => ?_)
 obtain ⟨x6, hx5, hr⟩ := bS hr
 refine TL.callL g rfl rfl rfl (.z (v := w2) a0 inferInstance .n) (v1kzk g (Ar := []) hx5) (R2 := fun v A => v = iv x6 ∧ A = []) (fun _ _ h => ⟨[], by obtain ⟨_, rfl⟩ := h; exact Sl.ent d1, .n, h.1, rfl⟩) ?_
 rintro _ _ ⟨rfl, rfl⟩
 simp only [List.cons_append, List.nil_append]
 refine TL.a rfl (T.nil (T.m (T.q (T.r (TL.mv rfl (TL.bin rfl rfl (T.nil (T.m ?_))))))))
 refine T.condN rfl (fun hc1 => ?_) (fun hc1 => ?_)
 {
 replace hr := iN hr hc1
 refine T.q (T.r ?_)
 refine TL.bld (cells := [.slice none 0 0, .slice none 0 0, .slice none 0 0, .bool false]) rfl Try.underlying30 info30 rfl rfl rfl (by simp only [List.mapM_cons, List.mapM_nil, info26, info27, info28, info4]; rfl) rfl .n rfl ?_
 refine TL.mv rfl (TL.sto (c' := [.slice none 0 0, .slice none 0 0, .slice none 0 0, .bool false]) rfl rfl rfl (.s rfl (.s rfl (.s rfl (.s rfl .n)))) e1 rfl (bl rfl) (TL.a rfl (TL.a rfl (T.nil (T.m ?_)))))
 refine T.ret ?_
 refine T.thenRet ?_
 obtain rfl := Option.some.inj hr
 exact ⟨.inr rfl, _, _, (Res.cellN rfl a1 rfl rfl (Res.tmp rfl (Res.tmp rfl Res.nil))), (.trans (.nilZ GP) (.trans (.nilZ GM) (.trans (.nilZ GR) (.trans (.nilO (rC Int)) (.sl (.p p6 (.p p3 (.p p2 (.p p1 (.p p0 (d2))))))))))), (.slice none 0 0), (.slice none 0 0), (.slice none 0 0), (.slice none 0 0), rfl, rfl⟩
 }
 {
 replace hr := iP hr hc1
 refine T.k (T.m (T.q (T.r (TL.mv rfl ?_))))
 obtain ⟨x7, hx6, hr⟩ := bS hr
 refine TL.c rfl rfl rfl (v1ozk g hx6) ?_
 rintro _ _ ⟨q2, w3, w4, w5, rfl, rfl⟩
 refine TL.lit (α := Int) rfl rfl rfl rfl ([] : List Int) (fun _ _ _ _ _ => RA.nil) (fun w6 => ?_)
 refine TL.a rfl (TL.a rfl (T.nil (T.m (T.q (T.q (T.r (TL.mv rfl (TL.len rfl a7 (TL.mv rfl ?_)))))))))
 refine T.nil (T.m (T.b ?_))
 refine T.lp (fun k0 fr A => ∃ (xs2 : (List Int)) (x8 : Int) (xs3 : (List GP)) (xs4 : (List GM)) (xs5 : (List GR)) (x9 : Bool) (w7 : Value) (w8 : Value) (w9 : Value), x7.Peers.length = xs3.length ∧ fr = [(4, pt q1 0), (8, pt q2 0), (9, w7), (31, w1), (32, iv (xs1.length : Int)), (33, iv x8)] ∧ A = box q1 [.slice none 0 0, .slice none 0 0, .slice none 0 0, .bool false] :: box q2 [w3, w8, w9, .bool x9] :: ow (rC Int) w7 xs2 :: fz w1 xs1 :: ow rGPeer w3 xs3 :: ow (rC GM) w8 xs4 :: ow (rC GR) w9 xs5 :: Ar ∧ v6z xs1 k0 xs2 x8 xs3 xs4 xs5 x9 = some res) BIG ?_ ?_ ?_
 {
 exact ⟨_, _, (fl6), (.sl (.p p6 (.p p1 (.p p0 (.p p4 (.p p0 (.p p0 (.p p0 (d1))))))))), ([] : List Int), 0, x7.Peers, x7.Net, x7.Chosen, x7.Conflict, w6, w4, w5, lnE, rfl, rfl, hr⟩
 }
 {
 rintro fr A ⟨xs2, x8, xs3, xs4, xs5, x9, w7, w8, w9, hl1, -, -, hr⟩
 rw [v6z] at hr
 cases hr
 }
 {
 rintro k0 _ _ ⟨xs2, x8, xs3, xs4, xs5, x9, w7, w8, w9, hl1, rfl, rfl, hr⟩
 rw [v6z] at hr
 refine T.q (T.r (TL.bin rfl rfl (T.nil (T.m (T.q ?_)))))
 refine T.cD rfl (fun hc2 => ?_) (fun hc2 => ?_)
 {
 replace hr := iP hr hc2
 refine T.k (T.m (T.q (T.b (T.q (T.r ?_)))))
 obtain ⟨x10, hx7, hr⟩ := bS hr
 refine TL.ixu rfl a3 hx7 (fun b1 e2268 hp1 => ?_)
 refine GE.ex a3 hp1 hx7 (fun w10 => ?_)
 refine TL.ldgN rfl a0 rfl ?_
 refine TL.al rfl (fun q3 => ?_)
 refine TL.sto (c' := [iv x10.Kind, iv x10.N, w10]) rfl rfl rfl (.s rfl (.s rfl (.h a2 inferInstance .n))) e0 rfl (bl rfl) (T.nil (T.m (T.r (TL.mv rfl (TL.mv rfl (TL.ldN (l' := [iv x10.Kind, iv x10.N, w10]) rfl a0 rfl rfl ?_))))))
 obtain ⟨x11, hx8, hr⟩ := bS hr
 refine TL.gh (.sl (.p p4 (.p p6 (.p p6 (.p p6 (.p p2 .e)))))) ?_
 refine TL.hv (v := w3) a1 (fun hv1 => ?_)
 refine TL.c rfl rfl rfl (vtzk g hx8) ?_
 rintro _ _ ⟨w11, w12, rfl, rfl⟩
 refine TL.hv (v := w3) a1 (fun hv2 => ?_)
 have hl2 : x7.Peers.length = x11.1.Peers.length := Eq.trans lnE (Hv.eq hv1 hv2)
 refine TL.lit (α := Int) rfl rfl rfl rfl ([x11.2] : List Int) (fun _ _ _ _ _ => (RA.cons (cs := [iv x11.2]) (a := (x11.2 : Int)) rfl RA.nil)) (fun w13 => ?_)
 obtain ⟨hc3, hr⟩ := cS hr
 refine TL.appR rfl p9 a0 hc3 (fun w14 => ?_)
 refine TL.a rfl (T.nil (T.bN (T.m (T.r ?_))))
 obtain ⟨hc4, hr⟩ := cS hr
 refine TL.ad rfl hc4 (TL.mv rfl (T.nil (T.m ?_)))
 exact ⟨_, _, (fl6), (.sl (.p p9 (.p p2 (.p p0 (.p p7 (.p p1 (.p p1 (.p p1 (d4))))))))), (xs2 ++ ([x11.2] : List Int)), (x8 + 1), x11.1.Peers, x11.1.Net, x11.1.Chosen, x11.1.Conflict, w14, w11, w12, lnE, rfl, rfl, hr⟩
 }
 {
 replace hr := iN hr hc2
 refine T.exit ?_
 refine T.tE (T.tE (T.bH (T.m (T.q (T.r (TL.mv rfl ?_))))))
 obtain ⟨x12, hx9, hr⟩ := bS hr
 refine TL.gh (.sl (.p p1 (.p p3 (.p p3 (.p p3 .e))))) ?_
 refine TL.c rfl rfl rfl (v1bzk g hx9) ?_
 rintro _ _ ⟨w15, w16, w17, rfl, rfl⟩
 refine TL.mv rfl (TL.sto (c' := [w15, w16, w17, .bool x12.Conflict]) rfl rfl rfl (.h a4 inferInstance (.h a5 inferInstance (.h a6 inferInstance (.s rfl .n)))) e7 rfl (bl rfl) (TL.a rfl (TL.a rfl (T.nil (T.m ?_)))))
 refine T.ret ?_
 obtain rfl := Option.some.inj hr
 exact ⟨.inr rfl, _, _, (Res.cellN rfl a7 rfl rfl (Res.tmp rfl (Res.tmp rfl Res.nil))), (.sl (.p p9 (.p p4 (.p p4 (.p p4 (.p p5 (d5))))))), w15, w16, w17, w7, rfl, rfl⟩
 }
 }
 }
theorem v3ezk {Δ : Prims} (g : Env Try.prog Δ) {Ar : List Item} {x1 : Int} {res : (GL)} (hr : v3ez x1 = some res) :
    Sp Try.prog Δ 37 [iv x1] (Ar) (fun v A => ∃ (rq1 : Nat) (rw1 : Value) (rw2 : Value) (rw3 : Value), v = pt rq1 0 ∧ A = box rq1 [rw1, rw2, rw3, .bool res.c.Conflict] :: ow rGPeer rw1 res.c.Peers :: ow (rC GM) rw2 res.c.Net :: ow (rC GR) rw3 res.c.Chosen :: Ar) := by
 refine Sp.bd Try.func37 rfl rfl ?_
 unfold v3ez at hr
 refine T.q (T.r (TL.a rfl (T.nil (T.m (T.q (T.r ?_))))))
 refine TL.bld (cells := [.slice none 0 0, .slice none 0 0, .slice none 0 0, .bool false]) rfl Try.underlying71 info71 rfl rfl rfl (by simp only [List.mapM_cons, List.mapM_nil, info30]; rfl) rfl .n rfl ?_
 refine TL.bxo rfl rfl (.s rfl (.s rfl (.s rfl (.s rfl .n)))) (fun q1 => ?_)
 refine TL.a rfl (T.nil (T.m (T.q (T.q (T.r (TL.a rfl (T.nil (T.m (T.b ?_)))))))))
 refine T.lp (fun k0 fr A => ∃ (x2 : Int) (xs1 : (List GP)) (w1 : Value), fr = [(0, iv x1), (3, pt q1 0), (4, iv x2)] ∧ A = box q1 [w1, .slice none 0 0, .slice none 0 0, .bool false] :: ow rGPeer w1 xs1 :: Ar ∧ v3fz x1 k0 x2 xs1 = some res) BIG ?_ ?_ ?_
 {
 exact ⟨_, _, (fl3), (.trans (.nilO rGPeer) (.sl (.p p1 (.p p0 .e)))), 0, ([]), (.slice none 0 0), rfl, rfl, hr⟩
 }
 {
 rintro fr A ⟨x2, xs1, w1, -, -, hr⟩
 rw [v3fz] at hr
 cases hr
 }
 {
 rintro k0 _ _ ⟨x2, xs1, w1, rfl, rfl, hr⟩
 rw [v3fz] at hr
 refine T.q (T.q (T.r (TL.mv rfl (TL.mv rfl (TL.bin rfl rfl (T.nil (T.m ?_)))))))
 refine T.cD rfl (fun hc1 => ?_) (fun hc1 => ?_)
 {
 replace hr := iP hr hc1
 refine T.k (T.m (T.q (T.b (T.r (TL.mv rfl (TL.mv rfl (TL.nc rfl (TL.fa rfl (TL.fa rfl ?_)))))))))
 refine TL.ld rfl a0 rfl ?_
 refine TL.bld (cells := [.bool true, iv 0, iv 0, iv 0, iv 0, .slice none 0 0, .slice none 0 0, .slice none 0 0, .slice none 0 0]) rfl Try.underlying42 info42 rfl rfl rfl (by simp only [List.mapM_cons, List.mapM_nil, info4, info3, info3, info3, info3, info28, info40, info31, info31]; rfl) rfl (.s rfl .n) rfl ?_
 refine TL.gh (GP.nilD (s0 := true) (s1 := 0) (s2 := 0) (s3 := 0) (s4 := 0)) ?_
 refine TL.lit1 rfl rfl p0 (fun w2 => ?_)
 obtain ⟨hc2, hr⟩ := cS hr
 refine TL.app rfl p2 p0 hc2 (fun w3 => ?_)
 refine TL.nc rfl (TL.fa rfl (TL.fa rfl ?_))
 refine TL.sts rfl a0 e1 c0 (T.nil (T.bN (T.m (T.r (TL.mv rfl ?_)))))
 obtain ⟨hc3, hr⟩ := cS hr
 refine TL.ad rfl hc3 (TL.a rfl (T.nil (T.m ?_)))
 exact ⟨_, _, (fl3), (.sl (.p p1 (.p p0 .e))), (x2 + 1), (xs1 ++ [({ Up := true, Term := 0, Vote := 0, Commit := 0, Role := 0, Log := [], Votes := [], Next := [], Match := [] } : GP)]), w3, rfl, rfl, hr⟩
 }
 {
 replace hr := iN hr hc1
 refine T.exit ?_
 refine T.tE (T.tE (T.bH (T.m (T.q (T.r (TL.mv rfl (TL.a rfl (T.nil (T.m ?_)))))))))
 refine T.ret ?_
 obtain rfl := Option.some.inj hr
 exact ⟨.inr rfl, _, _, (Res.tmp rfl Res.nil), (.trans (.nilO (rC GM)) (.trans (.nilO (rC GR)) (.sl (.p p2 (.p p2 (.p p1 (.p p0 .e))))))), q1, w1, (.slice none 0 0), (.slice none 0 0), rfl, rfl⟩
 }
 }
theorem v4rzk {Δ : Prims} (g : Env Try.prog Δ) {Ar : List Item} {x1 : GL} {q1 : Nat} {w1 w2 w3 : Value} {x2 : Int} {res : (GL × GM)} (hr : v4rz x1 x2 = some res) :
    Sp Try.prog Δ 70 [pt q1 0, iv x2] (box q1 [w1, w2, w3, .bool x1.c.Conflict] :: ow rGPeer w1 x1.c.Peers :: ow (rC GM) w2 x1.c.Net :: ow (rC GR) w3 x1.c.Chosen :: Ar) (fun v A => ∃ (rw1 : Value) (rw2 : Value) (rw3 : Value), v = .agg [iv res.2.Kind, iv res.2.From, iv res.2.To, iv res.2.Term, iv res.2.A, iv res.2.B, iv res.2.C, .bool res.2.Ok, rw3].toArray ∧ A = box q1 [w1, rw1, rw2, .bool res.1.c.Conflict] :: ow rGPeer w1 res.1.c.Peers :: ow (rC GM) rw1 res.1.c.Net :: ow (rC GR) rw2 res.1.c.Chosen :: fz rw3 res.2.Log :: Ar) := by
 refine Sp.bd Try.func70 rfl rfl ?_
 unfold v4rz at hr
 refine T.q (T.r ?_)
 refine TL.al rfl (fun q2 => ?_)
 refine T.nil (T.m (T.q (T.r (TL.mv rfl (TL.nc rfl (TL.fa rfl (TL.fa rfl (TL.ld rfl a1 rfl (TL.mv rfl ?_)))))))))
 obtain ⟨x3, hx1, hr⟩ := bS hr
 refine TL.ixu rfl a3 hx1 (fun b1 e54 hp1 => ?_)
 refine TL.gh (.sl (.p p3 .e)) ?_
 refine GM.fo hp1 hx1 (fun w4 => ?_)
 refine TL.ldfN rfl a0 rfl rfl ?_
 refine TL.al rfl (fun q3 => ?_)
 refine TL.sto (c' := [iv x3.Kind, iv x3.From, iv x3.To, iv x3.Term, iv x3.A, iv x3.B, iv x3.C, .bool x3.Ok, w4]) rfl rfl rfl (.s rfl (.s rfl (.s rfl (.s rfl (.s rfl (.s rfl (.s rfl (.s rfl (.h a2 inferInstance .n))))))))) e0 rfl (bl rfl) (T.nil (T.m (T.q ?_)))
 refine T.regionI (fun n1 => []) [0, 1, 2, 3, 4, 5, 6, 7, 8, 9, 10, 11, 12, 13, 14, 15, 16, 17, 18, 19, 20, 21, 22] [(false, true, false), (false, false, false), (false, false, false), (false, false, false), (false, false, false), (false, false, false), (false, false, false), (false, false, false), (false, false, false), (false, false, false), (false, false, false), (false, false, false), (false, false, false), (false, false, false), (false, false, false), (false, false, false), (false, false, false), (false, false, false), (true, false, false), (false, false, false), (false, false, false), (false, false, false), (true, false, true)] false rfl kr kr mP (fun n1 => ?_)
 refine TI.lt Nd.f rfl (.move (.inl rfl) rfl) ?_
 refine TI.op Nd.f ?_
 refine TL.lit0 (α := GM) rfl (fun p99 => ?_)
 refine T.nil ⟨rfl, fun n2 => ?_⟩
 refine TI.op Nd.f ?_
 refine TL.mv rfl ?_
 refine T.nil ⟨rfl, fun n3 => ?_⟩
 refine TI.op Nd.f ?_
 refine TL.nc rfl ?_
 refine T.nil ⟨rfl, fun n4 => ?_⟩
 refine TI.op Nd.f ?_
 refine TL.fa rfl ?_
 refine T.nil ⟨rfl, fun n5 => ?_⟩
 refine TI.op Nd.f ?_
 refine TL.fa rfl ?_
 refine T.nil ⟨rfl, fun n6 => ?_⟩
 refine TI.op Nd.f ?_
 refine TL.ld rfl a5 rfl ?_
 refine T.nil ⟨rfl, fun n7 => ?_⟩
 refine TI.op Nd.f ?_
 refine TL.mv rfl ?_
 refine T.nil ⟨rfl, fun n8 => ?_⟩
 refine TI.op Nd.f ?_
 obtain ⟨xs1, hxs107, hr⟩ := bS hr
 refine TL.gh (GM.u0 hx1 p2 a2) ?_
 refine TL.slr rfl a0 rfl ⟨_, rfl⟩ hxs107 (fun w5 _ _ => ?_)
 refine T.nil ⟨rfl, fun n9 => ?_⟩
 refine TI.op Nd.f ?_
 obtain ⟨hc1, hr⟩ := cS hr
 refine TL.appZ rfl p1 a0 hc1 (fun w6 => ?_)
 refine T.nil ⟨rfl, fun n10 => ?_⟩
 refine TI.op Nd.f ?_
 refine TL.mv rfl ?_
 refine T.nil ⟨rfl, fun n11 => ?_⟩
 refine TI.op Nd.f ?_
 refine TL.nc rfl ?_
 refine T.nil ⟨rfl, fun n12 => ?_⟩
 refine TI.op Nd.f ?_
 refine TL.fa rfl ?_
 refine T.nil ⟨rfl, fun n13 => ?_⟩
 refine TI.op Nd.f ?_
 refine TL.fa rfl ?_
 refine T.nil ⟨rfl, fun n14 => ?_⟩
 refine TI.op Nd.f ?_
 refine TL.ld rfl a5 rfl ?_
 refine T.nil ⟨rfl, fun n15 => ?_⟩
 refine TI.op Nd.f ?_
 refine TL.mv rfl ?_
 refine T.nil ⟨rfl, fun n16 => ?_⟩
 refine TI.op Nd.f ?_
 obtain ⟨hc2, hr⟩ := cS hr
 refine TL.ad rfl hc2 ?_
 refine T.nil ⟨rfl, fun n17 => ?_⟩
 refine TI.op Nd.f ?_
 obtain ⟨xs2, hxs150, hr⟩ := bS hr
 refine TL.slr rfl a1 ⟨_, rfl⟩ rfl hxs150 (fun w7 _ _ => ?_)
 refine T.nil ⟨rfl, fun n18 => ?_⟩
 refine TI.op Nd.f ?_
 obtain ⟨hc3, hr⟩ := cS hr
 refine TL.appR rfl p0 a1 hc3 (fun w8 => ?_)
 refine T.nil ⟨rfl, fun n19 => ?_⟩
 refine TI.op Nd.f ?_
 refine TL.nc rfl ?_
 refine T.nil ⟨rfl, fun n20 => ?_⟩
 refine TI.op Nd.f ?_
 refine TL.fa rfl ?_
 refine T.nil ⟨rfl, fun n21 => ?_⟩
 refine TI.op Nd.f ?_
 refine TL.fa rfl ?_
 refine T.nil ⟨rfl, fun n22 => ?_⟩
 refine TI.op (.t .n) ?_
 refine TL.sts rfl a0 e5 c1 ?_
 refine T.nil ⟨rfl, fun n23 => ?_⟩
 refine TI.nil Nd.f (T.m (T.q (T.r (TL.ldN (l' := [iv x3.Kind, iv x3.From, iv x3.To, iv x3.Term, iv x3.A, iv x3.B, iv x3.C, .bool x3.Ok, w4]) rfl a2 rfl rfl (TL.sto (c' := [iv x3.Kind, iv x3.From, iv x3.To, iv x3.Term, iv x3.A, iv x3.B, iv x3.C, .bool x3.Ok, w4]) rfl rfl rfl (.s rfl (.s rfl (.s rfl (.s rfl (.s rfl (.s rfl (.s rfl (.s rfl (.h a3 inferInstance .n))))))))) e4 rfl (bl rfl) (T.nil (T.m ?_)))))))
 refine T.ret ?_
 obtain rfl := Option.some.inj hr
 exact ⟨.inr rfl, _, _, (Res.cellN rfl a4 rfl rfl Res.nil), (.sl (.p p5 (.p p5 (.p p0 (.p p4 (.p p2 (d3))))))), w8, w3, w4, rfl, rfl⟩
theorem v4bzk {Δ : Prims} (g : Env Try.prog Δ) {Ar : List Item} {x1 : GL} {q1 : Nat} {w1 w2 w3 : Value} {x2 x3 : Int} {res : (GL)} (hr : v4bz x1 x2 x3 = some res) :
    Sp Try.prog Δ 103 [pt q1 0, iv x2, iv x3] (box q1 [w1, w2, w3, .bool x1.c.Conflict] :: ow rGPeer w1 x1.c.Peers :: ow (rC GM) w2 x1.c.Net :: ow (rC GR) w3 x1.c.Chosen :: Ar) (fun v A => ∃ (rw1 : Value) (rw2 : Value), v = .tuple #[] ∧ A = box q1 [w1, rw1, rw2, .bool res.c.Conflict] :: ow rGPeer w1 res.c.Peers :: ow (rC GM) rw1 res.c.Net :: ow (rC GR) rw2 res.c.Chosen :: Ar) := by
 refine Sp.bd Try.func103 rfl rfl ?_
 unfold v4bz at hr
 refine T.q (T.r (TL.mv rfl (TL.nc rfl (TL.fa rfl (TL.fa rfl (TL.ld rfl a0 rfl (TL.mv rfl ?_)))))))
 obtain ⟨x4, hx1, hr⟩ := bS hr
 refine TL.ixu rfl a1 hx1 (fun b1 el1 hp1 => ?_)
 refine TL.a rfl (T.nil (T.m (T.q (T.q (T.r (TL.mv rfl (TL.mv rfl (TL.nc rfl (TL.fa rfl ?_)))))))))
 refine TL.gh (.sl (.p p1 .e)) ?_
 refine GP.foD hp1 hx1 (fun w4 w5 w6 w7 => ?_)
 refine TL.lk (m := 1) rfl a0 rfl rfl (by decide) ?_
 refine TL.bin rfl rfl (T.nil (T.m ?_))
 refine T.ct (fun fr A => ∃ (xs1 : (List GP)), x1.c.Peers.length = xs1.length ∧ fr = [(6, pt b1 el1)] ∧ A = box q1 [w1, w2, w3, .bool x1.c.Conflict] :: ow rGPeer w1 xs1 :: ow (rC GM) w2 x1.c.Net :: ow (rC GR) w3 x1.c.Chosen :: Ar ∧ v4cz x2 x1 xs1 = some res) ?_ ?_
 {
 refine T.cD rfl (fun hc1 => ?_) (fun hc1 => ?_)
 {
 replace hr := iP hr hc1
 refine T.q (T.r (TL.mv rfl (TL.mv rfl (TL.nc rfl (TL.fa rfl ?_)))))
 refine TL.stf rfl rfl e0 c1 (T.nil (T.m (T.r (TL.mv rfl (TL.nc rfl (TL.fa rfl ?_))))))
 refine TL.stf rfl rfl e0 c2 (T.nil (T.m ?_))
 exact ⟨_, _, (fl1), (.trans (GP.unD p0 p0 p0 p0 p0) (.sl (.p p1 (.p p0 (.p p0 (.p p0 .e)))))), (setI x1.c.Peers x2 ({ Up := x4.Up, Term := x3, Vote := 0, Commit := x4.Commit, Role := x4.Role, Log := x4.Log, Votes := x4.Votes, Next := x4.Next, Match := x4.Match } : GP)), lnE, rfl, rfl, hr⟩
 }
 {
 replace hr := iN hr hc1
 refine T.k (T.m ?_)
 exact ⟨_, _, (fl1), (.trans (GP.u0D hx1 p0 p0 p0 p0 p0) (.sl (.p p1 (.p p0 (.p p0 (.p p0 .e)))))), x1.c.Peers, lnE, rfl, rfl, hr⟩
 }
 }
 {
 rintro _ _ ⟨xs1, hl1, rfl, rfl, hr⟩
 unfold v4cz at hr
 refine T.q (T.r (TL.mv rfl (TL.nc rfl (TL.fa rfl ?_))))
 obtain ⟨x5, hx2, hr⟩ := bS hr
 refine TL.gh (.sl (.p p1 .e)) ?_
 refine GP.foD hp1 hx2 (fun w8 w9 w10 w11 => ?_)
 refine TL.stf rfl rfl e0 c4 (T.nil (T.m (T.q (T.r (TL.mv rfl (TL.nc rfl (TL.fa rfl ?_)))))))
 refine TL.gh (.nilO (rC Bool)) ?_
 refine TL.stf rfl rfl e1 c6 (T.nil (T.m (T.q (T.r (TL.mv rfl (TL.nc rfl (TL.fa rfl ?_)))))))
 refine TL.gh (.nilO (rC Int)) ?_
 refine TL.stf rfl rfl e2 c7 (T.nil (T.m (T.r (TL.mv rfl (TL.nc rfl (TL.fa rfl ?_))))))
 refine TL.gh (.nilO (rC Int)) ?_
 refine TL.stf rfl rfl e3 c8 (T.nil ?_)
 obtain rfl := Option.some.inj hr
 exact ⟨.inl rfl, _, _, Res.nil, (.trans (GP.unD p3 p3 p2 p0 p0) (.sl (.p p4 (.p p0 (.p p3 (.p p3 (d3))))))), w2, w3, rfl, rfl⟩
 }
theorem v3hzk {Δ : Prims} (g : Env Try.prog Δ) {Ar : List Item} {x1 : GP} {w1 w2 : Value} {w3 w4 : Value} {res : (Int × Int)} (hr : v3hz x1 = some res) :
    Sp Try.prog Δ 104 [.agg [.bool x1.Up, iv x1.Term, iv x1.Vote, iv x1.Commit, iv x1.Role, w1, w2, w3, w4].toArray] (fz w1 x1.Log :: fz w2 x1.Votes :: fz w3 x1.Next :: fz w4 x1.Match :: Ar) (fun v A => v = .tuple #[iv res.1, iv res.2] ∧ A = fz w1 x1.Log :: fz w2 x1.Votes :: fz w3 x1.Next :: fz w4 x1.Match :: Ar) := by
 refine Sp.bd Try.func104 rfl rfl ?_
 unfold v3hz at hr
 refine T.q (T.r ?_)
 refine TL.bxo rfl rfl (.s rfl (.s rfl (.s rfl (.s rfl (.s rfl (.h a0 inferInstance (.h a1 inferInstance (.h a2 inferInstance (.h a3 inferInstance .n))))))))) (fun q1 => ?_)
 refine TL.a rfl (TL.a rfl (T.nil (T.m (T.q (T.q (T.r (TL.fa rfl (TL.ld rfl a0 rfl (TL.len rfl a1 ?_)))))))))
 refine TL.bin rfl rfl (T.nil (T.m ?_))
 refine T.cD rfl (fun hc1 => ?_) (fun hc1 => ?_)
 {
 replace hr := iP hr hc1
 refine T.q (T.r (TL.a rfl (TL.a rfl (T.nil (T.m ?_)))))
 refine T.ret ?_
 refine T.thenRet ?_
 obtain rfl := Option.some.inj hr
 exact ⟨.inr rfl, _, _, (Res.tmp rfl (Res.tmp rfl Res.nil)), (.sl (.p p1 (.p p1 (.p p1 (.p p1 (d1)))))), rfl, rfl⟩
 }
 {
 replace hr := iN hr hc1
 refine T.k (T.m (T.q (T.rD r14 f14 rfl rfl kr kr mP (TL.fa rfl (TL.ld rfl a0 rfl (TL.len rfl a1 (TL.fa rfl (TL.ld rfl a0 rfl (TL.fa rfl ?_)))))))))
 refine TL.ld rfl a0 rfl (TL.len rfl a1 ?_)
 obtain ⟨hc2, hr⟩ := cS hr
 refine TL.su rfl hc2 ?_
 obtain ⟨x2, hx1, hr⟩ := bS hr
 refine TL.ixu rfl a1 hx1 (fun b1 e40 hp1 => ?_)
 refine GR.ex a1 hp1 hx1 (fun w5 => ?_)
 refine TL.fa rfl (TL.ldg (m := 0) rfl a0 rfl rfl (TL.a rfl (TL.a rfl (T.nil (T.m ?_)))))
 refine T.ret ?_
 obtain rfl := Option.some.inj hr
 exact ⟨.inr rfl, _, _, (Res.tmp rfl (Res.tmp rfl Res.nil)), (.sl (.p p3 (.p p3 (.p p3 (.p p3 (d3)))))), rfl, rfl⟩
 }
theorem v4qzk {Δ : Prims} (g : Env Try.prog Δ) {Ar : List Item} {x1 : GL} {q1 : Nat} {w1 w2 w3 : Value} {x2 : GM} {w4 : Value} {res : (GL)} (hr : v4qz x1 x2 = some res) :
    Sp Try.prog Δ 71 [pt q1 0, .agg [iv x2.Kind, iv x2.From, iv x2.To, iv x2.Term, iv x2.A, iv x2.B, iv x2.C, .bool x2.Ok, w4].toArray] (box q1 [w1, w2, w3, .bool x1.c.Conflict] :: ow rGPeer w1 x1.c.Peers :: ow (rC GM) w2 x1.c.Net :: ow (rC GR) w3 x1.c.Chosen :: fz w4 x2.Log :: Ar) (fun v A => ∃ (rw1 : Value) (rw2 : Value), v = .tuple #[] ∧ A = box q1 [w1, rw1, rw2, .bool res.c.Conflict] :: ow rGPeer w1 res.c.Peers :: ow (rC GM) rw1 res.c.Net :: ow (rC GR) rw2 res.c.Chosen :: fz w4 x2.Log :: Ar) := by
 refine Sp.bd Try.func71 rfl rfl ?_
 unfold v4qz at hr
 refine T.q (T.r ?_)
 refine TL.bxo rfl rfl (.s rfl (.s rfl (.s rfl (.s rfl (.s rfl (.s rfl (.s rfl (.s rfl (.h a4 inferInstance .n))))))))) (fun q2 => ?_)
 refine T.nil (T.m (T.q (T.r (TL.mv rfl (TL.nc rfl (TL.fa rfl (TL.fa rfl (TL.ld rfl a1 rfl (TL.len rfl a3 ?_)))))))))
 refine TL.bin rfl rfl (T.nil (T.m ?_))
 refine T.cD rfl (fun hc1 => ?_) (fun hc1 => ?_)
 {
 replace hr := iP hr hc1
 refine T.regionI (fun n1 => []) [0, 1, 2, 3, 4, 5, 6, 7, 8, 9, 10, 11, 12, 13, 14] [(false, true, false), (false, false, false), (false, false, false), (false, false, false), (false, false, false), (false, false, false), (false, false, false), (false, false, false), (false, false, false), (false, false, false), (true, false, false), (false, false, false), (false, false, false), (false, false, false), (true, false, true)] false rfl kr kr mP (fun n1 => ?_)
 refine TI.lt Nd.f rfl (.move (.inl rfl) rfl) ?_
 refine TI.op Nd.f ?_
 refine TL.lit0 (α := GM) rfl (fun p64 => ?_)
 refine T.nil ⟨rfl, fun n2 => ?_⟩
 refine TI.op Nd.f ?_
 refine TL.mv rfl ?_
 refine T.nil ⟨rfl, fun n3 => ?_⟩
 refine TI.op Nd.f ?_
 refine TL.nc rfl ?_
 refine T.nil ⟨rfl, fun n4 => ?_⟩
 refine TI.op Nd.f ?_
 refine TL.fa rfl ?_
 refine T.nil ⟨rfl, fun n5 => ?_⟩
 refine TI.op Nd.f ?_
 refine TL.fa rfl ?_
 refine T.nil ⟨rfl, fun n6 => ?_⟩
 refine TI.op Nd.f ?_
 refine TL.ld rfl a2 rfl ?_
 refine T.nil ⟨rfl, fun n7 => ?_⟩
 refine TI.op Nd.f ?_
 obtain ⟨hc2, hr⟩ := cS hr
 refine TL.appZ rfl p0 a3 hc2 (fun w5 => ?_)
 refine T.nil ⟨rfl, fun n8 => ?_⟩
 refine TI.op Nd.f ?_
 refine TL.ldN (l' := [iv x2.Kind, iv x2.From, iv x2.To, iv x2.Term, iv x2.A, iv x2.B, iv x2.C, .bool x2.Ok, w4]) rfl a1 rfl rfl ?_
 refine T.nil ⟨rfl, fun n9 => ?_⟩
 refine TI.op Nd.f ?_
 refine TL.gh (GM.mkV (s0 := x2.Kind) (s1 := x2.From) (s2 := x2.To) (s3 := x2.Term) (s4 := x2.A) (s5 := x2.B) (s6 := x2.C) (s7 := x2.Ok) a6) ?_
 refine TL.lit1 rfl rfl p0 (fun w6 => ?_)
 refine T.nil ⟨rfl, fun n10 => ?_⟩
 refine TI.op Nd.f ?_
 obtain ⟨hc3, hr⟩ := cS hr
 refine TL.appR rfl p1 a0 hc3 (fun w7 => ?_)
 refine T.nil ⟨rfl, fun n11 => ?_⟩
 refine TI.op Nd.f ?_
 refine TL.nc rfl ?_
 refine T.nil ⟨rfl, fun n12 => ?_⟩
 refine TI.op Nd.f ?_
 refine TL.fa rfl ?_
 refine T.nil ⟨rfl, fun n13 => ?_⟩
 refine TI.op Nd.f ?_
 refine TL.fa rfl ?_
 refine T.nil ⟨rfl, fun n14 => ?_⟩
 refine TI.op (.t .n) ?_
 refine TL.sts rfl a0 e3 c1 ?_
 refine T.nil ⟨rfl, fun n15 => ?_⟩
 refine TI.nil Nd.f ?_
 obtain rfl := Option.some.inj hr
 exact ⟨.inl rfl, _, _, Res.nil, (.sl (.p p3 (.p p3 (.p p0 (.p p3 (.p p3 (d3))))))), w7, w3, rfl, rfl⟩
 }
 {
 replace hr := iN hr hc1
 refine T.k ?_
 obtain rfl := Option.some.inj hr
 exact ⟨.inl rfl, _, _, Res.nil, (.sl (.p p1 (.p p1 (.p p1 (.p p1 (.p p1 (d1))))))), w2, w3, rfl, rfl⟩
 }
theorem v2lzk {Δ : Prims} (g : Env Try.prog Δ) {Ar : List Item} {x1 : Int} {res : (Int)} (hr : v2lz x1 = some res) :
    Sp Try.prog Δ 108 [iv x1] (Ar) (fun v A => v = iv res ∧ A = Ar) := by
 refine Sp.bd Try.func108 rfl rfl ?_
 unfold v2lz at hr
 refine T.q (T.r (TL.a rfl (T.nil (T.m (T.q (T.q ?_))))))
 refine T.ct (fun fr A => ∃ (x2 : Bool), fr = [(0, iv x1), (8, .bool x2)] ∧ A = Ar ∧ v2mz x1 x2 = some res) ?_ ?_
 {
 refine T.r (TL.mv rfl (TL.bin rfl rfl (TL.mv rfl ?_)))
 refine TL.guardD rfl rfl rfl (fun hg1 => ?_) (fun hg1 => ?_)
 {
 replace hr := iP hr hg1
 refine TL.sk rfl (TL.sk rfl ?_)
 refine TL.of (fun f k => WL.pick f rfl rfl rfl rfl rfl k) ?_
 refine T.nil (T.m ?_)
 exact ⟨_, _, (fl2), (.refl _), true, rfl, rfl, hr⟩
 }
 {
 replace hr := iN hr hg1
 refine TL.mv rfl (TL.bin rfl rfl ?_)
 refine TL.of (fun f k => WL.pick f rfl rfl rfl rfl rfl k) ?_
 refine T.nil (T.m ?_)
 exact ⟨_, _, (fl2), (.refl _), (decide ((7 : Int) < x1)), rfl, rfl, hr⟩
 }
 }
 {
 rintro _ _ ⟨x2, rfl, rfl, hr⟩
 unfold v2mz at hr
 refine T.cond rfl (fun hc1 => ?_) (fun hc1 => ?_)
 {
 replace hr := iBP hr hc1
 refine T.q (T.r (TL.a rfl (T.nil (T.m ?_))))
 refine T.ret ?_
 refine T.thenRet ?_
 obtain rfl := Option.some.inj hr
 exact ⟨.inr rfl, _, _, (Res.tmp rfl Res.nil), (.refl _), rfl, rfl⟩
 }
 {
 replace hr := iBN hr hc1
 refine T.k (T.m (T.q (T.r (TL.mv rfl ?_))))
 obtain ⟨hc2, hr⟩ := cS hr
 refine TL.of (fun f k => WL.quoI f rfl rfl rfl rfl rfl hc2.1 hc2.2.1 hc2.2.2 k) ?_
 obtain ⟨hc3, hr⟩ := cS hr
 refine TL.ad rfl hc3 (TL.a rfl (T.nil (T.m ?_)))
 refine T.ret ?_
 obtain rfl := Option.some.inj hr
 exact ⟨.inr rfl, _, _, (Res.tmp rfl Res.nil), (.refl _), rfl, rfl⟩
 }
 }
theorem v3gzk {Δ : Prims} (g : Env Try.prog Δ) {Ar : List Item} {x1 : GR} {w1 : Value} {res : (GR)} (hr : v3gz x1 = some res) :
    Sp Try.prog Δ 110 [.agg [iv x1.Term, iv x1.Index, w1].toArray] (fz w1 x1.Data :: Ar) (fun v A => ∃ (rw1 : Value), v = .agg [iv res.Term, iv res.Index, rw1].toArray ∧ A = fz w1 x1.Data :: ow (rC UInt8) rw1 res.Data :: Ar) := by
 refine Sp.bd Try.func110 rfl rfl ?_
 unfold v3gz at hr
 refine T.q (T.r ?_)
 refine TL.bxo rfl rfl (.s rfl (.s rfl (.h a0 inferInstance .n))) (fun q1 => ?_)
 refine TL.al rfl (fun q2 => ?_)
 refine T.nil (T.m (T.q (T.rD [0, 1, 2, 3, 4, 5, 6, 7, 8, 9] [false, false, false, false, false, false, false, false, false, true] rfl rfl kr kr mP (TL.fa rfl (TL.ld rfl a1 rfl (TL.fa rfl (TL.ld rfl a1 rfl ?_)))))))
 refine TL.lit0 (α := UInt8) rfl (fun p32 => ?_)
 refine TL.fa rfl (TL.ld rfl a2 rfl ?_)
 obtain ⟨hc1, hr⟩ := cS hr
 refine TL.appZ rfl p0 a2 hc1 (fun w2 => ?_)
 refine TL.bld (cells := [iv x1.Term, iv x1.Index, w2]) rfl Try.underlying35 info35 rfl rfl rfl (by simp only [List.mapM_cons, List.mapM_nil, info3, info3, info22]; rfl) rfl (.s rfl (.s rfl (.h a0 inferInstance .n))) rfl ?_
 refine TL.sto (c' := [iv x1.Term, iv x1.Index, w2]) rfl rfl rfl (.s rfl (.s rfl (.h a0 inferInstance .n))) e1 rfl (bl rfl) (T.nil (T.m ?_))
 refine T.ret ?_
 obtain rfl := Option.some.inj hr
 exact ⟨.inr rfl, _, _, (Res.cellN rfl a1 rfl rfl Res.nil), (.sl (.p p3 (.p p0 (d2)))), w2, rfl, rfl⟩
theorem v4xzk {Δ : Prims} (g : Env Try.prog Δ) {Ar : List Item} {x1 : GR} {w1 : Value} {x2 : GR} {w2 : Value} {res : (Bool)} (hr : v4xz x1 x2 = some res) :
    Sp Try.prog Δ 119 [.agg [iv x1.Term, iv x1.Index, w1].toArray, .agg [iv x2.Term, iv x2.Index, w2].toArray] (fz w1 x1.Data :: fz w2 x2.Data :: Ar) (fun v A => v = .bool res ∧ A = fz w1 x1.Data :: fz w2 x2.Data :: Ar) := by
 refine Sp.bd Try.func119 rfl rfl ?_
 unfold v4xz at hr
 refine T.q (T.r ?_)
 refine TL.bxo rfl rfl (.s rfl (.s rfl (.h a0 inferInstance .n))) (fun q1 => ?_)
 refine TL.bxo rfl rfl (.s rfl (.s rfl (.h a2 inferInstance .n))) (fun q2 => ?_)
 refine TL.a rfl (T.nil (T.m (T.q (T.r (TL.fa rfl (TL.ld rfl a1 rfl (TL.fa rfl (TL.ld rfl a0 rfl (TL.bin rfl rfl ?_)))))))))
 refine TL.mv rfl ?_
 refine TL.guardD rfl rfl rfl (fun hg1 => ?_) (fun hg1 => ?_)
 {
 replace hr := iP hr hg1
 refine TL.fa rfl (TL.ld rfl a1 rfl (TL.fa rfl (TL.ld rfl a0 rfl (TL.bin rfl rfl ?_))))
 refine TL.of (fun f k => WL.pick f rfl rfl rfl rfl rfl k) ?_
 refine TL.mv rfl ?_
 refine TL.guardD rfl rfl rfl (fun hg2 => ?_) (fun hg2 => ?_)
 {
 replace hr := iP hr hg2
 refine TL.fa rfl (TL.ld rfl a1 rfl ?_)
 refine TL.toStr rfl a2 ?_
 refine TL.fa rfl (TL.ld rfl a0 rfl ?_)
 refine TL.toStr rfl a3 ?_
 refine TL.of (fun f k => GL.strCmp f rfl rfl rfl rfl rfl (by decide) rfl k) ?_
 refine TL.of (fun f k => WL.pick f rfl rfl rfl rfl rfl k) ?_
 refine TL.a rfl (T.nil (T.m ?_))
 refine T.ret ?_
 obtain rfl := Option.some.inj hr
 exact ⟨.inr rfl, _, _, (Res.tmp rfl Res.nil), (.sl (.p p2 (.p p2 (d2)))), rfl, rfl⟩
 }
 {
 replace hr := iN hr hg2
 refine TL.sk rfl (TL.sk rfl (TL.sk rfl (TL.sk rfl (TL.sk rfl (TL.sk rfl (TL.sk rfl ?_))))))
 refine TL.of (fun f k => WL.pick f rfl rfl rfl rfl rfl k) ?_
 refine TL.a rfl (T.nil (T.m ?_))
 refine T.ret ?_
 obtain rfl := Option.some.inj hr
 exact ⟨.inr rfl, _, _, (Res.tmp rfl Res.nil), (.sl (.p p2 (.p p2 (d2)))), rfl, rfl⟩
 }
 }
 {
 replace hr := iN hr hg1
 refine TL.sk rfl (TL.sk rfl (TL.sk rfl (TL.sk rfl (TL.sk rfl ?_))))
 refine TL.of (fun f k => WL.pick f rfl rfl rfl rfl rfl k) ?_
 refine TL.mv rfl (TL.sk rfl (TL.sk rfl (TL.sk rfl (TL.sk rfl (TL.sk rfl (TL.sk rfl (TL.sk rfl ?_)))))))
 refine TL.of (fun f k => WL.pick f rfl rfl rfl rfl rfl k) ?_
 refine TL.a rfl (T.nil (T.m ?_))
 refine T.ret ?_
 obtain rfl := Option.some.inj hr
 exact ⟨.inr rfl, _, _, (Res.tmp rfl Res.nil), (.sl (.p p2 (.p p2 (d2)))), rfl, rfl⟩
 }
theorem v3vzk {Δ : Prims} (g : Env Try.prog Δ) {Ar : List Item} {x1 : GL} {q1 : Nat} {w1 w2 w3 : Value} {x2 : Int} {res : (GL)} (hr : v3vz x1 x2 = some res) :
    Sp Try.prog Δ 109 [pt q1 0, iv x2] (box q1 [w1, w2, w3, .bool x1.c.Conflict] :: ow rGPeer w1 x1.c.Peers :: ow (rC GM) w2 x1.c.Net :: ow (rC GR) w3 x1.c.Chosen :: Ar) (fun v A => ∃ (rw1 : Value) (rw2 : Value), v = .tuple #[] ∧ A = box q1 [w1, rw1, rw2, .bool res.c.Conflict] :: ow rGPeer w1 res.c.Peers :: ow (rC GM) rw1 res.c.Net :: ow (rC GR) rw2 res.c.Chosen :: Ar) := by
 refine Sp.bd Try.func109 rfl rfl ?_
 unfold v3vz at hr
 refine T.q (T.r (TL.mv rfl (TL.nc rfl (TL.fa rfl (TL.fa rfl (TL.ld rfl a0 rfl (TL.mv rfl ?_)))))))
 obtain ⟨x3, hx1, hr⟩ := bS hr
 refine TL.ixu rfl a1 hx1 (fun b1 el1 hp1 => ?_)
 refine TL.gh (.sl (.p p1 .e)) ?_
 refine GP.foD hp1 hx1 (fun w4 w5 w6 w7 => ?_)
 refine TL.ldfN rfl a0 rfl rfl ?_
 refine TL.al rfl (fun q2 => ?_)
 refine TL.sto (c' := [.bool x3.Up, iv x3.Term, iv x3.Vote, iv x3.Commit, iv x3.Role, w4, w5, w6, w7]) rfl rfl rfl (.s rfl (.s rfl (.s rfl (.s rfl (.s rfl (.h a2 inferInstance (.h a3 inferInstance (.h a4 inferInstance (.h a5 inferInstance .n))))))))) e0 rfl (bl rfl) (T.nil (T.m (T.q (T.r (TL.a rfl (T.nil (T.m (T.b ?_))))))))
 refine T.lp (fun k0 fr A => ∃ (x4 : Int) (xs1 : (List GR)) (x5 : Bool) (w8 : Value), fr = [(0, pt q1 0), (4, pt q2 0), (5, iv x4)] ∧ A = box q2 [.bool x3.Up, iv x3.Term, iv x3.Vote, iv x3.Commit, iv x3.Role, w4, w5, w6, w7] :: box q1 [w1, w2, w8, .bool x5] :: foc rGPeer w1 x1.c.Peers x2 b1 el1 [.bool x3.Up, iv x3.Term, iv x3.Vote, iv x3.Commit, iv x3.Role, w4, w5, w6, w7] :: ow (rC GR) w4 x3.Log :: ow (rC Bool) w5 x3.Votes :: ow (rC Int) w6 x3.Next :: ow (rC Int) w7 x3.Match :: ow (rC GM) w2 x1.c.Net :: ow (rC GR) w8 xs1 :: Ar ∧ v3yz x3 x1 k0 x4 xs1 x5 = some res) BIG ?_ ?_ ?_
 {
 exact ⟨_, _, (fl3), (.sl (.p p0 (.p p5 (.p p0 (.p p0 (.p p0 (.p p0 (.p p0 (.p p0 (.p p0 .e)))))))))), 0, x1.c.Chosen, x1.c.Conflict, w3, rfl, rfl, hr⟩
 }
 {
 rintro fr A ⟨x4, xs1, x5, w8, -, -, hr⟩
 rw [v3yz] at hr
 cases hr
 }
 {
 rintro k0 _ _ ⟨x4, xs1, x5, w8, rfl, rfl, hr⟩
 rw [v3yz] at hr
 refine T.q (T.q (T.r (TL.mv rfl (TL.fa rfl (TL.ld rfl a0 rfl (TL.bin rfl rfl (T.nil (T.m ?_))))))))
 refine T.cD rfl (fun hc1 => ?_) (fun hc1 => ?_)
 {
 replace hr := iP hr hc1
 refine T.k (T.m (T.q ?_))
 refine T.ct (fun fr A => ∃ (xs2 : (List GR)) (x6 : Bool) (w9 : Value), fr = [(0, pt q1 0), (4, pt q2 0), (5, iv x4)] ∧ A = box q2 [.bool x3.Up, iv x3.Term, iv x3.Vote, iv x3.Commit, iv x3.Role, w4, w5, w6, w7] :: box q1 [w1, w2, w9, .bool x6] :: foc rGPeer w1 x1.c.Peers x2 b1 el1 [.bool x3.Up, iv x3.Term, iv x3.Vote, iv x3.Commit, iv x3.Role, w4, w5, w6, w7] :: ow (rC GR) w4 x3.Log :: ow (rC Bool) w5 x3.Votes :: ow (rC Int) w6 x3.Next :: ow (rC Int) w7 x3.Match :: ow (rC GM) w2 x1.c.Net :: ow (rC GR) w9 xs2 :: Ar ∧ v3wz x4 (v3yz x3 x1 k0) xs2 x6 = some res) ?_ ?_
 {
 refine T.b (T.q (T.q (T.r (TL.mv rfl (TL.mv rfl (TL.nc rfl (TL.fa rfl (TL.fa rfl (TL.ld rfl a1 rfl ?_)))))))))
 refine TL.len rfl a8 (TL.bin rfl rfl (T.nil (T.m ?_)))
 refine T.ct (fun fr A => ∃ (xs3 : (List GR)) (w10 : Value), fr = [(0, pt q1 0), (4, pt q2 0), (5, iv x4)] ∧ A = box q2 [.bool x3.Up, iv x3.Term, iv x3.Vote, iv x3.Commit, iv x3.Role, w4, w5, w6, w7] :: box q1 [w1, w2, w10, .bool x5] :: foc rGPeer w1 x1.c.Peers x2 b1 el1 [.bool x3.Up, iv x3.Term, iv x3.Vote, iv x3.Commit, iv x3.Role, w4, w5, w6, w7] :: ow (rC GR) w4 x3.Log :: ow (rC Bool) w5 x3.Votes :: ow (rC Int) w6 x3.Next :: ow (rC Int) w7 x3.Match :: ow (rC GM) w2 x1.c.Net :: ow (rC GR) w10 xs3 :: Ar ∧ v3xz x4 x3 (v3yz x3 x1 k0) x5 xs3 = some res) ?_ ?_
 {
 refine T.cD rfl (fun hc2 => ?_) (fun hc2 => ?_)
 {
 replace hr := iP hr hc2
 refine T.regionI (fun n1 => []) [0, 1, 2, 3, 4, 5, 6, 7, 8, 9, 10, 11, 12, 13, 14, 15, 16, 17] [(false, true, false), (false, false, false), (false, false, false), (false, false, false), (false, false, false), (false, false, false), (false, false, false), (false, false, false), (false, false, false), (false, false, false), (false, false, false), (false, false, false), (false, false, false), (true, false, false), (false, false, false), (false, false, false), (false, false, false), (true, false, true)] false rfl kr kr mP (fun n1 => ?_)
 refine TI.lt Nd.f rfl (.move (.inl rfl) rfl) ?_
 refine TI.op Nd.f ?_
 refine TL.mv rfl ?_
 refine T.nil ⟨rfl, fun n2 => ?_⟩
 refine TI.op Nd.f ?_
 refine TL.nc rfl ?_
 refine T.nil ⟨rfl, fun n3 => ?_⟩
 refine TI.op Nd.f ?_
 refine TL.fa rfl ?_
 refine T.nil ⟨rfl, fun n4 => ?_⟩
 refine TI.op Nd.f ?_
 refine TL.fa rfl ?_
 refine T.nil ⟨rfl, fun n5 => ?_⟩
 refine TI.op Nd.f ?_
 refine TL.ld rfl a1 rfl ?_
 refine T.nil ⟨rfl, fun n6 => ?_⟩
 refine TI.op Nd.f ?_
 refine TL.fa rfl ?_
 refine T.nil ⟨rfl, fun n7 => ?_⟩
 refine TI.op Nd.f ?_
 refine TL.ld rfl a0 rfl ?_
 refine T.nil ⟨rfl, fun n8 => ?_⟩
 refine TI.op Nd.f ?_
 refine TL.mv rfl ?_
 refine T.nil ⟨rfl, fun n9 => ?_⟩
 refine TI.op Nd.f ?_
 obtain ⟨x7, hx2, hr⟩ := bS hr
 refine TL.ixu rfl a3 hx2 (fun b2 e2998 hp2 => ?_)
 refine T.nil ⟨rfl, fun n10 => ?_⟩
 refine TI.op Nd.f ?_
 refine TL.gh (.sl (.p p3 .e)) ?_
 refine GR.fo hp2 hx2 (fun w11 => ?_)
 refine TL.ldfN rfl a0 rfl rfl ?_
 refine T.nil ⟨rfl, fun n11 => ?_⟩
 refine TI.op Nd.f ?_
 obtain ⟨x8, hx3, hr⟩ := bS hr
 refine TL.callR g rfl rfl rfl (Pz.out (.c a1 Pers.rC .n)) (v3gzk g (Ar := []) hx3) ?_
 rintro _ _ ⟨w12, rfl, rfl⟩
 simp only [List.cons_append, List.nil_append]
 refine T.nil ⟨rfl, fun n12 => ?_⟩
 refine TI.op Nd.f ?_
 refine TL.gh (.frz p1) ?_
 refine TL.gh (GR.mkV (s0 := x8.Term) (s1 := x8.Index) a0) ?_
 refine TL.lit1 rfl rfl p0 (fun w13 => ?_)
 refine T.nil ⟨rfl, fun n13 => ?_⟩
 refine TI.op Nd.f ?_
 obtain ⟨hc3, hr⟩ := cS hr
 refine TL.appR rfl p12 a0 hc3 (fun w14 => ?_)
 refine T.nil ⟨rfl, fun n14 => ?_⟩
 refine TI.op Nd.f ?_
 refine TL.nc rfl ?_
 refine T.nil ⟨rfl, fun n15 => ?_⟩
 refine TI.op Nd.f ?_
 refine TL.fa rfl ?_
 refine T.nil ⟨rfl, fun n16 => ?_⟩
 refine TI.op Nd.f ?_
 refine TL.fa rfl ?_
 refine T.nil ⟨rfl, fun n17 => ?_⟩
 refine TI.op (.t .n) ?_
 refine TL.sts rfl a0 e7 c2 ?_
 refine T.nil ⟨rfl, fun n18 => ?_⟩
 refine TI.nil Nd.f (T.m ?_)
 exact ⟨_, _, (fl3), (.trans (GR.u0 hx2 p4 a3) (.sl (.p p6 (.p p6 (.p p6 (.p p0 (.p p5 (.p p5 (.p p5 (.p p5 (.p p0 (d4)))))))))))), (xs1 ++ ([({ Term := x8.Term, Index := x8.Index, Data := x8.Data } : GR)] : List GR)), w14, rfl, rfl, hr⟩
 }
 {
 replace hr := iN hr hc2
 refine T.k (T.m ?_)
 exact ⟨_, _, (fl3), (.refl _), xs1, w8, rfl, rfl, hr⟩
 }
 }
 {
 rintro _ _ ⟨xs3, w10, rfl, rfl, hr⟩
 unfold v3xz at hr
 refine T.q (T.rD r15 f15 rfl rfl kr kr mP (TL.mv rfl (TL.nc rfl (TL.fa rfl (TL.fa rfl (TL.ld rfl a1 rfl (TL.mv rfl ?_)))))))
 obtain ⟨x9, hx4, hr⟩ := bS hr
 refine TL.ixu rfl a8 hx4 (fun b3 e2923 hp3 => ?_)
 refine TL.gh (.sl (.p p8 .e)) ?_
 refine GR.fo hp3 hx4 (fun w15 => ?_)
 refine TL.ldfN rfl a0 rfl rfl (TL.fa rfl (TL.ld rfl a2 rfl (TL.mv rfl ?_)))
 obtain ⟨x10, hx5, hr⟩ := bS hr
 refine TL.ixu rfl a5 hx5 (fun b4 e2940 hp4 => ?_)
 refine TL.gh (.sl (.p p5 .e)) ?_
 refine GR.fo hp4 hx5 (fun w16 => ?_)
 refine TL.ldfN rfl a0 rfl rfl ?_
 obtain ⟨x11, hx6, hr⟩ := bS hr
 refine TL.callR g rfl rfl rfl (Pz.out (.c a3 Pers.rC (.c a1 Pers.rC .n))) (v4xzk g (Ar := []) hx6) ?_
 rintro _ _ ⟨rfl, rfl⟩
 simp only [List.cons_append, List.nil_append]
 refine TL.of (fun f k => WL.not f rfl rfl rfl rfl k) ?_
 refine T.nil (T.m ?_)
 refine T.cond rfl (fun hc4 => ?_) (fun hc4 => ?_)
 {
 replace hr := iBP hr hc4
 refine T.r (TL.mv rfl (TL.nc rfl (TL.fa rfl (TL.fa rfl ?_))))
 refine TL.st rfl rfl e7 c3 (T.nil (T.bN (T.m ?_)))
 exact ⟨_, _, (fl3), (.trans (GR.u0 hx5 p2 a1) (.trans (GR.u0 hx4 p4 a1) (.sl (.p p6 (.p p6 (.p p6 (.p p1 (.p p5 (.p p5 (.p p5 (.p p5 (.p p0 (d4))))))))))))), xs3, true, w10, rfl, rfl, hr⟩
 }
 {
 replace hr := iBN hr hc4
 refine T.k (T.bN (T.m ?_))
 exact ⟨_, _, (fl3), (.trans (GR.u0 hx5 p2 a1) (.trans (GR.u0 hx4 p4 a1) (.sl (.p p6 (.p p6 (.p p6 (.p p1 (.p p5 (.p p5 (.p p5 (.p p5 (.p p0 (d4))))))))))))), xs3, x5, w10, rfl, rfl, hr⟩
 }
 }
 }
 {
 rintro _ _ ⟨xs2, x6, w9, rfl, rfl, hr⟩
 unfold v3wz at hr
 refine T.r (TL.mv rfl ?_)
 obtain ⟨hc5, hr⟩ := cS hr
 refine TL.ad rfl hc5 (TL.a rfl (T.nil (T.m ?_)))
 exact ⟨_, _, (fl3), (.refl _), (x4 + 1), xs2, x6, w9, rfl, rfl, hr⟩
 }
 }
 {
 replace hr := iN hr hc1
 refine T.exit ?_
 refine T.tE (T.tE (T.bH ?_))
 obtain rfl := Option.some.inj hr
 exact ⟨.inl rfl, _, _, Res.nil, (.trans (GP.u0D hx1 p2 p2 p2 p2 p2) (.sl (.p p2 (.p p0 (.p p1 (.p p1 (d1))))))), w2, w8, rfl, rfl⟩
 }
 }
theorem v3zzk {Δ : Prims} (g : Env Try.prog Δ) {Ar : List Item} {x1 : GL} {q1 : Nat} {w1 w2 w3 : Value} {x2 : Int} {res : (GL)} (hr : v3zz x1 x2 = some res) :
    Sp Try.prog Δ 73 [pt q1 0, iv x2] (box q1 [w1, w2, w3, .bool x1.c.Conflict] :: ow rGPeer w1 x1.c.Peers :: ow (rC GM) w2 x1.c.Net :: ow (rC GR) w3 x1.c.Chosen :: Ar) (fun v A => ∃ (rw1 : Value) (rw2 : Value), v = .tuple #[] ∧ A = box q1 [w1, rw1, rw2, .bool res.c.Conflict] :: ow rGPeer w1 res.c.Peers :: ow (rC GM) rw1 res.c.Net :: ow (rC GR) rw2 res.c.Chosen :: Ar) := by
 refine Sp.bd Try.func73 rfl rfl ?_
 unfold v3zz at hr
 refine T.q (T.r (TL.mv rfl (TL.nc rfl (TL.fa rfl (TL.fa rfl (TL.ld rfl a0 rfl (TL.mv rfl ?_)))))))
 obtain ⟨x3, hx1, hr⟩ := bS hr
 refine TL.ixu rfl a1 hx1 (fun b1 el1 hp1 => ?_)
 refine TL.a rfl (T.nil (T.m (T.q (T.q (T.r (TL.mv rfl (TL.nc rfl (TL.fa rfl ?_))))))))
 refine TL.gh (.sl (.p p1 .e)) ?_
 refine GP.foD hp1 hx1 (fun w4 w5 w6 w7 => ?_)
 refine TL.lk (m := 5) rfl a0 rfl rfl (by decide) ?_
 refine TL.len rfl a1 (TL.a rfl (T.nil (T.m ?_)))
 refine T.ct (fun fr A => ∃ (xs1 : (List GP)), x1.c.Peers.length = xs1.length ∧ fr = [(0, pt q1 0), (1, iv x2)] ∧ A = box q1 [w1, w2, w3, .bool x1.c.Conflict] :: ow rGPeer w1 xs1 :: ow (rC GM) w2 x1.c.Net :: ow (rC GR) w3 x1.c.Chosen :: Ar ∧ v40z x1 x2 xs1 = some res) ?_ ?_
 {
 refine T.b ?_
 refine T.lp (fun k1 fr A => ∃ (x4 : Int), fr = [(0, pt q1 0), (1, iv x2), (4, pt b1 el1), (5, iv x4)] ∧ A = box q1 [w1, w2, w3, .bool x1.c.Conflict] :: ow rGPeer w1 x1.c.Peers :: ow (rC GM) w2 x1.c.Net :: ow (rC GR) w3 x1.c.Chosen :: Ar ∧ v43z x3 x1 x2 k1 x4 = some res) BIG ?_ ?_ ?_
 {
 exact ⟨_, _, (fl4), (.trans (GP.u0D hx1 p0 p0 p0 p0 p0) (.sl (.p p1 (.p p0 (.p p0 (.p p0 .e)))))), (x3.Log.length : Int), rfl, rfl, hr⟩
 }
 {
 rintro fr A ⟨x4, -, -, hr⟩
 rw [v43z] at hr
 cases hr
 }
 {
 rintro k1 _ _ ⟨x4, rfl, rfl, hr⟩
 rw [v43z] at hr
 refine T.q (T.q (T.r (TL.mv rfl (TL.mv rfl (TL.nc rfl (TL.fa rfl ?_))))))
 refine TL.gh (.sl (.p p1 .e)) ?_
 refine GP.foD hp1 hx1 (fun w8 w9 w10 w11 => ?_)
 refine TL.lk (m := 3) rfl a0 rfl rfl (by decide) ?_
 refine TL.bin rfl rfl (T.nil (T.m ?_))
 refine T.cD rfl (fun hc1 => ?_) (fun hc1 => ?_)
 {
 replace hr := iP hr hc1
 refine T.k (T.m (T.q (T.b (T.q (T.r (TL.a rfl (T.nil (T.m (T.q ?_)))))))))
 refine T.q (T.r (TL.a rfl (T.nil (T.m (T.b ?_)))))
 refine T.lp (fun k2 fr A => ∃ (x5 : Int) (x6 : Int), fr = [(0, pt q1 0), (1, iv x2), (4, pt b1 el1), (5, iv x4), (6, iv x5), (7, iv x6)] ∧ A = box q1 [w1, w2, w3, .bool x1.c.Conflict] :: ow rGPeer w1 x1.c.Peers :: ow (rC GM) w2 x1.c.Net :: ow (rC GR) w3 x1.c.Chosen :: Ar ∧ v44z x3 x4 x1 x2 (v43z x3 x1 x2 k1) k2 x5 x6 = some res) BIG ?_ ?_ ?_
 {
 exact ⟨_, _, (fl6), (.trans (GP.u0D hx1 p0 p0 p0 p0 p0) (.sl (.p p1 (.p p0 (.p p0 (.p p0 .e)))))), 0, 0, rfl, rfl, hr⟩
 }
 {
 rintro fr A ⟨x5, x6, -, -, hr⟩
 rw [v44z] at hr
 cases hr
 }
 {
 rintro k2 _ _ ⟨x5, x6, rfl, rfl, hr⟩
 rw [v44z] at hr
 refine T.q (T.q (T.r (TL.mv rfl (TL.mv rfl (TL.nc rfl (TL.fa rfl ?_))))))
 refine TL.gh (.sl (.p p1 .e)) ?_
 refine GP.foD hp1 hx1 (fun w12 w13 w14 w15 => ?_)
 refine TL.lk (m := 8) rfl a0 rfl rfl (by decide) ?_
 refine TL.len rfl a4 (TL.bin rfl rfl (T.nil (T.m ?_)))
 refine T.cD rfl (fun hc2 => ?_) (fun hc2 => ?_)
 {
 replace hr := iP hr hc2
 refine T.k (T.m (T.q ?_))
 refine T.ct (fun fr A => ∃ (x7 : Int), fr = [(0, pt q1 0), (1, iv x2), (4, pt b1 el1), (5, iv x4), (6, iv x7), (7, iv x6)] ∧ A = box q1 [w1, w2, w3, .bool x1.c.Conflict] :: ow rGPeer w1 x1.c.Peers :: ow (rC GM) w2 x1.c.Net :: ow (rC GR) w3 x1.c.Chosen :: Ar ∧ v41z x6 (v44z x3 x4 x1 x2 (v43z x3 x1 x2 k1) k2) x7 = some res) ?_ ?_
 {
 refine T.b (T.q (T.r (TL.mv rfl (TL.nc rfl (TL.fa rfl ?_)))))
 refine TL.lk (m := 8) rfl a0 rfl rfl (by decide) ?_
 refine TL.mv rfl ?_
 obtain ⟨x8, hx2, hr⟩ := bS hr
 refine TL.ixu rfl a4 hx2 (fun b2 e8516 hp2 => ?_)
 refine TL.ldek (m := 0) rfl a4 hp2 hx2 Rp.sc rfl (TL.mv rfl (TL.bin rfl rfl (T.nil (T.m ?_))))
 refine T.cD rfl (fun hc3 => ?_) (fun hc3 => ?_)
 {
 replace hr := iP hr hc3
 refine T.r (TL.mv rfl ?_)
 obtain ⟨hc4, hr⟩ := cS hr
 refine TL.ad rfl hc4 (TL.a rfl (T.nil (T.bN (T.m ?_))))
 exact ⟨_, _, (fl6), (.trans (GP.u0D hx1 p0 p0 p0 p0 p0) (.sl (.p p1 (.p p0 (.p p0 (.p p0 .e)))))), (x5 + 1), rfl, rfl, hr⟩
 }
 {
 replace hr := iN hr hc3
 refine T.k (T.bN (T.m ?_))
 exact ⟨_, _, (fl6), (.trans (GP.u0D hx1 p0 p0 p0 p0 p0) (.sl (.p p1 (.p p0 (.p p0 (.p p0 .e)))))), x5, rfl, rfl, hr⟩
 }
 }
 {
 rintro _ _ ⟨x7, rfl, rfl, hr⟩
 unfold v41z at hr
 refine T.r (TL.mv rfl ?_)
 obtain ⟨hc5, hr⟩ := cS hr
 refine TL.ad rfl hc5 (TL.a rfl (T.nil (T.m ?_)))
 exact ⟨_, _, (fl6), (.refl _), x7, (x6 + 1), rfl, rfl, hr⟩
 }
 }
 {
 replace hr := iN hr hc2
 refine T.exit ?_
 refine T.tE (T.tE (T.bH (T.m (T.q ?_))))
 refine T.ct (fun fr A => ∃ (x9 : Bool), fr = [(0, pt q1 0), (1, iv x2), (4, pt b1 el1), (5, iv x4), (72, .bool x9)] ∧ A = box q1 [w1, w2, w3, .bool x1.c.Conflict] :: ow rGPeer w1 x1.c.Peers :: ow (rC GM) w2 x1.c.Net :: ow (rC GR) w3 x1.c.Chosen :: Ar ∧ v42z x1 x2 x3 x4 (v43z x3 x1 x2 k1) x9 = some res) ?_ ?_
 {
 refine T.rD [0, 1, 2, 3, 4, 5, 6, 7, 8, 9, 10, 11, 12, 13, 14, 15, 16, 17, 18, 19, 20, 21, 22, 23, 24] [false, false, false, false, false, false, false, false, false, false, false, false, false, false, false, false, false, false, false, false, false, false, false, false, false] rfl rfl kr kr mP (TL.mv rfl (TL.mv rfl (TL.nc rfl (TL.fa rfl (TL.fa rfl (TL.ld rfl a5 rfl (TL.len rfl a0 ?_)))))))
 obtain ⟨x10, hx3, hr⟩ := bS hr
 refine TL.callR g rfl rfl rfl (Pz.out .n) (v2lzk g (Ar := []) hx3) ?_
 rintro _ _ ⟨rfl, rfl⟩
 simp only [List.cons_append, List.nil_append]
 refine TL.bin rfl rfl (TL.mv rfl ?_)
 refine TL.guardD rfl rfl rfl (fun hg1 => ?_) (fun hg1 => ?_)
 {
 replace hr := iP hr hg1
 refine TL.mv rfl (TL.nc rfl (TL.fa rfl ?_))
 refine TL.lk (m := 5) rfl a0 rfl rfl (by decide) ?_
 refine TL.mv rfl ?_
 obtain ⟨hc6, hr⟩ := cS hr
 refine TL.su rfl hc6 ?_
 obtain ⟨x11, hx4, hr⟩ := bS hr
 refine TL.ixu rfl a1 hx4 (fun b3 e8618 hp3 => ?_)
 refine TL.fa rfl ?_
 refine TL.gh (.sl (.p p1 .e)) ?_
 refine GR.fo hp3 hx4 (fun w16 => ?_)
 refine TL.lk (m := 0) rfl a0 rfl rfl (by decide) ?_
 refine TL.mv rfl (TL.nc rfl (TL.fa rfl ?_))
 refine TL.lk (m := 1) rfl a2 rfl rfl (by decide) ?_
 refine TL.bin rfl rfl ?_
 refine TL.of (fun f k => WL.pick f rfl rfl rfl rfl rfl k) ?_
 refine T.nil (T.m ?_)
 exact ⟨_, _, (fl5), (.trans (GR.u0 hx4 p0 a0) (.trans (GP.u0D hx1 p2 p0 p1 p1 p1) (.sl (.p p2 (.p p0 (.p p1 (.p p1 (d1)))))))), (decide (x11.Term = x3.Term)), rfl, rfl, hr⟩
 }
 {
 replace hr := iN hr hg1
 refine TL.sk rfl (TL.sk rfl (TL.sk rfl (TL.sk rfl (TL.sk rfl (TL.sk rfl (TL.sk rfl (TL.sk rfl (TL.sk rfl (TL.sk rfl ?_)))))))))
 refine TL.sk rfl (TL.sk rfl (TL.sk rfl (TL.sk rfl ?_)))
 refine TL.of (fun f k => WL.pick f rfl rfl rfl rfl rfl k) ?_
 refine T.nil (T.m ?_)
 exact ⟨_, _, (fl5), (.trans (GP.u0D hx1 p0 p0 p0 p0 p0) (.sl (.p p1 (.p p0 (.p p0 (.p p0 .e)))))), false, rfl, rfl, hr⟩
 }
 }
 {
 rintro _ _ ⟨x9, rfl, rfl, hr⟩
 unfold v42z at hr
 refine T.cond rfl (fun hc7 => ?_) (fun hc7 => ?_)
 {
 replace hr := iBP hr hc7
 refine T.q (T.r (TL.mv rfl (TL.mv rfl (TL.nc rfl (TL.fa rfl ?_)))))
 refine TL.gh (.sl (.p p1 .e)) ?_
 refine GP.foD hp1 hx1 (fun w17 w18 w19 w20 => ?_)
 refine TL.stf rfl rfl e0 c3 (T.nil (T.m ?_))
 refine T.exit ?_
 refine T.blkOut (by decide) ?_
 refine T.tE (T.tE (T.bH (T.m ?_)))
 exact ⟨_, _, (fl2), (.trans (GP.unD p0 p0 p0 p0 p0) (.sl (.p p1 (.p p0 (.p p0 (.p p0 .e)))))), (setI x1.c.Peers x2 ({ Up := x3.Up, Term := x3.Term, Vote := x3.Vote, Commit := x4, Role := x3.Role, Log := x3.Log, Votes := x3.Votes, Next := x3.Next, Match := x3.Match } : GP)), lnE, rfl, rfl, hr⟩
 }
 {
 replace hr := iBN hr hc7
 refine T.k (T.bN (T.m (T.r (TL.mv rfl ?_))))
 obtain ⟨hc8, hr⟩ := cS hr
 refine TL.su rfl hc8 (TL.a rfl (T.nil (T.m ?_)))
 exact ⟨_, _, (fl4), (.refl _), (x4 - 1), rfl, rfl, hr⟩
 }
 }
 }
 }
 }
 {
 replace hr := iN hr hc1
 refine T.exit ?_
 refine T.tE (T.tE (T.bH (T.m ?_)))
 exact ⟨_, _, (fl2), (.trans (GP.u0D hx1 p0 p0 p0 p0 p0) (.sl (.p p1 (.p p0 (.p p0 (.p p0 .e)))))), x1.c.Peers, lnE, rfl, rfl, hr⟩
 }
 }
 }
 {
 rintro _ _ ⟨xs1, hl1, rfl, rfl, hr⟩
 unfold v40z at hr
 refine T.r (TL.mv rfl (TL.mv rfl ?_))
 obtain ⟨x12, hx5, hr⟩ := bS hr
 refine TL.hv (v := w1) a1 (fun hv1 => ?_)
 refine TL.c rfl rfl rfl (v3vzk g hx5) ?_
 rintro _ _ ⟨w21, w22, rfl, rfl⟩
 refine TL.hv (v := w1) a1 (fun hv2 => ?_)
 have hl2 : x1.c.Peers.length = x12.c.Peers.length := Eq.trans lnE (Hv.eq hv1 hv2)
 refine T.nil ?_
 obtain rfl := Option.some.inj hr
 exact ⟨.inl rfl, _, _, Res.nil, (.refl _), w21, w22, rfl, rfl⟩
 }
theorem v4yzk {Δ : Prims} (g : Env Try.prog Δ) {Ar : List Item} {x1 : GP} {w1 w2 : Value} {w3 w4 : Value} {x2 : Int} {res : (Int)} (hr : v4yz x1 x2 = some res) :
    Sp Try.prog Δ 118 [.agg [.bool x1.Up, iv x1.Term, iv x1.Vote, iv x1.Commit, iv x1.Role, w1, w2, w3, w4].toArray, iv x2] (fz w1 x1.Log :: fz w2 x1.Votes :: fz w3 x1.Next :: fz w4 x1.Match :: Ar) (fun v A => v = iv res ∧ A = fz w1 x1.Log :: fz w2 x1.Votes :: fz w3 x1.Next :: fz w4 x1.Match :: Ar) := by
 refine Sp.bd Try.func118 rfl rfl ?_
 unfold v4yz at hr
 refine T.q (T.r ?_)
 refine TL.bxo rfl rfl (.s rfl (.s rfl (.s rfl (.s rfl (.s rfl (.h a0 inferInstance (.h a1 inferInstance (.h a2 inferInstance (.h a3 inferInstance .n))))))))) (fun q1 => ?_)
 refine TL.a rfl (T.nil (T.m (T.q (T.q (T.r (TL.mv rfl (TL.bin rfl rfl (T.nil (T.m ?_)))))))))
 refine T.cD rfl (fun hc1 => ?_) (fun hc1 => ?_)
 {
 replace hr := iP hr hc1
 refine T.q (T.r (TL.a rfl (T.nil (T.m ?_))))
 refine T.ret ?_
 refine T.thenRet ?_
 obtain rfl := Option.some.inj hr
 exact ⟨.inr rfl, _, _, (Res.tmp rfl Res.nil), (.sl (.p p1 (.p p1 (.p p1 (.p p1 (d1)))))), rfl, rfl⟩
 }
 {
 replace hr := iN hr hc1
 refine T.k (T.m (T.q (T.r (TL.fa rfl (TL.ld rfl a0 rfl (TL.mv rfl ?_))))))
 obtain ⟨hc2, hr⟩ := cS hr
 refine TL.su rfl hc2 ?_
 obtain ⟨x3, hx1, hr⟩ := bS hr
 refine TL.ixu rfl a1 hx1 (fun b1 e41 hp1 => ?_)
 refine GR.ex a1 hp1 hx1 (fun w5 => ?_)
 refine TL.fa rfl (TL.ldg (m := 0) rfl a0 rfl rfl (TL.a rfl (T.nil (T.m ?_))))
 refine T.ret ?_
 obtain rfl := Option.some.inj hr
 exact ⟨.inr rfl, _, _, (Res.tmp rfl Res.nil), (.sl (.p p3 (.p p3 (.p p3 (.p p3 (d3)))))), rfl, rfl⟩
 }
end Go.Proofs.YtlpcdcpcfeaecaaAb
