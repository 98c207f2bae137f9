import Derived.Test.YtlpcdcpcfeaecaaG03
set_option linter.all false
set_option maxHeartbeats 1000000
set_option maxRecDepth 20000
namespace Go.Proofs.YtlpcdcpcfeaecaaAb
open Go Go.Proofs
theorem f_impl_Cluster_elect_k {Δ : Prims} (g : Env Try.prog Δ) {lo n0 : Nat} {H0 F0 : Heap} (hS : St lo n0 H0 F0) {p0 : Nat} {x1 : GCluster} {ez0 : Nat} {a2 : Option Addr} {cap3 : Nat} {S6 : Nat → Prop} {a7 : Option Addr} {cap8 : Nat} {a11 : Option Addr} {cap12 : Nat} {x18 : Int} (ho15 : H0 p0 = some (.row ez0 [.slice a2 x1.Peers.length cap3, .slice a7 x1.Net.length cap8, .slice a11 x1.Chosen.length cap12, .bool x1.Conflict])) (fo16 : F0 p0 = none) (lo17 : lo ≤ p0) (h4 : OD lo n0 H0 F0 S6 [] (.slice a2 x1.Peers.length cap3) x1.Peers) (h9 : Ow lo n0 H0 F0 a7 cap8 x1.Net) (h13 : Ow lo n0 H0 F0 a11 cap12 x1.Chosen) (ap19 : ¬ S6 p0) (ap20 : nP (.slice a7 x1.Net.length cap8) p0) (ap21 : nS (.slice a7 x1.Net.length cap8) S6) (ap22 : nP (.slice a11 x1.Chosen.length cap12) p0) (ap23 : nS (.slice a11 x1.Chosen.length cap12) S6) (ap24 : nA (.slice a11 x1.Chosen.length cap12) (.slice a7 x1.Net.length cap8)) {res : (GCluster)} (hr : f_impl_Cluster_elect x1 x18 = some res) :
    C Try.prog Δ lo 87 [pt p0 0, iv x18] n0 H0 (fun v n H => ∃ (F : Heap) (rS2 : Nat → Prop) (ra4 : OA) (rcap5 : Nat) (ra7 : OA) (rcap8 : Nat), Ext n0 F0 n F ∧ St lo n H F ∧ H p0 = some (.row ez0 [.slice a2 x1.Peers.length cap3, .slice ra4 res.Net.length rcap5, .slice ra7 res.Chosen.length rcap8, .bool res.Conflict]) ∧ v = .tuple #[] ∧ OD lo n H F rS2 [] (.slice a2 x1.Peers.length cap3) res.Peers ∧ x1.Peers.length = res.Peers.length ∧ Ow lo n H F ra4 rcap5 res.Net ∧ Ow lo n H F ra7 rcap8 res.Chosen ∧ ¬ rS2 p0 ∧ nP (.slice ra4 res.Net.length rcap5) p0 ∧ nP (.slice ra7 res.Chosen.length rcap8) p0 ∧ nS (.slice ra4 res.Net.length rcap5) rS2 ∧ nS (.slice ra7 res.Chosen.length rcap8) rS2 ∧ nA (.slice ra7 res.Chosen.length rcap8) (.slice ra4 res.Net.length rcap5)) := by
 refine C.body Try.func87 rfl rfl ?_
 unfold f_impl_Cluster_elect at hr
 have hS0 : St lo n0 H0 F0 := hS
 have hE0 := Ext.refl n0 F0
 have hlo0 := hS0.lo
 have lt0 := hS0.lt ho15
 refine wS (wR ?_)
 refine GL.box hS0 .nil (vc := [pt p0 0]) rfl rfl rfl rfl rfl bxP (fun H25 hS26 ho27 hk28 => ?_)
 have fo29 := hS0.fnone (Nat.le_refl _)
 have ho31 := oA hk28 ho15 lt0
 have h32 := OD.keep (n' := (n0 + 1)) h4 (by omega) (fun i hi => hk28 i (OD.id_lt h4 hi).2)
 have h33 := kA (n' := (n0 + 1)) h9 hk28
 have h34 := kA (n' := (n0 + 1)) h13 hk28
 have hlon01 := hS26.lo
 have lt30 : n0 < (n0 + 1) := by omega
 refine GL.box hS26 .nil (vc := [iv x18]) rfl rfl rfl rfl rfl bxP (fun H35 hS36 ho37 hk38 => ?_)
 have fo39 := hS26.fnone (Nat.le_refl _)
 have ho41 := oA hk38 ho31 lt0
 have ho42 := oA hk38 ho27 lt30
 have h43 := OD.keep (n' := ((n0 + 1) + 1)) h32 (by omega) (fun i hi => hk38 i (OD.id_lt h32 hi).2)
 have h44 := kA (n' := ((n0 + 1) + 1)) h33 hk38
 have h45 := kA (n' := ((n0 + 1) + 1)) h34 hk38
 have hlon0 := hS36.lo
 have lt40 : (n0 + 1) < ((n0 + 1) + 1) := by omega
 refine wN (eT (wS ?_))
 refine W.regionD r8 f8 rfl rfl kr kr mP ?_
 refine lR rfl U60 rfl ho42 rfl (zR rfl (fR rfl U30 rfl info26 rfl (lR rfl U26 rfl ho41 rfl (lR rfl U3 rfl ho37 rfl ?_))))
 obtain ⟨x46, hx46, hr⟩ := bnd_some hr
 refine GL.indexD .r rfl rfl rfl U26 info42 rfl rfl h43 rfl hx46 (fun b47 el48 hp49 => ?_)
 refine aR rfl (aR rfl (wN (eT (wS (wS (wR (mN rfl (zN rfl (fN rfl U42 rfl info40 rfl ?_)))))))))
 obtain ⟨c50, ecs51, hrow52, hwin53, hb54⟩ := OD.get h43 hp49 hx46
 obtain ⟨a55, cap56, a57, cap58, a59, cap60, a61, cap62, rfl⟩ := GPeer.ofB hb54
 obtain ⟨S63, hs64, hs65, hs66, h67, h68⟩ := GPeer.open_Votes h43 hp49 hx46 hrow52 hwin53 (List.forall_mem_nil _)
 refine lN rfl U40 rfl hrow52 (wG 6 hwin53) (WL.len .nil rfl rfl rfl U40 rfl (mN rfl (wN (eT (W.block ?_)))))
 refine W.loopF (fun k0 fr n H => ∃ (x0 : Int) (x2 : Int) (S0 : Nat → Prop) (F : Heap), fr = [(2, pt n0 0), (3, pt (n0 + 1) 0), (4, pt b47 el48), (5, iv x0), (17, .slice a57 x46.Votes.length cap58), (18, iv (x46.Votes.length : Int)), (19, iv x2)] ∧ St lo n H F ∧ Ext n0 F0 n F ∧ H (n0 + 1) = some (.row 1 [iv x18]) ∧ F (n0 + 1) = none ∧ H n0 = some (.row 1 [pt p0 0]) ∧ F n0 = none ∧ H p0 = some (.row ez0 [.slice a2 x1.Peers.length cap3, .slice a7 x1.Net.length cap8, .slice a11 x1.Chosen.length cap12, .bool x1.Conflict]) ∧ F p0 = none ∧ Ow lo n H F a57 cap58 x46.Votes ∧ OD lo n H F S0 [((x18).toNat, 6, .slice a57 x46.Votes.length cap58)] (.slice a2 x1.Peers.length cap3) x1.Peers ∧ Ow lo n H F a7 cap8 x1.Net ∧ Ow lo n H F a11 cap12 x1.Chosen ∧ nP (.slice a57 x46.Votes.length cap58) (n0 + 1) ∧ nP (.slice a57 x46.Votes.length cap58) n0 ∧ nP (.slice a57 x46.Votes.length cap58) p0 ∧ ¬ S0 (n0 + 1) ∧ ¬ S0 n0 ∧ ¬ S0 p0 ∧ Sn S0 (.slice a57 x46.Votes.length cap58) ∧ nP (.slice a7 x1.Net.length cap8) (n0 + 1) ∧ nP (.slice a7 x1.Net.length cap8) n0 ∧ nP (.slice a7 x1.Net.length cap8) p0 ∧ nA (.slice a7 x1.Net.length cap8) (.slice a57 x46.Votes.length cap58) ∧ nS (.slice a7 x1.Net.length cap8) S0 ∧ nP (.slice a11 x1.Chosen.length cap12) (n0 + 1) ∧ nP (.slice a11 x1.Chosen.length cap12) n0 ∧ nP (.slice a11 x1.Chosen.length cap12) p0 ∧ nA (.slice a11 x1.Chosen.length cap12) (.slice a57 x46.Votes.length cap58) ∧ nS (.slice a11 x1.Chosen.length cap12) S0 ∧ nA (.slice a11 x1.Chosen.length cap12) (.slice a7 x1.Net.length cap8) ∧ f_impl_Cluster_elect_L0 x46 x1 x18 k0 x0 x2 = some res) BIG (fr0 := [(2, pt n0 0), (3, pt (n0 + 1) 0), (4, pt b47 el48), (5, iv 0), (17, .slice a57 x46.Votes.length cap58), (18, iv (x46.Votes.length : Int)), (19, iv 0)]) (fl7) ?_ ?_ ?_
 {
 exact ⟨0, 0, S63, F0, rfl, hS36, (hE0.up (by omega)), ho37, fo39, ho42, fo29, ho41, fo16, h67, h68, h44, h45, (Ap.sub0 hs65 (aD h32)), (Ap.sub0 hs65 (aD h4)), (Ap.sub0 hs65 ap19), (Ap.sub0 hs64 (aD h32)), (Ap.sub0 hs64 (aD h4)), (Ap.sub0 hs64 ap19), (Ap.sym hs66), (aW h33), (aW h9), ap20, (Ap.sym (Ap.sub hs65 (Ap.sym ap21))), (Ap.sym (Ap.sub hs64 (Ap.sym ap21))), (aW h34), (aW h13), ap22, (Ap.sym (Ap.sub hs65 (Ap.sym ap23))), (Ap.sym (Ap.sub hs64 (Ap.sym ap23))), ap24, hr⟩
 }
 {
 intro fr n H hI
 obtain ⟨x0, x2, S0, F1, hfr, hS1, hE1, ho0, fo0, ho1, fo1, ho2, fo2, h0, h1, h2, h3, ap0, ap1, ap2, ap3, ap4, ap5, ap6, ap7, ap8, ap9, ap10, ap11, ap12, ap13, ap14, ap15, ap16, ap17, hr⟩ := hI
 rw [f_impl_Cluster_elect_L0] at hr
 cases hr
 }
 {
 intro k0 _ n1 H1 hI
 obtain ⟨x0, x2, S0, F1, rfl, hS1, hE1, ho0, fo0, ho1, fo1, ho2, fo2, h0, h1, h2, h3, ap0, ap1, ap2, ap3, ap4, ap5, ap6, ap7, ap8, ap9, ap10, ap11, ap12, ap13, ap14, ap15, ap16, ap17, hr⟩ := hI
 have lt1 := hS1.lt ho0
 have lt2 := hS1.lt ho1
 have lt3 := hS1.lt ho2
 have hlen0 := hE1.le
 have hlon1 := hS1.lo
 rw [f_impl_Cluster_elect_L0] at hr
 refine wS (wR (bN rfl rfl (wN (eT (wS ?_)))))
 refine W.condD rfl (fun hc0 => ?_) (fun hc0 => ?_)
 {
 replace hr := ite_pos hr hc0
 refine wK (eT (wS ?_))
 refine W.cut (fun fr n H => ∃ (x3 : Int) (S1 : Nat → Prop) (F : Heap), fr = [(2, pt n0 0), (3, pt (n0 + 1) 0), (4, pt b47 el48), (5, iv x3), (17, .slice a57 x46.Votes.length cap58), (18, iv (x46.Votes.length : Int)), (19, iv x2)] ∧ St lo n H F ∧ Ext n0 F0 n F ∧ H (n0 + 1) = some (.row 1 [iv x18]) ∧ F (n0 + 1) = none ∧ H n0 = some (.row 1 [pt p0 0]) ∧ F n0 = none ∧ H p0 = some (.row ez0 [.slice a2 x1.Peers.length cap3, .slice a7 x1.Net.length cap8, .slice a11 x1.Chosen.length cap12, .bool x1.Conflict]) ∧ F p0 = none ∧ Ow lo n H F a57 cap58 x46.Votes ∧ OD lo n H F S1 [((x18).toNat, 6, .slice a57 x46.Votes.length cap58)] (.slice a2 x1.Peers.length cap3) x1.Peers ∧ Ow lo n H F a7 cap8 x1.Net ∧ Ow lo n H F a11 cap12 x1.Chosen ∧ nP (.slice a57 x46.Votes.length cap58) (n0 + 1) ∧ nP (.slice a57 x46.Votes.length cap58) n0 ∧ nP (.slice a57 x46.Votes.length cap58) p0 ∧ ¬ S1 (n0 + 1) ∧ ¬ S1 n0 ∧ ¬ S1 p0 ∧ Sn S1 (.slice a57 x46.Votes.length cap58) ∧ nP (.slice a7 x1.Net.length cap8) (n0 + 1) ∧ nP (.slice a7 x1.Net.length cap8) n0 ∧ nP (.slice a7 x1.Net.length cap8) p0 ∧ nA (.slice a7 x1.Net.length cap8) (.slice a57 x46.Votes.length cap58) ∧ nS (.slice a7 x1.Net.length cap8) S1 ∧ nP (.slice a11 x1.Chosen.length cap12) (n0 + 1) ∧ nP (.slice a11 x1.Chosen.length cap12) n0 ∧ nP (.slice a11 x1.Chosen.length cap12) p0 ∧ nA (.slice a11 x1.Chosen.length cap12) (.slice a57 x46.Votes.length cap58) ∧ nS (.slice a11 x1.Chosen.length cap12) S1 ∧ nA (.slice a11 x1.Chosen.length cap12) (.slice a7 x1.Net.length cap8) ∧ f_impl_Cluster_elect_J1 x2 (f_impl_Cluster_elect_L0 x46 x1 x18 k0) x3 = some res) ?_ ?_
 {
 refine W.block (wS (wR ?_))
 obtain ⟨x4, hx0, hr⟩ := bnd_some hr
 refine GL.indexO .nil rfl rfl rfl U40 info4 rfl rfl h0 rfl hx0 (fun b0 kp0 c0 ecs0 hid0 hrow0 hwin0 hR0 hup0 => ?_)
 have hcs : _ = ([.bool x4] : List Value) := hR0
 subst hcs
 refine lN rfl U4 rfl hrow0 ((win_get0 hwin0 (show (0 : Nat) < 1 by decide)).trans rfl) (aN rfl (wN (eT (wS (wR (mN rfl (wN (eT ?_))))))))
 refine W.cond rfl (fun hc1 => ?_) (fun hc1 => ?_)
 {
 replace hr := iteB_pos hr hc1
 refine wR (mN rfl ?_)
 obtain ⟨hc2, hr⟩ := chk_some hr
 refine WL.addI .nil rfl rfl rfl rfl rfl hc2.1 hc2.2 (aN rfl (wN (eB (eT ?_))))
 exact ⟨[(2, pt n0 0), (3, pt (n0 + 1) 0), (4, pt b47 el48), (5, iv (x0 + 1)), (17, .slice a57 x46.Votes.length cap58), (18, iv (x46.Votes.length : Int)), (19, iv x2)], (fl7), (x0 + 1), S0, F1, rfl, hS1, hE1, ho0, fo0, ho1, fo1, ho2, fo2, h0, h1, h2, h3, ap0, ap1, ap2, ap3, ap4, ap5, ap6, ap7, ap8, ap9, ap10, ap11, ap12, ap13, ap14, ap15, ap16, ap17, hr⟩
 }
 {
 replace hr := iteB_neg hr hc1
 refine wK (eB (eT ?_))
 exact ⟨[(2, pt n0 0), (3, pt (n0 + 1) 0), (4, pt b47 el48), (5, iv x0), (17, .slice a57 x46.Votes.length cap58), (18, iv (x46.Votes.length : Int)), (19, iv x2)], (fl7), x0, S0, F1, rfl, hS1, hE1, ho0, fo0, ho1, fo1, ho2, fo2, h0, h1, h2, h3, ap0, ap1, ap2, ap3, ap4, ap5, ap6, ap7, ap8, ap9, ap10, ap11, ap12, ap13, ap14, ap15, ap16, ap17, hr⟩
 }
 }
 {
 intro _ n2 H3 hI
 obtain ⟨x3, S1, F2, rfl, hS2, hE2, ho3, fo3, ho4, fo4, ho5, fo5, h5, h6, h7, h8, ap18, ap25, ap26, ap27, ap28, ap29, ap30, ap31, ap32, ap33, ap34, ap35, ap36, ap37, ap38, ap39, ap40, ap41, hr⟩ := hI
 have lt4 := hS2.lt ho3
 have lt5 := hS2.lt ho4
 have lt6 := hS2.lt ho5
 have hlen1 := hE2.le
 have hlon2 := hS2.lo
 unfold f_impl_Cluster_elect_J1 at hr
 refine wR ?_
 obtain ⟨hc3, hr⟩ := chk_some hr
 refine WL.addI .nil rfl rfl rfl rfl rfl hc3.1 hc3.2 (mN rfl (wN (eT ?_)))
 exact ⟨[(2, pt n0 0), (3, pt (n0 + 1) 0), (4, pt b47 el48), (5, iv x3), (17, .slice a57 x46.Votes.length cap58), (18, iv (x46.Votes.length : Int)), (19, iv (x2 + 1))], (fl7), x3, (x2 + 1), S1, F2, rfl, hS2, hE2, ho3, fo3, ho4, fo4, ho5, fo5, h5, h6, h7, h8, ap18, ap25, ap26, ap27, ap28, ap29, ap30, ap31, ap32, ap33, ap34, ap35, ap36, ap37, ap38, ap39, ap40, ap41, hr⟩
 }
 }
 {
 replace hr := ite_neg hr hc0
 refine W.exit (eX (eX (eH (eT (wS (wS ?_))))))
 refine W.cut (fun fr n H => ∃ (x5 : Bool) (S2 : Nat → Prop) (F : Heap), fr = [(2, pt n0 0), (3, pt (n0 + 1) 0), (4, pt b47 el48), (41, .bool x5)] ∧ St lo n H F ∧ Ext n0 F0 n F ∧ H (n0 + 1) = some (.row 1 [iv x18]) ∧ F (n0 + 1) = none ∧ H n0 = some (.row 1 [pt p0 0]) ∧ F n0 = none ∧ H p0 = some (.row ez0 [.slice a2 x1.Peers.length cap3, .slice a7 x1.Net.length cap8, .slice a11 x1.Chosen.length cap12, .bool x1.Conflict]) ∧ F p0 = none ∧ OD lo n H F S2 [] (.slice a2 x1.Peers.length cap3) x1.Peers ∧ Ow lo n H F a7 cap8 x1.Net ∧ Ow lo n H F a11 cap12 x1.Chosen ∧ ¬ S2 (n0 + 1) ∧ ¬ S2 n0 ∧ ¬ S2 p0 ∧ nP (.slice a7 x1.Net.length cap8) (n0 + 1) ∧ nP (.slice a7 x1.Net.length cap8) n0 ∧ nP (.slice a7 x1.Net.length cap8) p0 ∧ nS (.slice a7 x1.Net.length cap8) S2 ∧ nP (.slice a11 x1.Chosen.length cap12) (n0 + 1) ∧ nP (.slice a11 x1.Chosen.length cap12) n0 ∧ nP (.slice a11 x1.Chosen.length cap12) p0 ∧ nS (.slice a11 x1.Chosen.length cap12) S2 ∧ nA (.slice a11 x1.Chosen.length cap12) (.slice a7 x1.Net.length cap8) ∧ f_impl_Cluster_elect_J2 x1 x46 x18 x5 = some res) ?_ ?_
 {
 refine wR (mN rfl (zN rfl (fN rfl U42 rfl info3 rfl ?_)))
 obtain ⟨c1, ecs1, hrow1, hwin1, hb0⟩ := OD.get h1 hp49 hx46
 obtain ⟨a0, cap0, a1, cap1, a3, cap2, a4, cap4, rfl⟩ := GPeer.ofB hb0
 have hq0 := OD.hole h1 hp49 hx46 hrow1 hwin1
 obtain ⟨rfl, rfl⟩ := hdr_eq (a := a1) (c := cap1) hq0
 refine lN rfl U3 rfl hrow1 (wG 4 hwin1) (bN rfl rfl (mN rfl ?_))
 refine WL.guardN rfl rfl rfl (fun hg0 => ?_) (fun hg0 => ?_)
 {
 replace hr := ite_neg hr hg0
 refine kN rfl (kN rfl (kN rfl (kN rfl (kN rfl (kN rfl (kN rfl (kN rfl (WL.pick .nil rfl rfl rfl rfl rfl (wN (eT ?_))))))))))
 obtain ⟨S3, hs0, h10⟩ := GPeer.close0_Votes h1 hx46 h0
 exact ⟨[(2, pt n0 0), (3, pt (n0 + 1) 0), (4, pt b47 el48), (41, .bool true)], (fl4), true, S3, F1, rfl, hS1, hE1, ho0, fo0, ho1, fo1, ho2, fo2, h10, h2, h3, (Ap.or0 hs0 ap3 ap0), (Ap.or0 hs0 ap4 ap1), (Ap.or0 hs0 ap5 ap2), ap7, ap8, ap9, (Ap.sym (Ap.or hs0 (Ap.sym ap11) (Ap.sym ap10))), ap12, ap13, ap14, (Ap.sym (Ap.or hs0 (Ap.sym ap16) (Ap.sym ap15))), ap17, hr⟩
 }
 {
 replace hr := ite_pos hr hg0
 refine mN rfl (lN rfl U60 rfl ho1 rfl (zN rfl (fN rfl U30 rfl info26 rfl (lN rfl U26 rfl ho2 rfl (WL.len .nil rfl rfl rfl U26 rfl ?_)))))
 obtain ⟨x6, hx1, hr⟩ := bnd_some hr
 refine GL.callP g.good .nil rfl rfl rfl rfl rfl rfl Try.func34 rfl rfl hS1.lo (f_impl_most_k  g hS1 hx1) (fun v n3 H4 hn0 hk0 hp0 => ?_)
 obtain ⟨hS3, rfl⟩ := hp0
 have ho6 := oA hk0 ho0 lt1
 have ho7 := oA hk0 ho1 lt2
 have ho8 := oA hk0 ho2 lt3
 have h11 := kA (n' := n3) h0 hk0
 have h12 := OD.keep (n' := n3) h1 (by omega) (fun i hi => hk0 i (OD.id_lt h1 hi).2)
 have h14 := kA (n' := n3) h2 hk0
 have h15 := kA (n' := n3) h3 hk0
 have hS4 : St lo n3 H4 F1 := ⟨by have := hS1.lo; omega, hS3.hb, hS3.fh⟩
 have hlon3 := hS4.lo
 refine bN rfl rfl (WL.pick .nil rfl rfl rfl rfl rfl (wN (eT ?_)))
 obtain ⟨S4, hs1, h16⟩ := GPeer.close0_Votes h12 hx46 h11
 exact ⟨[(2, pt n0 0), (3, pt (n0 + 1) 0), (4, pt b47 el48), (41, .bool (decide (x0 < x6)))], (fl4), (decide (x0 < x6)), S4, F1, rfl, hS4, (hE1.up (by omega)), ho6, fo0, ho7, fo1, ho8, fo2, h16, h14, h15, (Ap.or0 hs1 ap3 ap0), (Ap.or0 hs1 ap4 ap1), (Ap.or0 hs1 ap5 ap2), ap7, ap8, ap9, (Ap.sym (Ap.or hs1 (Ap.sym ap11) (Ap.sym ap10))), ap12, ap13, ap14, (Ap.sym (Ap.or hs1 (Ap.sym ap16) (Ap.sym ap15))), ap17, hr⟩
 }
 }
 {
 intro _ n4 H5 hI
 obtain ⟨x5, S2, F3, rfl, hS5, hE3, ho9, fo6, ho10, fo7, ho11, fo8, h17, h18, h19, ap42, ap43, ap44, ap45, ap46, ap47, ap48, ap49, ap50, ap51, ap52, ap53, hr⟩ := hI
 have lt7 := hS5.lt ho9
 have lt8 := hS5.lt ho10
 have lt9 := hS5.lt ho11
 have hlen2 := hE3.le
 have hlon4 := hS5.lo
 unfold f_impl_Cluster_elect_J2 at hr
 refine W.cond rfl (fun hc4 => ?_) (fun hc4 => ?_)
 {
 replace hr := iteB_pos hr hc4
 refine W.ret (eR ?_)
 obtain rfl := Option.some.inj hr
 exact ⟨.inr rfl, _, .nil, ⟨F3, S2, a7, cap8, a11, cap12, (hE3.up (by omega)), hS5, ho11, rfl, h17, rfl, h18, h19, ap44, ap47, ap51, ap48, ap52, ap53⟩⟩
 }
 {
 replace hr := iteB_neg hr hc4
 refine wK (eT (wS (wR (mN rfl (mN rfl (zN rfl (fN rfl U42 rfl info3 rfl ?_)))))))
 obtain ⟨c2, ecs2, hrow2, hwin2, hb1⟩ := OD.get h17 hp49 hx46
 obtain ⟨a5, cap5, a6, cap6, a8, cap7, a9, cap9, rfl⟩ := GPeer.ofB hb1
 refine GL.store hS5 .nil (vc := [iv 2]) rfl rfl rfl info3 rfl rfl rfl rfl hrow2 (OD.fnone h17 (OD.bS h17 hp49)) (win_fit2 hwin2 (bl rfl) rfl (bl rfl)) (by have := (OD.id_lt h17 (OD.bS h17 hp49)).1; omega) (one1 rfl) rfl (fun H6 hS6 ho12 hk1 => ?_)
 have ho13 := (hk1 (n0 + 1) (fun hj => ap42 (by rw [hj]; exact (OD.bS h17 hp49)))).trans ho9
 have ho14 := (hk1 n0 (fun hj => ap43 (by rw [hj]; exact (OD.bS h17 hp49)))).trans ho10
 have ho16 := (hk1 p0 (fun hj => ap44 (by rw [hj]; exact (OD.bS h17 hp49)))).trans ho11
 have h20 := kC h18 hk1 ap48 (OD.bS h17 hp49)
 have h21 := kC h19 hk1 ap52 (OD.bS h17 hp49)
 have h22 := GPeer.put_Role h17 hp49 hx46 hrow2 hwin2 (w := 2) ho12 hk1
 have hl0 := lnS h22
 have hx2 := ixS h22 hx46
 refine zN rfl (fN rfl U42 rfl info40 rfl ?_)
 obtain ⟨c3, ecs3, hrow3, hwin3, hb2⟩ := OD.get h22 hp49 hx2
 obtain ⟨a10, cap10, a12, cap11, a13, cap13, a14, cap14, rfl⟩ := GPeer.ofB hb2
 refine GL.store hS6 .nil (vc := [.slice none 0 0]) rfl rfl rfl info40 rfl rfl rfl rfl hrow3 (OD.fnone h22 (OD.bS h22 hp49)) (win_fit2 hwin3 (bl rfl) rfl (bl rfl)) (by have := (OD.id_lt h22 (OD.bS h22 hp49)).1; omega) (one1 rfl) rfl (fun H7 hS7 ho17 hk2 => ?_)
 have ho18 := (hk2 (n0 + 1) (fun hj => ap42 (by rw [hj]; exact (OD.bS h22 hp49)))).trans ho13
 have ho19 := (hk2 n0 (fun hj => ap43 (by rw [hj]; exact (OD.bS h22 hp49)))).trans ho14
 have ho20 := (hk2 p0 (fun hj => ap44 (by rw [hj]; exact (OD.bS h22 hp49)))).trans ho16
 have h23 := kC h20 hk2 ap48 (OD.bS h22 hp49)
 have h24 := kC h21 hk2 ap52 (OD.bS h22 hp49)
 have h25 := GPeer.nil_Votes h22 hp49 hx2 hrow3 hwin3 z00 z00 ho17 hk2
 rw [setI_setI] at h25
 have hl1 : x1.Peers.length = (setI x1.Peers x18 (⟨x46.Up, x46.Term, x46.Vote, x46.Commit, 2, x46.Log, [], x46.Next, x46.Match⟩ : GPeer)).length := hl0.trans (by rw [setI_length, setI_length])
 have hx3 := idx_setI_same (y := (⟨x46.Up, x46.Term, x46.Vote, x46.Commit, 2, x46.Log, [], x46.Next, x46.Match⟩ : GPeer)) hx46
 refine wN (eT (wS ?_))
 refine W.regionI (fun H => H (n4 + 1) = some (.row (Rp.sz Int) (List.replicate (x1.Peers.length : Int).toNat [iv 0]).flatten)) [0, 1, 2, 3, 4, 5, 6, 7, 8, 9, 10, 11, 12, 13, 15, 16, 17, 18, 19, 20, 14, 21, 22, 23, 24, 25, 26] [(false, false, false), (false, true, false), (false, false, false), (false, false, false), (false, false, false), (false, false, false), (false, false, false), (false, false, false), (false, false, false), (false, false, false), (false, false, false), (false, false, false), (false, false, false), (false, false, false), (false, false, false), (false, false, false), (false, false, false), (false, false, false), (false, true, false), (false, true, false), (false, false, false), (false, false, false), (false, false, false), (true, false, false), (false, false, false), (false, false, false), (true, false, true)] false rfl kr kr mP ?_
 refine oP (mR rfl ?_)
 with_reducible refine WL.nil ⟨rfl, ?_⟩
 refine WLI.late (v := pt b47 el48) (fun h => by cases h) rfl rfl (fun H2 hI2 => .move (.inl rfl) rfl) ?_
 refine oP (mR rfl ?_)
 with_reducible refine WL.nil ⟨rfl, ?_⟩
 refine oP (zR rfl ?_)
 with_reducible refine WL.nil ⟨rfl, ?_⟩
 refine oP (fR rfl U42 rfl info28 rfl ?_)
 with_reducible refine WL.nil ⟨rfl, ?_⟩
 refine oP ?_
 obtain ⟨c4, ecs4, hrow4, hwin4, hb3⟩ := OD.get h25 hp49 hx3
 obtain ⟨a15, cap15, a16, cap16, a17, cap17, a18, cap18, rfl⟩ := GPeer.ofB hb3
 obtain ⟨S5, hs2, hs3, hs4, h26, h27⟩ := GPeer.open_Log h25 hp49 hx3 hrow4 hwin4 (List.forall_mem_nil _)
 refine lR rfl U28 rfl hrow4 (wG 5 hwin4) ?_
 with_reducible refine WL.nil ⟨rfl, ?_⟩
 refine oP (WL.len .r rfl rfl rfl U28 rfl ?_)
 with_reducible refine WL.nil ⟨rfl, ?_⟩
 refine oP ?_
 obtain ⟨hc5, hr⟩ := chk_some hr
 refine WL.addI .r rfl rfl rfl rfl rfl hc5.1 hc5.2 ?_
 with_reducible refine WL.nil ⟨rfl, ?_⟩
 refine oP ?_
 refine GL.lit (cs := [iv ((x46.Log.length : Int) + 1)]) (xs := ([((x46.Log.length : Int) + 1)] : List Int)) hS7 .r rfl rfl rfl U31 info3 rfl rfl rfl (by decide) (by decide) rfl rfl rfl rfl rfl (RA.cons (cs := [iv ((x46.Log.length : Int) + 1)]) (a := (((x46.Log.length : Int) + 1) : Int)) rfl RA.nil) rfl (fun H8 hS8 hO0 hk3 => ?_)
 have ho21 := oA hk3 ho18 lt7
 have ho22 := oA hk3 ho19 lt8
 have ho23 := oA hk3 ho20 lt9
 have h28 := OD.keep (n' := (n4 + 1)) h27 (by omega) (fun i hi => hk3 i (OD.id_lt h27 hi).2)
 have h29 := kA (n' := (n4 + 1)) h23 hk3
 have h30 := kA (n' := (n4 + 1)) h24 hk3
 have h31 := kA (n' := (n4 + 1)) h26 hk3
 have h35 := OW.lower (lo' := n0) hO0 (by omega)
 have hlon5 := hS8.lo
 with_reducible refine WL.nil ⟨rfl, ?_⟩
 refine oP (lR rfl U60 rfl ho22 rfl ?_)
 with_reducible refine WL.nil ⟨rfl, ?_⟩
 refine oP (zR rfl ?_)
 with_reducible refine WL.nil ⟨rfl, ?_⟩
 refine oP (fR rfl U30 rfl info26 rfl ?_)
 with_reducible refine WL.nil ⟨rfl, ?_⟩
 refine oP (lR rfl U26 rfl ho23 rfl ?_)
 with_reducible refine WL.nil ⟨rfl, ?_⟩
 refine oP (WL.len .r rfl rfl rfl U26 rfl ?_)
 with_reducible refine WL.nil ⟨rfl, ?_⟩
 refine oP (lR rfl U60 rfl ho22 rfl ?_)
 with_reducible refine WL.nil ⟨rfl, ?_⟩
 refine oP (zR rfl ?_)
 with_reducible refine WL.nil ⟨rfl, ?_⟩
 refine oP (fR rfl U30 rfl info26 rfl ?_)
 with_reducible refine WL.nil ⟨rfl, ?_⟩
 refine oP (lR rfl U26 rfl ho23 rfl ?_)
 with_reducible refine WL.nil ⟨rfl, ?_⟩
 refine WLI.late (v := iv (x1.Peers.length : Int)) (fun h => by cases h) rfl rfl (fun H2 hI2 => Step.len' rfl U26 rfl) ?_
 obtain ⟨hc6, hr⟩ := chk_some hr
 refine GL.makeLate (α := Int) (u := 0) (zc := [iv 0]) hS8 (fun h => by cases h) rfl rfl rfl U31 info3 rfl rfl rfl (by decide) rfl (by decide) rfl rfl rfl rfl hc6.1 hc6.2 (fun H h => h) (fun H9 hS9 hO1 hk4 hr0 => ?_)
 have ho24 := oA hk4 ho21 lt7
 have ho25 := oA hk4 ho22 lt8
 have ho26 := oA hk4 ho23 lt9
 have h36 := OD.keep (n' := ((n4 + 1) + 1)) h28 (by omega) (fun i hi => hk4 i (OD.id_lt h28 hi).2)
 have h37 := kA (n' := ((n4 + 1) + 1)) h29 hk4
 have h38 := kA (n' := ((n4 + 1) + 1)) h30 hk4
 have h39 := kA (n' := ((n4 + 1) + 1)) h31 hk4
 have h40 := kA (n' := ((n4 + 1) + 1)) h35 hk4
 have h41 := OW.lower (lo' := n0) hO1 (by omega)
 have hlon6 := hS9.lo
 have rw0 : RW n0 ((n4 + 1) + 1) H9 F3 (n4 + 1) (.row (Rp.sz Int) (List.replicate (x1.Peers.length : Int).toNat [iv 0]).flatten) := ⟨by omega, by omega, OW.fnone h41 rfl, hr0⟩
 have ap54 : ∀ b, b = (n4 + 1) → ¬ S5 b := fun b h => (Ap.fresh (OW.lb hO1) (OD.hb h28)) b (congrArg some h.symm)
 have ap55 : ∀ b, b = (n4 + 1) → nP (.slice a15 x46.Log.length cap15) b := fun b h => (Ap.fresh (OW.lb hO1) (OW.hb h31)) b (congrArg some h.symm)
 refine oP ?_
 obtain ⟨x7, hx4, hr⟩ := bnd_some hr
 refine GL.callP g.good .r rfl rfl rfl rfl rfl rfl Try.func112 rfl rfl (Nat.le_refl _) (f_slices_Repeat_int_k  g hS9 (OW.src h40) hx4) (fun v n5 H10 hn1 hk5 hp1 => ?_)
 obtain ⟨a19, cap19, hS10, rfl, h42⟩ := hp1
 have ho28 := oA hk5 ho24 lt7
 have ho29 := oA hk5 ho25 lt8
 have ho30 := oA hk5 ho26 lt9
 have h46 := OD.keep (n' := n5) h36 (by omega) (fun i hi => hk5 i (OD.id_lt h36 hi).2)
 have h47 := kA (n' := n5) h37 hk5
 have h48 := kA (n' := n5) h38 hk5
 have h49 := kA (n' := n5) h39 hk5
 have h50 := kA (n' := n5) h41 hk5
 have h51 := RW.keep (n' := n5) rw0 (by omega) (fun i hi => hk5 i (RW.id_lt rw0 hi).2)
 have hS11 : St lo n5 H10 F3 := ⟨by have := hS9.lo; omega, hS10.hb, hS10.fh⟩
 have hlon7 := hS11.lo
 have h52 := OW.lower (lo' := n0) h42 (by omega)
 with_reducible refine WL.nil ⟨rfl, ?_⟩
 refine oP (zR rfl ?_)
 with_reducible refine WL.nil ⟨rfl, ?_⟩
 refine oP (fR rfl U42 rfl info31 rfl ?_)
 with_reducible refine WL.nil ⟨rfl, ?_⟩
 refine oP ?_
 obtain ⟨S7, hs5, h53⟩ := GPeer.close0_Log h46 hx3 h49
 obtain ⟨c5, ecs5, hrow5, hwin5, hb4⟩ := OD.get h53 hp49 hx3
 obtain ⟨a20, cap20, a21, cap21, a22, cap22, a23, cap23, rfl⟩ := GPeer.ofB hb4
 refine GL.store hS11 .w (vc := [.slice a19 x7.length cap19]) rfl rfl rfl info31 rfl rfl rfl rfl hrow5 (OD.fnone h53 (OD.bS h53 hp49)) (win_fit2 hwin5 (bl rfl) rfl (bl rfl)) (by have := (OD.id_lt h53 (OD.bS h53 hp49)).1; omega) (one1 rfl) rfl (fun H11 hS12 ho32 hk6 => ?_)
 have ho33 := (hk6 (n0 + 1) (fun hj => (Ap.or0 hs5 (Ap.sub0 hs2 ap42) (Ap.sub0 hs3 ap42)) (by rw [hj]; exact (OD.bS h53 hp49)))).trans ho28
 have ho34 := (hk6 n0 (fun hj => (Ap.or0 hs5 (Ap.sub0 hs2 ap43) (Ap.sub0 hs3 ap43)) (by rw [hj]; exact (OD.bS h53 hp49)))).trans ho29
 have ho35 := (hk6 p0 (fun hj => (Ap.or0 hs5 (Ap.sub0 hs2 ap44) (Ap.sub0 hs3 ap44)) (by rw [hj]; exact (OD.bS h53 hp49)))).trans ho30
 have h54 := OW.keep h47 (Nat.le_refl _) (fun i hi => hk6 i (fun hj => (Ap.sym (Ap.or hs5 (Ap.sub hs2 (Ap.sym ap48)) (Ap.sub hs3 (Ap.sym ap48)))) i hi (by rw [hj]; exact (OD.bS h53 hp49))))
 have h55 := OW.keep h48 (Nat.le_refl _) (fun i hi => hk6 i (fun hj => (Ap.sym (Ap.or hs5 (Ap.sub hs2 (Ap.sym ap52)) (Ap.sub hs3 (Ap.sym ap52)))) i hi (by rw [hj]; exact (OD.bS h53 hp49))))
 have h56 := OW.keep h50 (Nat.le_refl _) (fun i hi => hk6 i (fun hj => (Ap.sym (Ap.or hs5 (Ap.sym (Ap.fresh (OW.lb hO1) (OD.hb h28))) (Ap.sym (Ap.fresh (OW.lb hO1) (OW.hb h31))))) i hi (by rw [hj]; exact (OD.bS h53 hp49))))
 have h57 := RW.keep h51 (Nat.le_refl _) (fun i hi => hk6 i (fun hj => (Ap.sym (Ap.or hs5 (Ap.sym ap54) (Ap.sym ap55))) i hi (by rw [hj]; exact (OD.bS h53 hp49))))
 obtain ⟨S8, hs6, h58⟩ := GPeer.set_Next h53 hp49 hx3 hrow5 hwin5 (OW.lower h52 (by omega)) (fun i hi => (Ap.sym (Ap.or hs5 (Ap.sym (Ap.fresh (OW.lb h42) (OD.hb h36))) (Ap.sym (Ap.fresh (OW.lb h42) (OW.hb h39))))) i hi) z00 z00 ho32 hk6
 have ap56 : ¬ S8 (n0 + 1) := Ap.or0 hs6 (Ap.or0 hs5 (Ap.sub0 hs2 ap42) (Ap.sub0 hs3 ap42)) (Ap.fresh0 (OW.lb h42) (by have := lt7; omega))
 have ap57 : ¬ S8 n0 := Ap.or0 hs6 (Ap.or0 hs5 (Ap.sub0 hs2 ap43) (Ap.sub0 hs3 ap43)) (Ap.fresh0 (OW.lb h42) (by have := lt8; omega))
 have ap58 : ¬ S8 p0 := Ap.or0 hs6 (Ap.or0 hs5 (Ap.sub0 hs2 ap44) (Ap.sub0 hs3 ap44)) (Ap.fresh0 (OW.lb h42) (by have := lt9; omega))
 have ap59 : Sn S8 (.slice a7 x1.Net.length cap8) := Ap.or hs6 (Ap.or hs5 (Ap.sub hs2 (Ap.sym ap48)) (Ap.sub hs3 (Ap.sym ap48))) (Ap.fresh (OW.lb h42) (OW.hb h37))
 have ap60 : Sn S8 (.slice a11 x1.Chosen.length cap12) := Ap.or hs6 (Ap.or hs5 (Ap.sub hs2 (Ap.sym ap52)) (Ap.sub hs3 (Ap.sym ap52))) (Ap.fresh (OW.lb h42) (OW.hb h38))
 have ap61 : Sn S8 (.slice (some ⟨(n4 + 1), 0, none⟩) (List.replicate (x1.Peers.length : Int).toNat (0 : Int)).length ((x1.Peers.length : Int).toNat)) := Ap.or hs6 (Ap.or hs5 (Ap.sym (Ap.fresh (OW.lb hO1) (OD.hb h28))) (Ap.sym (Ap.fresh (OW.lb hO1) (OW.hb h31)))) (Ap.fresh (OW.lb h42) (OW.hb h41))
 rw [setI_setI] at h58
 have hl2 : x1.Peers.length = (setI x1.Peers x18 (⟨x46.Up, x46.Term, x46.Vote, x46.Commit, 2, x46.Log, [], x7, x46.Match⟩ : GPeer)).length := hl1.trans (by rw [setI_length, setI_length])
 have hx5 := idx_setI_same (y := (⟨x46.Up, x46.Term, x46.Vote, x46.Commit, 2, x46.Log, [], x7, x46.Match⟩ : GPeer)) hx46
 with_reducible refine WL.nil ⟨rfl, ?_⟩
 refine oP (zR rfl ?_)
 with_reducible refine WL.nil ⟨rfl, ?_⟩
 refine oP (fR rfl U42 rfl info31 rfl ?_)
 with_reducible refine WL.nil ⟨rfl, ?_⟩
 refine WLI.op (fun _ => h57.2.2.2) ?_
 obtain ⟨c6, ecs6, hrow6, hwin6, hb5⟩ := OD.get h58 hp49 hx5
 obtain ⟨a24, cap24, a25, cap25, a26, cap26, a27, cap27, rfl⟩ := GPeer.ofB hb5
 refine GL.store hS12 .w (vc := [.slice (some ⟨(n4 + 1), 0, none⟩) (List.replicate (x1.Peers.length : Int).toNat (0 : Int)).length ((x1.Peers.length : Int).toNat)]) rfl rfl rfl info31 rfl rfl rfl rfl hrow6 (OD.fnone h58 (OD.bS h58 hp49)) (win_fit2 hwin6 (bl rfl) rfl (bl rfl)) (by have := (OD.id_lt h58 (OD.bS h58 hp49)).1; omega) (one1 rfl) rfl (fun H12 hS13 ho36 hk7 => ?_)
 have ho38 := (hk7 (n0 + 1) (fun hj => ap56 (by rw [hj]; exact (OD.bS h58 hp49)))).trans ho33
 have ho39 := (hk7 n0 (fun hj => ap57 (by rw [hj]; exact (OD.bS h58 hp49)))).trans ho34
 have ho40 := (hk7 p0 (fun hj => ap58 (by rw [hj]; exact (OD.bS h58 hp49)))).trans ho35
 have h59 := OW.keep h54 (Nat.le_refl _) (fun i hi => hk7 i (fun hj => (Ap.sym ap59) i hi (by rw [hj]; exact (OD.bS h58 hp49))))
 have h60 := OW.keep h55 (Nat.le_refl _) (fun i hi => hk7 i (fun hj => (Ap.sym ap60) i hi (by rw [hj]; exact (OD.bS h58 hp49))))
 obtain ⟨S9, hs7, h61⟩ := GPeer.set_Match h58 hp49 hx5 hrow6 hwin6 (OW.lower h56 (by omega)) (fun i hi => (Ap.sym ap61) i hi) z00 z00 ho36 hk7
 rw [setI_setI] at h61
 have hl3 : x1.Peers.length = (setI x1.Peers x18 (⟨x46.Up, x46.Term, x46.Vote, x46.Commit, 2, x46.Log, [], x7, (List.replicate (x1.Peers.length : Int).toNat (0 : Int))⟩ : GPeer)).length := hl2.trans (by rw [setI_length, setI_length])
 have hx6 := idx_setI_same (y := (⟨x46.Up, x46.Term, x46.Vote, x46.Commit, 2, x46.Log, [], x7, (List.replicate (x1.Peers.length : Int).toNat (0 : Int))⟩ : GPeer)) hx46
 with_reducible refine WL.nil ⟨rfl, ?_⟩
 refine WLI.nil (fun h => by cases h) ?_
 refine eT (wS ?_)
 refine W.regionD [0, 1, 2, 3, 4, 5, 6, 7, 8, 9, 10, 11] [false, false, false, false, false, false, false, false, false, false, false, true] rfl rfl kr kr mP ?_
 refine mR rfl (zR rfl (fR rfl U42 rfl info31 rfl ?_))
 obtain ⟨c7, ecs7, hrow7, hwin7, hb6⟩ := OD.get h61 hp49 hx6
 obtain ⟨a28, cap28, a29, cap29, a30, cap30, a31, cap31, rfl⟩ := GPeer.ofB hb6
 obtain ⟨S10, hs8, hs9, hs10, h62, h63⟩ := GPeer.open_Match h61 hp49 hx6 hrow7 hwin7 (List.forall_mem_nil _)
 refine lR rfl U31 rfl hrow7 (wG 8 hwin7) (lR rfl U3 rfl ho38 rfl (mR rfl (zR rfl (fR rfl U42 rfl info28 rfl ?_))))
 obtain ⟨S11, hs11, hs12, hs13, h64, h65⟩ := GPeer.open_Log h63 hp49 hx6 hrow7 hwin7 (List.forall_mem_cons.2 ⟨fun h => absurd (show (8 : Nat) = 5 from h.2) (by decide), List.forall_mem_nil _⟩)
 refine lR rfl U28 rfl hrow7 (wG 5 hwin7) (WL.len .r rfl rfl rfl U28 rfl ?_)
 obtain ⟨x8, hx7, hr⟩ := bnd_some hr
 refine GL.indexO .r rfl rfl rfl U31 info3 rfl rfl h62 rfl hx7 (fun b1 kp1 c8 ecs8 hid1 hrow8 hwin8 hR1 hup1 => ?_)
 have hcs : _ = ([iv x8] : List Value) := hR1
 subst hcs
 refine GL.store hS13 .w (vc := [iv (x46.Log.length : Int)]) rfl rfl rfl info3 rfl rfl rfl rfl hrow8 (OW.fnone h62 hid1) (wF hwin8) (OW.id_lt h62 hid1).1 (one1 rfl) rfl (fun H13 hS14 ho43 hk8 => ?_)
 have h66 := hup1 0 [iv (x46.Log.length : Int)] ((x46.Log.length : Int) : Int) H13 (bl rfl) rfl ho43
 have ho44 := (hk8 (n0 + 1) (fun hj => (Ap.sub0 hs9 (Ap.or0 hs7 ap56 (Ap.fresh0 (OW.lb hO1) (by have := lt7; omega)))) (by rw [hj]; exact hid1))).trans ho38
 have ho45 := (hk8 n0 (fun hj => (Ap.sub0 hs9 (Ap.or0 hs7 ap57 (Ap.fresh0 (OW.lb hO1) (by have := lt8; omega)))) (by rw [hj]; exact hid1))).trans ho39
 have ho46 := (hk8 p0 (fun hj => (Ap.sub0 hs9 (Ap.or0 hs7 ap58 (Ap.fresh0 (OW.lb hO1) (by have := lt9; omega)))) (by rw [hj]; exact hid1))).trans ho40
 have h69 := OD.keep h65 (Nat.le_refl _) (fun i hi => hk8 i (fun hj => (Ap.sub hs11 (Ap.sym hs10)) i hi (by rw [hj]; exact hid1)))
 have h70 := OW.keep h59 (Nat.le_refl _) (fun i hi => hk8 i (fun hj => (Ap.sym (Ap.sub hs9 (Ap.or hs7 ap59 (Ap.fresh (OW.lb hO1) (OW.hb h29))))) i hi (by rw [hj]; exact hid1)))
 have h71 := OW.keep h60 (Nat.le_refl _) (fun i hi => hk8 i (fun hj => (Ap.sym (Ap.sub hs9 (Ap.or hs7 ap60 (Ap.fresh (OW.lb hO1) (OW.hb h30))))) i hi (by rw [hj]; exact hid1)))
 have h72 := OW.keep h64 (Nat.le_refl _) (fun i hi => hk8 i (fun hj => (Ap.sub hs12 (Ap.sym hs10)) i hi (by rw [hj]; exact hid1)))
 have hl4 : (List.replicate (x1.Peers.length : Int).toNat (0 : Int)).length = (setI (List.replicate (x1.Peers.length : Int).toNat (0 : Int)) x18 (x46.Log.length : Int)).length := (setI_length _ _ _).symm
 refine wN (eT (wS (wR (lN rfl U60 rfl ho45 rfl (lN rfl U3 rfl ho44 rfl ?_)))))
 obtain ⟨S12, hs14, h73⟩ := GPeer.close0_Log h69 hx6 h72
 have ap62 : ¬ S12 (n0 + 1) := Ap.or0 hs14 (Ap.sub0 hs11 (Ap.sub0 hs8 (Ap.or0 hs7 ap56 (Ap.fresh0 (OW.lb hO1) (by have := lt7; omega))))) (Ap.sub0 hs12 (Ap.sub0 hs8 (Ap.or0 hs7 ap56 (Ap.fresh0 (OW.lb hO1) (by have := lt7; omega)))))
 have ap63 : ¬ S12 n0 := Ap.or0 hs14 (Ap.sub0 hs11 (Ap.sub0 hs8 (Ap.or0 hs7 ap57 (Ap.fresh0 (OW.lb hO1) (by have := lt8; omega))))) (Ap.sub0 hs12 (Ap.sub0 hs8 (Ap.or0 hs7 ap57 (Ap.fresh0 (OW.lb hO1) (by have := lt8; omega)))))
 have ap64 : ¬ S12 p0 := Ap.or0 hs14 (Ap.sub0 hs11 (Ap.sub0 hs8 (Ap.or0 hs7 ap58 (Ap.fresh0 (OW.lb hO1) (by have := lt9; omega))))) (Ap.sub0 hs12 (Ap.sub0 hs8 (Ap.or0 hs7 ap58 (Ap.fresh0 (OW.lb hO1) (by have := lt9; omega)))))
 have ap65 : Sn S12 (.slice a7 x1.Net.length cap8) := Ap.or hs14 (Ap.sub hs11 (Ap.sub hs8 (Ap.or hs7 ap59 (Ap.fresh (OW.lb hO1) (OW.hb h29))))) (Ap.sub hs12 (Ap.sub hs8 (Ap.or hs7 ap59 (Ap.fresh (OW.lb hO1) (OW.hb h29)))))
 have ap66 : Sn S12 (.slice a11 x1.Chosen.length cap12) := Ap.or hs14 (Ap.sub hs11 (Ap.sub hs8 (Ap.or hs7 ap60 (Ap.fresh (OW.lb hO1) (OW.hb h30))))) (Ap.sub hs12 (Ap.sub hs8 (Ap.or hs7 ap60 (Ap.fresh (OW.lb hO1) (OW.hb h30)))))
 obtain ⟨S13, hs15, h74⟩ := GPeer.close_Match h73 hx6 hl4 h66
 rw [setI_setI] at h74
 have hl5 : x1.Peers.length = (setI x1.Peers x18 (⟨x46.Up, x46.Term, x46.Vote, x46.Commit, 2, x46.Log, [], x7, (setI (List.replicate (x1.Peers.length : Int).toNat (0 : Int)) x18 (x46.Log.length : Int))⟩ : GPeer)).length := hl3.trans (by rw [setI_length, setI_length])
 have hx8 := idx_setI_same (y := (⟨x46.Up, x46.Term, x46.Vote, x46.Commit, 2, x46.Log, [], x7, (setI (List.replicate (x1.Peers.length : Int).toNat (0 : Int)) x18 (x46.Log.length : Int))⟩ : GPeer)) hx46
 obtain ⟨x9, hx9, hr⟩ := bnd_some hr
 refine GL.callIO g .nil (fun i => (F3 i).isSome = true ∨ i = p0 ∨ S13 i ∨ idOf (.slice a7 x1.Net.length cap8) = some i ∨ idOf (.slice a11 x1.Chosen.length cap12) = some i) rfl rfl rfl rfl rfl rfl Try.func60 rfl rfl (Nat.le_refl _) hS14.lo (f_impl_Cluster_commit_k (x1 := (⟨(setI x1.Peers x18 (⟨x46.Up, x46.Term, x46.Vote, x46.Commit, 2, x46.Log, [], x7, (setI (List.replicate (x1.Peers.length : Int).toNat (0 : Int)) x18 (x46.Log.length : Int))⟩ : GPeer)), x1.Net, x1.Chosen, x1.Conflict⟩ : GCluster)) g (St.vis hS14 (fun i hi => .inl hi)) (by rw [← hl5]; exact vis_get ho46 (.inr (.inl rfl))) fo8 lo17 (OD.head hl5 (OD.vis h74 (fun i hi => (.inr (.inr (.inl hi)))))) (OW.vis h70 (fun i hi => (.inr (.inr (.inr (.inl hi)))))) (OW.vis h71 (fun i hi => (.inr (.inr (.inr (.inr (hi))))))) (Ap.or0 hs15 ap64 (Ap.sub0 hs9 (Ap.or0 hs7 ap58 (Ap.fresh0 (OW.lb hO1) (by have := lt9; omega))))) ap47 (Ap.sym (Ap.or hs15 ap65 (Ap.sub hs9 (Ap.or hs7 ap59 (Ap.fresh (OW.lb hO1) (OW.hb h29)))))) ap51 (Ap.sym (Ap.or hs15 ap66 (Ap.sub hs9 (Ap.or hs7 ap60 (Ap.fresh (OW.lb hO1) (OW.hb h30)))))) ap53 hx9) (fun v n6 H14 H15 hn2 hp2 hle0 hnew0 hk9 hd0 => ?_)
 obtain ⟨F4, S14, a32, cap32, a33, cap33, hX0, hS15, ho47, rfl, h75, hl6, h76, h77, ap67, ap68, ap69, ap70, ap71, ap72⟩ := hp2
 have hS16 : St lo n6 H14 _ := sA hS15 hnew0 hle0
 have ho48 := (hk9 _ (by have := lt7; omega) (oE5 (nF fo6) (by omega) (Ap.or0 hs15 ap62 (Ap.sub0 hs9 (Ap.or0 hs7 ap56 (Ap.fresh0 (OW.lb hO1) (by have := lt7; omega))))) ap45 ap49)).trans ho44
 have ho49 := (hk9 _ (by have := lt8; omega) (oE5 (nF fo7) (by omega) (Ap.or0 hs15 ap63 (Ap.sub0 hs9 (Ap.or0 hs7 ap57 (Ap.fresh0 (OW.lb hO1) (by have := lt8; omega))))) ap46 ap50)).trans ho45
 have fo9 := fA hX0 lt7 fo6
 have fo10 := fA hX0 lt8 fo7
 have fo11 := fA hX0 lt9 fo8
 have hE4 := (hE3.up (n' := n5) (by omega)).trans hX0
 have ho50 := hle0 _ _ ho47
 have h78 := OD.le h75 hle0
 have hl7 : x1.Peers.length = x9.Peers.length := hl5.trans hl6
 rw [← hl5] at h78
 have h79 := OW.le h76 hle0
 have h80 := OW.le h77 hle0
 rw [← hl5] at ho50
 have ap73 : ¬ S14 (n0 + 1) := fun hj => (OD.after h75 hd0 hj).elim (fun h => by have := lt7; omega) (oE5 (nF fo6) (by omega) (Ap.or0 hs15 ap62 (Ap.sub0 hs9 (Ap.or0 hs7 ap56 (Ap.fresh0 (OW.lb hO1) (by have := lt7; omega))))) ap45 ap49)
 have ap74 : ¬ S14 n0 := fun hj => (OD.after h75 hd0 hj).elim (fun h => by have := lt8; omega) (oE5 (nF fo7) (by omega) (Ap.or0 hs15 ap63 (Ap.sub0 hs9 (Ap.or0 hs7 ap57 (Ap.fresh0 (OW.lb hO1) (by have := lt8; omega))))) ap46 ap50)
 have qq0 := noS (b := (n0 + 1)) hd0 (oE5 (nF fo6) (by omega) (Ap.or0 hs15 ap62 (Ap.sub0 hs9 (Ap.or0 hs7 ap56 (Ap.fresh0 (OW.lb hO1) (by have := lt7; omega))))) ap45 ap49)
 have ap75 := nAf h76 hd0 lt7 qq0
 have qq1 := noS (b := n0) hd0 (oE5 (nF fo7) (by omega) (Ap.or0 hs15 ap63 (Ap.sub0 hs9 (Ap.or0 hs7 ap57 (Ap.fresh0 (OW.lb hO1) (by have := lt8; omega))))) ap46 ap50)
 have ap76 := nAf h76 hd0 lt8 qq1
 have ap77 := nAf h77 hd0 lt7 qq0
 have ap78 := nAf h77 hd0 lt8 qq1
 have hlon8 := hS16.lo
 have lt10 := hS16.lt ho48
 have lt11 := hS16.lt ho49
 have lt12 := hS16.lt ho50
 refine wN (eT (wR (lN rfl U60 rfl ho49 rfl (lN rfl U3 rfl ho48 rfl (WL.mkFunc .nil rfl rfl rfl rfl rfl ?_)))))
 refine GL.callIn (args := [pt p0 0, iv x18, .func (.func 113) [].toArray [pt n0 0, pt (n0 + 1) 0].toArray]) .nil lo rfl rfl rfl rfl rfl rfl Try.func90 rfl rfl (Nat.le_refl _) hS16.lo ?_
 refine C.body Try.func90 rfl rfl ?_
 refine wS (wR (mN rfl (zN rfl (fN rfl U30 rfl info26 rfl (lN rfl U26 rfl ho50 rfl (WL.len .nil rfl rfl rfl U26 rfl (mN rfl (wN (eT (W.block ?_))))))))))
 refine W.loopF (fun k3 fr n H => ∃ (x10 : Int) (xs0 : (List GPeer)) (S15 : Nat → Prop) (a34 : OA) (cap34 : Nat) (xs1 : (List GMsg)) (a35 : OA) (cap35 : Nat) (xs2 : (List GRec)) (x11 : Bool) (F : Heap), fr = [(1, iv x18), (2, .func (.func 113) [].toArray [pt n0 0, pt (n0 + 1) 0].toArray), (11, iv (x1.Peers.length : Int)), (12, iv x10)] ∧ St lo n H F ∧ Ext n0 F0 n F ∧ H (n0 + 1) = some (.row 1 [iv x18]) ∧ F (n0 + 1) = none ∧ H n0 = some (.row 1 [pt p0 0]) ∧ F n0 = none ∧ H p0 = some (.row ez0 [.slice a2 x1.Peers.length cap3, .slice a34 xs1.length cap34, .slice a35 xs2.length cap35, .bool x11]) ∧ F p0 = none ∧ OD lo n H F S15 [] (.slice a2 x1.Peers.length cap3) xs0 ∧ x1.Peers.length = xs0.length ∧ Ow lo n H F a34 cap34 xs1 ∧ Ow lo n H F a35 cap35 xs2 ∧ ¬ S15 (n0 + 1) ∧ ¬ S15 n0 ∧ ¬ S15 p0 ∧ nP (.slice a34 xs1.length cap34) (n0 + 1) ∧ nP (.slice a34 xs1.length cap34) n0 ∧ nP (.slice a34 xs1.length cap34) p0 ∧ nS (.slice a34 xs1.length cap34) S15 ∧ nP (.slice a35 xs2.length cap35) (n0 + 1) ∧ nP (.slice a35 xs2.length cap35) n0 ∧ nP (.slice a35 xs2.length cap35) p0 ∧ nS (.slice a35 xs2.length cap35) S15 ∧ nA (.slice a35 xs2.length cap35) (.slice a34 xs1.length cap34) ∧ f_impl_Cluster_elect_L3 x1 x18 k3 x10 xs0 xs1 xs2 x11 = some res) BIG (fr0 := [(1, iv x18), (2, .func (.func 113) [].toArray [pt n0 0, pt (n0 + 1) 0].toArray), (11, iv (x1.Peers.length : Int)), (12, iv 0)]) (fl4) ?_ ?_ ?_
 {
 exact ⟨0, x9.Peers, S14, a32, cap32, x9.Net, a33, cap33, x9.Chosen, x9.Conflict, F4, rfl, hS16, hE4, ho48, fo9, ho49, fo10, ho50, fo11, h78, hl7, h79, h80, ap73, ap74, ap67, ap75, ap76, ap68, ap70, ap77, ap78, ap69, ap71, ap72, hr⟩
 }
 {
 intro fr n H hI
 obtain ⟨x10, xs0, S15, a34, cap34, xs1, a35, cap35, xs2, x11, F5, hfr, hS17, hE5, ho51, fo12, ho52, fo13, ho53, fo14, h81, hl8, h82, h83, ap79, ap80, ap81, ap82, ap83, ap84, ap85, ap86, ap87, ap88, ap89, ap90, hr⟩ := hI
 rw [f_impl_Cluster_elect_L3] at hr
 cases hr
 }
 {
 intro k3 _ n7 H16 hI
 obtain ⟨x10, xs0, S15, a34, cap34, xs1, a35, cap35, xs2, x11, F5, rfl, hS17, hE5, ho51, fo12, ho52, fo13, ho53, fo14, h81, hl8, h82, h83, ap79, ap80, ap81, ap82, ap83, ap84, ap85, ap86, ap87, ap88, ap89, ap90, hr⟩ := hI
 have lt13 := hS17.lt ho51
 have lt14 := hS17.lt ho52
 have lt15 := hS17.lt ho53
 have hlen3 := hE5.le
 have hlon9 := hS17.lo
 rw [f_impl_Cluster_elect_L3] at hr
 refine wS (wR (bN rfl rfl (wN (eT (wS ?_)))))
 refine W.condD rfl (fun hc7 => ?_) (fun hc7 => ?_)
 {
 replace hr := ite_pos hr hc7
 refine wK (eT (wS ?_))
 refine W.cut (fun fr n H => ∃ (xs3 : (List GPeer)) (S16 : Nat → Prop) (a36 : OA) (cap36 : Nat) (xs4 : (List GMsg)) (a37 : OA) (cap37 : Nat) (xs5 : (List GRec)) (x12 : Bool) (F : Heap), fr = [(1, iv x18), (2, .func (.func 113) [].toArray [pt n0 0, pt (n0 + 1) 0].toArray), (11, iv (x1.Peers.length : Int)), (12, iv x10)] ∧ St lo n H F ∧ Ext n0 F0 n F ∧ H (n0 + 1) = some (.row 1 [iv x18]) ∧ F (n0 + 1) = none ∧ H n0 = some (.row 1 [pt p0 0]) ∧ F n0 = none ∧ H p0 = some (.row ez0 [.slice a2 x1.Peers.length cap3, .slice a36 xs4.length cap36, .slice a37 xs5.length cap37, .bool x12]) ∧ F p0 = none ∧ OD lo n H F S16 [] (.slice a2 x1.Peers.length cap3) xs3 ∧ x1.Peers.length = xs3.length ∧ Ow lo n H F a36 cap36 xs4 ∧ Ow lo n H F a37 cap37 xs5 ∧ ¬ S16 (n0 + 1) ∧ ¬ S16 n0 ∧ ¬ S16 p0 ∧ nP (.slice a36 xs4.length cap36) (n0 + 1) ∧ nP (.slice a36 xs4.length cap36) n0 ∧ nP (.slice a36 xs4.length cap36) p0 ∧ nS (.slice a36 xs4.length cap36) S16 ∧ nP (.slice a37 xs5.length cap37) (n0 + 1) ∧ nP (.slice a37 xs5.length cap37) n0 ∧ nP (.slice a37 xs5.length cap37) p0 ∧ nS (.slice a37 xs5.length cap37) S16 ∧ nA (.slice a37 xs5.length cap37) (.slice a36 xs4.length cap36) ∧ f_impl_Cluster_elect_J4 x10 (f_impl_Cluster_elect_L3 x1 x18 k3) xs3 xs4 xs5 x12 = some res) ?_ ?_
 {
 refine W.block (wS (wR (mN rfl (aN rfl (wN (eT (wS (wR (mN rfl (mN rfl (bN rfl rfl ?_)))))))))))
 refine wN (eT ?_)
 refine W.condN rfl (fun hc8 => ?_) (fun hc8 => ?_)
 {
 replace hr := ite_neg hr hc8
 refine wR (mN rfl (mN rfl ?_))
 refine GL.callIn (args := [iv x10, pt n0 0, pt (n0 + 1) 0]) .nil lo rfl rfl rfl rfl rfl rfl Try.func113 rfl rfl (Nat.le_refl _) hS17.lo ?_
 refine C.body Try.func113 rfl rfl ?_
 refine wR (lN rfl U60 rfl ho52 rfl (lN rfl U3 rfl ho51 rfl (mN rfl ?_)))
 obtain ⟨x13, hx10, hr⟩ := bnd_some hr
 refine GL.callIO g .nil (fun i => (F5 i).isSome = true ∨ i = p0 ∨ S15 i ∨ idOf (.slice a34 xs1.length cap34) = some i ∨ idOf (.slice a35 xs2.length cap35) = some i) rfl rfl rfl rfl rfl rfl Try.func89 rfl rfl (Nat.le_refl _) hS17.lo (f_impl_Cluster_records_k (x1 := (⟨xs0, xs1, xs2, x11⟩ : GCluster)) g (St.vis hS17 (fun i hi => .inl hi)) (by rw [← hl8]; exact vis_get ho53 (.inr (.inl rfl))) fo14 lo17 (OD.head hl8 (OD.vis h81 (fun i hi => (.inr (.inr (.inl hi)))))) (OW.vis h82 (fun i hi => (.inr (.inr (.inr (.inl hi)))))) (OW.vis h83 (fun i hi => (.inr (.inr (.inr (.inr (hi))))))) ap81 ap84 ap85 ap88 ap89 ap90 hx10) (fun v n8 H17 H18 hn3 hp3 hle1 hnew1 hk10 hd1 => ?_)
 obtain ⟨F6, S17, a38, cap38, a39, cap39, hX1, hS18, ho54, rfl, h84, hl9, h85, h86, ap91, ap92, ap93, ap94, ap95, ap96⟩ := hp3
 have hS19 : St lo n8 H17 _ := sA hS18 hnew1 hle1
 have ho55 := (hk10 _ (by have := lt13; omega) (oE5 (nF fo12) (by omega) ap79 ap82 ap86)).trans ho51
 have ho56 := (hk10 _ (by have := lt14; omega) (oE5 (nF fo13) (by omega) ap80 ap83 ap87)).trans ho52
 have fo15 := fA hX1 lt13 fo12
 have fo17 := fA hX1 lt14 fo13
 have fo18 := fA hX1 lt15 fo14
 have hE6 := (hE5.up (n' := n7) (by omega)).trans hX1
 have ho57 := hle1 _ _ ho54
 have h87 := OD.le h84 hle1
 have hl10 : x1.Peers.length = x13.Peers.length := hl8.trans hl9
 rw [← hl8] at h87
 have h88 := OW.le h85 hle1
 have h89 := OW.le h86 hle1
 rw [← hl8] at ho57
 have ap97 : ¬ S17 (n0 + 1) := fun hj => (OD.after h84 hd1 hj).elim (fun h => by have := lt13; omega) (oE5 (nF fo12) (by omega) ap79 ap82 ap86)
 have ap98 : ¬ S17 n0 := fun hj => (OD.after h84 hd1 hj).elim (fun h => by have := lt14; omega) (oE5 (nF fo13) (by omega) ap80 ap83 ap87)
 have qq2 := noS (b := (n0 + 1)) hd1 (oE5 (nF fo12) (by omega) ap79 ap82 ap86)
 have ap99 := nAf h85 hd1 lt13 qq2
 have qq3 := noS (b := n0) hd1 (oE5 (nF fo13) (by omega) ap80 ap83 ap87)
 have ap100 := nAf h85 hd1 lt14 qq3
 have ap101 := nAf h86 hd1 lt13 qq2
 have ap102 := nAf h86 hd1 lt14 qq3
 have hlon10 := hS19.lo
 have lt16 := hS19.lt ho55
 have lt17 := hS19.lt ho56
 have lt18 := hS19.lt ho57
 refine wN ?_
 refine ⟨.inl rfl, _, .nil, ?_⟩
 refine wN (eB (eT ?_))
 exact ⟨[(1, iv x18), (2, .func (.func 113) [].toArray [pt n0 0, pt (n0 + 1) 0].toArray), (11, iv (x1.Peers.length : Int)), (12, iv x10)], (fl4), x13.Peers, S17, a38, cap38, x13.Net, a39, cap39, x13.Chosen, x13.Conflict, F6, rfl, hS19, hE6, ho55, fo15, ho56, fo17, ho57, fo18, h87, hl10, h88, h89, ap97, ap98, ap91, ap99, ap100, ap92, ap94, ap101, ap102, ap93, ap95, ap96, hr⟩
 }
 {
 replace hr := ite_pos hr hc8
 refine wK (eB (eT ?_))
 exact ⟨[(1, iv x18), (2, .func (.func 113) [].toArray [pt n0 0, pt (n0 + 1) 0].toArray), (11, iv (x1.Peers.length : Int)), (12, iv x10)], (fl4), xs0, S15, a34, cap34, xs1, a35, cap35, xs2, x11, F5, rfl, hS17, hE5, ho51, fo12, ho52, fo13, ho53, fo14, h81, hl8, h82, h83, ap79, ap80, ap81, ap82, ap83, ap84, ap85, ap86, ap87, ap88, ap89, ap90, hr⟩
 }
 }
 {
 intro _ n9 H19 hI
 obtain ⟨xs3, S16, a36, cap36, xs4, a37, cap37, xs5, x12, F7, rfl, hS20, hE7, ho58, fo19, ho59, fo20, ho60, fo21, h90, hl11, h91, h92, ap103, ap104, ap105, ap106, ap107, ap108, ap109, ap110, ap111, ap112, ap113, ap114, hr⟩ := hI
 have lt19 := hS20.lt ho58
 have lt20 := hS20.lt ho59
 have lt21 := hS20.lt ho60
 have hlen4 := hE7.le
 have hlon11 := hS20.lo
 unfold f_impl_Cluster_elect_J4 at hr
 refine wR ?_
 obtain ⟨hc9, hr⟩ := chk_some hr
 refine WL.addI .nil rfl rfl rfl rfl rfl hc9.1 hc9.2 (mN rfl (wN (eT ?_)))
 exact ⟨[(1, iv x18), (2, .func (.func 113) [].toArray [pt n0 0, pt (n0 + 1) 0].toArray), (11, iv (x1.Peers.length : Int)), (12, iv (x10 + 1))], (fl4), (x10 + 1), xs3, S16, a36, cap36, xs4, a37, cap37, xs5, x12, F7, rfl, hS20, hE7, ho58, fo19, ho59, fo20, ho60, fo21, h90, hl11, h91, h92, ap103, ap104, ap105, ap106, ap107, ap108, ap109, ap110, ap111, ap112, ap113, ap114, hr⟩
 }
 }
 {
 replace hr := ite_neg hr hc7
 refine W.exit (eX (eX (eH ?_)))
 refine ⟨.inl rfl, _, .nil, ?_⟩
 refine wN ?_
 obtain rfl := Option.some.inj hr
 exact ⟨.inl rfl, _, .nil, ⟨F5, S15, a34, cap34, a35, cap35, (hE5.up (by omega)), hS17, ho53, rfl, h81, hl8, h82, h83, ap81, ap84, ap88, ap85, ap89, ap90⟩⟩
 }
 }
 }
 }
 }
 }
theorem f_slices_Clone_implRec_k {Δ : Prims} (g : Env Try.prog Δ) {lo n0 : Nat} {H0 F0 : Heap} (hS : St lo n0 H0 F0) {a2 : Option Addr} {cap3 : Nat} {xs1 : List GRec} (h4 : SrcX H0 F0 (.slice a2 xs1.length cap3) xs1) {res : List GRec} (hr : f_slices_Clone_implRec xs1 = some res) :
    C Try.prog Δ n0 114 [.slice a2 xs1.length cap3] n0 H0 (fun v n H => ∃ (ra1 : OA) (rcap2 : Nat), St n0 n H F0 ∧ v = .slice ra1 res.length rcap2 ∧ Ow n0 n H F0 ra1 rcap2 res) := by
  refine C.body Try.func114 rfl rfl ?_
  obtain ⟨hlen, hr⟩ := chk_some hr
  obtain rfl := Option.some.inj hr
  have hS0 : St n0 n0 H0 F0 := hS.low (Nat.le_refl _)
  refine wS (wR (aN rfl (wN (eT (wS (wS (wR (mN rfl ?_))))))))
  refine WL.eqNil .nil rfl rfl rfl (by decide) U28 rfl rfl ?_
  refine wN (eT ?_)
  refine W.cond rfl (fun hc => ?_) (fun hc => ?_)
  · have hnil := SrcX.isNone h4 hc
    subst hnil
    refine wS (wR (aN rfl (wN (eT (W.ret ?_)))))
    repeat (with_reducible refine Ex.thn_ret ?_)
    exact ⟨.inr rfl, _, resl1 rfl, none, 0, hS0, rfl, OW.nil⟩
  · with_reducible refine W.skip ?_
    refine eT (wS (wR ?_))
    refine GL.lit (cs := []) (xs := ([] : List GRec)) hS0 .nil rfl rfl rfl U28 info35 rfl rfl rfl (by decide) (by decide) rfl rfl rfl rfl rfl RA.nil rfl (fun H5 hS6 hO7 hk8 => ?_)
    refine mN rfl ?_
    refine GL.append (α := GRec) hS6 .nil rfl rfl rfl U28 U28 rfl info35 rfl rfl rfl (by decide) rfl rfl hO7 (by omega) (by omega) (h4.up (n' := n0) hS0 hk8) (by simpa using hlen) (fun a9 c10 n11 H12 hS13 hn14 hO15 hk16 hid17 => ?_)
    refine aN rfl (wN (eT (W.ret ?_)))
    rw [List.nil_append] at hO15
    exact ⟨.inr rfl, _, resl1 rfl, a9, c10, hS13, rfl, hO15⟩
theorem f_impl_Cluster_take_k {Δ : Prims} (g : Env Try.prog Δ) {lo n0 : Nat} {H0 F0 : Heap} (hS : St lo n0 H0 F0) {p0 : Nat} {x1 : GCluster} {ez0 : Nat} {a2 : Option Addr} {cap3 : Nat} {S6 : Nat → Prop} {a7 : Option Addr} {cap8 : Nat} {a11 : Option Addr} {cap12 : Nat} {x18 : GMsg} {a19 : Option Addr} {cap20 : Nat} {x22 : GMsg} {a23 : Option Addr} {cap24 : Nat} (ho15 : H0 p0 = some (.row ez0 [.slice a2 x1.Peers.length cap3, .slice a7 x1.Net.length cap8, .slice a11 x1.Chosen.length cap12, .bool x1.Conflict])) (fo16 : F0 p0 = none) (lo17 : lo ≤ p0) (h4 : OD lo n0 H0 F0 S6 [] (.slice a2 x1.Peers.length cap3) x1.Peers) (h9 : Ow lo n0 H0 F0 a7 cap8 x1.Net) (h13 : Ow lo n0 H0 F0 a11 cap12 x1.Chosen) (h21 : SR F0 (.slice a19 x18.Log.length cap20) x18.Log) (h25 : SR F0 (.slice a23 x22.Log.length cap24) x22.Log) (ap26 : ¬ S6 p0) (ap27 : nP (.slice a7 x1.Net.length cap8) p0) (ap28 : nS (.slice a7 x1.Net.length cap8) S6) (ap29 : nP (.slice a11 x1.Chosen.length cap12) p0) (ap30 : nS (.slice a11 x1.Chosen.length cap12) S6) (ap31 : nA (.slice a11 x1.Chosen.length cap12) (.slice a7 x1.Net.length cap8)) {res : (GCluster)} (hr : f_impl_Cluster_take x1 x18 x22 = some res) :
    C Try.prog Δ lo 88 [pt p0 0, .agg [iv x18.Kind, iv x18.From, iv x18.To, iv x18.Term, iv x18.A, iv x18.B, iv x18.C, .bool x18.Ok, .slice a19 x18.Log.length cap20].toArray, .agg [iv x22.Kind, iv x22.From, iv x22.To, iv x22.Term, iv x22.A, iv x22.B, iv x22.C, .bool x22.Ok, .slice a23 x22.Log.length cap24].toArray] n0 H0 (fun v n H => ∃ (F : Heap) (rS2 : Nat → Prop) (ra4 : OA) (rcap5 : Nat) (ra7 : OA) (rcap8 : Nat), Ext n0 F0 n F ∧ St lo n H F ∧ H p0 = some (.row ez0 [.slice a2 x1.Peers.length cap3, .slice ra4 res.Net.length rcap5, .slice ra7 res.Chosen.length rcap8, .bool res.Conflict]) ∧ v = .tuple #[] ∧ OD lo n H F rS2 [] (.slice a2 x1.Peers.length cap3) res.Peers ∧ x1.Peers.length = res.Peers.length ∧ Ow lo n H F ra4 rcap5 res.Net ∧ Ow lo n H F ra7 rcap8 res.Chosen ∧ ¬ rS2 p0 ∧ nP (.slice ra4 res.Net.length rcap5) p0 ∧ nP (.slice ra7 res.Chosen.length rcap8) p0 ∧ nS (.slice ra4 res.Net.length rcap5) rS2 ∧ nS (.slice ra7 res.Chosen.length rcap8) rS2 ∧ nA (.slice ra7 res.Chosen.length rcap8) (.slice ra4 res.Net.length rcap5)) := by
 refine C.body Try.func88 rfl rfl ?_
 unfold f_impl_Cluster_take at hr
 have hS0 : St lo n0 H0 F0 := hS
 have hE0 := Ext.refl n0 F0
 have hlo0 := hS0.lo
 have lt0 := hS0.lt ho15
 refine wS (wR ?_)
 refine GL.box hS0 .nil (vc := [iv x18.Kind, iv x18.From, iv x18.To, iv x18.Term, iv x18.A, iv x18.B, iv x18.C, .bool x18.Ok, .slice a19 x18.Log.length cap20]) rfl rfl rfl rfl rfl bxP (fun H32 hS33 ho34 hk35 => ?_)
 have fo36 := hS0.fnone (Nat.le_refl _)
 have ho38 := oA hk35 ho15 lt0
 have h39 := OD.keep (n' := (n0 + 1)) h4 (by omega) (fun i hi => hk35 i (OD.id_lt h4 hi).2)
 have h40 := kA (n' := (n0 + 1)) h9 hk35
 have h41 := kA (n' := (n0 + 1)) h13 hk35
 have hlon01 := hS33.lo
 have lt37 : n0 < (n0 + 1) := by omega
 refine GL.box hS33 .nil (vc := [iv x22.Kind, iv x22.From, iv x22.To, iv x22.Term, iv x22.A, iv x22.B, iv x22.C, .bool x22.Ok, .slice a23 x22.Log.length cap24]) rfl rfl rfl rfl rfl bxP (fun H42 hS43 ho44 hk45 => ?_)
 have fo46 := hS33.fnone (Nat.le_refl _)
 have ho48 := oA hk45 ho38 lt0
 have ho49 := oA hk45 ho34 lt37
 have h50 := OD.keep (n' := ((n0 + 1) + 1)) h39 (by omega) (fun i hi => hk45 i (OD.id_lt h39 hi).2)
 have h51 := kA (n' := ((n0 + 1) + 1)) h40 hk45
 have h52 := kA (n' := ((n0 + 1) + 1)) h41 hk45
 have hlon0 := hS43.lo
 have lt47 : (n0 + 1) < ((n0 + 1) + 1) := by omega
 refine wN (eT (wS ?_))
 refine W.regionD r8 f8 rfl rfl kr kr mP ?_
 refine mR rfl (zR rfl (fR rfl U30 rfl info26 rfl (lR rfl U26 rfl ho48 rfl (fR rfl U85 rfl info3 rfl (lR rfl U3 rfl ho49 rfl ?_)))))
 obtain ⟨x53, hx53, hr⟩ := bnd_some hr
 refine GL.indexD .r rfl rfl rfl U26 info42 rfl rfl h50 rfl hx53 (fun b54 el55 hp56 => ?_)
 refine aR rfl (wN (eT (wS (wR (fN rfl U85 rfl info3 rfl ?_)))))
 refine GL.store hS43 .nil (vc := [iv 4]) (c' := [iv 4, iv x22.From, iv x22.To, iv x22.Term, iv x22.A, iv x22.B, iv x22.C, .bool x22.Ok, .slice a23 x22.Log.length cap24]) rfl rfl rfl info3 rfl rfl rfl rfl ho44 fo46 (bl rfl) (by omega) (one1 rfl) rfl (fun H57 hS58 ho59 hk60 => ?_)
 have ho61 := (hk60 _ (by omega)).trans ho48
 have ho62 := (hk60 _ (by omega)).trans ho49
 have h63 := OD.keep h50 (Nat.le_refl _) (fun i hi => hk60 i (fun hj => (aD h39) (hj ▸ hi)))
 have h64 := kB h51 hk60 (aW h40)
 have h65 := kB h52 hk60 (aW h41)
 refine wN (eT (wS (wS ?_)))
 refine W.regionD r7 f7 rfl rfl kr kr mP ?_
 refine fR rfl U85 rfl info3 rfl (lR rfl U3 rfl ho62 rfl (mR rfl (zR rfl (fR rfl U42 rfl info3 rfl ?_))))
 obtain ⟨c66, ecs67, hrow68, hwin69, hb70⟩ := OD.get h63 hp56 hx53
 obtain ⟨a71, cap72, a73, cap74, a75, cap76, a77, cap78, rfl⟩ := GPeer.ofB hb70
 refine lR rfl U3 rfl hrow68 (wG 1 hwin69) (bR rfl rfl (wN (eT ?_)))
 refine W.condD rfl (fun hc0 => ?_) (fun hc0 => ?_)
 {
 replace hr := ite_pos hr hc0
 refine wS (wR (mN rfl (zN rfl (fN rfl U42 rfl info3 rfl (lN rfl U3 rfl hrow68 (wG 1 hwin69) (fN rfl U85 rfl info3 rfl ?_))))))
 refine GL.store hS58 .nil (vc := [iv x53.Term]) (c' := [iv 4, iv x22.From, iv x22.To, iv x53.Term, iv x22.A, iv x22.B, iv x22.C, .bool x22.Ok, .slice a23 x22.Log.length cap24]) rfl rfl rfl info3 rfl rfl rfl rfl ho59 fo46 (bl rfl) (by omega) (one1 rfl) rfl (fun H1 hS1 ho0 hk0 => ?_)
 have ho1 := (hk0 _ (by omega)).trans ho61
 have ho2 := (hk0 _ (by omega)).trans ho62
 have h0 := OD.keep h63 (Nat.le_refl _) (fun i hi => hk0 i (fun hj => (aD h39) (hj ▸ hi)))
 have h1 := kB h64 hk0 (aW h40)
 have h2 := kB h65 hk0 (aW h41)
 refine wN (eT (wS (wR (mN rfl (WL.loadN .nil (l' := [iv 4, iv x22.From, iv x22.To, iv x53.Term, iv x22.A, iv x22.B, iv x22.C, .bool x22.Ok, .slice a23 x22.Log.length cap24]) rfl rfl rfl U85 rfl info85 rfl ho0 rfl rfl ?_)))))
 obtain ⟨x0, hx0, hr⟩ := bnd_some hr
 refine GL.callIO g .nil (fun i => (F0 i).isSome = true ∨ i = p0 ∨ S6 i ∨ idOf (.slice a7 x1.Net.length cap8) = some i ∨ idOf (.slice a11 x1.Chosen.length cap12) = some i) rfl rfl rfl rfl rfl rfl Try.func55 rfl rfl (Nat.le_refl _) hS1.lo (f_impl_Cluster_send_k (x1 := (⟨x1.Peers, x1.Net, x1.Chosen, x1.Conflict⟩ : GCluster)) (x18 := (⟨4, x22.From, x22.To, x53.Term, x22.A, x22.B, x22.C, x22.Ok, x22.Log⟩ : GMsg)) g (St.vis hS1 (fun i hi => .inl hi)) (vis_get ho1 (.inr (.inl rfl))) fo16 lo17 (OD.vis h0 (fun i hi => (.inr (.inr (.inl hi))))) (OW.vis h1 (fun i hi => (.inr (.inr (.inr (.inl hi)))))) (OW.vis h2 (fun i hi => (.inr (.inr (.inr (.inr (hi))))))) h25 ap26 ap27 ap28 ap29 ap30 ap31 hx0) (fun v n1 H3 H4 hn0 hp0 hle0 hnew0 hk1 hd0 => ?_)
 obtain ⟨F1, S0, a0, cap0, a1, cap1, hX0, hS2, ho3, rfl, h3, hl0, h5, h6, ap0, ap1, ap2, ap3, ap4, ap5⟩ := hp0
 have hS3 : St lo n1 H3 _ := sA hS2 hnew0 hle0
 have ho4 := (hk1 _ (by have := lt37; omega) (oE5 (nF fo36) (by omega) (aD h4) (aW h9) (aW h13))).trans ho2
 have ho5 := (hk1 _ (by have := lt47; omega) (oE5 (nF fo46) (by omega) (aD h39) (aW h40) (aW h41))).trans ho0
 have hE1 := (hE0.up (n' := ((n0 + 1) + 1)) (by omega)).trans hX0
 have ho6 := hle0 _ _ ho3
 have h7 := OD.le h3 hle0
 have hl1 : x1.Peers.length = x0.Peers.length := hl0
 have h8 := OW.le h5 hle0
 have h10 := OW.le h6 hle0
 have hlon1 := hS3.lo
 have lt1 := hS3.lt ho6
 have lt2 := hS3.lt ho4
 have lt3 := hS3.lt ho5
 refine wN (eT (W.ret (eR ?_)))
 obtain rfl := Option.some.inj hr
 exact ⟨.inr rfl, _, .nil, ⟨F1, S0, a0, cap0, a1, cap1, (hE1.up (by omega)), hS3, ho6, rfl, h7, hl1, h8, h10, ap0, ap1, ap2, ap3, ap4, ap5⟩⟩
 }
 {
 replace hr := ite_neg hr hc0
 refine wK (eT (wS (wR (mN rfl (fN rfl U85 rfl info3 rfl (lN rfl U3 rfl ho62 rfl ?_))))))
 refine GL.callIn (args := [pt b54 el55, iv x18.Term]) .nil lo rfl rfl rfl rfl rfl rfl Try.func85 rfl rfl (Nat.le_refl _) hS58.lo ?_
 refine C.body Try.func85 rfl rfl ?_
 refine wS (wS (wR (mN rfl (mN rfl (zN rfl (fN rfl U42 rfl info3 rfl (lN rfl U3 rfl hrow68 (wG 1 hwin69) (bN rfl rfl (wN (eT ?_))))))))))
 refine W.cut (fun fr n H => ∃ (xs0 : (List GPeer)) (S1 : Nat → Prop) (F : Heap), fr = [(0, pt b54 el55)] ∧ St lo n H F ∧ Ext n0 F0 n F ∧ H (n0 + 1) = some (.row 1 [iv 4, iv x22.From, iv x22.To, iv x22.Term, iv x22.A, iv x22.B, iv x22.C, .bool x22.Ok, .slice a23 x22.Log.length cap24]) ∧ F (n0 + 1) = none ∧ H n0 = some (.row 1 [iv x18.Kind, iv x18.From, iv x18.To, iv x18.Term, iv x18.A, iv x18.B, iv x18.C, .bool x18.Ok, .slice a19 x18.Log.length cap20]) ∧ F n0 = none ∧ H p0 = some (.row ez0 [.slice a2 x1.Peers.length cap3, .slice a7 x1.Net.length cap8, .slice a11 x1.Chosen.length cap12, .bool x1.Conflict]) ∧ F p0 = none ∧ SR F (.slice a23 x22.Log.length cap24) x22.Log ∧ SR F (.slice a19 x18.Log.length cap20) x18.Log ∧ OD lo n H F S1 [] (.slice a2 x1.Peers.length cap3) xs0 ∧ x1.Peers.length = xs0.length ∧ Ow lo n H F a7 cap8 x1.Net ∧ Ow lo n H F a11 cap12 x1.Chosen ∧ ¬ S1 (n0 + 1) ∧ ¬ S1 n0 ∧ ¬ S1 p0 ∧ nP (.slice a7 x1.Net.length cap8) (n0 + 1) ∧ nP (.slice a7 x1.Net.length cap8) n0 ∧ nP (.slice a7 x1.Net.length cap8) p0 ∧ nS (.slice a7 x1.Net.length cap8) S1 ∧ nP (.slice a11 x1.Chosen.length cap12) (n0 + 1) ∧ nP (.slice a11 x1.Chosen.length cap12) n0 ∧ nP (.slice a11 x1.Chosen.length cap12) p0 ∧ nS (.slice a11 x1.Chosen.length cap12) S1 ∧ nA (.slice a11 x1.Chosen.length cap12) (.slice a7 x1.Net.length cap8) ∧ f_impl_Cluster_take_J0 x18 x1 x22 xs0 = some res) ?_ ?_
 {
 refine W.condD rfl (fun hc1 => ?_) (fun hc1 => ?_)
 {
 replace hr := ite_pos hr hc1
 refine wR (mN rfl (mN rfl (mN rfl (zN rfl (fN rfl U42 rfl info3 rfl ?_)))))
 refine GL.store hS58 .nil (vc := [iv x18.Term]) rfl rfl rfl info3 rfl rfl rfl rfl hrow68 (OD.fnone h63 (OD.bS h63 hp56)) (win_fit2 hwin69 (bl rfl) rfl (bl rfl)) (by have := (OD.id_lt h63 (OD.bS h63 hp56)).1; omega) (one1 rfl) rfl (fun H5 hS4 ho7 hk2 => ?_)
 have ho8 := (hk2 p0 (fun hj => ap26 (by rw [hj]; exact (OD.bS h63 hp56)))).trans ho61
 have ho9 := (hk2 n0 (fun hj => (aD h4) (by rw [hj]; exact (OD.bS h63 hp56)))).trans ho62
 have ho10 := (hk2 (n0 + 1) (fun hj => (aD h39) (by rw [hj]; exact (OD.bS h63 hp56)))).trans ho59
 have h11 := kC h64 hk2 ap28 (OD.bS h63 hp56)
 have h12 := kC h65 hk2 ap30 (OD.bS h63 hp56)
 have h14 := GPeer.put_Term h63 hp56 hx53 hrow68 hwin69 (w := x18.Term) ho7 hk2
 have hl2 := lnS h14
 have hx1 := ixS h14 hx53
 refine zN rfl (fN rfl U42 rfl info3 rfl ?_)
 obtain ⟨c0, ecs0, hrow0, hwin0, hb0⟩ := OD.get h14 hp56 hx1
 obtain ⟨a3, cap2, a4, cap4, a5, cap5, a6, cap6, rfl⟩ := GPeer.ofB hb0
 refine GL.store hS4 .nil (vc := [iv 0]) rfl rfl rfl info3 rfl rfl rfl rfl hrow0 (OD.fnone h14 (OD.bS h14 hp56)) (win_fit2 hwin0 (bl rfl) rfl (bl rfl)) (by have := (OD.id_lt h14 (OD.bS h14 hp56)).1; omega) (one1 rfl) rfl (fun H6 hS5 ho11 hk3 => ?_)
 have ho12 := (hk3 p0 (fun hj => ap26 (by rw [hj]; exact (OD.bS h14 hp56)))).trans ho8
 have ho13 := (hk3 n0 (fun hj => (aD h4) (by rw [hj]; exact (OD.bS h14 hp56)))).trans ho9
 have ho14 := (hk3 (n0 + 1) (fun hj => (aD h39) (by rw [hj]; exact (OD.bS h14 hp56)))).trans ho10
 have h15 := kC h11 hk3 ap28 (OD.bS h14 hp56)
 have h16 := kC h12 hk3 ap30 (OD.bS h14 hp56)
 have h17 := GPeer.put_Vote h14 hp56 hx1 hrow0 hwin0 (w := 0) ho11 hk3
 rw [setI_setI] at h17
 have hl3 : x1.Peers.length = (setI x1.Peers x18.To (⟨x53.Up, x18.Term, 0, x53.Commit, x53.Role, x53.Log, x53.Votes, x53.Next, x53.Match⟩ : GPeer)).length := hl2.trans (by rw [setI_length, setI_length])
 have hx2 := idx_setI_same (y := (⟨x53.Up, x18.Term, 0, x53.Commit, x53.Role, x53.Log, x53.Votes, x53.Next, x53.Match⟩ : GPeer)) hx53
 refine wN (eT ?_)
 exact ⟨[(0, pt b54 el55)], (fl1), (setI x1.Peers x18.To (⟨x53.Up, x18.Term, 0, x53.Commit, x53.Role, x53.Log, x53.Votes, x53.Next, x53.Match⟩ : GPeer)), S6, F0, rfl, hS5, (hE0.up (by omega)), ho14, fo46, ho13, fo36, ho12, fo16, h25, h21, h17, hl3, h15, h16, (aD h39), (aD h4), ap26, (aW h40), (aW h9), ap27, ap28, (aW h41), (aW h13), ap29, ap30, ap31, hr⟩
 }
 {
 replace hr := ite_neg hr hc1
 refine wK (eT ?_)
 exact ⟨[(0, pt b54 el55)], (fl1), x1.Peers, S6, F0, rfl, hS58, (hE0.up (by omega)), ho59, fo46, ho62, fo36, ho61, fo16, h25, h21, h63, rfl, h64, h65, (aD h39), (aD h4), ap26, (aW h40), (aW h9), ap27, ap28, (aW h41), (aW h13), ap29, ap30, ap31, hr⟩
 }
 }
 {
 intro _ n2 H7 hI
 obtain ⟨xs0, S1, F2, rfl, hS6, hE2, ho16, fo0, ho17, fo1, ho18, fo2, h18, h19, h20, hl4, h22, h23, ap6, ap7, ap8, ap9, ap10, ap11, ap12, ap13, ap14, ap15, ap16, ap17, hr⟩ := hI
 have lt4 := hS6.lt ho16
 have lt5 := hS6.lt ho17
 have lt6 := hS6.lt ho18
 have hlen0 := hE2.le
 have hlon2 := hS6.lo
 unfold f_impl_Cluster_take_J0 at hr
 refine wR (mN rfl ?_)
 refine GL.callIn (args := [pt b54 el55]) .nil lo rfl rfl rfl rfl rfl rfl Try.func92 rfl rfl (Nat.le_refl _) hS6.lo ?_
 refine C.body Try.func92 rfl rfl ?_
 refine wR (mN rfl (mN rfl (mN rfl (mN rfl (zN rfl (fN rfl U42 rfl info3 rfl ?_))))))
 obtain ⟨x2, hx3, hr⟩ := bnd_some hr
 obtain ⟨c1, ecs1, hrow1, hwin1, hb1⟩ := OD.get h20 hp56 hx3
 obtain ⟨a8, cap7, a9, cap9, a10, cap10, a12, cap11, rfl⟩ := GPeer.ofB hb1
 refine GL.store hS6 .nil (vc := [iv 0]) rfl rfl rfl info3 rfl rfl rfl rfl hrow1 (OD.fnone h20 (OD.bS h20 hp56)) (win_fit2 hwin1 (bl rfl) rfl (bl rfl)) (by have := (OD.id_lt h20 (OD.bS h20 hp56)).1; omega) (one1 rfl) rfl (fun H8 hS7 ho19 hk4 => ?_)
 have ho20 := (hk4 (n0 + 1) (fun hj => ap6 (by rw [hj]; exact (OD.bS h20 hp56)))).trans ho16
 have ho21 := (hk4 n0 (fun hj => ap7 (by rw [hj]; exact (OD.bS h20 hp56)))).trans ho17
 have ho22 := (hk4 p0 (fun hj => ap8 (by rw [hj]; exact (OD.bS h20 hp56)))).trans ho18
 have h24 := kC h22 hk4 ap12 (OD.bS h20 hp56)
 have h26 := kC h23 hk4 ap16 (OD.bS h20 hp56)
 have h27 := GPeer.put_Role h20 hp56 hx3 hrow1 hwin1 (w := 0) ho19 hk4
 have hl5 : x1.Peers.length = (setI xs0 x18.To (⟨x2.Up, x2.Term, x2.Vote, x2.Commit, 0, x2.Log, x2.Votes, x2.Next, x2.Match⟩ : GPeer)).length := hl4.trans (by rw [setI_length])
 have hx4 := ixS h27 hx3
 refine zN rfl (fN rfl U42 rfl info40 rfl ?_)
 obtain ⟨c2, ecs2, hrow2, hwin2, hb2⟩ := OD.get h27 hp56 hx4
 obtain ⟨a13, cap13, a14, cap14, a15, cap15, a16, cap16, rfl⟩ := GPeer.ofB hb2
 refine GL.store hS7 .nil (vc := [.slice none 0 0]) rfl rfl rfl info40 rfl rfl rfl rfl hrow2 (OD.fnone h27 (OD.bS h27 hp56)) (win_fit2 hwin2 (bl rfl) rfl (bl rfl)) (by have := (OD.id_lt h27 (OD.bS h27 hp56)).1; omega) (one1 rfl) rfl (fun H9 hS8 ho23 hk5 => ?_)
 have ho24 := (hk5 (n0 + 1) (fun hj => ap6 (by rw [hj]; exact (OD.bS h27 hp56)))).trans ho20
 have ho25 := (hk5 n0 (fun hj => ap7 (by rw [hj]; exact (OD.bS h27 hp56)))).trans ho21
 have ho26 := (hk5 p0 (fun hj => ap8 (by rw [hj]; exact (OD.bS h27 hp56)))).trans ho22
 have h28 := kC h24 hk5 ap12 (OD.bS h27 hp56)
 have h29 := kC h26 hk5 ap16 (OD.bS h27 hp56)
 have h30 := GPeer.nil_Votes h27 hp56 hx4 hrow2 hwin2 z00 z00 ho23 hk5
 rw [setI_setI] at h30
 have hl6 : x1.Peers.length = (setI xs0 x18.To (⟨x2.Up, x2.Term, x2.Vote, x2.Commit, 0, x2.Log, [], x2.Next, x2.Match⟩ : GPeer)).length := hl5.trans (by rw [setI_length, setI_length])
 have hx5 := idx_setI_same (y := (⟨x2.Up, x2.Term, x2.Vote, x2.Commit, 0, x2.Log, [], x2.Next, x2.Match⟩ : GPeer)) hx3
 refine zN rfl (fN rfl U42 rfl info31 rfl ?_)
 obtain ⟨c3, ecs3, hrow3, hwin3, hb3⟩ := OD.get h30 hp56 hx5
 obtain ⟨a17, cap17, a18, cap18, a20, cap19, a21, cap21, rfl⟩ := GPeer.ofB hb3
 refine GL.store hS8 .nil (vc := [.slice none 0 0]) rfl rfl rfl info31 rfl rfl rfl rfl hrow3 (OD.fnone h30 (OD.bS h30 hp56)) (win_fit2 hwin3 (bl rfl) rfl (bl rfl)) (by have := (OD.id_lt h30 (OD.bS h30 hp56)).1; omega) (one1 rfl) rfl (fun H10 hS9 ho27 hk6 => ?_)
 have ho28 := (hk6 (n0 + 1) (fun hj => ap6 (by rw [hj]; exact (OD.bS h30 hp56)))).trans ho24
 have ho29 := (hk6 n0 (fun hj => ap7 (by rw [hj]; exact (OD.bS h30 hp56)))).trans ho25
 have ho30 := (hk6 p0 (fun hj => ap8 (by rw [hj]; exact (OD.bS h30 hp56)))).trans ho26
 have h31 := kC h28 hk6 ap12 (OD.bS h30 hp56)
 have h32 := kC h29 hk6 ap16 (OD.bS h30 hp56)
 have h33 := GPeer.nil_Next h30 hp56 hx5 hrow3 hwin3 z00 z00 ho27 hk6
 rw [setI_setI] at h33
 have hl7 : x1.Peers.length = (setI xs0 x18.To (⟨x2.Up, x2.Term, x2.Vote, x2.Commit, 0, x2.Log, [], [], x2.Match⟩ : GPeer)).length := hl6.trans (by rw [setI_length, setI_length])
 have hx6 := idx_setI_same (y := (⟨x2.Up, x2.Term, x2.Vote, x2.Commit, 0, x2.Log, [], [], x2.Match⟩ : GPeer)) hx3
 refine zN rfl (fN rfl U42 rfl info31 rfl ?_)
 obtain ⟨c4, ecs4, hrow4, hwin4, hb4⟩ := OD.get h33 hp56 hx6
 obtain ⟨a22, cap22, a24, cap23, a25, cap25, a26, cap26, rfl⟩ := GPeer.ofB hb4
 refine GL.store hS9 .nil (vc := [.slice none 0 0]) rfl rfl rfl info31 rfl rfl rfl rfl hrow4 (OD.fnone h33 (OD.bS h33 hp56)) (win_fit2 hwin4 (bl rfl) rfl (bl rfl)) (by have := (OD.id_lt h33 (OD.bS h33 hp56)).1; omega) (one1 rfl) rfl (fun H11 hS10 ho31 hk7 => ?_)
 have ho32 := (hk7 (n0 + 1) (fun hj => ap6 (by rw [hj]; exact (OD.bS h33 hp56)))).trans ho28
 have ho33 := (hk7 n0 (fun hj => ap7 (by rw [hj]; exact (OD.bS h33 hp56)))).trans ho29
 have ho35 := (hk7 p0 (fun hj => ap8 (by rw [hj]; exact (OD.bS h33 hp56)))).trans ho30
 have h34 := kC h31 hk7 ap12 (OD.bS h33 hp56)
 have h35 := kC h32 hk7 ap16 (OD.bS h33 hp56)
 have h36 := GPeer.nil_Match h33 hp56 hx6 hrow4 hwin4 z00 z00 ho31 hk7
 rw [setI_setI] at h36
 have hl8 : x1.Peers.length = (setI xs0 x18.To (⟨x2.Up, x2.Term, x2.Vote, x2.Commit, 0, x2.Log, [], [], []⟩ : GPeer)).length := hl7.trans (by rw [setI_length, setI_length])
 have hx7 := idx_setI_same (y := (⟨x2.Up, x2.Term, x2.Vote, x2.Commit, 0, x2.Log, [], [], []⟩ : GPeer)) hx3
 refine wN ?_
 refine ⟨.inl rfl, _, .nil, ?_⟩
 refine wN ?_
 refine ⟨.inl rfl, _, .nil, ?_⟩
 refine wN (eT (wS (wR (mN rfl (zN rfl (fN rfl U42 rfl info3 rfl ?_))))))
 obtain ⟨c5, ecs5, hrow5, hwin5, hb5⟩ := OD.get h36 hp56 hx7
 obtain ⟨a27, cap27, a28, cap28, a29, cap29, a30, cap30, rfl⟩ := GPeer.ofB hb5
 refine lN rfl U3 rfl hrow5 (wG 1 hwin5) (fN rfl U85 rfl info3 rfl ?_)
 refine GL.store hS10 .nil (vc := [iv x2.Term]) (c' := [iv 4, iv x22.From, iv x22.To, iv x2.Term, iv x22.A, iv x22.B, iv x22.C, .bool x22.Ok, .slice a23 x22.Log.length cap24]) rfl rfl rfl info3 rfl rfl rfl rfl ho32 fo0 (bl rfl) (by omega) (one1 rfl) rfl (fun H12 hS11 ho36 hk8 => ?_)
 have ho37 := (hk8 _ (by omega)).trans ho33
 have ho39 := (hk8 _ (by omega)).trans ho35
 have h37 := OD.keep h36 (Nat.le_refl _) (fun i hi => hk8 i (fun hj => ap6 (hj ▸ hi)))
 have h38 := kB h34 hk8 ap9
 have h42 := kB h35 hk8 ap13
 refine wN (eT (wS (wS ?_)))
 refine W.cut (fun fr n H => ∃ (x3 : Bool) (S2 : Nat → Prop) (F : Heap), fr = [(0, pt p0 0), (4, pt n0 0), (5, pt (n0 + 1) 0), (6, pt b54 el55), (58, .bool x3)] ∧ St lo n H F ∧ Ext n0 F0 n F ∧ H (n0 + 1) = some (.row 1 [iv 4, iv x22.From, iv x22.To, iv x2.Term, iv x22.A, iv x22.B, iv x22.C, .bool x22.Ok, .slice a23 x22.Log.length cap24]) ∧ F (n0 + 1) = none ∧ H n0 = some (.row 1 [iv x18.Kind, iv x18.From, iv x18.To, iv x18.Term, iv x18.A, iv x18.B, iv x18.C, .bool x18.Ok, .slice a19 x18.Log.length cap20]) ∧ F n0 = none ∧ H p0 = some (.row ez0 [.slice a2 x1.Peers.length cap3, .slice a7 x1.Net.length cap8, .slice a11 x1.Chosen.length cap12, .bool x1.Conflict]) ∧ F p0 = none ∧ SR F (.slice a23 x22.Log.length cap24) x22.Log ∧ SR F (.slice a19 x18.Log.length cap20) x18.Log ∧ OD lo n H F S2 [] (.slice a2 x1.Peers.length cap3) (setI xs0 x18.To (⟨x2.Up, x2.Term, x2.Vote, x2.Commit, 0, x2.Log, [], [], []⟩ : GPeer)) ∧ Ow lo n H F a7 cap8 x1.Net ∧ Ow lo n H F a11 cap12 x1.Chosen ∧ ¬ S2 (n0 + 1) ∧ ¬ S2 n0 ∧ ¬ S2 p0 ∧ nP (.slice a7 x1.Net.length cap8) (n0 + 1) ∧ nP (.slice a7 x1.Net.length cap8) n0 ∧ nP (.slice a7 x1.Net.length cap8) p0 ∧ nS (.slice a7 x1.Net.length cap8) S2 ∧ nP (.slice a11 x1.Chosen.length cap12) (n0 + 1) ∧ nP (.slice a11 x1.Chosen.length cap12) n0 ∧ nP (.slice a11 x1.Chosen.length cap12) p0 ∧ nS (.slice a11 x1.Chosen.length cap12) S2 ∧ nA (.slice a11 x1.Chosen.length cap12) (.slice a7 x1.Net.length cap8) ∧ f_impl_Cluster_take_J1 x18 xs0 x2 x1 x22 x3 = some res) ?_ ?_
 {
 refine W.regionD r17 f17 rfl rfl kr kr mP ?_
 refine fR rfl U85 rfl info3 rfl (lR rfl U3 rfl ho37 rfl (mR rfl (zR rfl (fR rfl U42 rfl info28 rfl ?_))))
 obtain ⟨c6, ecs6, hrow6, hwin6, hb6⟩ := OD.get h37 hp56 hx7
 obtain ⟨a31, cap31, a32, cap32, a33, cap33, a34, cap34, rfl⟩ := GPeer.ofB hb6
 obtain ⟨S3, hs0, hs1, hs2, h43, h44⟩ := GPeer.open_Log h37 hp56 hx7 hrow6 hwin6 (List.forall_mem_nil _)
 refine lR rfl U28 rfl hrow6 (wG 5 hwin6) (WL.len .r rfl rfl rfl U28 rfl (bR rfl rfl (mR rfl ?_)))
 refine WL.guardD rfl rfl rfl (fun hg0 => ?_) (fun hg0 => ?_)
 {
 replace hr := ite_pos hr hg0
 refine kR rfl (kR rfl (kR rfl (kR rfl (kR rfl (kR rfl (kR rfl (WL.pick .r rfl rfl rfl rfl rfl (wN (eT ?_)))))))))
 obtain ⟨S4, hs3, h45⟩ := GPeer.close0_Log h44 hx7 h43
 exact ⟨[(0, pt p0 0), (4, pt n0 0), (5, pt (n0 + 1) 0), (6, pt b54 el55), (58, .bool true)], (fl5), true, S4, F2, rfl, hS11, hE2, ho36, fo0, ho37, fo1, ho39, fo2, h18, h19, h45, h38, h42, (Ap.or0 hs3 (Ap.sub0 hs0 ap6) (Ap.sub0 hs1 ap6)), (Ap.or0 hs3 (Ap.sub0 hs0 ap7) (Ap.sub0 hs1 ap7)), (Ap.or0 hs3 (Ap.sub0 hs0 ap8) (Ap.sub0 hs1 ap8)), ap9, ap10, ap11, (Ap.sym (Ap.or hs3 (Ap.sub hs0 (Ap.sym ap12)) (Ap.sub hs1 (Ap.sym ap12)))), ap13, ap14, ap15, (Ap.sym (Ap.or hs3 (Ap.sub hs0 (Ap.sym ap16)) (Ap.sub hs1 (Ap.sym ap16)))), ap17, hr⟩
 }
 {
 replace hr := ite_neg hr hg0
 refine mR rfl (fR rfl U85 rfl info3 rfl (lR rfl U3 rfl ho37 rfl ?_))
 obtain ⟨x4, hx8, hr⟩ := bnd_some hr
 refine GL.callP g.good .r rfl rfl rfl rfl rfl rfl Try.func94 rfl rfl (Nat.le_refl _) (f_impl_Peer_term_elem0_k  g hS11 hrow6 hwin6 h43 hx8) (fun v n3 H13 hn1 hk9 hp1 => ?_)
 obtain ⟨hS12, rfl⟩ := hp1
 have ho40 := oA hk9 ho36 lt4
 have ho41 := oA hk9 ho37 lt5
 have ho42 := oA hk9 ho39 lt6
 have h46 := OD.keep (n' := n3) h44 (by omega) (fun i hi => hk9 i (OD.id_lt h44 hi).2)
 have h47 := kA (n' := n3) h38 hk9
 have h48 := kA (n' := n3) h42 hk9
 have h49 := kA (n' := n3) h43 hk9
 have hS13 : St lo n3 H13 F2 := ⟨by have := hS11.lo; omega, hS12.hb, hS12.fh⟩
 have hlon3 := hS13.lo
 refine fR rfl U85 rfl info3 rfl (lR rfl U3 rfl ho41 rfl (bR rfl rfl (WL.pick .r rfl rfl rfl rfl rfl (wN (eT ?_)))))
 obtain ⟨S5, hs4, h53⟩ := GPeer.close0_Log h46 hx7 h49
 exact ⟨[(0, pt p0 0), (4, pt n0 0), (5, pt (n0 + 1) 0), (6, pt b54 el55), (58, .bool (!decide (x4 = x18.B)))], (fl5), (!decide (x4 = x18.B)), S5, F2, rfl, hS13, (hE2.up (by omega)), ho40, fo0, ho41, fo1, ho42, fo2, h18, h19, h53, h47, h48, (Ap.or0 hs4 (Ap.sub0 hs0 ap6) (Ap.sub0 hs1 ap6)), (Ap.or0 hs4 (Ap.sub0 hs0 ap7) (Ap.sub0 hs1 ap7)), (Ap.or0 hs4 (Ap.sub0 hs0 ap8) (Ap.sub0 hs1 ap8)), ap9, ap10, ap11, (Ap.sym (Ap.or hs4 (Ap.sub hs0 (Ap.sym ap12)) (Ap.sub hs1 (Ap.sym ap12)))), ap13, ap14, ap15, (Ap.sym (Ap.or hs4 (Ap.sub hs0 (Ap.sym ap16)) (Ap.sub hs1 (Ap.sym ap16)))), ap17, hr⟩
 }
 }
 {
 intro _ n4 H14 hI
 obtain ⟨x3, S2, F3, rfl, hS14, hE3, ho43, fo3, ho45, fo4, ho46, fo5, h54, h55, h56, h57, h58, ap18, ap19, ap20, ap21, ap22, ap23, ap24, ap25, ap32, ap33, ap34, ap35, hr⟩ := hI
 have lt7 := hS14.lt ho43
 have lt8 := hS14.lt ho45
 have lt9 := hS14.lt ho46
 have hlen1 := hE3.le
 have hlon4 := hS14.lo
 unfold f_impl_Cluster_take_J1 at hr
 refine W.cond rfl (fun hc2 => ?_) (fun hc2 => ?_)
 {
 replace hr := iteB_pos hr hc2
 refine wS ?_
 refine W.regionD [0, 1, 2, 3, 4, 5, 6, 7, 8, 9, 10] [false, false, false, false, false, false, false, false, false, false, true] rfl rfl kr kr mP ?_
 refine fR rfl U85 rfl info3 rfl (lR rfl U3 rfl ho45 rfl ?_)
 obtain ⟨hc3, hr⟩ := chk_some hr
 refine WL.subI .r rfl rfl rfl rfl rfl hc3.1 hc3.2 (mR rfl (zR rfl (fR rfl U42 rfl info28 rfl ?_)))
 obtain ⟨c7, ecs7, hrow7, hwin7, hb7⟩ := OD.get h56 hp56 hx7
 obtain ⟨a35, cap35, a36, cap36, a37, cap37, a38, cap38, rfl⟩ := GPeer.ofB hb7
 obtain ⟨S7, hs5, hs6, hs7, h59, h60⟩ := GPeer.open_Log h56 hp56 hx7 hrow7 hwin7 (List.forall_mem_nil _)
 refine lR rfl U28 rfl hrow7 (wG 5 hwin7) (WL.len .r rfl rfl rfl U28 rfl (WL.min2 .r rfl rfl rfl rfl rfl (fR rfl U85 rfl info3 rfl ?_)))
 refine GL.store hS14 .w (vc := [iv (if (x2.Log.length : Int) < (x18.A - 1) then (x2.Log.length : Int) else (x18.A - 1))]) (c' := [iv 4, iv x22.From, iv x22.To, iv x2.Term, iv (if (x2.Log.length : Int) < (x18.A - 1) then (x2.Log.length : Int) else (x18.A - 1)), iv x22.B, iv x22.C, .bool x22.Ok, .slice a23 x22.Log.length cap24]) rfl rfl rfl info3 rfl rfl rfl rfl ho43 fo3 (bl rfl) (by omega) (one1 rfl) rfl (fun H15 hS15 ho47 hk10 => ?_)
 have ho50 := (hk10 _ (by omega)).trans ho45
 have ho51 := (hk10 _ (by omega)).trans ho46
 have h61 := OD.keep h60 (Nat.le_refl _) (fun i hi => hk10 i (fun hj => (Ap.sub0 hs5 ap18) (hj ▸ hi)))
 have h62 := kB h57 hk10 ap21
 have h66 := kB h58 hk10 ap25
 have h67 := kB h59 hk10 (Ap.sub0 hs6 ap18)
 refine wN (eT (wS (wR (mN rfl (WL.loadN .nil (l' := [iv 4, iv x22.From, iv x22.To, iv x2.Term, iv (if (x2.Log.length : Int) < (x18.A - 1) then (x2.Log.length : Int) else (x18.A - 1)), iv x22.B, iv x22.C, .bool x22.Ok, .slice a23 x22.Log.length cap24]) rfl rfl rfl U85 rfl info85 rfl ho47 rfl rfl ?_)))))
 obtain ⟨S8, hs8, h68⟩ := GPeer.close0_Log h61 hx7 h67
 obtain ⟨x5, hx9, hr⟩ := bnd_some hr
 refine GL.callIO g .nil (fun i => (F3 i).isSome = true ∨ i = p0 ∨ S8 i ∨ idOf (.slice a7 x1.Net.length cap8) = some i ∨ idOf (.slice a11 x1.Chosen.length cap12) = some i) rfl rfl rfl rfl rfl rfl Try.func55 rfl rfl (Nat.le_refl _) hS15.lo (f_impl_Cluster_send_k (x1 := (⟨(setI xs0 x18.To (⟨x2.Up, x2.Term, x2.Vote, x2.Commit, 0, x2.Log, [], [], []⟩ : GPeer)), x1.Net, x1.Chosen, x1.Conflict⟩ : GCluster)) (x18 := (⟨4, x22.From, x22.To, x2.Term, (if (x2.Log.length : Int) < (x18.A - 1) then (x2.Log.length : Int) else (x18.A - 1)), x22.B, x22.C, x22.Ok, x22.Log⟩ : GMsg)) g (St.vis hS15 (fun i hi => .inl hi)) (by rw [← hl8]; exact vis_get ho51 (.inr (.inl rfl))) fo5 lo17 (OD.head hl8 (OD.vis h68 (fun i hi => (.inr (.inr (.inl hi)))))) (OW.vis h62 (fun i hi => (.inr (.inr (.inr (.inl hi)))))) (OW.vis h66 (fun i hi => (.inr (.inr (.inr (.inr (hi))))))) h54 (Ap.or0 hs8 (Ap.sub0 hs5 ap20) (Ap.sub0 hs6 ap20)) ap23 (Ap.sym (Ap.or hs8 (Ap.sub hs5 (Ap.sym ap24)) (Ap.sub hs6 (Ap.sym ap24)))) ap33 (Ap.sym (Ap.or hs8 (Ap.sub hs5 (Ap.sym ap34)) (Ap.sub hs6 (Ap.sym ap34)))) ap35 hx9) (fun v n5 H16 H17 hn2 hp2 hle1 hnew1 hk11 hd1 => ?_)
 obtain ⟨F4, S9, a39, cap39, a40, cap40, hX1, hS16, ho52, rfl, h69, hl9, h70, h71, ap36, ap37, ap38, ap39, ap40, ap41⟩ := hp2
 have hS17 : St lo n5 H16 _ := sA hS16 hnew1 hle1
 have ho53 := (hk11 _ (by have := lt7; omega) (oE5 (nF fo3) (by omega) (Ap.or0 hs8 (Ap.sub0 hs5 ap18) (Ap.sub0 hs6 ap18)) ap21 ap25)).trans ho47
 have ho54 := (hk11 _ (by have := lt8; omega) (oE5 (nF fo4) (by omega) (Ap.or0 hs8 (Ap.sub0 hs5 ap19) (Ap.sub0 hs6 ap19)) ap22 ap32)).trans ho50
 have hE4 := (hE3.up (n' := n4) (by omega)).trans hX1
 have ho55 := hle1 _ _ ho52
 have h72 := OD.le h69 hle1
 have hl10 : x1.Peers.length = x5.Peers.length := hl8.trans hl9
 rw [← hl8] at h72
 have h73 := OW.le h70 hle1
 have h74 := OW.le h71 hle1
 rw [← hl8] at ho55
 have hlon5 := hS17.lo
 have lt10 := hS17.lt ho53
 have lt11 := hS17.lt ho54
 have lt12 := hS17.lt ho55
 refine wN (eT (W.ret (eR ?_)))
 obtain rfl := Option.some.inj hr
 exact ⟨.inr rfl, _, .nil, ⟨F4, S9, a39, cap39, a40, cap40, (hE4.up (by omega)), hS17, ho55, rfl, h72, hl10, h73, h74, ap36, ap37, ap38, ap39, ap40, ap41⟩⟩
 }
 {
 replace hr := iteB_neg hr hc2
 refine wK (eT (wS (wR (fN rfl U85 rfl info3 rfl (lN rfl U3 rfl ho45 rfl (aN rfl (wN (eT (wS (wS (wR ?_)))))))))))
 refine fN rfl U85 rfl info28 rfl (lN rfl U28 rfl ho45 rfl (WL.len .nil rfl rfl rfl U28 rfl (mN rfl (wN (eT (W.block ?_))))))
 refine W.loopF (fun k2 fr n H => ∃ (x6 : Int) (x7 : Int) (xs1 : (List GPeer)) (S10 : Nat → Prop) (F : Heap), fr = [(0, pt p0 0), (4, pt n0 0), (5, pt (n0 + 1) 0), (6, pt b54 el55), (7, iv x6), (75, .slice a19 x18.Log.length cap20), (76, iv (x18.Log.length : Int)), (77, iv x7)] ∧ St lo n H F ∧ Ext n0 F0 n F ∧ H (n0 + 1) = some (.row 1 [iv 4, iv x22.From, iv x22.To, iv x2.Term, iv x22.A, iv x22.B, iv x22.C, .bool x22.Ok, .slice a23 x22.Log.length cap24]) ∧ F (n0 + 1) = none ∧ H n0 = some (.row 1 [iv x18.Kind, iv x18.From, iv x18.To, iv x18.Term, iv x18.A, iv x18.B, iv x18.C, .bool x18.Ok, .slice a19 x18.Log.length cap20]) ∧ F n0 = none ∧ H p0 = some (.row ez0 [.slice a2 x1.Peers.length cap3, .slice a7 x1.Net.length cap8, .slice a11 x1.Chosen.length cap12, .bool x1.Conflict]) ∧ F p0 = none ∧ SR F (.slice a19 x18.Log.length cap20) x18.Log ∧ SR F (.slice a23 x22.Log.length cap24) x22.Log ∧ OD lo n H F S10 [] (.slice a2 x1.Peers.length cap3) xs1 ∧ x1.Peers.length = xs1.length ∧ Ow lo n H F a7 cap8 x1.Net ∧ Ow lo n H F a11 cap12 x1.Chosen ∧ ¬ S10 (n0 + 1) ∧ ¬ S10 n0 ∧ ¬ S10 p0 ∧ nP (.slice a7 x1.Net.length cap8) (n0 + 1) ∧ nP (.slice a7 x1.Net.length cap8) n0 ∧ nP (.slice a7 x1.Net.length cap8) p0 ∧ nS (.slice a7 x1.Net.length cap8) S10 ∧ nP (.slice a11 x1.Chosen.length cap12) (n0 + 1) ∧ nP (.slice a11 x1.Chosen.length cap12) n0 ∧ nP (.slice a11 x1.Chosen.length cap12) p0 ∧ nS (.slice a11 x1.Chosen.length cap12) S10 ∧ nA (.slice a11 x1.Chosen.length cap12) (.slice a7 x1.Net.length cap8) ∧ f_impl_Cluster_take_L2 x18 x1 x22 x2 k2 x6 x7 xs1 = some res) BIG (fr0 := [(0, pt p0 0), (4, pt n0 0), (5, pt (n0 + 1) 0), (6, pt b54 el55), (7, iv x18.A), (75, .slice a19 x18.Log.length cap20), (76, iv (x18.Log.length : Int)), (77, iv 0)]) (fl8) ?_ ?_ ?_
 {
 exact ⟨x18.A, 0, (setI xs0 x18.To (⟨x2.Up, x2.Term, x2.Vote, x2.Commit, 0, x2.Log, [], [], []⟩ : GPeer)), S2, F3, rfl, hS14, hE3, ho43, fo3, ho45, fo4, ho46, fo5, h55, h54, h56, hl8, h57, h58, ap18, ap19, ap20, ap21, ap22, ap23, ap24, ap25, ap32, ap33, ap34, ap35, hr⟩
 }
 {
 intro fr n H hI
 obtain ⟨x6, x7, xs1, S10, F5, hfr, hS18, hE5, ho56, fo6, ho57, fo7, ho58, fo8, h75, h76, h77, hl11, h78, h79, ap42, ap43, ap44, ap45, ap46, ap47, ap48, ap49, ap50, ap51, ap52, ap53, hr⟩ := hI
 rw [f_impl_Cluster_take_L2] at hr
 cases hr
 }
 {
 intro k2 _ n6 H18 hI
 obtain ⟨x6, x7, xs1, S10, F5, rfl, hS18, hE5, ho56, fo6, ho57, fo7, ho58, fo8, h75, h76, h77, hl11, h78, h79, ap42, ap43, ap44, ap45, ap46, ap47, ap48, ap49, ap50, ap51, ap52, ap53, hr⟩ := hI
 have lt13 := hS18.lt ho56
 have lt14 := hS18.lt ho57
 have lt15 := hS18.lt ho58
 have hlen2 := hE5.le
 have hlon6 := hS18.lo
 rw [f_impl_Cluster_take_L2] at hr
 refine wS (wR (bN rfl rfl (wN (eT (wS ?_)))))
 refine W.condD rfl (fun hc4 => ?_) (fun hc4 => ?_)
 {
 replace hr := ite_pos hr hc4
 refine wK (eT (wS ?_))
 refine W.cut (fun fr n H => ∃ (x8 : Int) (xs2 : (List GPeer)) (S11 : Nat → Prop) (F : Heap), fr = [(0, pt p0 0), (4, pt n0 0), (5, pt (n0 + 1) 0), (6, pt b54 el55), (7, iv x8), (75, .slice a19 x18.Log.length cap20), (76, iv (x18.Log.length : Int)), (77, iv x7)] ∧ St lo n H F ∧ Ext n0 F0 n F ∧ H (n0 + 1) = some (.row 1 [iv 4, iv x22.From, iv x22.To, iv x2.Term, iv x22.A, iv x22.B, iv x22.C, .bool x22.Ok, .slice a23 x22.Log.length cap24]) ∧ F (n0 + 1) = none ∧ H n0 = some (.row 1 [iv x18.Kind, iv x18.From, iv x18.To, iv x18.Term, iv x18.A, iv x18.B, iv x18.C, .bool x18.Ok, .slice a19 x18.Log.length cap20]) ∧ F n0 = none ∧ H p0 = some (.row ez0 [.slice a2 x1.Peers.length cap3, .slice a7 x1.Net.length cap8, .slice a11 x1.Chosen.length cap12, .bool x1.Conflict]) ∧ F p0 = none ∧ SR F (.slice a19 x18.Log.length cap20) x18.Log ∧ SR F (.slice a23 x22.Log.length cap24) x22.Log ∧ OD lo n H F S11 [] (.slice a2 x1.Peers.length cap3) xs2 ∧ x1.Peers.length = xs2.length ∧ Ow lo n H F a7 cap8 x1.Net ∧ Ow lo n H F a11 cap12 x1.Chosen ∧ ¬ S11 (n0 + 1) ∧ ¬ S11 n0 ∧ ¬ S11 p0 ∧ nP (.slice a7 x1.Net.length cap8) (n0 + 1) ∧ nP (.slice a7 x1.Net.length cap8) n0 ∧ nP (.slice a7 x1.Net.length cap8) p0 ∧ nS (.slice a7 x1.Net.length cap8) S11 ∧ nP (.slice a11 x1.Chosen.length cap12) (n0 + 1) ∧ nP (.slice a11 x1.Chosen.length cap12) n0 ∧ nP (.slice a11 x1.Chosen.length cap12) p0 ∧ nS (.slice a11 x1.Chosen.length cap12) S11 ∧ nA (.slice a11 x1.Chosen.length cap12) (.slice a7 x1.Net.length cap8) ∧ f_impl_Cluster_take_J3 x7 (f_impl_Cluster_take_L2 x18 x1 x22 x2 k2) x8 xs2 = some res) ?_ ?_
 {
 refine W.block (wS (wR ?_))
 obtain ⟨x9, hx10, hr⟩ := bnd_some hr
 refine GL.index .nil rfl rfl rfl U28 info35 rfl rfl h75 hS18.fh rfl hx10 (fun b0 kp0 c8 ecs8 hrow8 hwin8 hR0 => ?_)
 obtain ⟨a41, cap41, rfl, h80⟩ := GRec.ofR hR0
 refine WL.loadN .nil (l' := [iv x9.Term, iv x9.Index, .slice a41 x9.Data.length cap41]) rfl rfl rfl U35 rfl info35 rfl hrow8 hwin8 rfl ?_
 refine GL.alloc hS18 .nil (zc := [iv 0, iv 0, .slice none 0 0]) rfl rfl rfl info35 rfl rfl rfl (fun H19 hS19 ho60 hk12 => ?_)
 have fo9 := hS18.fnone (Nat.le_refl _)
 have ho63 := oA hk12 ho56 lt13
 have ho64 := oA hk12 ho57 lt14
 have ho65 := oA hk12 ho58 lt15
 have h81 := OD.keep (n' := (n6 + 1)) h77 (by omega) (fun i hi => hk12 i (OD.id_lt h77 hi).2)
 have h82 := kA (n' := (n6 + 1)) h78 hk12
 have h83 := kA (n' := (n6 + 1)) h79 hk12
 have hlon7 := hS19.lo
 have lt16 : n6 < (n6 + 1) := by omega
 refine GL.store hS19 .nil (vc := [iv x9.Term, iv x9.Index, .slice a41 x9.Data.length cap41]) (c' := [iv x9.Term, iv x9.Index, .slice a41 x9.Data.length cap41]) rfl rfl rfl info35 rfl rfl rfl rfl ho60 fo9 (bl rfl) (by omega) bxP rfl (fun H20 hS20 ho66 hk13 => ?_)
 have ho67 := (hk13 _ (by omega)).trans ho63
 have ho68 := (hk13 _ (by omega)).trans ho64
 have ho69 := (hk13 _ (by omega)).trans ho65
 have h84 := OD.keep h81 (Nat.le_refl _) (fun i hi => hk13 i (fun hj => (aD h77) (hj ▸ hi)))
 have h85 := kB h82 hk13 (aW h78)
 have h86 := kB h83 hk13 (aW h79)
 refine wN (eT (wS (wR (fN rfl U35 rfl info3 rfl (lN rfl U3 rfl ho66 rfl (aN rfl (wN (eT (wS (wS ?_))))))))))
 refine W.cut (fun fr n H => ∃ (x10 : Bool) (S12 : Nat → Prop) (F : Heap), fr = [(0, pt p0 0), (4, pt n0 0), (5, pt (n0 + 1) 0), (6, pt b54 el55), (7, iv x9.Index), (9, pt n6 0), (75, .slice a19 x18.Log.length cap20), (76, iv (x18.Log.length : Int)), (77, iv x7), (97, .bool x10)] ∧ St lo n H F ∧ Ext n0 F0 n F ∧ H (n0 + 1) = some (.row 1 [iv 4, iv x22.From, iv x22.To, iv x2.Term, iv x22.A, iv x22.B, iv x22.C, .bool x22.Ok, .slice a23 x22.Log.length cap24]) ∧ F (n0 + 1) = none ∧ H n0 = some (.row 1 [iv x18.Kind, iv x18.From, iv x18.To, iv x18.Term, iv x18.A, iv x18.B, iv x18.C, .bool x18.Ok, .slice a19 x18.Log.length cap20]) ∧ F n0 = none ∧ H n6 = some (.row 1 [iv x9.Term, iv x9.Index, .slice a41 x9.Data.length cap41]) ∧ F n6 = none ∧ H p0 = some (.row ez0 [.slice a2 x1.Peers.length cap3, .slice a7 x1.Net.length cap8, .slice a11 x1.Chosen.length cap12, .bool x1.Conflict]) ∧ F p0 = none ∧ SR F (.slice a19 x18.Log.length cap20) x18.Log ∧ SR F (.slice a23 x22.Log.length cap24) x22.Log ∧ SR F (.slice a41 x9.Data.length cap41) x9.Data ∧ OD lo n H F S12 [] (.slice a2 x1.Peers.length cap3) xs1 ∧ Ow lo n H F a7 cap8 x1.Net ∧ Ow lo n H F a11 cap12 x1.Chosen ∧ ¬ S12 (n0 + 1) ∧ ¬ S12 n0 ∧ ¬ S12 n6 ∧ ¬ S12 p0 ∧ nP (.slice a7 x1.Net.length cap8) (n0 + 1) ∧ nP (.slice a7 x1.Net.length cap8) n0 ∧ nP (.slice a7 x1.Net.length cap8) n6 ∧ nP (.slice a7 x1.Net.length cap8) p0 ∧ nS (.slice a7 x1.Net.length cap8) S12 ∧ nP (.slice a11 x1.Chosen.length cap12) (n0 + 1) ∧ nP (.slice a11 x1.Chosen.length cap12) n0 ∧ nP (.slice a11 x1.Chosen.length cap12) n6 ∧ nP (.slice a11 x1.Chosen.length cap12) p0 ∧ nS (.slice a11 x1.Chosen.length cap12) S12 ∧ nA (.slice a11 x1.Chosen.length cap12) (.slice a7 x1.Net.length cap8) ∧ f_impl_Cluster_take_J4 xs1 x18 x9 x7 (f_impl_Cluster_take_L2 x18 x1 x22 x2 k2) x10 = some res) ?_ ?_
 {
 refine W.regionD r15 f15 rfl rfl kr kr mP ?_
 refine mR rfl (mR rfl (zR rfl (fR rfl U42 rfl info28 rfl ?_)))
 obtain ⟨x11, hx11, hr⟩ := bnd_some hr
 obtain ⟨c9, ecs9, hrow9, hwin9, hb8⟩ := OD.get h84 hp56 hx11
 obtain ⟨a42, cap42, a43, cap43, a44, cap44, a45, cap45, rfl⟩ := GPeer.ofB hb8
 obtain ⟨S13, hs9, hs10, hs11, h87, h88⟩ := GPeer.open_Log h84 hp56 hx11 hrow9 hwin9 (List.forall_mem_nil _)
 refine lR rfl U28 rfl hrow9 (wG 5 hwin9) (WL.len .r rfl rfl rfl U28 rfl (bR rfl rfl (mR rfl ?_)))
 refine WL.guardD rfl rfl rfl (fun hg1 => ?_) (fun hg1 => ?_)
 {
 replace hr := ite_pos hr hg1
 refine mR rfl (mR rfl ?_)
 obtain ⟨x12, hx12, hr⟩ := bnd_some hr
 refine GL.callP g.good .r rfl rfl rfl rfl rfl rfl Try.func94 rfl rfl (Nat.le_refl _) (f_impl_Peer_term_elem0_k  g hS20 hrow9 hwin9 h87 hx12) (fun v n7 H21 hn3 hk14 hp3 => ?_)
 obtain ⟨hS21, rfl⟩ := hp3
 have ho70 := oA hk14 ho67 lt13
 have ho71 := oA hk14 ho68 lt14
 have ho72 := oA hk14 ho69 lt15
 have ho73 := oA hk14 ho66 lt16
 have h89 := OD.keep (n' := n7) h88 (by omega) (fun i hi => hk14 i (OD.id_lt h88 hi).2)
 have h90 := kA (n' := n7) h85 hk14
 have h91 := kA (n' := n7) h86 hk14
 have h92 := kA (n' := n7) h87 hk14
 have hS22 : St lo n7 H21 F5 := ⟨by have := hS20.lo; omega, hS21.hb, hS21.fh⟩
 have hlon8 := hS22.lo
 refine fR rfl U35 rfl info3 rfl (lR rfl U3 rfl ho73 rfl (bR rfl rfl (WL.pick .r rfl rfl rfl rfl rfl (wN (eT ?_)))))
 obtain ⟨S14, hs12, h93⟩ := GPeer.close0_Log h89 hx11 h92
 exact ⟨[(0, pt p0 0), (4, pt n0 0), (5, pt (n0 + 1) 0), (6, pt b54 el55), (7, iv x9.Index), (9, pt n6 0), (75, .slice a19 x18.Log.length cap20), (76, iv (x18.Log.length : Int)), (77, iv x7), (97, .bool (!decide (x12 = x9.Term)))], (Fr.le_cons rfl (Fr.le_cons rfl (Fr.le_cons rfl (Fr.le_cons rfl (Fr.le_cons rfl (Fr.le_cons rfl (Fr.le_cons rfl (Fr.le_cons rfl (Fr.le_cons rfl (Fr.le_cons rfl Fr.le_nil)))))))))), (!decide (x12 = x9.Term)), S14, F5, rfl, hS22, (hE5.up (by omega)), ho70, fo6, ho71, fo7, ho73, fo9, ho72, fo8, h75, h76, h80, h93, h90, h91, (Ap.or0 hs12 (Ap.sub0 hs9 ap42) (Ap.sub0 hs10 ap42)), (Ap.or0 hs12 (Ap.sub0 hs9 ap43) (Ap.sub0 hs10 ap43)), (Ap.or0 hs12 (Ap.sub0 hs9 (aD h77)) (Ap.sub0 hs10 (aD h77))), (Ap.or0 hs12 (Ap.sub0 hs9 ap44) (Ap.sub0 hs10 ap44)), ap45, ap46, (aW h78), ap47, (Ap.sym (Ap.or hs12 (Ap.sub hs9 (Ap.sym ap48)) (Ap.sub hs10 (Ap.sym ap48)))), ap49, ap50, (aW h79), ap51, (Ap.sym (Ap.or hs12 (Ap.sub hs9 (Ap.sym ap52)) (Ap.sub hs10 (Ap.sym ap52)))), ap53, hr⟩
 }
 {
 replace hr := ite_neg hr hg1
 refine kR rfl (kR rfl (kR rfl (kR rfl (kR rfl (kR rfl (WL.pick .r rfl rfl rfl rfl rfl (wN (eT ?_))))))))
 obtain ⟨S15, hs13, h94⟩ := GPeer.close0_Log h88 hx11 h87
 exact ⟨[(0, pt p0 0), (4, pt n0 0), (5, pt (n0 + 1) 0), (6, pt b54 el55), (7, iv x9.Index), (9, pt n6 0), (75, .slice a19 x18.Log.length cap20), (76, iv (x18.Log.length : Int)), (77, iv x7), (97, .bool false)], (Fr.le_cons rfl (Fr.le_cons rfl (Fr.le_cons rfl (Fr.le_cons rfl (Fr.le_cons rfl (Fr.le_cons rfl (Fr.le_cons rfl (Fr.le_cons rfl (Fr.le_cons rfl (Fr.le_cons rfl Fr.le_nil)))))))))), false, S15, F5, rfl, hS20, (hE5.up (by omega)), ho67, fo6, ho68, fo7, ho66, fo9, ho69, fo8, h75, h76, h80, h94, h85, h86, (Ap.or0 hs13 (Ap.sub0 hs9 ap42) (Ap.sub0 hs10 ap42)), (Ap.or0 hs13 (Ap.sub0 hs9 ap43) (Ap.sub0 hs10 ap43)), (Ap.or0 hs13 (Ap.sub0 hs9 (aD h77)) (Ap.sub0 hs10 (aD h77))), (Ap.or0 hs13 (Ap.sub0 hs9 ap44) (Ap.sub0 hs10 ap44)), ap45, ap46, (aW h78), ap47, (Ap.sym (Ap.or hs13 (Ap.sub hs9 (Ap.sym ap48)) (Ap.sub hs10 (Ap.sym ap48)))), ap49, ap50, (aW h79), ap51, (Ap.sym (Ap.or hs13 (Ap.sub hs9 (Ap.sym ap52)) (Ap.sub hs10 (Ap.sym ap52)))), ap53, hr⟩
 }
 }
 {
 intro _ n8 H22 hI
 obtain ⟨x10, S12, F6, rfl, hS23, hE6, ho74, fo10, ho75, fo11, ho76, fo12, ho77, fo13, h95, h96, h97, h98, h99, h100, ap54, ap55, ap56, ap57, ap58, ap59, ap60, ap61, ap62, ap63, ap64, ap65, ap66, ap67, ap68, hr⟩ := hI
 have lt17 := hS23.lt ho74
 have lt18 := hS23.lt ho75
 have lt19 := hS23.lt ho76
 have lt20 := hS23.lt ho77
 have hlen3 := hE6.le
 have hlon9 := hS23.lo
 unfold f_impl_Cluster_take_J4 at hr
 refine W.cut (fun fr n H => ∃ (xs3 : (List GPeer)) (S16 : Nat → Prop) (F : Heap), fr = [(0, pt p0 0), (4, pt n0 0), (5, pt (n0 + 1) 0), (6, pt b54 el55), (7, iv x9.Index), (9, pt n6 0), (75, .slice a19 x18.Log.length cap20), (76, iv (x18.Log.length : Int)), (77, iv x7)] ∧ St lo n H F ∧ Ext n0 F0 n F ∧ H (n0 + 1) = some (.row 1 [iv 4, iv x22.From, iv x22.To, iv x2.Term, iv x22.A, iv x22.B, iv x22.C, .bool x22.Ok, .slice a23 x22.Log.length cap24]) ∧ F (n0 + 1) = none ∧ H n0 = some (.row 1 [iv x18.Kind, iv x18.From, iv x18.To, iv x18.Term, iv x18.A, iv x18.B, iv x18.C, .bool x18.Ok, .slice a19 x18.Log.length cap20]) ∧ F n0 = none ∧ H n6 = some (.row 1 [iv x9.Term, iv x9.Index, .slice a41 x9.Data.length cap41]) ∧ F n6 = none ∧ H p0 = some (.row ez0 [.slice a2 x1.Peers.length cap3, .slice a7 x1.Net.length cap8, .slice a11 x1.Chosen.length cap12, .bool x1.Conflict]) ∧ F p0 = none ∧ SR F (.slice a19 x18.Log.length cap20) x18.Log ∧ SR F (.slice a23 x22.Log.length cap24) x22.Log ∧ SR F (.slice a41 x9.Data.length cap41) x9.Data ∧ OD lo n H F S16 [] (.slice a2 x1.Peers.length cap3) xs3 ∧ x1.Peers.length = xs3.length ∧ Ow lo n H F a7 cap8 x1.Net ∧ Ow lo n H F a11 cap12 x1.Chosen ∧ ¬ S16 (n0 + 1) ∧ ¬ S16 n0 ∧ ¬ S16 n6 ∧ ¬ S16 p0 ∧ nP (.slice a7 x1.Net.length cap8) (n0 + 1) ∧ nP (.slice a7 x1.Net.length cap8) n0 ∧ nP (.slice a7 x1.Net.length cap8) n6 ∧ nP (.slice a7 x1.Net.length cap8) p0 ∧ nS (.slice a7 x1.Net.length cap8) S16 ∧ nP (.slice a11 x1.Chosen.length cap12) (n0 + 1) ∧ nP (.slice a11 x1.Chosen.length cap12) n0 ∧ nP (.slice a11 x1.Chosen.length cap12) n6 ∧ nP (.slice a11 x1.Chosen.length cap12) p0 ∧ nS (.slice a11 x1.Chosen.length cap12) S16 ∧ nA (.slice a11 x1.Chosen.length cap12) (.slice a7 x1.Net.length cap8) ∧ f_impl_Cluster_take_J5 x18 x9 x7 (f_impl_Cluster_take_L2 x18 x1 x22 x2 k2) xs3 = some res) ?_ ?_
 {
 refine W.cond rfl (fun hc5 => ?_) (fun hc5 => ?_)
 {
 replace hr := iteB_pos hr hc5
 refine wR (mN rfl (mN rfl (zN rfl (fN rfl U42 rfl info28 rfl ?_))))
 obtain ⟨x13, hx13, hr⟩ := bnd_some hr
 obtain ⟨c10, ecs10, hrow10, hwin10, hb9⟩ := OD.get h98 hp56 hx13
 obtain ⟨a46, cap46, a47, cap47, a48, cap48, a49, cap49, rfl⟩ := GPeer.ofB hb9
 obtain ⟨S17, hs14, hs15, hs16, h101, h102⟩ := GPeer.open_Log h98 hp56 hx13 hrow10 hwin10 (List.forall_mem_nil _)
 refine lN rfl U28 rfl hrow10 (wG 5 hwin10) (mN rfl ?_)
 obtain ⟨hc6, hr⟩ := chk_some hr
 refine WL.subI .nil rfl rfl rfl rfl rfl hc6.1 hc6.2 ?_
 obtain ⟨xs4, hxs0, hr⟩ := bnd_some hr
 refine GL.sliceO .nil rfl rfl rfl U28 info35 rfl rfl h101 rfl ⟨_, rfl⟩ hxs0 (fun a50 cap50 hid0 h103 => ?_)
 obtain ⟨x14, hx14, hr⟩ := bnd_some hr
 refine GL.callP g.good .nil rfl rfl rfl rfl rfl rfl Try.func114 rfl rfl hS23.lo (f_slices_Clone_implRec_k  g hS23 (OW.src h103) hx14) (fun v n9 H23 hn4 hk15 hp4 => ?_)
 obtain ⟨a51, cap51, hS24, rfl, h104⟩ := hp4
 have ho78 := oA hk15 ho74 lt17
 have ho79 := oA hk15 ho75 lt18
 have ho80 := oA hk15 ho76 lt19
 have ho81 := oA hk15 ho77 lt20
 have h105 := OD.keep (n' := n9) h102 (by omega) (fun i hi => hk15 i (OD.id_lt h102 hi).2)
 have h106 := kA (n' := n9) h99 hk15
 have h107 := kA (n' := n9) h100 hk15
 have hS25 : St lo n9 H23 F6 := ⟨by have := hS23.lo; omega, hS24.hb, hS24.fh⟩
 have hlon10 := hS25.lo
 have h108 := OW.lower (lo' := n0) h104 (by omega)
 refine zN rfl (fN rfl U42 rfl info28 rfl ?_)
 obtain ⟨c11, ecs11, hrow11, hwin11, hb10⟩ := OD.get h105 hp56 hx13
 obtain ⟨a52, cap52, a53, cap53, a54, cap54, a55, cap55, rfl⟩ := GPeer.ofB hb10
 have hq0 := OD.hole h105 hp56 hx13 hrow11 hwin11
 obtain ⟨rfl, rfl⟩ := hdr_eq (a := a52) (c := cap52) hq0
 refine GL.store hS25 .nil (vc := [.slice a51 x14.length cap51]) rfl rfl rfl info28 rfl rfl rfl rfl hrow11 (OD.fnone h105 (OD.bS h105 hp56)) (win_fit2 hwin11 (bl rfl) rfl (bl rfl)) (by have := (OD.id_lt h105 (OD.bS h105 hp56)).1; omega) (one1 rfl) rfl (fun H24 hS26 ho82 hk16 => ?_)
 have ho83 := (hk16 (n0 + 1) (fun hj => (Ap.sub0 hs14 ap54) (by rw [hj]; exact (OD.bS h105 hp56)))).trans ho78
 have ho84 := (hk16 n0 (fun hj => (Ap.sub0 hs14 ap55) (by rw [hj]; exact (OD.bS h105 hp56)))).trans ho79
 have ho85 := (hk16 n6 (fun hj => (Ap.sub0 hs14 ap56) (by rw [hj]; exact (OD.bS h105 hp56)))).trans ho80
 have ho86 := (hk16 p0 (fun hj => (Ap.sub0 hs14 ap57) (by rw [hj]; exact (OD.bS h105 hp56)))).trans ho81
 have h109 := OW.keep h106 (Nat.le_refl _) (fun i hi => hk16 i (fun hj => (Ap.sym (Ap.sub hs14 (Ap.sym ap62))) i hi (by rw [hj]; exact (OD.bS h105 hp56))))
 have h110 := OW.keep h107 (Nat.le_refl _) (fun i hi => hk16 i (fun hj => (Ap.sym (Ap.sub hs14 (Ap.sym ap67))) i hi (by rw [hj]; exact (OD.bS h105 hp56))))
 obtain ⟨S18, hs17, h111⟩ := GPeer.set_Log h105 hp56 hx13 hrow11 hwin11 (OW.lower h108 (by omega)) (fun i hi => (Ap.fresh (OW.lb h104) (OD.hb h102)) i hi) z10 z00 ho82 hk16
 have hl12 : x1.Peers.length = (setI xs1 x18.To (⟨x13.Up, x13.Term, x13.Vote, x13.Commit, x13.Role, x14, x13.Votes, x13.Next, x13.Match⟩ : GPeer)).length := hl11.trans (by rw [setI_length])
 have hx15 := ixS h111 hx13
 refine wN (eT ?_)
 exact ⟨[(0, pt p0 0), (4, pt n0 0), (5, pt (n0 + 1) 0), (6, pt b54 el55), (7, iv x9.Index), (9, pt n6 0), (75, .slice a19 x18.Log.length cap20), (76, iv (x18.Log.length : Int)), (77, iv x7)], (fl9), (setI xs1 x18.To (⟨x13.Up, x13.Term, x13.Vote, x13.Commit, x13.Role, x14, x13.Votes, x13.Next, x13.Match⟩ : GPeer)), S18, F6, rfl, hS26, (hE6.up (by omega)), ho83, fo10, ho84, fo11, ho85, fo12, ho86, fo13, h95, h96, h97, h111, hl12, h109, h110, (Ap.or0 hs17 (Ap.sub0 hs14 ap54) (Ap.fresh0 (OW.lb h104) (by have := lt17; omega))), (Ap.or0 hs17 (Ap.sub0 hs14 ap55) (Ap.fresh0 (OW.lb h104) (by have := lt18; omega))), (Ap.or0 hs17 (Ap.sub0 hs14 ap56) (Ap.fresh0 (OW.lb h104) (by have := lt19; omega))), (Ap.or0 hs17 (Ap.sub0 hs14 ap57) (Ap.fresh0 (OW.lb h104) (by have := lt20; omega))), ap58, ap59, ap60, ap61, (Ap.sym (Ap.or hs17 (Ap.sub hs14 (Ap.sym ap62)) (Ap.fresh (OW.lb h104) (OW.hb h99)))), ap63, ap64, ap65, ap66, (Ap.sym (Ap.or hs17 (Ap.sub hs14 (Ap.sym ap67)) (Ap.fresh (OW.lb h104) (OW.hb h100)))), ap68, hr⟩
 }
 {
 replace hr := iteB_neg hr hc5
 refine wK (eT ?_)
 exact ⟨[(0, pt p0 0), (4, pt n0 0), (5, pt (n0 + 1) 0), (6, pt b54 el55), (7, iv x9.Index), (9, pt n6 0), (75, .slice a19 x18.Log.length cap20), (76, iv (x18.Log.length : Int)), (77, iv x7)], (fl9), xs1, S12, F6, rfl, hS23, hE6, ho74, fo10, ho75, fo11, ho76, fo12, ho77, fo13, h95, h96, h97, h98, hl11, h99, h100, ap54, ap55, ap56, ap57, ap58, ap59, ap60, ap61, ap62, ap63, ap64, ap65, ap66, ap67, ap68, hr⟩
 }
 }
 {
 intro _ n10 H25 hI
 obtain ⟨xs3, S16, F7, rfl, hS27, hE7, ho87, fo14, ho88, fo15, ho89, fo17, ho90, fo18, h112, h113, h114, h115, hl13, h116, h117, ap69, ap70, ap71, ap72, ap73, ap74, ap75, ap76, ap77, ap78, ap79, ap80, ap81, ap82, ap83, hr⟩ := hI
 have lt21 := hS27.lt ho87
 have lt22 := hS27.lt ho88
 have lt23 := hS27.lt ho89
 have lt24 := hS27.lt ho90
 have hlen4 := hE7.le
 have hlon11 := hS27.lo
 unfold f_impl_Cluster_take_J5 at hr
 refine wS (wR (mN rfl (mN rfl (zN rfl (fN rfl U42 rfl info28 rfl ?_)))))
 obtain ⟨x15, hx16, hr⟩ := bnd_some hr
 obtain ⟨c12, ecs12, hrow12, hwin12, hb11⟩ := OD.get h115 hp56 hx16
 obtain ⟨a56, cap56, a57, cap57, a58, cap58, a59, cap59, rfl⟩ := GPeer.ofB hb11
 obtain ⟨S19, hs18, hs19, hs20, h118, h119⟩ := GPeer.open_Log h115 hp56 hx16 hrow12 hwin12 (List.forall_mem_nil _)
 refine lN rfl U28 rfl hrow12 (wG 5 hwin12) (WL.len .nil rfl rfl rfl U28 rfl (bN rfl rfl (wN (eT ?_))))
 refine W.condD rfl (fun hc7 => ?_) (fun hc7 => ?_)
 {
 replace hr := ite_pos hr hc7
 refine W.regionI (fun H => True) [0, 1, 2, 3, 4, 5, 6, 7, 8, 9, 10] [(false, true, false), (false, false, false), (false, false, false), (false, false, false), (false, false, false), (false, false, false), (false, false, false), (true, false, false), (false, false, false), (false, false, false), (true, false, true)] false rfl kr kr mP ?_
 refine WLI.late (v := pt b54 el55) (fun h => by cases h) rfl rfl (fun H2 hI2 => .move (.inl rfl) rfl) ?_
 refine oP (mR rfl ?_)
 with_reducible refine WL.nil ⟨rfl, ?_⟩
 refine oP (zR rfl ?_)
 with_reducible refine WL.nil ⟨rfl, ?_⟩
 refine oP (fR rfl U42 rfl info28 rfl ?_)
 with_reducible refine WL.nil ⟨rfl, ?_⟩
 refine oP (lR rfl U28 rfl hrow12 (wG 5 hwin12) ?_)
 with_reducible refine WL.nil ⟨rfl, ?_⟩
 refine oP (WL.loadN .r (l' := [iv x9.Term, iv x9.Index, .slice a41 x9.Data.length cap41]) rfl rfl rfl U35 rfl info35 rfl ho89 rfl rfl ?_)
 with_reducible refine WL.nil ⟨rfl, ?_⟩
 refine oP ?_
 refine GL.lit (cs := [iv x9.Term, iv x9.Index, .slice a41 x9.Data.length cap41]) (xs := ([(⟨x9.Term, x9.Index, x9.Data⟩ : GRec)] : List GRec)) hS27 .r rfl rfl rfl U28 info35 rfl rfl rfl (by decide) (by decide) rfl rfl rfl rfl rfl (RA.cons (cs := [iv x9.Term, iv x9.Index, .slice a41 x9.Data.length cap41]) (a := ((⟨x9.Term, x9.Index, x9.Data⟩ : GRec) : GRec)) (GRec.toR (x := (⟨x9.Term, x9.Index, x9.Data⟩ : GRec)) h114) RA.nil) rfl (fun H26 hS28 hO0 hk17 => ?_)
 have ho91 := oA hk17 ho87 lt21
 have ho92 := oA hk17 ho88 lt22
 have ho93 := oA hk17 ho90 lt24
 have h120 := OD.keep (n' := (n10 + 1)) h119 (by omega) (fun i hi => hk17 i (OD.id_lt h119 hi).2)
 have h121 := kA (n' := (n10 + 1)) h116 hk17
 have h122 := kA (n' := (n10 + 1)) h117 hk17
 have h123 := kA (n' := (n10 + 1)) h118 hk17
 have h124 := OW.lower (lo' := n0) hO0 (by omega)
 have hlon12 := hS28.lo
 with_reducible refine WL.nil ⟨rfl, ?_⟩
 refine oP ?_
 obtain ⟨hc8, hr⟩ := chk_some hr
 refine GL.append (α := GRec) hS28 .w rfl rfl rfl U28 U28 rfl info35 rfl rfl rfl (by decide) rfl rfl h123 (by omega) (by omega) (OW.src h124) hc8 (fun a60 cap60 n11 H27 hS29 hn5 hO1 hk18 hid1 => ?_)
 have ho94 := (hk18 _ (by have := lt21; omega) (Ap.sub0 hs19 ap69)).trans ho91
 have ho95 := (hk18 _ (by have := lt22; omega) (Ap.sub0 hs19 ap70)).trans ho92
 have ho96 := (hk18 _ (by have := lt24; omega) (Ap.sub0 hs19 ap72)).trans ho93
 have h125 := OD.keep h120 hn5 (fun i hi => hk18 i (OD.id_lt h120 hi).2 (fun hj => hs20 _ hj hi))
 have h126 := OW.keep h121 hn5 (fun i hi => hk18 i (OW.id_lt h121 hi).2 (fun hj => (Ap.sub hs19 (Ap.sym ap77)) _ hj hi))
 have h127 := OW.keep h122 hn5 (fun i hi => hk18 i (OW.id_lt h122 hi).2 (fun hj => (Ap.sub hs19 (Ap.sym ap82)) _ hj hi))
 have hlon13 := hS29.lo
 with_reducible refine WL.nil ⟨rfl, ?_⟩
 refine oP (zR rfl ?_)
 with_reducible refine WL.nil ⟨rfl, ?_⟩
 refine oP (fR rfl U42 rfl info28 rfl ?_)
 with_reducible refine WL.nil ⟨rfl, ?_⟩
 refine WLI.op (fun _ => trivial) ?_
 obtain ⟨c13, ecs13, hrow13, hwin13, hb12⟩ := OD.get h125 hp56 hx16
 obtain ⟨a61, cap61, a62, cap62, a63, cap63, a64, cap64, rfl⟩ := GPeer.ofB hb12
 have hq1 := OD.hole h125 hp56 hx16 hrow13 hwin13
 obtain ⟨rfl, rfl⟩ := hdr_eq (a := a61) (c := cap61) hq1
 refine GL.store hS29 .w (vc := [.slice a60 (x15.Log ++ ([(⟨x9.Term, x9.Index, x9.Data⟩ : GRec)] : List GRec)).length cap60]) rfl rfl rfl info28 rfl rfl rfl rfl hrow13 (OD.fnone h125 (OD.bS h125 hp56)) (win_fit2 hwin13 (bl rfl) rfl (bl rfl)) (by have := (OD.id_lt h125 (OD.bS h125 hp56)).1; omega) (one1 rfl) rfl (fun H28 hS30 ho97 hk19 => ?_)
 have ho98 := (hk19 (n0 + 1) (fun hj => (Ap.sub0 hs18 ap69) (by rw [hj]; exact (OD.bS h125 hp56)))).trans ho94
 have ho99 := (hk19 n0 (fun hj => (Ap.sub0 hs18 ap70) (by rw [hj]; exact (OD.bS h125 hp56)))).trans ho95
 have ho100 := (hk19 p0 (fun hj => (Ap.sub0 hs18 ap72) (by rw [hj]; exact (OD.bS h125 hp56)))).trans ho96
 have h128 := OW.keep h126 (Nat.le_refl _) (fun i hi => hk19 i (fun hj => (Ap.sym (Ap.sub hs18 (Ap.sym ap77))) i hi (by rw [hj]; exact (OD.bS h125 hp56))))
 have h129 := OW.keep h127 (Nat.le_refl _) (fun i hi => hk19 i (fun hj => (Ap.sym (Ap.sub hs18 (Ap.sym ap82))) i hi (by rw [hj]; exact (OD.bS h125 hp56))))
 obtain ⟨S20, hs21, h130⟩ := GPeer.set_Log h125 hp56 hx16 hrow13 hwin13 hO1 (fun i hi => (Ap.new hid1 (OD.hb h120) hs20) i hi) z10 z00 ho97 hk19
 have hl14 : x1.Peers.length = (setI xs3 x18.To (⟨x15.Up, x15.Term, x15.Vote, x15.Commit, x15.Role, (x15.Log ++ ([(⟨x9.Term, x9.Index, x9.Data⟩ : GRec)] : List GRec)), x15.Votes, x15.Next, x15.Match⟩ : GPeer)).length := hl13.trans (by rw [setI_length])
 have hx17 := ixS h130 hx16
 with_reducible refine WL.nil ⟨rfl, ?_⟩
 refine WLI.nil (fun h => by cases h) ?_
 refine eB (eT ?_)
 exact ⟨[(0, pt p0 0), (4, pt n0 0), (5, pt (n0 + 1) 0), (6, pt b54 el55), (7, iv x9.Index), (75, .slice a19 x18.Log.length cap20), (76, iv (x18.Log.length : Int)), (77, iv x7)], (fl8), x9.Index, (setI xs3 x18.To (⟨x15.Up, x15.Term, x15.Vote, x15.Commit, x15.Role, (x15.Log ++ ([(⟨x9.Term, x9.Index, x9.Data⟩ : GRec)] : List GRec)), x15.Votes, x15.Next, x15.Match⟩ : GPeer)), S20, F7, rfl, hS30, (hE7.up (by omega)), ho98, fo14, ho99, fo15, ho100, fo18, h112, h113, h130, hl14, h128, h129, (Ap.or0 hs21 (Ap.sub0 hs18 ap69) (Ap.new0 hid1 (by have := lt21; omega) (Ap.sub0 hs19 ap69))), (Ap.or0 hs21 (Ap.sub0 hs18 ap70) (Ap.new0 hid1 (by have := lt22; omega) (Ap.sub0 hs19 ap70))), (Ap.or0 hs21 (Ap.sub0 hs18 ap72) (Ap.new0 hid1 (by have := lt24; omega) (Ap.sub0 hs19 ap72))), ap73, ap74, ap76, (Ap.sym (Ap.or hs21 (Ap.sub hs18 (Ap.sym ap77)) (Ap.new hid1 (OW.hb h121) (Ap.sub hs19 (Ap.sym ap77))))), ap78, ap79, ap81, (Ap.sym (Ap.or hs21 (Ap.sub hs18 (Ap.sym ap82)) (Ap.new hid1 (OW.hb h122) (Ap.sub hs19 (Ap.sym ap82))))), ap83, hr⟩
 }
 {
 replace hr := ite_neg hr hc7
 refine wK (eB (eT ?_))
 obtain ⟨S21, hs22, h131⟩ := GPeer.close0_Log h119 hx16 h118
 exact ⟨[(0, pt p0 0), (4, pt n0 0), (5, pt (n0 + 1) 0), (6, pt b54 el55), (7, iv x9.Index), (75, .slice a19 x18.Log.length cap20), (76, iv (x18.Log.length : Int)), (77, iv x7)], (fl8), x9.Index, xs3, S21, F7, rfl, hS27, hE7, ho87, fo14, ho88, fo15, ho90, fo18, h112, h113, h131, hl13, h116, h117, (Ap.or0 hs22 (Ap.sub0 hs18 ap69) (Ap.sub0 hs19 ap69)), (Ap.or0 hs22 (Ap.sub0 hs18 ap70) (Ap.sub0 hs19 ap70)), (Ap.or0 hs22 (Ap.sub0 hs18 ap72) (Ap.sub0 hs19 ap72)), ap73, ap74, ap76, (Ap.sym (Ap.or hs22 (Ap.sub hs18 (Ap.sym ap77)) (Ap.sub hs19 (Ap.sym ap77)))), ap78, ap79, ap81, (Ap.sym (Ap.or hs22 (Ap.sub hs18 (Ap.sym ap82)) (Ap.sub hs19 (Ap.sym ap82)))), ap83, hr⟩
 }
 }
 }
 }
 {
 intro _ n12 H29 hI
 obtain ⟨x8, xs2, S11, F8, rfl, hS31, hE8, ho101, fo19, ho102, fo20, ho103, fo21, h132, h133, h134, hl15, h135, h136, ap84, ap85, ap86, ap87, ap88, ap89, ap90, ap91, ap92, ap93, ap94, ap95, hr⟩ := hI
 have lt25 := hS31.lt ho101
 have lt26 := hS31.lt ho102
 have lt27 := hS31.lt ho103
 have hlen5 := hE8.le
 have hlon14 := hS31.lo
 unfold f_impl_Cluster_take_J3 at hr
 refine wR ?_
 obtain ⟨hc9, hr⟩ := chk_some hr
 refine WL.addI .nil rfl rfl rfl rfl rfl hc9.1 hc9.2 (mN rfl (wN (eT ?_)))
 exact ⟨[(0, pt p0 0), (4, pt n0 0), (5, pt (n0 + 1) 0), (6, pt b54 el55), (7, iv x8), (75, .slice a19 x18.Log.length cap20), (76, iv (x18.Log.length : Int)), (77, iv (x7 + 1))], (fl8), x8, (x7 + 1), xs2, S11, F8, rfl, hS31, hE8, ho101, fo19, ho102, fo20, ho103, fo21, h132, h133, h134, hl15, h135, h136, ap84, ap85, ap86, ap87, ap88, ap89, ap90, ap91, ap92, ap93, ap94, ap95, hr⟩
 }
 }
 {
 replace hr := ite_neg hr hc4
 refine W.exit (eX (eX (eH (eT (wS ?_)))))
 refine W.regionD [0, 1, 2, 3, 4, 5, 6, 7, 8, 9, 10, 11, 12] [false, false, false, false, false, false, false, false, false, false, false, false, true] rfl rfl kr kr mP ?_
 refine mR rfl (mR rfl (zR rfl (fR rfl U42 rfl info3 rfl ?_)))
 obtain ⟨x16, hx18, hr⟩ := bnd_some hr
 obtain ⟨c14, ecs14, hrow14, hwin14, hb13⟩ := OD.get h77 hp56 hx18
 obtain ⟨a65, cap65, a66, cap66, a67, cap67, a68, cap68, rfl⟩ := GPeer.ofB hb13
 refine lR rfl U3 rfl hrow14 (wG 3 hwin14) (fR rfl U85 rfl info3 rfl (lR rfl U3 rfl ho57 rfl (mR rfl (WL.min2 .r rfl rfl rfl rfl rfl (WL.max2 .r rfl rfl rfl rfl rfl (zR rfl (fR rfl U42 rfl info3 rfl ?_)))))))
 refine GL.store hS18 .w (vc := [iv (if (if x6 < x18.C then x6 else x18.C) > x16.Commit then (if x6 < x18.C then x6 else x18.C) else x16.Commit)]) rfl rfl rfl info3 rfl rfl rfl rfl hrow14 (OD.fnone h77 (OD.bS h77 hp56)) (win_fit2 hwin14 (bl rfl) rfl (bl rfl)) (by have := (OD.id_lt h77 (OD.bS h77 hp56)).1; omega) (one1 rfl) rfl (fun H30 hS32 ho104 hk20 => ?_)
 have ho105 := (hk20 (n0 + 1) (fun hj => ap42 (by rw [hj]; exact (OD.bS h77 hp56)))).trans ho56
 have ho106 := (hk20 n0 (fun hj => ap43 (by rw [hj]; exact (OD.bS h77 hp56)))).trans ho57
 have ho107 := (hk20 p0 (fun hj => ap44 (by rw [hj]; exact (OD.bS h77 hp56)))).trans ho58
 have h137 := kC h78 hk20 ap48 (OD.bS h77 hp56)
 have h138 := kC h79 hk20 ap52 (OD.bS h77 hp56)
 have h139 := GPeer.put_Commit h77 hp56 hx18 hrow14 hwin14 (w := (if (if x6 < x18.C then x6 else x18.C) > x16.Commit then (if x6 < x18.C then x6 else x18.C) else x16.Commit)) ho104 hk20
 have hl16 : x1.Peers.length = (setI xs1 x18.To (⟨x16.Up, x16.Term, x16.Vote, (if (if x6 < x18.C then x6 else x18.C) > x16.Commit then (if x6 < x18.C then x6 else x18.C) else x16.Commit), x16.Role, x16.Log, x16.Votes, x16.Next, x16.Match⟩ : GPeer)).length := hl11.trans (by rw [setI_length])
 have hx19 := ixS h139 hx18
 refine wN (eT (wS (wR (mN rfl (fN rfl U85 rfl info3 rfl (lN rfl U3 rfl ho106 rfl ?_))))))
 obtain ⟨x17, hx20, hr⟩ := bnd_some hr
 refine GL.callIO g .nil (fun i => (F5 i).isSome = true ∨ i = p0 ∨ S10 i ∨ idOf (.slice a7 x1.Net.length cap8) = some i ∨ idOf (.slice a11 x1.Chosen.length cap12) = some i) rfl rfl rfl rfl rfl rfl Try.func95 rfl rfl (Nat.le_refl _) hS32.lo (f_impl_Cluster_choose_k (x1 := (⟨(setI xs1 x18.To (⟨x16.Up, x16.Term, x16.Vote, (if (if x6 < x18.C then x6 else x18.C) > x16.Commit then (if x6 < x18.C then x6 else x18.C) else x16.Commit), x16.Role, x16.Log, x16.Votes, x16.Next, x16.Match⟩ : GPeer)), x1.Net, x1.Chosen, x1.Conflict⟩ : GCluster)) g (St.vis hS32 (fun i hi => .inl hi)) (by rw [← hl16]; exact vis_get ho107 (.inr (.inl rfl))) fo8 lo17 (OD.head hl16 (OD.vis h139 (fun i hi => (.inr (.inr (.inl hi)))))) (OW.vis h137 (fun i hi => (.inr (.inr (.inr (.inl hi)))))) (OW.vis h138 (fun i hi => (.inr (.inr (.inr (.inr (hi))))))) ap44 ap47 ap48 ap51 ap52 ap53 hx20) (fun v n13 H31 H33 hn6 hp5 hle2 hnew2 hk21 hd2 => ?_)
 obtain ⟨F9, S22, a69, cap69, a70, cap70, hX2, hS34, ho108, rfl, h140, hl17, h141, h142, ap96, ap97, ap98, ap99, ap100, ap101⟩ := hp5
 have hS35 : St lo n13 H31 _ := sA hS34 hnew2 hle2
 have ho109 := (hk21 _ (by have := lt13; omega) (oE5 (nF fo6) (by omega) ap42 ap45 ap49)).trans ho105
 have ho110 := (hk21 _ (by have := lt14; omega) (oE5 (nF fo7) (by omega) ap43 ap46 ap50)).trans ho106
 have fo22 := fA hX2 lt13 fo6
 have fo23 := fA hX2 lt14 fo7
 have fo24 := fA hX2 lt15 fo8
 have hE9 := (hE5.up (n' := n6) (by omega)).trans hX2
 have ho111 := hle2 _ _ ho108
 have h143 := OD.le h140 hle2
 have hl18 : x1.Peers.length = x17.Peers.length := hl16.trans hl17
 rw [← hl16] at h143
 have h144 := OW.le h141 hle2
 have h145 := OW.le h142 hle2
 rw [← hl16] at ho111
 have ap102 : ¬ S22 (n0 + 1) := fun hj => (OD.after h140 hd2 hj).elim (fun h => by have := lt13; omega) (oE5 (nF fo6) (by omega) ap42 ap45 ap49)
 have ap103 : ¬ S22 n0 := fun hj => (OD.after h140 hd2 hj).elim (fun h => by have := lt14; omega) (oE5 (nF fo7) (by omega) ap43 ap46 ap50)
 have qq0 := noS (b := (n0 + 1)) hd2 (oE5 (nF fo6) (by omega) ap42 ap45 ap49)
 have ap104 := nAf h141 hd2 lt13 qq0
 have qq1 := noS (b := n0) hd2 (oE5 (nF fo7) (by omega) ap43 ap46 ap50)
 have ap105 := nAf h141 hd2 lt14 qq1
 have ap106 := nAf h142 hd2 lt13 qq0
 have ap107 := nAf h142 hd2 lt14 qq1
 have hlon15 := hS35.lo
 have lt28 := hS35.lt ho109
 have lt29 := hS35.lt ho110
 have lt30 := hS35.lt ho111
 refine wN (eT (wS (wR (mN rfl (fN rfl U85 rfl info4 rfl ?_)))))
 refine GL.store hS35 .nil (vc := [.bool true]) (c' := [iv 4, iv x22.From, iv x22.To, iv x2.Term, iv x22.A, iv x22.B, iv x22.C, .bool true, .slice a23 x22.Log.length cap24]) rfl rfl rfl info4 rfl rfl rfl rfl ho109 fo22 (bl rfl) (by omega) (one1 rfl) rfl (fun H34 hS36 ho112 hk22 => ?_)
 have ho113 := (hk22 _ (by omega)).trans ho110
 have ho114 := (hk22 _ (by omega)).trans ho111
 have h146 := OD.keep h143 (Nat.le_refl _) (fun i hi => hk22 i (fun hj => ap102 (hj ▸ hi)))
 have h147 := kB h144 hk22 ap104
 have h148 := kB h145 hk22 ap106
 refine fN rfl U85 rfl info3 rfl ?_
 refine GL.store hS36 .nil (vc := [iv x6]) (c' := [iv 4, iv x22.From, iv x22.To, iv x2.Term, iv x6, iv x22.B, iv x22.C, .bool true, .slice a23 x22.Log.length cap24]) rfl rfl rfl info3 rfl rfl rfl rfl ho112 fo22 (bl rfl) (by omega) (one1 rfl) rfl (fun H35 hS37 ho115 hk23 => ?_)
 have ho116 := (hk23 _ (by omega)).trans ho113
 have ho117 := (hk23 _ (by omega)).trans ho114
 have h149 := OD.keep h146 (Nat.le_refl _) (fun i hi => hk23 i (fun hj => ap102 (hj ▸ hi)))
 have h150 := kB h147 hk23 ap104
 have h151 := kB h148 hk23 ap106
 refine wN (eT (wR (mN rfl (WL.loadN .nil (l' := [iv 4, iv x22.From, iv x22.To, iv x2.Term, iv x6, iv x22.B, iv x22.C, .bool true, .slice a23 x22.Log.length cap24]) rfl rfl rfl U85 rfl info85 rfl ho115 rfl rfl ?_))))
 obtain ⟨x19, hx21, hr⟩ := bnd_some hr
 refine GL.callIO g .nil (fun i => (F9 i).isSome = true ∨ i = p0 ∨ S22 i ∨ idOf (.slice a69 x17.Net.length cap69) = some i ∨ idOf (.slice a70 x17.Chosen.length cap70) = some i) rfl rfl rfl rfl rfl rfl Try.func55 rfl rfl (Nat.le_refl _) hS37.lo (f_impl_Cluster_send_k (x1 := (⟨x17.Peers, x17.Net, x17.Chosen, x17.Conflict⟩ : GCluster)) (x18 := (⟨4, x22.From, x22.To, x2.Term, x6, x22.B, x22.C, true, x22.Log⟩ : GMsg)) g (St.vis hS37 (fun i hi => .inl hi)) (by rw [← hl18]; exact vis_get ho117 (.inr (.inl rfl))) fo24 lo17 (OD.head hl18 (OD.vis h149 (fun i hi => (.inr (.inr (.inl hi)))))) (OW.vis h150 (fun i hi => (.inr (.inr (.inr (.inl hi)))))) (OW.vis h151 (fun i hi => (.inr (.inr (.inr (.inr (hi))))))) (h76.mono hX2.sub) ap96 ap97 ap99 ap98 ap100 ap101 hx21) (fun v n14 H36 H37 hn7 hp6 hle3 hnew3 hk24 hd3 => ?_)
 obtain ⟨F10, S23, a72, cap71, a74, cap73, hX3, hS38, ho118, rfl, h152, hl19, h153, h154, ap108, ap109, ap110, ap111, ap112, ap113⟩ := hp6
 have hS39 : St lo n14 H36 _ := sA hS38 hnew3 hle3
 have ho119 := (hk24 _ (by have := lt28; omega) (oE5 (nF fo22) (by omega) ap102 ap104 ap106)).trans ho115
 have ho120 := (hk24 _ (by have := lt29; omega) (oE5 (nF fo23) (by omega) ap103 ap105 ap107)).trans ho116
 have hE10 := (hE9.up (n' := n13) (by omega)).trans hX3
 have ho121 := hle3 _ _ ho118
 have h155 := OD.le h152 hle3
 have hl20 : x1.Peers.length = x19.Peers.length := hl18.trans hl19
 rw [← hl18] at h155
 have h156 := OW.le h153 hle3
 have h157 := OW.le h154 hle3
 rw [← hl18] at ho121
 have hlon16 := hS39.lo
 have lt31 := hS39.lt ho119
 have lt32 := hS39.lt ho120
 have lt33 := hS39.lt ho121
 refine wN ?_
 obtain rfl := Option.some.inj hr
 exact ⟨.inl rfl, _, .nil, ⟨F10, S23, a72, cap71, a74, cap73, (hE10.up (by omega)), hS39, ho121, rfl, h155, hl20, h156, h157, ap108, ap109, ap110, ap111, ap112, ap113⟩⟩
 }
 }
 }
 }
 }
 }
theorem f_impl_Cluster_arrive_k {Δ : Prims} (g : Env Try.prog Δ) {lo n0 : Nat} {H0 F0 : Heap} (hS : St lo n0 H0 F0) {p0 : Nat} {x1 : GCluster} {ez0 : Nat} {a2 : Option Addr} {cap3 : Nat} {S6 : Nat → Prop} {a7 : Option Addr} {cap8 : Nat} {a11 : Option Addr} {cap12 : Nat} {x18 : GMsg} {a19 : Option Addr} {cap20 : Nat} (ho15 : H0 p0 = some (.row ez0 [.slice a2 x1.Peers.length cap3, .slice a7 x1.Net.length cap8, .slice a11 x1.Chosen.length cap12, .bool x1.Conflict])) (fo16 : F0 p0 = none) (lo17 : lo ≤ p0) (h4 : OD lo n0 H0 F0 S6 [] (.slice a2 x1.Peers.length cap3) x1.Peers) (h9 : Ow lo n0 H0 F0 a7 cap8 x1.Net) (h13 : Ow lo n0 H0 F0 a11 cap12 x1.Chosen) (h21 : SR F0 (.slice a19 x18.Log.length cap20) x18.Log) (ap22 : ¬ S6 p0) (ap23 : nP (.slice a7 x1.Net.length cap8) p0) (ap24 : nS (.slice a7 x1.Net.length cap8) S6) (ap25 : nP (.slice a11 x1.Chosen.length cap12) p0) (ap26 : nS (.slice a11 x1.Chosen.length cap12) S6) (ap27 : nA (.slice a11 x1.Chosen.length cap12) (.slice a7 x1.Net.length cap8)) {res : (GCluster)} (hr : f_impl_Cluster_arrive x1 x18 = some res) :
    C Try.prog Δ lo 57 [pt p0 0, .agg [iv x18.Kind, iv x18.From, iv x18.To, iv x18.Term, iv x18.A, iv x18.B, iv x18.C, .bool x18.Ok, .slice a19 x18.Log.length cap20].toArray] n0 H0 (fun v n H => ∃ (F : Heap) (rS2 : Nat → Prop) (ra4 : OA) (rcap5 : Nat) (ra7 : OA) (rcap8 : Nat), Ext n0 F0 n F ∧ St lo n H F ∧ H p0 = some (.row ez0 [.slice a2 x1.Peers.length cap3, .slice ra4 res.Net.length rcap5, .slice ra7 res.Chosen.length rcap8, .bool res.Conflict]) ∧ v = .tuple #[] ∧ OD lo n H F rS2 [] (.slice a2 x1.Peers.length cap3) res.Peers ∧ x1.Peers.length = res.Peers.length ∧ Ow lo n H F ra4 rcap5 res.Net ∧ Ow lo n H F ra7 rcap8 res.Chosen ∧ ¬ rS2 p0 ∧ nP (.slice ra4 res.Net.length rcap5) p0 ∧ nP (.slice ra7 res.Chosen.length rcap8) p0 ∧ nS (.slice ra4 res.Net.length rcap5) rS2 ∧ nS (.slice ra7 res.Chosen.length rcap8) rS2 ∧ nA (.slice ra7 res.Chosen.length rcap8) (.slice ra4 res.Net.length rcap5)) := by
 refine C.body Try.func57 rfl rfl ?_
 unfold f_impl_Cluster_arrive at hr
 have hS0 : St lo n0 H0 F0 := hS
 have hE0 := Ext.refl n0 F0
 have hlo0 := hS0.lo
 have lt0 := hS0.lt ho15
 refine wS (wR ?_)
 refine GL.box hS0 .nil (vc := [iv x18.Kind, iv x18.From, iv x18.To, iv x18.Term, iv x18.A, iv x18.B, iv x18.C, .bool x18.Ok, .slice a19 x18.Log.length cap20]) rfl rfl rfl rfl rfl bxP (fun H28 hS29 ho30 hk31 => ?_)
 have fo32 := hS0.fnone (Nat.le_refl _)
 have ho34 := oA hk31 ho15 lt0
 have h35 := OD.keep (n' := (n0 + 1)) h4 (by omega) (fun i hi => hk31 i (OD.id_lt h4 hi).2)
 have h36 := kA (n' := (n0 + 1)) h9 hk31
 have h37 := kA (n' := (n0 + 1)) h13 hk31
 have hlon01 := hS29.lo
 have lt33 : n0 < (n0 + 1) := by omega
 refine wN (eT (wS ?_))
 refine W.regionD r8 f8 rfl rfl kr kr mP ?_
 refine mR rfl (zR rfl (fR rfl U30 rfl info26 rfl (lR rfl U26 rfl ho34 rfl (fR rfl U85 rfl info3 rfl (lR rfl U3 rfl ho30 rfl ?_)))))
 obtain ⟨x38, hx38, hr⟩ := bnd_some hr
 refine GL.indexD .r rfl rfl rfl U26 info42 rfl rfl h35 rfl hx38 (fun b39 el40 hp41 => ?_)
 refine aR rfl (wN (eT (wS (wS (wR (mN rfl (zN rfl (fN rfl U42 rfl info4 rfl ?_))))))))
 obtain ⟨c42, ecs43, hrow44, hwin45, hb46⟩ := OD.get h35 hp41 hx38
 obtain ⟨a47, cap48, a49, cap50, a51, cap52, a53, cap54, rfl⟩ := GPeer.ofB hb46
 refine lN rfl U4 rfl hrow44 ((win_get0 hwin45 (show (0 : Nat) < 9 by decide)).trans rfl) (WL.not .nil rfl rfl rfl rfl (wN (eT ?_)))
 refine W.cond rfl (fun hc56 => ?_) (fun hc56 => ?_)
 {
 replace hr := iteB_pos hr hc56
 refine W.ret (eR ?_)
 obtain rfl := Option.some.inj hr
 exact ⟨.inr rfl, _, .nil, ⟨F0, S6, a7, cap8, a11, cap12, (hE0.up (by omega)), hS29, ho34, rfl, h35, rfl, h36, h37, ap22, ap23, ap25, ap24, ap26, ap27⟩⟩
 }
 {
 replace hr := iteB_neg hr hc56
 refine wK (eT (wS (wS ?_)))
 refine W.regionD r7 f7 rfl rfl kr kr mP ?_
 refine fR rfl U85 rfl info3 rfl (lR rfl U3 rfl ho30 rfl (mR rfl (zR rfl (fR rfl U42 rfl info3 rfl (lR rfl U3 rfl hrow44 (wG 1 hwin45) (bR rfl rfl (wN (eT ?_))))))))
 refine W.cut (fun fr n H => ∃ (xs0 : (List GPeer)) (S0 : Nat → Prop) (F : Heap), fr = [(0, pt p0 0), (3, pt n0 0), (4, pt b39 el40)] ∧ St lo n H F ∧ Ext n0 F0 n F ∧ H n0 = some (.row 1 [iv x18.Kind, iv x18.From, iv x18.To, iv x18.Term, iv x18.A, iv x18.B, iv x18.C, .bool x18.Ok, .slice a19 x18.Log.length cap20]) ∧ F n0 = none ∧ H p0 = some (.row ez0 [.slice a2 x1.Peers.length cap3, .slice a7 x1.Net.length cap8, .slice a11 x1.Chosen.length cap12, .bool x1.Conflict]) ∧ F p0 = none ∧ SR F (.slice a19 x18.Log.length cap20) x18.Log ∧ OD lo n H F S0 [] (.slice a2 x1.Peers.length cap3) xs0 ∧ x1.Peers.length = xs0.length ∧ Ow lo n H F a7 cap8 x1.Net ∧ Ow lo n H F a11 cap12 x1.Chosen ∧ ¬ S0 n0 ∧ ¬ S0 p0 ∧ nP (.slice a7 x1.Net.length cap8) n0 ∧ nP (.slice a7 x1.Net.length cap8) p0 ∧ nS (.slice a7 x1.Net.length cap8) S0 ∧ nP (.slice a11 x1.Chosen.length cap12) n0 ∧ nP (.slice a11 x1.Chosen.length cap12) p0 ∧ nS (.slice a11 x1.Chosen.length cap12) S0 ∧ nA (.slice a11 x1.Chosen.length cap12) (.slice a7 x1.Net.length cap8) ∧ f_impl_Cluster_arrive_J0 x18 x1 xs0 = some res) ?_ ?_
 {
 refine W.condD rfl (fun hc0 => ?_) (fun hc0 => ?_)
 {
 replace hr := ite_pos hr hc0
 refine wR (mN rfl (fN rfl U85 rfl info3 rfl (lN rfl U3 rfl ho30 rfl ?_)))
 refine GL.callIn (args := [pt b39 el40, iv x18.Term]) .nil lo rfl rfl rfl rfl rfl rfl Try.func85 rfl rfl (Nat.le_refl _) hS29.lo ?_
 refine C.body Try.func85 rfl rfl ?_
 refine wS (wS (wR (mN rfl (mN rfl (zN rfl (fN rfl U42 rfl info3 rfl (lN rfl U3 rfl hrow44 (wG 1 hwin45) (bN rfl rfl (wN (eT ?_))))))))))
 refine W.cut (fun fr n H => ∃ (xs1 : (List GPeer)) (S1 : Nat → Prop) (F : Heap), fr = [(0, pt b39 el40)] ∧ St lo n H F ∧ Ext n0 F0 n F ∧ H n0 = some (.row 1 [iv x18.Kind, iv x18.From, iv x18.To, iv x18.Term, iv x18.A, iv x18.B, iv x18.C, .bool x18.Ok, .slice a19 x18.Log.length cap20]) ∧ F n0 = none ∧ H p0 = some (.row ez0 [.slice a2 x1.Peers.length cap3, .slice a7 x1.Net.length cap8, .slice a11 x1.Chosen.length cap12, .bool x1.Conflict]) ∧ F p0 = none ∧ SR F (.slice a19 x18.Log.length cap20) x18.Log ∧ OD lo n H F S1 [] (.slice a2 x1.Peers.length cap3) xs1 ∧ x1.Peers.length = xs1.length ∧ Ow lo n H F a7 cap8 x1.Net ∧ Ow lo n H F a11 cap12 x1.Chosen ∧ ¬ S1 n0 ∧ ¬ S1 p0 ∧ nP (.slice a7 x1.Net.length cap8) n0 ∧ nP (.slice a7 x1.Net.length cap8) p0 ∧ nS (.slice a7 x1.Net.length cap8) S1 ∧ nP (.slice a11 x1.Chosen.length cap12) n0 ∧ nP (.slice a11 x1.Chosen.length cap12) p0 ∧ nS (.slice a11 x1.Chosen.length cap12) S1 ∧ nA (.slice a11 x1.Chosen.length cap12) (.slice a7 x1.Net.length cap8) ∧ f_impl_Cluster_arrive_J5 x18 x1 xs1 = some res) ?_ ?_
 {
 refine W.condD rfl (fun hc1 => ?_) (fun hc1 => ?_)
 {
 replace hr := ite_pos hr hc1
 refine wR (mN rfl (mN rfl (mN rfl (zN rfl (fN rfl U42 rfl info3 rfl ?_)))))
 refine GL.store hS29 .nil (vc := [iv x18.Term]) rfl rfl rfl info3 rfl rfl rfl rfl hrow44 (OD.fnone h35 (OD.bS h35 hp41)) (win_fit2 hwin45 (bl rfl) rfl (bl rfl)) (by have := (OD.id_lt h35 (OD.bS h35 hp41)).1; omega) (one1 rfl) rfl (fun H1 hS1 ho0 hk0 => ?_)
 have ho1 := (hk0 p0 (fun hj => ap22 (by rw [hj]; exact (OD.bS h35 hp41)))).trans ho34
 have ho2 := (hk0 n0 (fun hj => (aD h4) (by rw [hj]; exact (OD.bS h35 hp41)))).trans ho30
 have h0 := kC h36 hk0 ap24 (OD.bS h35 hp41)
 have h1 := kC h37 hk0 ap26 (OD.bS h35 hp41)
 have h2 := GPeer.put_Term h35 hp41 hx38 hrow44 hwin45 (w := x18.Term) ho0 hk0
 have hl0 := lnS h2
 have hx0 := ixS h2 hx38
 refine zN rfl (fN rfl U42 rfl info3 rfl ?_)
 obtain ⟨c0, ecs0, hrow0, hwin0, hb0⟩ := OD.get h2 hp41 hx0
 obtain ⟨a0, cap0, a1, cap1, a3, cap2, a4, cap4, rfl⟩ := GPeer.ofB hb0
 refine GL.store hS1 .nil (vc := [iv 0]) rfl rfl rfl info3 rfl rfl rfl rfl hrow0 (OD.fnone h2 (OD.bS h2 hp41)) (win_fit2 hwin0 (bl rfl) rfl (bl rfl)) (by have := (OD.id_lt h2 (OD.bS h2 hp41)).1; omega) (one1 rfl) rfl (fun H3 hS2 ho3 hk1 => ?_)
 have ho4 := (hk1 p0 (fun hj => ap22 (by rw [hj]; exact (OD.bS h2 hp41)))).trans ho1
 have ho5 := (hk1 n0 (fun hj => (aD h4) (by rw [hj]; exact (OD.bS h2 hp41)))).trans ho2
 have h3 := kC h0 hk1 ap24 (OD.bS h2 hp41)
 have h5 := kC h1 hk1 ap26 (OD.bS h2 hp41)
 have h6 := GPeer.put_Vote h2 hp41 hx0 hrow0 hwin0 (w := 0) ho3 hk1
 rw [setI_setI] at h6
 have hl1 : x1.Peers.length = (setI x1.Peers x18.To (⟨x38.Up, x18.Term, 0, x38.Commit, x38.Role, x38.Log, x38.Votes, x38.Next, x38.Match⟩ : GPeer)).length := hl0.trans (by rw [setI_length, setI_length])
 have hx1 := idx_setI_same (y := (⟨x38.Up, x18.Term, 0, x38.Commit, x38.Role, x38.Log, x38.Votes, x38.Next, x38.Match⟩ : GPeer)) hx38
 refine wN (eT ?_)
 exact ⟨[(0, pt b39 el40)], (fl1), (setI x1.Peers x18.To (⟨x38.Up, x18.Term, 0, x38.Commit, x38.Role, x38.Log, x38.Votes, x38.Next, x38.Match⟩ : GPeer)), S6, F0, rfl, hS2, (hE0.up (by omega)), ho5, fo32, ho4, fo16, h21, h6, hl1, h3, h5, (aD h4), ap22, (aW h9), ap23, ap24, (aW h13), ap25, ap26, ap27, hr⟩
 }
 {
 replace hr := ite_neg hr hc1
 refine wK (eT ?_)
 exact ⟨[(0, pt b39 el40)], (fl1), x1.Peers, S6, F0, rfl, hS29, (hE0.up (by omega)), ho30, fo32, ho34, fo16, h21, h35, rfl, h36, h37, (aD h4), ap22, (aW h9), ap23, ap24, (aW h13), ap25, ap26, ap27, hr⟩
 }
 }
 {
 intro _ n1 H4 hI
 obtain ⟨xs1, S1, F1, rfl, hS3, hE1, ho6, fo0, ho7, fo1, h7, h8, hl2, h10, h11, ap0, ap1, ap2, ap3, ap4, ap5, ap6, ap7, ap8, hr⟩ := hI
 have lt1 := hS3.lt ho6
 have lt2 := hS3.lt ho7
 have hlen0 := hE1.le
 have hlon0 := hS3.lo
 unfold f_impl_Cluster_arrive_J5 at hr
 refine wR (mN rfl ?_)
 refine GL.callIn (args := [pt b39 el40]) .nil lo rfl rfl rfl rfl rfl rfl Try.func92 rfl rfl (Nat.le_refl _) hS3.lo ?_
 refine C.body Try.func92 rfl rfl ?_
 refine wR (mN rfl (mN rfl (mN rfl (mN rfl (zN rfl (fN rfl U42 rfl info3 rfl ?_))))))
 obtain ⟨x0, hx2, hr⟩ := bnd_some hr
 obtain ⟨c1, ecs1, hrow1, hwin1, hb1⟩ := OD.get h8 hp41 hx2
 obtain ⟨a5, cap5, a6, cap6, a8, cap7, a9, cap9, rfl⟩ := GPeer.ofB hb1
 refine GL.store hS3 .nil (vc := [iv 0]) rfl rfl rfl info3 rfl rfl rfl rfl hrow1 (OD.fnone h8 (OD.bS h8 hp41)) (win_fit2 hwin1 (bl rfl) rfl (bl rfl)) (by have := (OD.id_lt h8 (OD.bS h8 hp41)).1; omega) (one1 rfl) rfl (fun H5 hS4 ho8 hk2 => ?_)
 have ho9 := (hk2 n0 (fun hj => ap0 (by rw [hj]; exact (OD.bS h8 hp41)))).trans ho6
 have ho10 := (hk2 p0 (fun hj => ap1 (by rw [hj]; exact (OD.bS h8 hp41)))).trans ho7
 have h12 := kC h10 hk2 ap4 (OD.bS h8 hp41)
 have h14 := kC h11 hk2 ap7 (OD.bS h8 hp41)
 have h15 := GPeer.put_Role h8 hp41 hx2 hrow1 hwin1 (w := 0) ho8 hk2
 have hl3 : x1.Peers.length = (setI xs1 x18.To (⟨x0.Up, x0.Term, x0.Vote, x0.Commit, 0, x0.Log, x0.Votes, x0.Next, x0.Match⟩ : GPeer)).length := hl2.trans (by rw [setI_length])
 have hx3 := ixS h15 hx2
 refine zN rfl (fN rfl U42 rfl info40 rfl ?_)
 obtain ⟨c2, ecs2, hrow2, hwin2, hb2⟩ := OD.get h15 hp41 hx3
 obtain ⟨a10, cap10, a12, cap11, a13, cap13, a14, cap14, rfl⟩ := GPeer.ofB hb2
 refine GL.store hS4 .nil (vc := [.slice none 0 0]) rfl rfl rfl info40 rfl rfl rfl rfl hrow2 (OD.fnone h15 (OD.bS h15 hp41)) (win_fit2 hwin2 (bl rfl) rfl (bl rfl)) (by have := (OD.id_lt h15 (OD.bS h15 hp41)).1; omega) (one1 rfl) rfl (fun H6 hS5 ho11 hk3 => ?_)
 have ho12 := (hk3 n0 (fun hj => ap0 (by rw [hj]; exact (OD.bS h15 hp41)))).trans ho9
 have ho13 := (hk3 p0 (fun hj => ap1 (by rw [hj]; exact (OD.bS h15 hp41)))).trans ho10
 have h16 := kC h12 hk3 ap4 (OD.bS h15 hp41)
 have h17 := kC h14 hk3 ap7 (OD.bS h15 hp41)
 have h18 := GPeer.nil_Votes h15 hp41 hx3 hrow2 hwin2 z00 z00 ho11 hk3
 rw [setI_setI] at h18
 have hl4 : x1.Peers.length = (setI xs1 x18.To (⟨x0.Up, x0.Term, x0.Vote, x0.Commit, 0, x0.Log, [], x0.Next, x0.Match⟩ : GPeer)).length := hl3.trans (by rw [setI_length, setI_length])
 have hx4 := idx_setI_same (y := (⟨x0.Up, x0.Term, x0.Vote, x0.Commit, 0, x0.Log, [], x0.Next, x0.Match⟩ : GPeer)) hx2
 refine zN rfl (fN rfl U42 rfl info31 rfl ?_)
 obtain ⟨c3, ecs3, hrow3, hwin3, hb3⟩ := OD.get h18 hp41 hx4
 obtain ⟨a15, cap15, a16, cap16, a17, cap17, a18, cap18, rfl⟩ := GPeer.ofB hb3
 refine GL.store hS5 .nil (vc := [.slice none 0 0]) rfl rfl rfl info31 rfl rfl rfl rfl hrow3 (OD.fnone h18 (OD.bS h18 hp41)) (win_fit2 hwin3 (bl rfl) rfl (bl rfl)) (by have := (OD.id_lt h18 (OD.bS h18 hp41)).1; omega) (one1 rfl) rfl (fun H7 hS6 ho14 hk4 => ?_)
 have ho16 := (hk4 n0 (fun hj => ap0 (by rw [hj]; exact (OD.bS h18 hp41)))).trans ho12
 have ho17 := (hk4 p0 (fun hj => ap1 (by rw [hj]; exact (OD.bS h18 hp41)))).trans ho13
 have h19 := kC h16 hk4 ap4 (OD.bS h18 hp41)
 have h20 := kC h17 hk4 ap7 (OD.bS h18 hp41)
 have h22 := GPeer.nil_Next h18 hp41 hx4 hrow3 hwin3 z00 z00 ho14 hk4
 rw [setI_setI] at h22
 have hl5 : x1.Peers.length = (setI xs1 x18.To (⟨x0.Up, x0.Term, x0.Vote, x0.Commit, 0, x0.Log, [], [], x0.Match⟩ : GPeer)).length := hl4.trans (by rw [setI_length, setI_length])
 have hx5 := idx_setI_same (y := (⟨x0.Up, x0.Term, x0.Vote, x0.Commit, 0, x0.Log, [], [], x0.Match⟩ : GPeer)) hx2
 refine zN rfl (fN rfl U42 rfl info31 rfl ?_)
 obtain ⟨c4, ecs4, hrow4, hwin4, hb4⟩ := OD.get h22 hp41 hx5
 obtain ⟨a20, cap19, a21, cap21, a22, cap22, a23, cap23, rfl⟩ := GPeer.ofB hb4
 refine GL.store hS6 .nil (vc := [.slice none 0 0]) rfl rfl rfl info31 rfl rfl rfl rfl hrow4 (OD.fnone h22 (OD.bS h22 hp41)) (win_fit2 hwin4 (bl rfl) rfl (bl rfl)) (by have := (OD.id_lt h22 (OD.bS h22 hp41)).1; omega) (one1 rfl) rfl (fun H8 hS7 ho18 hk5 => ?_)
 have ho19 := (hk5 n0 (fun hj => ap0 (by rw [hj]; exact (OD.bS h22 hp41)))).trans ho16
 have ho20 := (hk5 p0 (fun hj => ap1 (by rw [hj]; exact (OD.bS h22 hp41)))).trans ho17
 have h23 := kC h19 hk5 ap4 (OD.bS h22 hp41)
 have h24 := kC h20 hk5 ap7 (OD.bS h22 hp41)
 have h25 := GPeer.nil_Match h22 hp41 hx5 hrow4 hwin4 z00 z00 ho18 hk5
 rw [setI_setI] at h25
 have hl6 : x1.Peers.length = (setI xs1 x18.To (⟨x0.Up, x0.Term, x0.Vote, x0.Commit, 0, x0.Log, [], [], []⟩ : GPeer)).length := hl5.trans (by rw [setI_length, setI_length])
 have hx6 := idx_setI_same (y := (⟨x0.Up, x0.Term, x0.Vote, x0.Commit, 0, x0.Log, [], [], []⟩ : GPeer)) hx2
 refine wN ?_
 refine ⟨.inl rfl, _, .nil, ?_⟩
 refine wN ?_
 refine ⟨.inl rfl, _, .nil, ?_⟩
 refine wN (eT ?_)
 exact ⟨[(0, pt p0 0), (3, pt n0 0), (4, pt b39 el40)], (fl3), (setI xs1 x18.To (⟨x0.Up, x0.Term, x0.Vote, x0.Commit, 0, x0.Log, [], [], []⟩ : GPeer)), S1, F1, rfl, hS7, hE1, ho19, fo0, ho20, fo1, h7, h25, hl6, h23, h24, ap0, ap1, ap2, ap3, ap4, ap5, ap6, ap7, ap8, hr⟩
 }
 }
 {
 replace hr := ite_neg hr hc0
 refine wK (eT ?_)
 exact ⟨[(0, pt p0 0), (3, pt n0 0), (4, pt b39 el40)], (fl3), x1.Peers, S6, F0, rfl, hS29, (hE0.up (by omega)), ho30, fo32, ho34, fo16, h21, h35, rfl, h36, h37, (aD h4), ap22, (aW h9), ap23, ap24, (aW h13), ap25, ap26, ap27, hr⟩
 }
 }
 {
 intro _ n2 H9 hI
 obtain ⟨xs0, S0, F2, rfl, hS8, hE2, ho21, fo2, ho22, fo3, h26, h27, hl7, h28, h29, ap9, ap10, ap11, ap12, ap13, ap14, ap15, ap16, ap17, hr⟩ := hI
 have lt3 := hS8.lt ho21
 have lt4 := hS8.lt ho22
 have hlen1 := hE2.le
 have hlon1 := hS8.lo
 unfold f_impl_Cluster_arrive_J0 at hr
 refine wS (wR (fN rfl U85 rfl info3 rfl (lN rfl U3 rfl ho21 rfl (fN rfl U85 rfl info3 rfl (lN rfl U3 rfl ho21 rfl ?_)))))
 refine WL.buildL .nil (cells := [iv 0, iv x18.To, iv x18.From, iv 0, iv 0, iv 0, iv 0, .bool false, .slice none 0 0]) rfl rfl rfl U85 info85 rfl rfl rfl (by simp only [List.mapM_cons, List.mapM_nil, info3, info3, info3, info3, info3, info3, info3, info4, info28]; rfl) rfl (by first | rfl | ((conv => lhs; simp [splice, fillL, cells_int, cells_bool, cells_string, cells_str, cells_slice, cells_ptr, cells_map, cells_func, cells_nilFunc, cells_nilIface, cells_iface, cells_agg, cells_u8]) <;> rfl)) ?_
 refine GL.alloc hS8 .nil (zc := [iv 0, iv 0, iv 0, iv 0, iv 0, iv 0, iv 0, .bool false, .slice none 0 0]) rfl rfl rfl info85 rfl rfl rfl (fun H10 hS9 ho23 hk6 => ?_)
 have fo4 := hS8.fnone (Nat.le_refl _)
 have ho24 := oA hk6 ho21 lt3
 have ho25 := oA hk6 ho22 lt4
 have h30 := OD.keep (n' := (n2 + 1)) h27 (by omega) (fun i hi => hk6 i (OD.id_lt h27 hi).2)
 have h31 := kA (n' := (n2 + 1)) h28 hk6
 have h32 := kA (n' := (n2 + 1)) h29 hk6
 have hlon2 := hS9.lo
 have lt5 : n2 < (n2 + 1) := by omega
 refine GL.store hS9 .nil (vc := [iv 0, iv x18.To, iv x18.From, iv 0, iv 0, iv 0, iv 0, .bool false, .slice none 0 0]) (c' := [iv 0, iv x18.To, iv x18.From, iv 0, iv 0, iv 0, iv 0, .bool false, .slice none 0 0]) rfl rfl rfl info85 rfl rfl rfl rfl ho23 fo4 (bl rfl) (by omega) bxP rfl (fun H11 hS10 ho26 hk7 => ?_)
 have ho27 := (hk7 _ (by omega)).trans ho24
 have ho28 := (hk7 _ (by omega)).trans ho25
 have h33 := OD.keep h30 (Nat.le_refl _) (fun i hi => hk7 i (fun hj => (aD h27) (hj ▸ hi)))
 have h34 := kB h31 hk7 (aW h28)
 have h38 := kB h32 hk7 (aW h29)
 refine wN (eT (wS (wR (fN rfl U85 rfl info3 rfl (lN rfl U3 rfl ho27 rfl (wN (eT (W.block (wS (wR (bN rfl rfl ?_)))))))))))
 refine aN rfl (wN (eT ?_))
 refine W.condD rfl (fun hc2 => ?_) (fun hc2 => ?_)
 {
 replace hr := ite_pos hr hc2
 refine wS (wR (mN rfl ?_))
 obtain ⟨x2, hx7, hr⟩ := bnd_some hr
 obtain ⟨c5, ecs5, hrow5, hwin5, hb5⟩ := OD.get h33 hp41 hx7
 obtain ⟨a24, cap24, a25, cap25, a26, cap26, a27, cap27, rfl⟩ := GPeer.ofB hb5
 obtain ⟨S2, hs0, hs1, hs2, h39, h40⟩ := GPeer.open_Log h33 hp41 hx7 hrow5 hwin5 (List.forall_mem_nil _)
 obtain ⟨x3, hx8, hr⟩ := bnd_some hr
 refine GL.callP g.good .nil rfl rfl rfl rfl rfl rfl Try.func86 rfl rfl hS10.lo (f_impl_Peer_last_elem0_k  g hS10 hrow5 hwin5 h39 hx8) (fun v n3 H12 hn0 hk8 hp0 => ?_)
 obtain ⟨hS11, rfl⟩ := hp0
 have ho29 := oA hk8 ho27 lt3
 have ho31 := oA hk8 ho28 lt4
 have ho32 := oA hk8 ho26 lt5
 have h41 := OD.keep (n' := n3) h40 (by omega) (fun i hi => hk8 i (OD.id_lt h40 hi).2)
 have h42 := kA (n' := n3) h34 hk8
 have h43 := kA (n' := n3) h38 hk8
 have h44 := kA (n' := n3) h39 hk8
 have hS12 : St lo n3 H12 F2 := ⟨by have := hS10.lo; omega, hS11.hb, hS11.fh⟩
 have hlon3 := hS12.lo
 refine mN rfl (WL.extract .nil rfl rfl rfl rfl rfl (WL.extract .nil rfl rfl rfl rfl rfl (aN rfl (aN rfl (wN (eT (wS ?_)))))))
 obtain ⟨c6, ecs6, hrow6, hwin6, hb6⟩ := OD.get h41 hp41 hx7
 obtain ⟨a28, cap28, a29, cap29, a30, cap30, a31, cap31, rfl⟩ := GPeer.ofB hb6
 have hq0 := OD.hole h41 hp41 hx7 hrow6 hwin6
 obtain ⟨rfl, rfl⟩ := hdr_eq (a := a28) (c := cap28) hq0
 have rw0 : RW lo n3 H12 F2 b39 (.row (Rp.sz GPeer) c6) := ⟨(OD.id_lt h41 (OD.bS h41 hp41)).1, (OD.id_lt h41 (OD.bS h41 hp41)).2, OD.fnone h41 (OD.bS h41 hp41), hrow6⟩
 have ap18 : ¬ n2 = b39 := fun h => (Ap.sub0 hs0 (aD h27)) (h ▸ (OD.bS h41 hp41))
 refine W.regionI (fun H => H b39 = some (.row (Rp.sz GPeer) c6)) [0, 1, 2, 3, 4, 5, 6, 7] [(false, true, false), (false, true, false), (false, true, false), (false, true, false), (false, false, false), (true, false, false), (false, false, false), (true, false, true)] false rfl kr kr mP ?_
 refine WLI.late (v := pt b39 el40) (fun h => by cases h) rfl rfl (fun H2 hI2 => .move (.inl rfl) rfl) ?_
 refine WLI.late (v := pt b39 el40) (fun h => by cases h) rfl rfl (fun H2 hI2 => .nilCheck rfl rfl) ?_
 refine WLI.late (v := .pointer (some ⟨b39, el40 + 1, none⟩)) (fun h => by cases h) rfl rfl (fun H2 hI2 => Step.fieldAddr' rfl U42 rfl info3 rfl rfl rfl) ?_
 refine WLI.late (v := iv x2.Term) (fun h => by cases h) rfl rfl (fun H2 hI2 => Step.load1' rfl U3 rfl rfl (hI2.elim (fun e => by rw [e]; exact rw0.2.2.2) (fun h => h)) (wG 1 hwin6)) ?_
 refine oP (fR rfl U85 rfl info3 rfl ?_)
 with_reducible refine WL.nil ⟨rfl, ?_⟩
 refine oP ?_
 refine GL.store hS12 .w (vc := [iv 2]) (c' := [iv 2, iv x18.To, iv x18.From, iv 0, iv 0, iv 0, iv 0, .bool false, .slice none 0 0]) rfl rfl rfl info3 rfl rfl rfl rfl ho32 fo4 (bl rfl) (by omega) (one1 rfl) rfl (fun H13 hS13 ho33 hk9 => ?_)
 have ho35 := (hk9 _ (by omega)).trans ho29
 have ho36 := (hk9 _ (by omega)).trans ho31
 have h45 := OD.keep h41 (Nat.le_refl _) (fun i hi => hk9 i (fun hj => (Ap.sub0 hs0 (aD h27)) (hj ▸ hi)))
 have h46 := kB h42 hk9 (aW h28)
 have h47 := kB h43 hk9 (aW h29)
 have h48 := kB h44 hk9 (Ap.sub0 hs1 (aD h27))
 have h49 := RW.keep rw0 (Nat.le_refl _) (fun i hi => hk9 i (fun hj => ap18 (hj ▸ hi)))
 with_reducible refine WL.nil ⟨rfl, ?_⟩
 refine oP (fR rfl U85 rfl info3 rfl ?_)
 with_reducible refine WL.nil ⟨rfl, ?_⟩
 refine WLI.op (fun _ => h49.2.2.2) ?_
 refine GL.store hS13 .w (vc := [iv x2.Term]) (c' := [iv 2, iv x18.To, iv x18.From, iv x2.Term, iv 0, iv 0, iv 0, .bool false, .slice none 0 0]) rfl rfl rfl info3 rfl rfl rfl rfl ho33 fo4 (bl rfl) (by omega) (one1 rfl) rfl (fun H14 hS14 ho37 hk10 => ?_)
 have ho38 := (hk10 _ (by omega)).trans ho35
 have ho39 := (hk10 _ (by omega)).trans ho36
 have h50 := OD.keep h45 (Nat.le_refl _) (fun i hi => hk10 i (fun hj => (Ap.sub0 hs0 (aD h27)) (hj ▸ hi)))
 have h51 := kB h46 hk10 (aW h28)
 have h52 := kB h47 hk10 (aW h29)
 have h53 := kB h48 hk10 (Ap.sub0 hs1 (aD h27))
 with_reducible refine WL.nil ⟨rfl, ?_⟩
 refine WLI.nil (fun h => by cases h) ?_
 refine eT (wS (wS ?_))
 refine W.cut (fun fr n H => ∃ (x4 : Bool) (S3 : Nat → Prop) (F : Heap), fr = [(0, pt p0 0), (3, pt n0 0), (4, pt b39 el40), (5, pt n2 0), (92, .bool x4)] ∧ St lo n H F ∧ Ext n0 F0 n F ∧ H n0 = some (.row 1 [iv x18.Kind, iv x18.From, iv x18.To, iv x18.Term, iv x18.A, iv x18.B, iv x18.C, .bool x18.Ok, .slice a19 x18.Log.length cap20]) ∧ F n0 = none ∧ H n2 = some (.row 1 [iv 2, iv x18.To, iv x18.From, iv x2.Term, iv 0, iv 0, iv 0, .bool false, .slice none 0 0]) ∧ F n2 = none ∧ H p0 = some (.row ez0 [.slice a2 x1.Peers.length cap3, .slice a7 x1.Net.length cap8, .slice a11 x1.Chosen.length cap12, .bool x1.Conflict]) ∧ F p0 = none ∧ SR F (.slice a19 x18.Log.length cap20) x18.Log ∧ OD lo n H F S3 [] (.slice a2 x1.Peers.length cap3) xs0 ∧ Ow lo n H F a7 cap8 x1.Net ∧ Ow lo n H F a11 cap12 x1.Chosen ∧ ¬ S3 n0 ∧ ¬ S3 n2 ∧ ¬ S3 p0 ∧ nP (.slice a7 x1.Net.length cap8) n0 ∧ nP (.slice a7 x1.Net.length cap8) n2 ∧ nP (.slice a7 x1.Net.length cap8) p0 ∧ nS (.slice a7 x1.Net.length cap8) S3 ∧ nP (.slice a11 x1.Chosen.length cap12) n0 ∧ nP (.slice a11 x1.Chosen.length cap12) n2 ∧ nP (.slice a11 x1.Chosen.length cap12) p0 ∧ nS (.slice a11 x1.Chosen.length cap12) S3 ∧ nA (.slice a11 x1.Chosen.length cap12) (.slice a7 x1.Net.length cap8) ∧ f_impl_Cluster_arrive_J1 x18 x1 x2 xs0 x4 = some res) ?_ ?_
 {
 refine W.regionD [0, 1, 2, 3, 4, 5, 6, 7, 8, 9, 10, 11, 12, 13, 14, 15, 16, 17, 18, 19, 20, 21, 22, 23, 24, 25, 26, 27, 28, 29, 30, 31, 32, 33, 34, 35, 36, 37, 38, 39, 40, 41] [false, false, false, false, false, false, false, false, false, false, false, false, false, false, false, false, false, false, false, false, false, false, false, false, false, false, false, false, false, false, false, false, false, false, false, false, false, false, false, false, false, false] rfl rfl kr kr mP ?_
 refine fR rfl U85 rfl info3 rfl (lR rfl U3 rfl ho38 rfl (mR rfl (zR rfl (fR rfl U42 rfl info3 rfl ?_))))
 obtain ⟨c7, ecs7, hrow7, hwin7, hb7⟩ := OD.get h50 hp41 hx7
 obtain ⟨a32, cap32, a33, cap33, a34, cap34, a35, cap35, rfl⟩ := GPeer.ofB hb7
 have hq1 := OD.hole h50 hp41 hx7 hrow7 hwin7
 obtain ⟨rfl, rfl⟩ := hdr_eq (a := a32) (c := cap32) hq1
 refine lR rfl U3 rfl hrow7 (wG 1 hwin7) (bR rfl rfl (mR rfl ?_))
 refine WL.guardD rfl rfl rfl (fun hg0 => ?_) (fun hg0 => ?_)
 {
 replace hr := ite_pos hr hg0
 refine mR rfl (zR rfl (fR rfl U42 rfl info3 rfl (lR rfl U3 rfl hrow7 (wG 2 hwin7) (bR rfl rfl (mR rfl ?_)))))
 refine WL.guardD rfl rfl rfl (fun hg1 => ?_) (fun hg1 => ?_)
 {
 replace hr := ite_pos hr hg1
 refine kR rfl (kR rfl (kR rfl (kR rfl (kR rfl (kR rfl (kR rfl (kR rfl (WL.pick .r rfl rfl rfl rfl rfl (WL.pick .r rfl rfl rfl rfl rfl (mR rfl (fR rfl U85 rfl info3 rfl ?_)))))))))))
 refine lR rfl U3 rfl ho38 rfl (mR rfl (bR rfl rfl (mR rfl ?_)))
 refine WL.guardD rfl rfl rfl (fun hg2 => ?_) (fun hg2 => ?_)
 {
 replace hr := ite_pos hr hg2
 refine kR rfl (kR rfl (kR rfl (kR rfl (kR rfl (kR rfl (kR rfl (kR rfl (kR rfl (kR rfl (WL.pick .r rfl rfl rfl rfl rfl (WL.pick .r rfl rfl rfl rfl rfl ?_)))))))))))
 refine wN (eT ?_)
 obtain ⟨S4, hs3, h54⟩ := GPeer.close0_Log h50 hx7 h53
 exact ⟨[(0, pt p0 0), (3, pt n0 0), (4, pt b39 el40), (5, pt n2 0), (92, .bool true)], (fl5), true, S4, F2, rfl, hS14, (hE2.up (by omega)), ho38, fo2, ho37, fo4, ho39, fo3, h26, h54, h51, h52, (Ap.or0 hs3 (Ap.sub0 hs0 ap9) (Ap.sub0 hs1 ap9)), (Ap.or0 hs3 (Ap.sub0 hs0 (aD h27)) (Ap.sub0 hs1 (aD h27))), (Ap.or0 hs3 (Ap.sub0 hs0 ap10) (Ap.sub0 hs1 ap10)), ap11, (aW h28), ap12, (Ap.sym (Ap.or hs3 (Ap.sub hs0 (Ap.sym ap13)) (Ap.sub hs1 (Ap.sym ap13)))), ap14, (aW h29), ap15, (Ap.sym (Ap.or hs3 (Ap.sub hs0 (Ap.sym ap16)) (Ap.sub hs1 (Ap.sym ap16)))), ap17, hr⟩
 }
 {
 replace hr := ite_neg hr hg2
 refine fR rfl U85 rfl info3 rfl (lR rfl U3 rfl ho38 rfl (mR rfl (bR rfl rfl (mR rfl ?_))))
 refine WL.guardD rfl rfl rfl (fun hg3 => ?_) (fun hg3 => ?_)
 {
 replace hr := ite_pos hr hg3
 refine fR rfl U85 rfl info3 rfl (lR rfl U3 rfl ho38 rfl (mR rfl (bR rfl rfl (WL.pick .r rfl rfl rfl rfl rfl (WL.pick .r rfl rfl rfl rfl rfl (WL.pick .r rfl rfl rfl rfl rfl (wN (eT ?_))))))))
 obtain ⟨S5, hs4, h55⟩ := GPeer.close0_Log h50 hx7 h53
 exact ⟨[(0, pt p0 0), (3, pt n0 0), (4, pt b39 el40), (5, pt n2 0), (92, .bool (decide (x3.1 ≤ x18.A)))], (fl5), (decide (x3.1 ≤ x18.A)), S5, F2, rfl, hS14, (hE2.up (by omega)), ho38, fo2, ho37, fo4, ho39, fo3, h26, h55, h51, h52, (Ap.or0 hs4 (Ap.sub0 hs0 ap9) (Ap.sub0 hs1 ap9)), (Ap.or0 hs4 (Ap.sub0 hs0 (aD h27)) (Ap.sub0 hs1 (aD h27))), (Ap.or0 hs4 (Ap.sub0 hs0 ap10) (Ap.sub0 hs1 ap10)), ap11, (aW h28), ap12, (Ap.sym (Ap.or hs4 (Ap.sub hs0 (Ap.sym ap13)) (Ap.sub hs1 (Ap.sym ap13)))), ap14, (aW h29), ap15, (Ap.sym (Ap.or hs4 (Ap.sub hs0 (Ap.sym ap16)) (Ap.sub hs1 (Ap.sym ap16)))), ap17, hr⟩
 }
 {
 replace hr := ite_neg hr hg3
 refine kR rfl (kR rfl (kR rfl (kR rfl (WL.pick .r rfl rfl rfl rfl rfl (WL.pick .r rfl rfl rfl rfl rfl (WL.pick .r rfl rfl rfl rfl rfl (wN (eT ?_))))))))
 obtain ⟨S7, hs5, h56⟩ := GPeer.close0_Log h50 hx7 h53
 exact ⟨[(0, pt p0 0), (3, pt n0 0), (4, pt b39 el40), (5, pt n2 0), (92, .bool false)], (fl5), false, S7, F2, rfl, hS14, (hE2.up (by omega)), ho38, fo2, ho37, fo4, ho39, fo3, h26, h56, h51, h52, (Ap.or0 hs5 (Ap.sub0 hs0 ap9) (Ap.sub0 hs1 ap9)), (Ap.or0 hs5 (Ap.sub0 hs0 (aD h27)) (Ap.sub0 hs1 (aD h27))), (Ap.or0 hs5 (Ap.sub0 hs0 ap10) (Ap.sub0 hs1 ap10)), ap11, (aW h28), ap12, (Ap.sym (Ap.or hs5 (Ap.sub hs0 (Ap.sym ap13)) (Ap.sub hs1 (Ap.sym ap13)))), ap14, (aW h29), ap15, (Ap.sym (Ap.or hs5 (Ap.sub hs0 (Ap.sym ap16)) (Ap.sub hs1 (Ap.sym ap16)))), ap17, hr⟩
 }
 }
 }
 {
 replace hr := ite_neg hr hg1
 refine mR rfl (zR rfl (fR rfl U42 rfl info3 rfl (lR rfl U3 rfl hrow7 (wG 2 hwin7) (fR rfl U85 rfl info3 rfl (lR rfl U3 rfl ho38 rfl ?_)))))
 obtain ⟨hc3, hr⟩ := chk_some hr
 refine WL.addI .r rfl rfl rfl rfl rfl hc3.1 hc3.2 (bR rfl rfl (WL.pick .r rfl rfl rfl rfl rfl (WL.pick .r rfl rfl rfl rfl rfl (mR rfl ?_))))
 refine WL.guardD rfl rfl rfl (fun hg4 => ?_) (fun hg4 => ?_)
 {
 replace hr := ite_pos hr hg4
 refine fR rfl U85 rfl info3 rfl (lR rfl U3 rfl ho38 rfl (mR rfl (bR rfl rfl (mR rfl ?_))))
 refine WL.guardD rfl rfl rfl (fun hg5 => ?_) (fun hg5 => ?_)
 {
 replace hr := ite_pos hr hg5
 refine kR rfl (kR rfl (kR rfl (kR rfl (kR rfl (kR rfl (kR rfl (kR rfl (kR rfl (kR rfl (WL.pick .r rfl rfl rfl rfl rfl (WL.pick .r rfl rfl rfl rfl rfl ?_)))))))))))
 refine wN (eT ?_)
 obtain ⟨S8, hs6, h57⟩ := GPeer.close0_Log h50 hx7 h53
 exact ⟨[(0, pt p0 0), (3, pt n0 0), (4, pt b39 el40), (5, pt n2 0), (92, .bool true)], (fl5), true, S8, F2, rfl, hS14, (hE2.up (by omega)), ho38, fo2, ho37, fo4, ho39, fo3, h26, h57, h51, h52, (Ap.or0 hs6 (Ap.sub0 hs0 ap9) (Ap.sub0 hs1 ap9)), (Ap.or0 hs6 (Ap.sub0 hs0 (aD h27)) (Ap.sub0 hs1 (aD h27))), (Ap.or0 hs6 (Ap.sub0 hs0 ap10) (Ap.sub0 hs1 ap10)), ap11, (aW h28), ap12, (Ap.sym (Ap.or hs6 (Ap.sub hs0 (Ap.sym ap13)) (Ap.sub hs1 (Ap.sym ap13)))), ap14, (aW h29), ap15, (Ap.sym (Ap.or hs6 (Ap.sub hs0 (Ap.sym ap16)) (Ap.sub hs1 (Ap.sym ap16)))), ap17, hr⟩
 }
 {
 replace hr := ite_neg hr hg5
 refine fR rfl U85 rfl info3 rfl (lR rfl U3 rfl ho38 rfl (mR rfl (bR rfl rfl (mR rfl ?_))))
 refine WL.guardD rfl rfl rfl (fun hg6 => ?_) (fun hg6 => ?_)
 {
 replace hr := ite_pos hr hg6
 refine fR rfl U85 rfl info3 rfl (lR rfl U3 rfl ho38 rfl (mR rfl (bR rfl rfl (WL.pick .r rfl rfl rfl rfl rfl (WL.pick .r rfl rfl rfl rfl rfl (WL.pick .r rfl rfl rfl rfl rfl (wN (eT ?_))))))))
 obtain ⟨S9, hs7, h58⟩ := GPeer.close0_Log h50 hx7 h53
 exact ⟨[(0, pt p0 0), (3, pt n0 0), (4, pt b39 el40), (5, pt n2 0), (92, .bool (decide (x3.1 ≤ x18.A)))], (fl5), (decide (x3.1 ≤ x18.A)), S9, F2, rfl, hS14, (hE2.up (by omega)), ho38, fo2, ho37, fo4, ho39, fo3, h26, h58, h51, h52, (Ap.or0 hs7 (Ap.sub0 hs0 ap9) (Ap.sub0 hs1 ap9)), (Ap.or0 hs7 (Ap.sub0 hs0 (aD h27)) (Ap.sub0 hs1 (aD h27))), (Ap.or0 hs7 (Ap.sub0 hs0 ap10) (Ap.sub0 hs1 ap10)), ap11, (aW h28), ap12, (Ap.sym (Ap.or hs7 (Ap.sub hs0 (Ap.sym ap13)) (Ap.sub hs1 (Ap.sym ap13)))), ap14, (aW h29), ap15, (Ap.sym (Ap.or hs7 (Ap.sub hs0 (Ap.sym ap16)) (Ap.sub hs1 (Ap.sym ap16)))), ap17, hr⟩
 }
 {
 replace hr := ite_neg hr hg6
 refine kR rfl (kR rfl (kR rfl (kR rfl (WL.pick .r rfl rfl rfl rfl rfl (WL.pick .r rfl rfl rfl rfl rfl (WL.pick .r rfl rfl rfl rfl rfl (wN (eT ?_))))))))
 obtain ⟨S10, hs8, h59⟩ := GPeer.close0_Log h50 hx7 h53
 exact ⟨[(0, pt p0 0), (3, pt n0 0), (4, pt b39 el40), (5, pt n2 0), (92, .bool false)], (fl5), false, S10, F2, rfl, hS14, (hE2.up (by omega)), ho38, fo2, ho37, fo4, ho39, fo3, h26, h59, h51, h52, (Ap.or0 hs8 (Ap.sub0 hs0 ap9) (Ap.sub0 hs1 ap9)), (Ap.or0 hs8 (Ap.sub0 hs0 (aD h27)) (Ap.sub0 hs1 (aD h27))), (Ap.or0 hs8 (Ap.sub0 hs0 ap10) (Ap.sub0 hs1 ap10)), ap11, (aW h28), ap12, (Ap.sym (Ap.or hs8 (Ap.sub hs0 (Ap.sym ap13)) (Ap.sub hs1 (Ap.sym ap13)))), ap14, (aW h29), ap15, (Ap.sym (Ap.or hs8 (Ap.sub hs0 (Ap.sym ap16)) (Ap.sub hs1 (Ap.sym ap16)))), ap17, hr⟩
 }
 }
 }
 {
 replace hr := ite_neg hr hg4
 refine kR rfl (kR rfl (kR rfl (kR rfl (kR rfl (kR rfl (kR rfl (kR rfl (kR rfl (kR rfl (kR rfl (kR rfl ?_)))))))))))
 refine kR rfl (kR rfl (kR rfl (kR rfl (WL.pick .r rfl rfl rfl rfl rfl (wN (eT ?_))))))
 obtain ⟨S11, hs9, h60⟩ := GPeer.close0_Log h50 hx7 h53
 exact ⟨[(0, pt p0 0), (3, pt n0 0), (4, pt b39 el40), (5, pt n2 0), (92, .bool false)], (fl5), false, S11, F2, rfl, hS14, (hE2.up (by omega)), ho38, fo2, ho37, fo4, ho39, fo3, h26, h60, h51, h52, (Ap.or0 hs9 (Ap.sub0 hs0 ap9) (Ap.sub0 hs1 ap9)), (Ap.or0 hs9 (Ap.sub0 hs0 (aD h27)) (Ap.sub0 hs1 (aD h27))), (Ap.or0 hs9 (Ap.sub0 hs0 ap10) (Ap.sub0 hs1 ap10)), ap11, (aW h28), ap12, (Ap.sym (Ap.or hs9 (Ap.sub hs0 (Ap.sym ap13)) (Ap.sub hs1 (Ap.sym ap13)))), ap14, (aW h29), ap15, (Ap.sym (Ap.or hs9 (Ap.sub hs0 (Ap.sym ap16)) (Ap.sub hs1 (Ap.sym ap16)))), ap17, hr⟩
 }
 }
 }
 {
 replace hr := ite_neg hr hg0
 refine kR rfl (kR rfl (kR rfl (kR rfl (kR rfl (kR rfl (kR rfl (kR rfl (kR rfl (kR rfl (kR rfl (kR rfl ?_)))))))))))
 refine kR rfl (kR rfl (kR rfl (WL.pick .r rfl rfl rfl rfl rfl (mR rfl (kR rfl (kR rfl (kR rfl (kR rfl (kR rfl (kR rfl (kR rfl ?_)))))))))))
 refine kR rfl (kR rfl (kR rfl (kR rfl (kR rfl (kR rfl (kR rfl (kR rfl (kR rfl (WL.pick .r rfl rfl rfl rfl rfl (wN (eT ?_)))))))))))
 obtain ⟨S12, hs10, h61⟩ := GPeer.close0_Log h50 hx7 h53
 exact ⟨[(0, pt p0 0), (3, pt n0 0), (4, pt b39 el40), (5, pt n2 0), (92, .bool false)], (fl5), false, S12, F2, rfl, hS14, (hE2.up (by omega)), ho38, fo2, ho37, fo4, ho39, fo3, h26, h61, h51, h52, (Ap.or0 hs10 (Ap.sub0 hs0 ap9) (Ap.sub0 hs1 ap9)), (Ap.or0 hs10 (Ap.sub0 hs0 (aD h27)) (Ap.sub0 hs1 (aD h27))), (Ap.or0 hs10 (Ap.sub0 hs0 ap10) (Ap.sub0 hs1 ap10)), ap11, (aW h28), ap12, (Ap.sym (Ap.or hs10 (Ap.sub hs0 (Ap.sym ap13)) (Ap.sub hs1 (Ap.sym ap13)))), ap14, (aW h29), ap15, (Ap.sym (Ap.or hs10 (Ap.sub hs0 (Ap.sym ap16)) (Ap.sub hs1 (Ap.sym ap16)))), ap17, hr⟩
 }
 }
 {
 intro _ n4 H15 hI
 obtain ⟨x4, S3, F3, rfl, hS15, hE3, ho40, fo5, ho41, fo6, ho42, fo7, h62, h63, h64, h65, ap19, ap20, ap21, ap28, ap29, ap30, ap31, ap32, ap33, ap34, ap35, ap36, hr⟩ := hI
 have lt6 := hS15.lt ho40
 have lt7 := hS15.lt ho41
 have lt8 := hS15.lt ho42
 have hlen2 := hE3.le
 have hlon4 := hS15.lo
 unfold f_impl_Cluster_arrive_J1 at hr
 refine W.cut (fun fr n H => ∃ (x5 : Bool) (xs2 : (List GPeer)) (S13 : Nat → Prop) (F : Heap), fr = [(0, pt p0 0), (5, pt n2 0)] ∧ St lo n H F ∧ Ext n0 F0 n F ∧ H n2 = some (.row 1 [iv 2, iv x18.To, iv x18.From, iv x2.Term, iv 0, iv 0, iv 0, .bool x5, .slice none 0 0]) ∧ F n2 = none ∧ H p0 = some (.row ez0 [.slice a2 x1.Peers.length cap3, .slice a7 x1.Net.length cap8, .slice a11 x1.Chosen.length cap12, .bool x1.Conflict]) ∧ F p0 = none ∧ OD lo n H F S13 [] (.slice a2 x1.Peers.length cap3) xs2 ∧ x1.Peers.length = xs2.length ∧ Ow lo n H F a7 cap8 x1.Net ∧ Ow lo n H F a11 cap12 x1.Chosen ∧ ¬ S13 n2 ∧ ¬ S13 p0 ∧ nP (.slice a7 x1.Net.length cap8) n2 ∧ nP (.slice a7 x1.Net.length cap8) p0 ∧ nS (.slice a7 x1.Net.length cap8) S13 ∧ nP (.slice a11 x1.Chosen.length cap12) n2 ∧ nP (.slice a11 x1.Chosen.length cap12) p0 ∧ nS (.slice a11 x1.Chosen.length cap12) S13 ∧ nA (.slice a11 x1.Chosen.length cap12) (.slice a7 x1.Net.length cap8) ∧ f_impl_Cluster_arrive_J2 x1 x18 x2 x5 xs2 = some res) ?_ ?_
 {
 refine W.cond rfl (fun hc4 => ?_) (fun hc4 => ?_)
 {
 replace hr := iteB_pos hr hc4
 refine wR (mN rfl (fN rfl U85 rfl info3 rfl (lN rfl U3 rfl ho40 rfl ?_)))
 obtain ⟨hc5, hr⟩ := chk_some hr
 refine WL.addI .nil rfl rfl rfl rfl rfl hc5.1 hc5.2 (zN rfl (fN rfl U42 rfl info3 rfl ?_))
 obtain ⟨c8, ecs8, hrow8, hwin8, hb8⟩ := OD.get h63 hp41 hx7
 obtain ⟨a36, cap36, a37, cap37, a38, cap38, a39, cap39, rfl⟩ := GPeer.ofB hb8
 refine GL.store hS15 .nil (vc := [iv (x18.From + 1)]) rfl rfl rfl info3 rfl rfl rfl rfl hrow8 (OD.fnone h63 (OD.bS h63 hp41)) (win_fit2 hwin8 (bl rfl) rfl (bl rfl)) (by have := (OD.id_lt h63 (OD.bS h63 hp41)).1; omega) (one1 rfl) rfl (fun H16 hS16 ho43 hk11 => ?_)
 have ho44 := (hk11 n2 (fun hj => ap20 (by rw [hj]; exact (OD.bS h63 hp41)))).trans ho41
 have ho45 := (hk11 p0 (fun hj => ap21 (by rw [hj]; exact (OD.bS h63 hp41)))).trans ho42
 have h66 := kC h64 hk11 ap31 (OD.bS h63 hp41)
 have h67 := kC h65 hk11 ap35 (OD.bS h63 hp41)
 have h68 := GPeer.put_Vote h63 hp41 hx7 hrow8 hwin8 (w := (x18.From + 1)) ho43 hk11
 have hl8 : x1.Peers.length = (setI xs0 x18.To (⟨x2.Up, x2.Term, (x18.From + 1), x2.Commit, x2.Role, x2.Log, x2.Votes, x2.Next, x2.Match⟩ : GPeer)).length := hl7.trans (by rw [setI_length])
 have hx9 := ixS h68 hx7
 refine fN rfl U85 rfl info4 rfl ?_
 refine GL.store hS16 .nil (vc := [.bool true]) (c' := [iv 2, iv x18.To, iv x18.From, iv x2.Term, iv 0, iv 0, iv 0, .bool true, .slice none 0 0]) rfl rfl rfl info4 rfl rfl rfl rfl ho44 fo6 (bl rfl) (by omega) (one1 rfl) rfl (fun H17 hS17 ho46 hk12 => ?_)
 have ho47 := (hk12 _ (by omega)).trans ho45
 have h69 := OD.keep h68 (Nat.le_refl _) (fun i hi => hk12 i (fun hj => ap20 (hj ▸ hi)))
 have h70 := kB h66 hk12 ap29
 have h71 := kB h67 hk12 ap33
 refine wN (eT ?_)
 exact ⟨[(0, pt p0 0), (5, pt n2 0)], (fl2), true, (setI xs0 x18.To (⟨x2.Up, x2.Term, (x18.From + 1), x2.Commit, x2.Role, x2.Log, x2.Votes, x2.Next, x2.Match⟩ : GPeer)), S3, F3, rfl, hS17, hE3, ho46, fo6, ho47, fo7, h69, hl8, h70, h71, ap20, ap21, ap29, ap30, ap31, ap33, ap34, ap35, ap36, hr⟩
 }
 {
 replace hr := iteB_neg hr hc4
 refine wK (eT ?_)
 exact ⟨[(0, pt p0 0), (5, pt n2 0)], (fl2), false, xs0, S3, F3, rfl, hS15, hE3, ho41, fo6, ho42, fo7, h63, hl7, h64, h65, ap20, ap21, ap29, ap30, ap31, ap33, ap34, ap35, ap36, hr⟩
 }
 }
 {
 intro _ n5 H18 hI
 obtain ⟨x5, xs2, S13, F4, rfl, hS18, hE4, ho48, fo8, ho49, fo9, h72, hl9, h73, h74, ap37, ap38, ap39, ap40, ap41, ap42, ap43, ap44, ap45, hr⟩ := hI
 have lt9 := hS18.lt ho48
 have lt10 := hS18.lt ho49
 have hlen3 := hE4.le
 have hlon5 := hS18.lo
 unfold f_impl_Cluster_arrive_J2 at hr
 refine wR (mN rfl (WL.loadN .nil (l' := [iv 2, iv x18.To, iv x18.From, iv x2.Term, iv 0, iv 0, iv 0, .bool x5, .slice none 0 0]) rfl rfl rfl U85 rfl info85 rfl ho48 rfl rfl ?_))
 obtain ⟨x6, hx10, hr⟩ := bnd_some hr
 refine GL.callIO g .nil (fun i => (F4 i).isSome = true ∨ i = p0 ∨ S13 i ∨ idOf (.slice a7 x1.Net.length cap8) = some i ∨ idOf (.slice a11 x1.Chosen.length cap12) = some i) rfl rfl rfl rfl rfl rfl Try.func55 rfl rfl (Nat.le_refl _) hS18.lo (f_impl_Cluster_send_k (x1 := (⟨xs2, x1.Net, x1.Chosen, x1.Conflict⟩ : GCluster)) (x18 := (⟨2, x18.To, x18.From, x2.Term, 0, 0, 0, x5, []⟩ : GMsg)) g (St.vis hS18 (fun i hi => .inl hi)) (by rw [← hl9]; exact vis_get ho49 (.inr (.inl rfl))) fo9 lo17 (OD.head hl9 (OD.vis h72 (fun i hi => (.inr (.inr (.inl hi)))))) (OW.vis h73 (fun i hi => (.inr (.inr (.inr (.inl hi)))))) (OW.vis h74 (fun i hi => (.inr (.inr (.inr (.inr (hi))))))) SR.nil ap38 ap40 ap41 ap43 ap44 ap45 hx10) (fun v n6 H19 H20 hn1 hp1 hle0 hnew0 hk13 hd0 => ?_)
 obtain ⟨F5, S14, a40, cap40, a41, cap41, hX0, hS19, ho50, rfl, h75, hl10, h76, h77, ap46, ap47, ap48, ap49, ap50, ap51⟩ := hp1
 have hS20 : St lo n6 H19 _ := sA hS19 hnew0 hle0
 have ho51 := (hk13 _ (by have := lt9; omega) (oE5 (nF fo8) (by omega) ap37 ap39 ap42)).trans ho48
 have hE5 := (hE4.up (n' := n5) (by omega)).trans hX0
 have ho52 := hle0 _ _ ho50
 have h78 := OD.le h75 hle0
 have hl11 : x1.Peers.length = x6.Peers.length := hl9.trans hl10
 rw [← hl9] at h78
 have h79 := OW.le h76 hle0
 have h80 := OW.le h77 hle0
 rw [← hl9] at ho52
 have hlon6 := hS20.lo
 have lt11 := hS20.lt ho51
 have lt12 := hS20.lt ho52
 refine wN (eB ?_)
 obtain rfl := Option.some.inj hr
 exact ⟨.inl rfl, _, .nil, ⟨F5, S14, a40, cap40, a41, cap41, (hE5.up (by omega)), hS20, ho52, rfl, h78, hl11, h79, h80, ap46, ap47, ap48, ap49, ap50, ap51⟩⟩
 }
 }
 }
 {
 replace hr := ite_neg hr hc2
 refine wS (wR (bN rfl rfl (aN rfl (wN (eT ?_)))))
 refine W.condD rfl (fun hc6 => ?_) (fun hc6 => ?_)
 {
 replace hr := ite_pos hr hc6
 refine wS ?_
 refine W.cut (fun fr n H => ∃ (x7 : Bool) (S15 : Nat → Prop) (F : Heap), fr = [(0, pt p0 0), (3, pt n0 0), (4, pt b39 el40), (122, .bool x7)] ∧ St lo n H F ∧ Ext n0 F0 n F ∧ H n0 = some (.row 1 [iv x18.Kind, iv x18.From, iv x18.To, iv x18.Term, iv x18.A, iv x18.B, iv x18.C, .bool x18.Ok, .slice a19 x18.Log.length cap20]) ∧ F n0 = none ∧ H p0 = some (.row ez0 [.slice a2 x1.Peers.length cap3, .slice a7 x1.Net.length cap8, .slice a11 x1.Chosen.length cap12, .bool x1.Conflict]) ∧ F p0 = none ∧ SR F (.slice a19 x18.Log.length cap20) x18.Log ∧ OD lo n H F S15 [] (.slice a2 x1.Peers.length cap3) xs0 ∧ Ow lo n H F a7 cap8 x1.Net ∧ Ow lo n H F a11 cap12 x1.Chosen ∧ ¬ S15 n0 ∧ ¬ S15 p0 ∧ nP (.slice a7 x1.Net.length cap8) n0 ∧ nP (.slice a7 x1.Net.length cap8) p0 ∧ nS (.slice a7 x1.Net.length cap8) S15 ∧ nP (.slice a11 x1.Chosen.length cap12) n0 ∧ nP (.slice a11 x1.Chosen.length cap12) p0 ∧ nS (.slice a11 x1.Chosen.length cap12) S15 ∧ nA (.slice a11 x1.Chosen.length cap12) (.slice a7 x1.Net.length cap8) ∧ f_impl_Cluster_arrive_J3 xs0 x18 x1 x7 = some res) ?_ ?_
 {
 refine W.regionD r18 f18 rfl rfl kr kr mP ?_
 refine fR rfl U85 rfl info3 rfl (lR rfl U3 rfl ho27 rfl (mR rfl (zR rfl (fR rfl U42 rfl info3 rfl ?_))))
 obtain ⟨x8, hx11, hr⟩ := bnd_some hr
 obtain ⟨c9, ecs9, hrow9, hwin9, hb9⟩ := OD.get h33 hp41 hx11
 obtain ⟨a42, cap42, a43, cap43, a44, cap44, a45, cap45, rfl⟩ := GPeer.ofB hb9
 refine lR rfl U3 rfl hrow9 (wG 1 hwin9) (bR rfl rfl (mR rfl ?_))
 refine WL.guardD rfl rfl rfl (fun hg7 => ?_) (fun hg7 => ?_)
 {
 replace hr := ite_pos hr hg7
 refine mR rfl (zR rfl (fR rfl U42 rfl info3 rfl (lR rfl U3 rfl hrow9 (wG 4 hwin9) (bR rfl rfl (WL.pick .r rfl rfl rfl rfl rfl (mR rfl ?_))))))
 refine WL.guardD rfl rfl rfl (fun hg8 => ?_) (fun hg8 => ?_)
 {
 replace hr := ite_pos hr hg8
 refine fR rfl U85 rfl info4 rfl (lR rfl U4 rfl ho27 rfl (WL.pick .r rfl rfl rfl rfl rfl (wN (eT ?_))))
 exact ⟨[(0, pt p0 0), (3, pt n0 0), (4, pt b39 el40), (122, .bool x18.Ok)], (fl4), x18.Ok, S0, F2, rfl, hS10, (hE2.up (by omega)), ho27, fo2, ho28, fo3, h26, h33, h34, h38, ap9, ap10, ap11, ap12, ap13, ap14, ap15, ap16, ap17, hr⟩
 }
 {
 replace hr := ite_neg hr hg8
 refine kR rfl (kR rfl (WL.pick .r rfl rfl rfl rfl rfl (wN (eT ?_))))
 exact ⟨[(0, pt p0 0), (3, pt n0 0), (4, pt b39 el40), (122, .bool false)], (fl4), false, S0, F2, rfl, hS10, (hE2.up (by omega)), ho27, fo2, ho28, fo3, h26, h33, h34, h38, ap9, ap10, ap11, ap12, ap13, ap14, ap15, ap16, ap17, hr⟩
 }
 }
 {
 replace hr := ite_neg hr hg7
 refine kR rfl (kR rfl (kR rfl (kR rfl (kR rfl (WL.pick .r rfl rfl rfl rfl rfl (mR rfl (kR rfl (kR rfl (WL.pick .r rfl rfl rfl rfl rfl (wN (eT ?_)))))))))))
 exact ⟨[(0, pt p0 0), (3, pt n0 0), (4, pt b39 el40), (122, .bool false)], (fl4), false, S0, F2, rfl, hS10, (hE2.up (by omega)), ho27, fo2, ho28, fo3, h26, h33, h34, h38, ap9, ap10, ap11, ap12, ap13, ap14, ap15, ap16, ap17, hr⟩
 }
 }
 {
 intro _ n7 H21 hI
 obtain ⟨x7, S15, F6, rfl, hS21, hE6, ho53, fo10, ho54, fo11, h81, h82, h83, h84, ap52, ap53, ap54, ap55, ap56, ap57, ap58, ap59, ap60, hr⟩ := hI
 have lt13 := hS21.lt ho53
 have lt14 := hS21.lt ho54
 have hlen4 := hE6.le
 have hlon7 := hS21.lo
 unfold f_impl_Cluster_arrive_J3 at hr
 refine W.cond rfl (fun hc7 => ?_) (fun hc7 => ?_)
 {
 replace hr := iteB_pos hr hc7
 refine wS ?_
 refine W.regionD [0, 1, 2, 3, 4, 5, 6, 7] [false, false, false, false, false, false, false, true] rfl rfl kr kr mP ?_
 refine mR rfl (zR rfl (fR rfl U42 rfl info40 rfl ?_))
 obtain ⟨x9, hx12, hr⟩ := bnd_some hr
 obtain ⟨c10, ecs10, hrow10, hwin10, hb10⟩ := OD.get h82 hp41 hx12
 obtain ⟨a46, cap46, a48, cap47, a50, cap49, a52, cap51, rfl⟩ := GPeer.ofB hb10
 obtain ⟨S16, hs11, hs12, hs13, h85, h86⟩ := GPeer.open_Votes h82 hp41 hx12 hrow10 hwin10 (List.forall_mem_nil _)
 refine lR rfl U40 rfl hrow10 (wG 6 hwin10) (fR rfl U85 rfl info3 rfl (lR rfl U3 rfl ho53 rfl ?_))
 obtain ⟨x10, hx13, hr⟩ := bnd_some hr
 refine GL.indexO .r rfl rfl rfl U40 info4 rfl rfl h85 rfl hx13 (fun b0 kp0 c11 ecs11 hid0 hrow11 hwin11 hR0 hup0 => ?_)
 have hcs : _ = ([.bool x10] : List Value) := hR0
 subst hcs
 refine GL.store hS21 .w (vc := [.bool true]) rfl rfl rfl info4 rfl rfl rfl rfl hrow11 (OW.fnone h85 hid0) (wF hwin11) (OW.id_lt h85 hid0).1 (one1 rfl) rfl (fun H22 hS22 ho55 hk14 => ?_)
 have h87 := hup0 0 [.bool true] (true : Bool) H22 (bl rfl) rfl ho55
 have ho56 := (hk14 n0 (fun hj => (Ap.sub0 hs12 ap52) (by rw [hj]; exact hid0))).trans ho53
 have ho57 := (hk14 p0 (fun hj => (Ap.sub0 hs12 ap53) (by rw [hj]; exact hid0))).trans ho54
 have h88 := OD.keep h86 (Nat.le_refl _) (fun i hi => hk14 i (fun hj => (Ap.sym hs13) i hi (by rw [hj]; exact hid0)))
 have h89 := OW.keep h83 (Nat.le_refl _) (fun i hi => hk14 i (fun hj => (Ap.sym (Ap.sub hs12 (Ap.sym ap56))) i hi (by rw [hj]; exact hid0)))
 have h90 := OW.keep h84 (Nat.le_refl _) (fun i hi => hk14 i (fun hj => (Ap.sym (Ap.sub hs12 (Ap.sym ap59))) i hi (by rw [hj]; exact hid0)))
 have hl12 : x9.Votes.length = (setI x9.Votes x18.From true).length := (setI_length _ _ _).symm
 refine wN (eT (wR (mN rfl (fN rfl U85 rfl info3 rfl (lN rfl U3 rfl ho56 rfl ?_)))))
 obtain ⟨S17, hs14, h91⟩ := GPeer.close_Votes h88 hx12 hl12 h87
 have hl13 : x1.Peers.length = (setI xs0 x18.To (⟨x9.Up, x9.Term, x9.Vote, x9.Commit, x9.Role, x9.Log, (setI x9.Votes x18.From true), x9.Next, x9.Match⟩ : GPeer)).length := hl7.trans (by rw [setI_length])
 have hx14 := ixS h91 hx12
 obtain ⟨x11, hx15, hr⟩ := bnd_some hr
 refine GL.callIO g .nil (fun i => (F6 i).isSome = true ∨ i = p0 ∨ S17 i ∨ idOf (.slice a7 x1.Net.length cap8) = some i ∨ idOf (.slice a11 x1.Chosen.length cap12) = some i) rfl rfl rfl rfl rfl rfl Try.func87 rfl rfl (Nat.le_refl _) hS22.lo (f_impl_Cluster_elect_k (x1 := (⟨(setI xs0 x18.To (⟨x9.Up, x9.Term, x9.Vote, x9.Commit, x9.Role, x9.Log, (setI x9.Votes x18.From true), x9.Next, x9.Match⟩ : GPeer)), x1.Net, x1.Chosen, x1.Conflict⟩ : GCluster)) g (St.vis hS22 (fun i hi => .inl hi)) (by rw [← hl13]; exact vis_get ho57 (.inr (.inl rfl))) fo11 lo17 (OD.head hl13 (OD.vis h91 (fun i hi => (.inr (.inr (.inl hi)))))) (OW.vis h89 (fun i hi => (.inr (.inr (.inr (.inl hi)))))) (OW.vis h90 (fun i hi => (.inr (.inr (.inr (.inr (hi))))))) (Ap.or0 hs14 (Ap.sub0 hs11 ap53) (Ap.sub0 hs12 ap53)) ap55 (Ap.sym (Ap.or hs14 (Ap.sub hs11 (Ap.sym ap56)) (Ap.sub hs12 (Ap.sym ap56)))) ap58 (Ap.sym (Ap.or hs14 (Ap.sub hs11 (Ap.sym ap59)) (Ap.sub hs12 (Ap.sym ap59)))) ap60 hx15) (fun v n8 H23 H24 hn2 hp2 hle1 hnew1 hk15 hd1 => ?_)
 obtain ⟨F7, S18, a54, cap53, a55, cap55, hX1, hS23, ho58, rfl, h92, hl14, h93, h94, ap61, ap62, ap63, ap64, ap65, ap66⟩ := hp2
 have hS24 : St lo n8 H23 _ := sA hS23 hnew1 hle1
 have ho59 := (hk15 _ (by have := lt13; omega) (oE5 (nF fo10) (by omega) (Ap.or0 hs14 (Ap.sub0 hs11 ap52) (Ap.sub0 hs12 ap52)) ap54 ap57)).trans ho56
 have hE7 := (hE6.up (n' := n7) (by omega)).trans hX1
 have ho60 := hle1 _ _ ho58
 have h95 := OD.le h92 hle1
 have hl15 : x1.Peers.length = x11.Peers.length := hl13.trans hl14
 rw [← hl13] at h95
 have h96 := OW.le h93 hle1
 have h97 := OW.le h94 hle1
 rw [← hl13] at ho60
 have hlon8 := hS24.lo
 have lt15 := hS24.lt ho59
 have lt16 := hS24.lt ho60
 refine wN (eB ?_)
 obtain rfl := Option.some.inj hr
 exact ⟨.inl rfl, _, .nil, ⟨F7, S18, a54, cap53, a55, cap55, (hE7.up (by omega)), hS24, ho60, rfl, h95, hl15, h96, h97, ap61, ap62, ap63, ap64, ap65, ap66⟩⟩
 }
 {
 replace hr := iteB_neg hr hc7
 refine wK (eB ?_)
 obtain rfl := Option.some.inj hr
 exact ⟨.inl rfl, _, .nil, ⟨F6, S15, a7, cap8, a11, cap12, (hE6.up (by omega)), hS21, ho54, rfl, h82, hl7, h83, h84, ap53, ap55, ap58, ap56, ap59, ap60⟩⟩
 }
 }
 }
 {
 replace hr := ite_neg hr hc6
 refine wS (wR (bN rfl rfl (aN rfl (wN (eT ?_)))))
 refine W.condD rfl (fun hc8 => ?_) (fun hc8 => ?_)
 {
 replace hr := ite_pos hr hc8
 refine wR (mN rfl (WL.loadN .nil (l' := [iv x18.Kind, iv x18.From, iv x18.To, iv x18.Term, iv x18.A, iv x18.B, iv x18.C, .bool x18.Ok, .slice a19 x18.Log.length cap20]) rfl rfl rfl U85 rfl info85 rfl ho27 rfl rfl (WL.loadN .nil (l' := [iv 0, iv x18.To, iv x18.From, iv 0, iv 0, iv 0, iv 0, .bool false, .slice none 0 0]) rfl rfl rfl U85 rfl info85 rfl ho26 rfl rfl ?_)))
 obtain ⟨x12, hx16, hr⟩ := bnd_some hr
 refine GL.callIO g .nil (fun i => (F2 i).isSome = true ∨ i = p0 ∨ S0 i ∨ idOf (.slice a7 x1.Net.length cap8) = some i ∨ idOf (.slice a11 x1.Chosen.length cap12) = some i) rfl rfl rfl rfl rfl rfl Try.func88 rfl rfl (Nat.le_refl _) hS10.lo (f_impl_Cluster_take_k (x1 := (⟨xs0, x1.Net, x1.Chosen, x1.Conflict⟩ : GCluster)) (x18 := (⟨x18.Kind, x18.From, x18.To, x18.Term, x18.A, x18.B, x18.C, x18.Ok, x18.Log⟩ : GMsg)) (x22 := (⟨0, x18.To, x18.From, 0, 0, 0, 0, false, []⟩ : GMsg)) g (St.vis hS10 (fun i hi => .inl hi)) (by rw [← hl7]; exact vis_get ho28 (.inr (.inl rfl))) fo3 lo17 (OD.head hl7 (OD.vis h33 (fun i hi => (.inr (.inr (.inl hi)))))) (OW.vis h34 (fun i hi => (.inr (.inr (.inr (.inl hi)))))) (OW.vis h38 (fun i hi => (.inr (.inr (.inr (.inr (hi))))))) h26 SR.nil ap10 ap12 ap13 ap15 ap16 ap17 hx16) (fun v n9 H25 H26 hn3 hp3 hle2 hnew2 hk16 hd2 => ?_)
 obtain ⟨F8, S19, a56, cap56, a57, cap57, hX2, hS25, ho61, rfl, h98, hl16, h99, h100, ap67, ap68, ap69, ap70, ap71, ap72⟩ := hp3
 have hS26 : St lo n9 H25 _ := sA hS25 hnew2 hle2
 have ho62 := (hk16 _ (by have := lt3; omega) (oE5 (nF fo2) (by omega) ap9 ap11 ap14)).trans ho27
 have ho63 := (hk16 _ (by have := lt5; omega) (oE5 (nF fo4) (by omega) (aD h27) (aW h28) (aW h29))).trans ho26
 have hE8 := (hE2.up (n' := (n2 + 1)) (by omega)).trans hX2
 have ho64 := hle2 _ _ ho61
 have h101 := OD.le h98 hle2
 have hl17 : x1.Peers.length = x12.Peers.length := hl7.trans hl16
 rw [← hl7] at h101
 have h102 := OW.le h99 hle2
 have h103 := OW.le h100 hle2
 rw [← hl7] at ho64
 have hlon9 := hS26.lo
 have lt17 := hS26.lt ho62
 have lt18 := hS26.lt ho64
 have lt19 := hS26.lt ho63
 refine wN (eB ?_)
 obtain rfl := Option.some.inj hr
 exact ⟨.inl rfl, _, .nil, ⟨F8, S19, a56, cap56, a57, cap57, (hE8.up (by omega)), hS26, ho64, rfl, h101, hl17, h102, h103, ap67, ap68, ap69, ap70, ap71, ap72⟩⟩
 }
 {
 replace hr := ite_neg hr hc8
 refine wS (wR (bN rfl rfl (aN rfl (wN (eT ?_)))))
 refine W.condD rfl (fun hc9 => ?_) (fun hc9 => ?_)
 {
 replace hr := ite_pos hr hc9
 refine wS (wS ?_)
 refine W.cut (fun fr n H => ∃ (x13 : Bool) (S20 : Nat → Prop) (F : Heap), fr = [(0, pt p0 0), (3, pt n0 0), (4, pt b39 el40), (155, .bool x13)] ∧ St lo n H F ∧ Ext n0 F0 n F ∧ H n0 = some (.row 1 [iv x18.Kind, iv x18.From, iv x18.To, iv x18.Term, iv x18.A, iv x18.B, iv x18.C, .bool x18.Ok, .slice a19 x18.Log.length cap20]) ∧ F n0 = none ∧ H p0 = some (.row ez0 [.slice a2 x1.Peers.length cap3, .slice a7 x1.Net.length cap8, .slice a11 x1.Chosen.length cap12, .bool x1.Conflict]) ∧ F p0 = none ∧ SR F (.slice a19 x18.Log.length cap20) x18.Log ∧ OD lo n H F S20 [] (.slice a2 x1.Peers.length cap3) xs0 ∧ Ow lo n H F a7 cap8 x1.Net ∧ Ow lo n H F a11 cap12 x1.Chosen ∧ ¬ S20 n0 ∧ ¬ S20 p0 ∧ nP (.slice a7 x1.Net.length cap8) n0 ∧ nP (.slice a7 x1.Net.length cap8) p0 ∧ nS (.slice a7 x1.Net.length cap8) S20 ∧ nP (.slice a11 x1.Chosen.length cap12) n0 ∧ nP (.slice a11 x1.Chosen.length cap12) p0 ∧ nS (.slice a11 x1.Chosen.length cap12) S20 ∧ nA (.slice a11 x1.Chosen.length cap12) (.slice a7 x1.Net.length cap8) ∧ f_impl_Cluster_arrive_J4 xs0 x1 x18 x13 = some res) ?_ ?_
 {
 refine W.regionD r14 f14 rfl rfl kr kr mP ?_
 refine fR rfl U85 rfl info3 rfl (lR rfl U3 rfl ho27 rfl (mR rfl (zR rfl (fR rfl U42 rfl info3 rfl ?_))))
 obtain ⟨x14, hx17, hr⟩ := bnd_some hr
 obtain ⟨c12, ecs12, hrow12, hwin12, hb11⟩ := OD.get h33 hp41 hx17
 obtain ⟨a58, cap58, a59, cap59, a60, cap60, a61, cap61, rfl⟩ := GPeer.ofB hb11
 refine lR rfl U3 rfl hrow12 (wG 1 hwin12) (bR rfl rfl (mR rfl ?_))
 refine WL.guardN rfl rfl rfl (fun hg9 => ?_) (fun hg9 => ?_)
 {
 replace hr := ite_neg hr hg9
 refine kR rfl (kR rfl (kR rfl (kR rfl (kR rfl (WL.pick .r rfl rfl rfl rfl rfl (wN (eT ?_)))))))
 exact ⟨[(0, pt p0 0), (3, pt n0 0), (4, pt b39 el40), (155, .bool true)], (fl4), true, S0, F2, rfl, hS10, (hE2.up (by omega)), ho27, fo2, ho28, fo3, h26, h33, h34, h38, ap9, ap10, ap11, ap12, ap13, ap14, ap15, ap16, ap17, hr⟩
 }
 {
 replace hr := ite_pos hr hg9
 refine mR rfl (zR rfl (fR rfl U42 rfl info3 rfl (lR rfl U3 rfl hrow12 (wG 4 hwin12) (bR rfl rfl (WL.pick .r rfl rfl rfl rfl rfl (wN (eT ?_)))))))
 exact ⟨[(0, pt p0 0), (3, pt n0 0), (4, pt b39 el40), (155, .bool (!decide (x14.Role = 2)))], (fl4), (!decide (x14.Role = 2)), S0, F2, rfl, hS10, (hE2.up (by omega)), ho27, fo2, ho28, fo3, h26, h33, h34, h38, ap9, ap10, ap11, ap12, ap13, ap14, ap15, ap16, ap17, hr⟩
 }
 }
 {
 intro _ n10 H27 hI
 obtain ⟨x13, S20, F9, rfl, hS27, hE9, ho65, fo12, ho66, fo13, h104, h105, h106, h107, ap73, ap74, ap75, ap76, ap77, ap78, ap79, ap80, ap81, hr⟩ := hI
 have lt20 := hS27.lt ho65
 have lt21 := hS27.lt ho66
 have hlen5 := hE9.le
 have hlon10 := hS27.lo
 unfold f_impl_Cluster_arrive_J4 at hr
 refine W.cond rfl (fun hc10 => ?_) (fun hc10 => ?_)
 {
 replace hr := iteB_pos hr hc10
 refine W.ret (eR (Ex.blk_ret ?_))
 obtain rfl := Option.some.inj hr
 exact ⟨.inr rfl, _, .nil, ⟨F9, S20, a7, cap8, a11, cap12, (hE9.up (by omega)), hS27, ho66, rfl, h105, hl7, h106, h107, ap74, ap76, ap79, ap77, ap80, ap81⟩⟩
 }
 {
 replace hr := iteB_neg hr hc10
 refine wK (eT (wS (wR (fN rfl U85 rfl info4 rfl (lN rfl U4 rfl ho65 rfl (wN (eT ?_)))))))
 refine W.cond rfl (fun hc11 => ?_) (fun hc11 => ?_)
 {
 replace hr := iteB_pos hr hc11
 refine wS ?_
 refine W.regionI (fun H => H n0 = some (.row 1 [iv x18.Kind, iv x18.From, iv x18.To, iv x18.Term, iv x18.A, iv x18.B, iv x18.C, .bool x18.Ok, .slice a19 x18.Log.length cap20])) [0, 1, 2, 3, 4, 5, 6, 7, 8, 9, 10, 11, 12, 13, 14, 15, 16, 17, 18, 19, 20, 21, 22, 23, 24, 25, 26, 27, 28, 29, 30, 31, 32, 33, 34, 35, 36, 37, 38] [(false, false, false), (false, false, false), (false, false, false), (false, false, false), (false, false, false), (false, false, false), (false, false, false), (false, false, false), (false, false, false), (false, false, false), (false, true, false), (false, true, false), (false, false, false), (false, false, false), (false, false, false), (false, false, false), (false, false, false), (false, false, false), (false, false, false), (false, false, false), (false, false, false), (false, false, false), (false, false, false), (false, false, false), (false, false, false), (false, false, false), (false, false, false), (false, false, false), (false, false, false), (false, false, false), (false, false, false), (false, true, false), (false, true, false), (false, true, false), (false, true, false), (false, false, false), (true, false, false), (false, false, false), (true, false, true)] false rfl kr kr mP ?_
 refine oP (mR rfl ?_)
 with_reducible refine WL.nil ⟨rfl, ?_⟩
 refine oP (zR rfl ?_)
 with_reducible refine WL.nil ⟨rfl, ?_⟩
 refine oP (fR rfl U42 rfl info31 rfl ?_)
 with_reducible refine WL.nil ⟨rfl, ?_⟩
 refine oP ?_
 obtain ⟨x15, hx18, hr⟩ := bnd_some hr
 obtain ⟨c13, ecs13, hrow13, hwin13, hb12⟩ := OD.get h105 hp41 hx18
 obtain ⟨a62, cap62, a63, cap63, a64, cap64, a65, cap65, rfl⟩ := GPeer.ofB hb12
 obtain ⟨S21, hs15, hs16, hs17, h108, h109⟩ := GPeer.open_Match h105 hp41 hx18 hrow13 hwin13 (List.forall_mem_nil _)
 refine lR rfl U31 rfl hrow13 (wG 8 hwin13) ?_
 with_reducible refine WL.nil ⟨rfl, ?_⟩
 refine oP (fR rfl U85 rfl info3 rfl ?_)
 with_reducible refine WL.nil ⟨rfl, ?_⟩
 refine oP (lR rfl U3 rfl ho65 rfl ?_)
 with_reducible refine WL.nil ⟨rfl, ?_⟩
 refine oP (mR rfl ?_)
 with_reducible refine WL.nil ⟨rfl, ?_⟩
 refine oP (zR rfl ?_)
 with_reducible refine WL.nil ⟨rfl, ?_⟩
 refine oP (fR rfl U42 rfl info31 rfl ?_)
 with_reducible refine WL.nil ⟨rfl, ?_⟩
 refine oP ?_
 obtain ⟨S22, hs18, hs19, hs20, h110, h111⟩ := GPeer.open_Next h109 hp41 hx18 hrow13 hwin13 (List.forall_mem_cons.2 ⟨fun h => absurd (show (8 : Nat) = 7 from h.2) (by decide), List.forall_mem_nil _⟩)
 refine lR rfl U31 rfl hrow13 (wG 7 hwin13) ?_
 with_reducible refine WL.nil ⟨rfl, ?_⟩
 refine WLI.late (v := pt n0 1) (fun h => by cases h) rfl rfl (fun H2 hI2 => Step.fieldAddr' rfl U85 rfl info3 rfl rfl rfl) ?_
 refine WLI.late (v := iv x18.From) (fun h => by cases h) rfl rfl (fun H2 hI2 => Step.load1' rfl U3 rfl rfl (hI2.elim (fun e => by rw [e]; exact ho65) (fun h => h)) rfl) ?_
 refine oP (mR rfl ?_)
 with_reducible refine WL.nil ⟨rfl, ?_⟩
 refine oP (zR rfl ?_)
 with_reducible refine WL.nil ⟨rfl, ?_⟩
 refine oP (fR rfl U42 rfl info31 rfl ?_)
 with_reducible refine WL.nil ⟨rfl, ?_⟩
 refine oP (lR rfl U31 rfl hrow13 (wG 8 hwin13) ?_)
 with_reducible refine WL.nil ⟨rfl, ?_⟩
 refine oP (fR rfl U85 rfl info3 rfl ?_)
 with_reducible refine WL.nil ⟨rfl, ?_⟩
 refine oP (lR rfl U3 rfl ho65 rfl ?_)
 with_reducible refine WL.nil ⟨rfl, ?_⟩
 refine oP ?_
 obtain ⟨x16, hx19, hr⟩ := bnd_some hr
 refine GL.indexO .r rfl rfl rfl U31 info3 rfl rfl h108 rfl hx19 (fun b1 kp1 c14 ecs14 hid1 hrow14 hwin14 hR1 hup1 => ?_)
 have hcs : _ = ([iv x16] : List Value) := hR1
 subst hcs
 with_reducible refine WL.nil ⟨rfl, ?_⟩
 refine oP (lR rfl U3 rfl hrow14 ((win_get0 hwin14 (show (0 : Nat) < 1 by decide)).trans rfl) ?_)
 with_reducible refine WL.nil ⟨rfl, ?_⟩
 refine oP (fR rfl U85 rfl info3 rfl ?_)
 with_reducible refine WL.nil ⟨rfl, ?_⟩
 refine oP (lR rfl U3 rfl ho65 rfl ?_)
 with_reducible refine WL.nil ⟨rfl, ?_⟩
 refine oP (WL.max2 .r rfl rfl rfl rfl rfl ?_)
 with_reducible refine WL.nil ⟨rfl, ?_⟩
 refine oP (mR rfl ?_)
 with_reducible refine WL.nil ⟨rfl, ?_⟩
 refine oP (zR rfl ?_)
 with_reducible refine WL.nil ⟨rfl, ?_⟩
 refine oP (fR rfl U42 rfl info31 rfl ?_)
 with_reducible refine WL.nil ⟨rfl, ?_⟩
 refine oP (lR rfl U31 rfl hrow13 (wG 7 hwin13) ?_)
 with_reducible refine WL.nil ⟨rfl, ?_⟩
 refine oP (fR rfl U85 rfl info3 rfl ?_)
 with_reducible refine WL.nil ⟨rfl, ?_⟩
 refine oP (lR rfl U3 rfl ho65 rfl ?_)
 with_reducible refine WL.nil ⟨rfl, ?_⟩
 refine oP ?_
 obtain ⟨x17, hx20, hr⟩ := bnd_some hr
 refine GL.indexO .r rfl rfl rfl U31 info3 rfl rfl h110 rfl hx20 (fun b2 kp2 c15 ecs15 hid2 hrow15 hwin15 hR2 hup2 => ?_)
 have hcs : _ = ([iv x17] : List Value) := hR2
 subst hcs
 with_reducible refine WL.nil ⟨rfl, ?_⟩
 refine oP (lR rfl U3 rfl hrow15 ((win_get0 hwin15 (show (0 : Nat) < 1 by decide)).trans rfl) ?_)
 with_reducible refine WL.nil ⟨rfl, ?_⟩
 refine WLI.late (v := pt n0 4) (fun h => by cases h) rfl rfl (fun H2 hI2 => Step.fieldAddr' rfl U85 rfl info3 rfl rfl rfl) ?_
 refine WLI.late (v := iv x18.A) (fun h => by cases h) rfl rfl (fun H2 hI2 => Step.load1' rfl U3 rfl rfl (hI2.elim (fun e => by rw [e]; exact ho65) (fun h => h)) rfl) ?_
 obtain ⟨hc12, hr⟩ := chk_some hr
 refine WLI.late (v := iv (x18.A + 1)) (fun h => by cases h) rfl rfl (fun H2 hI2 => Step.addI rfl rfl rfl hc12.1 hc12.2) ?_
 refine WLI.late (v := iv (if (x18.A + 1) > x17 then (x18.A + 1) else x17)) (fun h => by cases h) rfl rfl (fun H2 hI2 => Step.max2' rfl rfl rfl) ?_
 refine oP ?_
 obtain ⟨x19, hx21, hr⟩ := bnd_some hr
 refine GL.indexO .r rfl rfl rfl U31 info3 rfl rfl h108 rfl hx21 (fun b3 kp3 c16 ecs16 hid3 hrow16 hwin16 hR3 hup3 => ?_)
 have hcs : _ = ([iv x19] : List Value) := hR3
 subst hcs
 with_reducible refine WL.nil ⟨rfl, ?_⟩
 refine oP ?_
 refine GL.store hS27 .w (vc := [iv (if x18.A > x16 then x18.A else x16)]) rfl rfl rfl info3 rfl rfl rfl rfl hrow16 (OW.fnone h108 hid3) (wF hwin16) (OW.id_lt h108 hid3).1 (one1 rfl) rfl (fun H29 hS28 ho67 hk17 => ?_)
 have h112 := hup3 0 [iv (if x18.A > x16 then x18.A else x16)] ((if x18.A > x16 then x18.A else x16) : Int) H29 (bl rfl) rfl ho67
 have ho68 := (hk17 n0 (fun hj => (Ap.sub0 hs16 ap73) (by rw [hj]; exact hid3))).trans ho65
 have ho69 := (hk17 p0 (fun hj => (Ap.sub0 hs16 ap74) (by rw [hj]; exact hid3))).trans ho66
 have h113 := OD.keep h111 (Nat.le_refl _) (fun i hi => hk17 i (fun hj => (Ap.sub hs18 (Ap.sym hs17)) i hi (by rw [hj]; exact hid3)))
 have h114 := OW.keep h106 (Nat.le_refl _) (fun i hi => hk17 i (fun hj => (Ap.sym (Ap.sub hs16 (Ap.sym ap77))) i hi (by rw [hj]; exact hid3)))
 have h115 := OW.keep h107 (Nat.le_refl _) (fun i hi => hk17 i (fun hj => (Ap.sym (Ap.sub hs16 (Ap.sym ap80))) i hi (by rw [hj]; exact hid3)))
 have h116 := OW.keep h110 (Nat.le_refl _) (fun i hi => hk17 i (fun hj => (Ap.sub hs19 (Ap.sym hs17)) i hi (by rw [hj]; exact hid3)))
 have hl18 : x15.Match.length = (setI x15.Match x18.From (if x18.A > x16 then x18.A else x16)).length := (setI_length _ _ _).symm
 with_reducible refine WL.nil ⟨rfl, ?_⟩
 refine oP ?_
 obtain ⟨x20, hx22, hr⟩ := bnd_some hr
 refine GL.indexO .r rfl rfl rfl U31 info3 rfl rfl h116 rfl hx22 (fun b4 kp4 c17 ecs17 hid4 hrow17 hwin17 hR4 hup4 => ?_)
 have hcs : _ = ([iv x20] : List Value) := hR4
 subst hcs
 with_reducible refine WL.nil ⟨rfl, ?_⟩
 refine WLI.op (fun _ => ho68) ?_
 refine GL.store hS28 .w (vc := [iv (if (x18.A + 1) > x17 then (x18.A + 1) else x17)]) rfl rfl rfl info3 rfl rfl rfl rfl hrow17 (OW.fnone h116 hid4) (wF hwin17) (OW.id_lt h116 hid4).1 (one1 rfl) rfl (fun H30 hS30 ho70 hk18 => ?_)
 have h117 := hup4 0 [iv (if (x18.A + 1) > x17 then (x18.A + 1) else x17)] ((if (x18.A + 1) > x17 then (x18.A + 1) else x17) : Int) H30 (bl rfl) rfl ho70
 have ho71 := (hk18 n0 (fun hj => (Ap.sub0 hs19 (Ap.sub0 hs15 ap73)) (by rw [hj]; exact hid4))).trans ho68
 have ho72 := (hk18 p0 (fun hj => (Ap.sub0 hs19 (Ap.sub0 hs15 ap74)) (by rw [hj]; exact hid4))).trans ho69
 have h118 := OD.keep h113 (Nat.le_refl _) (fun i hi => hk18 i (fun hj => (Ap.sym hs20) i hi (by rw [hj]; exact hid4)))
 have h119 := OW.keep h114 (Nat.le_refl _) (fun i hi => hk18 i (fun hj => (Ap.sym (Ap.sub hs19 (Ap.sub hs15 (Ap.sym ap77)))) i hi (by rw [hj]; exact hid4)))
 have h120 := OW.keep h115 (Nat.le_refl _) (fun i hi => hk18 i (fun hj => (Ap.sym (Ap.sub hs19 (Ap.sub hs15 (Ap.sym ap80)))) i hi (by rw [hj]; exact hid4)))
 have h121 := OW.keep h112 (Nat.le_refl _) (fun i hi => hk18 i (fun hj => (Ap.sym (Ap.sub hs19 (Ap.sym hs17))) i hi (by rw [hj]; exact hid4)))
 have hl19 : x15.Next.length = (setI x15.Next x18.From (if (x18.A + 1) > x17 then (x18.A + 1) else x17)).length := (setI_length _ _ _).symm
 with_reducible refine WL.nil ⟨rfl, ?_⟩
 refine WLI.nil (fun h => by cases h) ?_
 refine eT (wR (mN rfl (fN rfl U85 rfl info3 rfl (lN rfl U3 rfl ho71 rfl ?_))))
 obtain ⟨S23, hs21, h122⟩ := GPeer.close_Next h118 hx18 hl19 h117
 have hl20 : x1.Peers.length = (setI xs0 x18.To (⟨x15.Up, x15.Term, x15.Vote, x15.Commit, x15.Role, x15.Log, x15.Votes, (setI x15.Next x18.From (if (x18.A + 1) > x17 then (x18.A + 1) else x17)), x15.Match⟩ : GPeer)).length := hl7.trans (by rw [setI_length])
 have hx23 := ixS h122 hx18
 obtain ⟨S24, hs22, h123⟩ := GPeer.close_Match h122 hx23 hl18 h121
 have ap82 : ¬ S24 n0 := Ap.or0 hs22 (Ap.or0 hs21 (Ap.sub0 hs18 (Ap.sub0 hs15 ap73)) (Ap.sub0 hs19 (Ap.sub0 hs15 ap73))) (Ap.sub0 hs16 ap73)
 have ap83 : ¬ S24 p0 := Ap.or0 hs22 (Ap.or0 hs21 (Ap.sub0 hs18 (Ap.sub0 hs15 ap74)) (Ap.sub0 hs19 (Ap.sub0 hs15 ap74))) (Ap.sub0 hs16 ap74)
 have ap84 : Sn S24 (.slice a7 x1.Net.length cap8) := Ap.or hs22 (Ap.or hs21 (Ap.sub hs18 (Ap.sub hs15 (Ap.sym ap77))) (Ap.sub hs19 (Ap.sub hs15 (Ap.sym ap77)))) (Ap.sub hs16 (Ap.sym ap77))
 have ap85 : Sn S24 (.slice a11 x1.Chosen.length cap12) := Ap.or hs22 (Ap.or hs21 (Ap.sub hs18 (Ap.sub hs15 (Ap.sym ap80))) (Ap.sub hs19 (Ap.sub hs15 (Ap.sym ap80)))) (Ap.sub hs16 (Ap.sym ap80))
 rw [setI_setI] at h123
 have hl21 : x1.Peers.length = (setI xs0 x18.To (⟨x15.Up, x15.Term, x15.Vote, x15.Commit, x15.Role, x15.Log, x15.Votes, (setI x15.Next x18.From (if (x18.A + 1) > x17 then (x18.A + 1) else x17)), (setI x15.Match x18.From (if x18.A > x16 then x18.A else x16))⟩ : GPeer)).length := hl20.trans (by rw [setI_length, setI_length])
 have hx24 := idx_setI_same (y := (⟨x15.Up, x15.Term, x15.Vote, x15.Commit, x15.Role, x15.Log, x15.Votes, (setI x15.Next x18.From (if (x18.A + 1) > x17 then (x18.A + 1) else x17)), (setI x15.Match x18.From (if x18.A > x16 then x18.A else x16))⟩ : GPeer)) hx18
 obtain ⟨x21, hx25, hr⟩ := bnd_some hr
 refine GL.callIO g .nil (fun i => (F9 i).isSome = true ∨ i = p0 ∨ S24 i ∨ idOf (.slice a7 x1.Net.length cap8) = some i ∨ idOf (.slice a11 x1.Chosen.length cap12) = some i) rfl rfl rfl rfl rfl rfl Try.func60 rfl rfl (Nat.le_refl _) hS30.lo (f_impl_Cluster_commit_k (x1 := (⟨(setI xs0 x18.To (⟨x15.Up, x15.Term, x15.Vote, x15.Commit, x15.Role, x15.Log, x15.Votes, (setI x15.Next x18.From (if (x18.A + 1) > x17 then (x18.A + 1) else x17)), (setI x15.Match x18.From (if x18.A > x16 then x18.A else x16))⟩ : GPeer)), x1.Net, x1.Chosen, x1.Conflict⟩ : GCluster)) g (St.vis hS30 (fun i hi => .inl hi)) (by rw [← hl21]; exact vis_get ho72 (.inr (.inl rfl))) fo13 lo17 (OD.head hl21 (OD.vis h123 (fun i hi => (.inr (.inr (.inl hi)))))) (OW.vis h119 (fun i hi => (.inr (.inr (.inr (.inl hi)))))) (OW.vis h120 (fun i hi => (.inr (.inr (.inr (.inr (hi))))))) ap83 ap76 (Ap.sym ap84) ap79 (Ap.sym ap85) ap81 hx25) (fun v n11 H31 H32 hn4 hp4 hle3 hnew3 hk19 hd3 => ?_)
 obtain ⟨F10, S25, a66, cap66, a67, cap67, hX3, hS31, ho73, rfl, h124, hl22, h125, h126, ap86, ap87, ap88, ap89, ap90, ap91⟩ := hp4
 have hS32 : St lo n11 H31 _ := sA hS31 hnew3 hle3
 have ho74 := (hk19 _ (by have := lt20; omega) (oE5 (nF fo12) (by omega) ap82 ap75 ap78)).trans ho71
 have hE10 := (hE9.up (n' := n10) (by omega)).trans hX3
 have ho75 := hle3 _ _ ho73
 have h127 := OD.le h124 hle3
 have hl23 : x1.Peers.length = x21.Peers.length := hl21.trans hl22
 rw [← hl21] at h127
 have h128 := OW.le h125 hle3
 have h129 := OW.le h126 hle3
 rw [← hl21] at ho75
 have hlon11 := hS32.lo
 have lt22 := hS32.lt ho74
 have lt23 := hS32.lt ho75
 refine wN (eB ?_)
 obtain rfl := Option.some.inj hr
 exact ⟨.inl rfl, _, .nil, ⟨F10, S25, a66, cap66, a67, cap67, (hE10.up (by omega)), hS32, ho75, rfl, h127, hl23, h128, h129, ap86, ap87, ap88, ap89, ap90, ap91⟩⟩
 }
 {
 replace hr := iteB_neg hr hc11
 refine wS ?_
 refine W.regionD r12 f12 rfl rfl kr kr mP ?_
 refine fR rfl U85 rfl info3 rfl (lR rfl U3 rfl ho65 rfl ?_)
 obtain ⟨hc13, hr⟩ := chk_some hr
 refine WL.addI .r rfl rfl rfl rfl rfl hc13.1 hc13.2 (mR rfl (zR rfl (fR rfl U42 rfl info31 rfl ?_)))
 obtain ⟨x23, hx26, hr⟩ := bnd_some hr
 obtain ⟨c18, ecs18, hrow18, hwin18, hb13⟩ := OD.get h105 hp41 hx26
 obtain ⟨a68, cap68, a69, cap69, a70, cap70, a71, cap71, rfl⟩ := GPeer.ofB hb13
 obtain ⟨S26, hs23, hs24, hs25, h130, h131⟩ := GPeer.open_Next h105 hp41 hx26 hrow18 hwin18 (List.forall_mem_nil _)
 refine lR rfl U31 rfl hrow18 (wG 7 hwin18) (fR rfl U85 rfl info3 rfl (lR rfl U3 rfl ho65 rfl ?_))
 obtain ⟨x24, hx27, hr⟩ := bnd_some hr
 refine GL.indexO .r rfl rfl rfl U31 info3 rfl rfl h130 rfl hx27 (fun b5 kp5 c19 ecs19 hid5 hrow19 hwin19 hR5 hup5 => ?_)
 have hcs : _ = ([iv x24] : List Value) := hR5
 subst hcs
 refine lR rfl U3 rfl hrow19 ((win_get0 hwin19 (show (0 : Nat) < 1 by decide)).trans rfl) (bR rfl rfl (wN (eT ?_)))
 refine W.condD rfl (fun hc14 => ?_) (fun hc14 => ?_)
 {
 replace hr := ite_pos hr hc14
 refine wS ?_
 refine W.regionD [0, 1, 2, 3, 4, 5, 6, 7, 8, 9, 10, 11, 12, 13, 14, 15, 16, 17, 18, 19, 20] [false, false, false, false, false, false, false, false, false, false, false, false, false, false, false, false, false, false, false, false, true] rfl rfl kr kr mP ?_
 refine mR rfl (zR rfl (fR rfl U42 rfl info31 rfl (lR rfl U31 rfl hrow18 (wG 7 hwin18) (fR rfl U85 rfl info3 rfl (lR rfl U3 rfl ho65 rfl (mR rfl (zR rfl (fR rfl U42 rfl info31 rfl ?_))))))))
 obtain ⟨S27, hs26, hs27, hs28, h132, h133⟩ := GPeer.open_Match h131 hp41 hx26 hrow18 hwin18 (List.forall_mem_cons.2 ⟨fun h => absurd (show (7 : Nat) = 8 from h.2) (by decide), List.forall_mem_nil _⟩)
 refine lR rfl U31 rfl hrow18 (wG 8 hwin18) (fR rfl U85 rfl info3 rfl (lR rfl U3 rfl ho65 rfl ?_))
 obtain ⟨x25, hx28, hr⟩ := bnd_some hr
 refine GL.indexO .r rfl rfl rfl U31 info3 rfl rfl h132 rfl hx28 (fun b6 kp6 c20 ecs20 hid6 hrow20 hwin20 hR6 hup6 => ?_)
 have hcs : _ = ([iv x25] : List Value) := hR6
 subst hcs
 refine lR rfl U3 rfl hrow20 ((win_get0 hwin20 (show (0 : Nat) < 1 by decide)).trans rfl) ?_
 obtain ⟨hc15, hr⟩ := chk_some hr
 refine WL.addI .r rfl rfl rfl rfl rfl hc15.1 hc15.2 (fR rfl U85 rfl info3 rfl (lR rfl U3 rfl ho65 rfl ?_))
 obtain ⟨hc16, hr⟩ := chk_some hr
 refine WL.addI .r rfl rfl rfl rfl rfl hc16.1 hc16.2 (WL.max2 .r rfl rfl rfl rfl rfl ?_)
 obtain ⟨x26, hx29, hr⟩ := bnd_some hr
 refine GL.indexO .r rfl rfl rfl U31 info3 rfl rfl h130 rfl hx29 (fun b7 kp7 c21 ecs21 hid7 hrow21 hwin21 hR7 hup7 => ?_)
 have hcs : _ = ([iv x26] : List Value) := hR7
 subst hcs
 refine GL.store hS27 .w (vc := [iv (if (x18.A + 1) > (x25 + 1) then (x18.A + 1) else (x25 + 1))]) rfl rfl rfl info3 rfl rfl rfl rfl hrow21 (OW.fnone h130 hid7) (wF hwin21) (OW.id_lt h130 hid7).1 (one1 rfl) rfl (fun H33 hS33 ho76 hk20 => ?_)
 have h134 := hup7 0 [iv (if (x18.A + 1) > (x25 + 1) then (x18.A + 1) else (x25 + 1))] ((if (x18.A + 1) > (x25 + 1) then (x18.A + 1) else (x25 + 1)) : Int) H33 (bl rfl) rfl ho76
 have ho77 := (hk20 n0 (fun hj => (Ap.sub0 hs24 ap73) (by rw [hj]; exact hid7))).trans ho65
 have ho78 := (hk20 p0 (fun hj => (Ap.sub0 hs24 ap74) (by rw [hj]; exact hid7))).trans ho66
 have h135 := OD.keep h133 (Nat.le_refl _) (fun i hi => hk20 i (fun hj => (Ap.sub hs26 (Ap.sym hs25)) i hi (by rw [hj]; exact hid7)))
 have h136 := OW.keep h106 (Nat.le_refl _) (fun i hi => hk20 i (fun hj => (Ap.sym (Ap.sub hs24 (Ap.sym ap77))) i hi (by rw [hj]; exact hid7)))
 have h137 := OW.keep h107 (Nat.le_refl _) (fun i hi => hk20 i (fun hj => (Ap.sym (Ap.sub hs24 (Ap.sym ap80))) i hi (by rw [hj]; exact hid7)))
 have h138 := OW.keep h132 (Nat.le_refl _) (fun i hi => hk20 i (fun hj => (Ap.sub hs27 (Ap.sym hs25)) i hi (by rw [hj]; exact hid7)))
 have hl24 : x23.Next.length = (setI x23.Next x18.From (if (x18.A + 1) > (x25 + 1) then (x18.A + 1) else (x25 + 1))).length := (setI_length _ _ _).symm
 refine wN (eT (wR (mN rfl (fN rfl U85 rfl info3 rfl (lN rfl U3 rfl ho77 rfl (fN rfl U85 rfl info3 rfl (lN rfl U3 rfl ho77 rfl ?_)))))))
 obtain ⟨S28, hs29, h139⟩ := GPeer.close0_Match h135 hx26 h138
 obtain ⟨S29, hs30, h140⟩ := GPeer.close_Next h139 hx26 hl24 h134
 have ap92 : ¬ S29 n0 := Ap.or0 hs30 (Ap.or0 hs29 (Ap.sub0 hs26 (Ap.sub0 hs23 ap73)) (Ap.sub0 hs27 (Ap.sub0 hs23 ap73))) (Ap.sub0 hs24 ap73)
 have ap93 : ¬ S29 p0 := Ap.or0 hs30 (Ap.or0 hs29 (Ap.sub0 hs26 (Ap.sub0 hs23 ap74)) (Ap.sub0 hs27 (Ap.sub0 hs23 ap74))) (Ap.sub0 hs24 ap74)
 have ap94 : Sn S29 (.slice a7 x1.Net.length cap8) := Ap.or hs30 (Ap.or hs29 (Ap.sub hs26 (Ap.sub hs23 (Ap.sym ap77))) (Ap.sub hs27 (Ap.sub hs23 (Ap.sym ap77)))) (Ap.sub hs24 (Ap.sym ap77))
 have ap95 : Sn S29 (.slice a11 x1.Chosen.length cap12) := Ap.or hs30 (Ap.or hs29 (Ap.sub hs26 (Ap.sub hs23 (Ap.sym ap80))) (Ap.sub hs27 (Ap.sub hs23 (Ap.sym ap80)))) (Ap.sub hs24 (Ap.sym ap80))
 have hl25 : x1.Peers.length = (setI xs0 x18.To (⟨x23.Up, x23.Term, x23.Vote, x23.Commit, x23.Role, x23.Log, x23.Votes, (setI x23.Next x18.From (if (x18.A + 1) > (x25 + 1) then (x18.A + 1) else (x25 + 1))), x23.Match⟩ : GPeer)).length := hl7.trans (by rw [setI_length])
 have hx30 := ixS h140 hx26
 obtain ⟨x27, hx31, hr⟩ := bnd_some hr
 refine GL.callIO g .nil (fun i => (F9 i).isSome = true ∨ i = p0 ∨ S29 i ∨ idOf (.slice a7 x1.Net.length cap8) = some i ∨ idOf (.slice a11 x1.Chosen.length cap12) = some i) rfl rfl rfl rfl rfl rfl Try.func89 rfl rfl (Nat.le_refl _) hS33.lo (f_impl_Cluster_records_k (x1 := (⟨(setI xs0 x18.To (⟨x23.Up, x23.Term, x23.Vote, x23.Commit, x23.Role, x23.Log, x23.Votes, (setI x23.Next x18.From (if (x18.A + 1) > (x25 + 1) then (x18.A + 1) else (x25 + 1))), x23.Match⟩ : GPeer)), x1.Net, x1.Chosen, x1.Conflict⟩ : GCluster)) g (St.vis hS33 (fun i hi => .inl hi)) (by rw [← hl25]; exact vis_get ho78 (.inr (.inl rfl))) fo13 lo17 (OD.head hl25 (OD.vis h140 (fun i hi => (.inr (.inr (.inl hi)))))) (OW.vis h136 (fun i hi => (.inr (.inr (.inr (.inl hi)))))) (OW.vis h137 (fun i hi => (.inr (.inr (.inr (.inr (hi))))))) ap93 ap76 (Ap.sym ap94) ap79 (Ap.sym ap95) ap81 hx31) (fun v n12 H34 H35 hn5 hp5 hle4 hnew4 hk21 hd4 => ?_)
 obtain ⟨F11, S30, a72, cap72, a73, cap73, hX4, hS34, ho79, rfl, h141, hl26, h142, h143, ap96, ap97, ap98, ap99, ap100, ap101⟩ := hp5
 have hS35 : St lo n12 H34 _ := sA hS34 hnew4 hle4
 have ho80 := (hk21 _ (by have := lt20; omega) (oE5 (nF fo12) (by omega) ap92 ap75 ap78)).trans ho77
 have hE11 := (hE9.up (n' := n10) (by omega)).trans hX4
 have ho81 := hle4 _ _ ho79
 have h144 := OD.le h141 hle4
 have hl27 : x1.Peers.length = x27.Peers.length := hl25.trans hl26
 rw [← hl25] at h144
 have h145 := OW.le h142 hle4
 have h146 := OW.le h143 hle4
 rw [← hl25] at ho81
 have hlon12 := hS35.lo
 have lt24 := hS35.lt ho80
 have lt25 := hS35.lt ho81
 refine wN (eB ?_)
 obtain rfl := Option.some.inj hr
 exact ⟨.inl rfl, _, .nil, ⟨F11, S30, a72, cap72, a73, cap73, (hE11.up (by omega)), hS35, ho81, rfl, h144, hl27, h145, h146, ap96, ap97, ap98, ap99, ap100, ap101⟩⟩
 }
 {
 replace hr := ite_neg hr hc14
 refine wK (eB ?_)
 obtain ⟨S31, hs31, h147⟩ := GPeer.close0_Next h131 hx26 h130
 obtain rfl := Option.some.inj hr
 exact ⟨.inl rfl, _, .nil, ⟨F9, S31, a7, cap8, a11, cap12, (hE9.up (by omega)), hS27, ho66, rfl, h147, hl7, h106, h107, (Ap.or0 hs31 (Ap.sub0 hs23 ap74) (Ap.sub0 hs24 ap74)), ap76, ap79, (Ap.sym (Ap.or hs31 (Ap.sub hs23 (Ap.sym ap77)) (Ap.sub hs24 (Ap.sym ap77)))), (Ap.sym (Ap.or hs31 (Ap.sub hs23 (Ap.sym ap80)) (Ap.sub hs24 (Ap.sym ap80)))), ap81⟩⟩
 }
 }
 }
 }
 }
 {
 replace hr := ite_neg hr hc9
 refine wK (eB ?_)
 obtain rfl := Option.some.inj hr
 exact ⟨.inl rfl, _, .nil, ⟨F2, S0, a7, cap8, a11, cap12, (hE2.up (by omega)), hS10, ho28, rfl, h33, hl7, h34, h38, ap10, ap12, ap15, ap13, ap16, ap17⟩⟩
 }
 }
 }
 }
 }
 }
theorem f_impl_Cluster_tick_k {Δ : Prims} (g : Env Try.prog Δ) {lo n0 : Nat} {H0 F0 : Heap} (hS : St lo n0 H0 F0) {p0 : Nat} {x1 : GCluster} {ez0 : Nat} {a2 : Option Addr} {cap3 : Nat} {S6 : Nat → Prop} {a7 : Option Addr} {cap8 : Nat} {a11 : Option Addr} {cap12 : Nat} {x18 : Int} (ho15 : H0 p0 = some (.row ez0 [.slice a2 x1.Peers.length cap3, .slice a7 x1.Net.length cap8, .slice a11 x1.Chosen.length cap12, .bool x1.Conflict])) (fo16 : F0 p0 = none) (lo17 : lo ≤ p0) (h4 : OD lo n0 H0 F0 S6 [] (.slice a2 x1.Peers.length cap3) x1.Peers) (h9 : Ow lo n0 H0 F0 a7 cap8 x1.Net) (h13 : Ow lo n0 H0 F0 a11 cap12 x1.Chosen) (ap19 : ¬ S6 p0) (ap20 : nP (.slice a7 x1.Net.length cap8) p0) (ap21 : nS (.slice a7 x1.Net.length cap8) S6) (ap22 : nP (.slice a11 x1.Chosen.length cap12) p0) (ap23 : nS (.slice a11 x1.Chosen.length cap12) S6) (ap24 : nA (.slice a11 x1.Chosen.length cap12) (.slice a7 x1.Net.length cap8)) {res : (GCluster)} (hr : f_impl_Cluster_tick x1 x18 = some res) :
    C Try.prog Δ lo 58 [pt p0 0, iv x18] n0 H0 (fun v n H => ∃ (F : Heap) (rS2 : Nat → Prop) (ra4 : OA) (rcap5 : Nat) (ra7 : OA) (rcap8 : Nat), Ext n0 F0 n F ∧ St lo n H F ∧ H p0 = some (.row ez0 [.slice a2 x1.Peers.length cap3, .slice ra4 res.Net.length rcap5, .slice ra7 res.Chosen.length rcap8, .bool res.Conflict]) ∧ v = .tuple #[] ∧ OD lo n H F rS2 [] (.slice a2 x1.Peers.length cap3) res.Peers ∧ x1.Peers.length = res.Peers.length ∧ Ow lo n H F ra4 rcap5 res.Net ∧ Ow lo n H F ra7 rcap8 res.Chosen ∧ ¬ rS2 p0 ∧ nP (.slice ra4 res.Net.length rcap5) p0 ∧ nP (.slice ra7 res.Chosen.length rcap8) p0 ∧ nS (.slice ra4 res.Net.length rcap5) rS2 ∧ nS (.slice ra7 res.Chosen.length rcap8) rS2 ∧ nA (.slice ra7 res.Chosen.length rcap8) (.slice ra4 res.Net.length rcap5)) := by
 refine C.body Try.func58 rfl rfl ?_
 unfold f_impl_Cluster_tick at hr
 have hS0 : St lo n0 H0 F0 := hS
 have hE0 := Ext.refl n0 F0
 have hlo0 := hS0.lo
 have lt0 := hS0.lt ho15
 refine wS (wR ?_)
 refine GL.box hS0 .nil (vc := [pt p0 0]) rfl rfl rfl rfl rfl bxP (fun H25 hS26 ho27 hk28 => ?_)
 have fo29 := hS0.fnone (Nat.le_refl _)
 have ho31 := oA hk28 ho15 lt0
 have h32 := OD.keep (n' := (n0 + 1)) h4 (by omega) (fun i hi => hk28 i (OD.id_lt h4 hi).2)
 have h33 := kA (n' := (n0 + 1)) h9 hk28
 have h34 := kA (n' := (n0 + 1)) h13 hk28
 have hlon01 := hS26.lo
 have lt30 : n0 < (n0 + 1) := by omega
 refine GL.box hS26 .nil (vc := [iv x18]) rfl rfl rfl rfl rfl bxP (fun H35 hS36 ho37 hk38 => ?_)
 have fo39 := hS26.fnone (Nat.le_refl _)
 have ho41 := oA hk38 ho31 lt0
 have ho42 := oA hk38 ho27 lt30
 have h43 := OD.keep (n' := ((n0 + 1) + 1)) h32 (by omega) (fun i hi => hk38 i (OD.id_lt h32 hi).2)
 have h44 := kA (n' := ((n0 + 1) + 1)) h33 hk38
 have h45 := kA (n' := ((n0 + 1) + 1)) h34 hk38
 have hlon0 := hS36.lo
 have lt40 : (n0 + 1) < ((n0 + 1) + 1) := by omega
 refine wN (eT (wS ?_))
 refine W.regionD [0, 1, 2, 3, 4, 5, 6, 7] [false, false, false, false, false, false, false, true] rfl rfl kr kr mP ?_
 refine lR rfl U60 rfl ho42 rfl (zR rfl (fR rfl U30 rfl info26 rfl (lR rfl U26 rfl ho41 rfl (lR rfl U3 rfl ho37 rfl ?_))))
 obtain ⟨x46, hx46, hr⟩ := bnd_some hr
 refine GL.indexD .r rfl rfl rfl U26 info42 rfl rfl h43 rfl hx46 (fun b47 el48 hp49 => ?_)
 refine GL.alloc hS36 .r (zc := [.pointer none]) rfl rfl rfl info88 rfl rfl rfl (fun H50 hS51 ho52 hk53 => ?_)
 have fo54 := hS36.fnone (Nat.le_refl _)
 have ho56 := oA hk53 ho41 lt0
 have ho57 := oA hk53 ho42 lt30
 have ho58 := oA hk53 ho37 lt40
 have h59 := OD.keep (n' := (((n0 + 1) + 1) + 1)) h43 (by omega) (fun i hi => hk53 i (OD.id_lt h43 hi).2)
 have h60 := kA (n' := (((n0 + 1) + 1) + 1)) h44 hk53
 have h61 := kA (n' := (((n0 + 1) + 1) + 1)) h45 hk53
 have hlon1 := hS51.lo
 have lt55 : ((n0 + 1) + 1) < (((n0 + 1) + 1) + 1) := by omega
 refine GL.store hS51 .w (vc := [pt b47 el48]) (c' := [pt b47 el48]) rfl rfl rfl info88 rfl rfl rfl rfl ho52 fo54 (bl rfl) (by omega) (one1 rfl) rfl (fun H62 hS63 ho64 hk65 => ?_)
 have ho66 := (hk65 _ (by omega)).trans ho56
 have ho67 := (hk65 _ (by omega)).trans ho57
 have ho68 := (hk65 _ (by omega)).trans ho58
 have h69 := OD.keep h59 (Nat.le_refl _) (fun i hi => hk65 i (fun hj => (aD h43) (hj ▸ hi)))
 have h70 := kB h60 hk65 (aW h44)
 have h71 := kB h61 hk65 (aW h45)
 refine wN (eT (W.block (wS (wR (lN rfl U88 rfl ho64 rfl (zN rfl (fN rfl U42 rfl info3 rfl ?_)))))))
 obtain ⟨c72, ecs73, hrow74, hwin75, hb76⟩ := OD.get h69 hp49 hx46
 obtain ⟨a77, cap78, a79, cap80, a81, cap82, a83, cap84, rfl⟩ := GPeer.ofB hb76
 refine lN rfl U3 rfl hrow74 (wG 4 hwin75) (bN rfl rfl (aN rfl (wN (eT ?_))))
 refine W.condD rfl (fun hc85 => ?_) (fun hc85 => ?_)
 {
 replace hr := ite_pos hr hc85
 refine wR (lN rfl U60 rfl ho67 rfl (lN rfl U3 rfl ho68 rfl (WL.mkFunc .nil rfl rfl rfl rfl rfl ?_)))
 refine GL.callIn (args := [pt p0 0, iv x18, .func (.func 91) [].toArray [pt n0 0, pt (n0 + 1) 0].toArray]) .nil lo rfl rfl rfl rfl rfl rfl Try.func90 rfl rfl (Nat.le_refl _) hS63.lo ?_
 refine C.body Try.func90 rfl rfl ?_
 refine wS (wR (mN rfl (zN rfl (fN rfl U30 rfl info26 rfl (lN rfl U26 rfl ho66 rfl (WL.len .nil rfl rfl rfl U26 rfl (mN rfl (wN (eT (W.block ?_))))))))))
 refine W.loopF (fun k0 fr n H => ∃ (x0 : Int) (xs0 : (List GPeer)) (S0 : Nat → Prop) (a0 : OA) (cap0 : Nat) (xs1 : (List GMsg)) (a1 : OA) (cap1 : Nat) (xs2 : (List GRec)) (x2 : Bool) (F : Heap), fr = [(1, iv x18), (2, .func (.func 91) [].toArray [pt n0 0, pt (n0 + 1) 0].toArray), (11, iv (x1.Peers.length : Int)), (12, iv x0)] ∧ St lo n H F ∧ Ext n0 F0 n F ∧ H (n0 + 1) = some (.row 1 [iv x18]) ∧ F (n0 + 1) = none ∧ H n0 = some (.row 1 [pt p0 0]) ∧ F n0 = none ∧ H p0 = some (.row ez0 [.slice a2 x1.Peers.length cap3, .slice a0 xs1.length cap0, .slice a1 xs2.length cap1, .bool x2]) ∧ F p0 = none ∧ OD lo n H F S0 [] (.slice a2 x1.Peers.length cap3) xs0 ∧ x1.Peers.length = xs0.length ∧ Ow lo n H F a0 cap0 xs1 ∧ Ow lo n H F a1 cap1 xs2 ∧ ¬ S0 (n0 + 1) ∧ ¬ S0 n0 ∧ ¬ S0 p0 ∧ nP (.slice a0 xs1.length cap0) (n0 + 1) ∧ nP (.slice a0 xs1.length cap0) n0 ∧ nP (.slice a0 xs1.length cap0) p0 ∧ nS (.slice a0 xs1.length cap0) S0 ∧ nP (.slice a1 xs2.length cap1) (n0 + 1) ∧ nP (.slice a1 xs2.length cap1) n0 ∧ nP (.slice a1 xs2.length cap1) p0 ∧ nS (.slice a1 xs2.length cap1) S0 ∧ nA (.slice a1 xs2.length cap1) (.slice a0 xs1.length cap0) ∧ f_impl_Cluster_tick_L0 x1 x18 k0 x0 xs0 xs1 xs2 x2 = some res) BIG (fr0 := [(1, iv x18), (2, .func (.func 91) [].toArray [pt n0 0, pt (n0 + 1) 0].toArray), (11, iv (x1.Peers.length : Int)), (12, iv 0)]) (fl4) ?_ ?_ ?_
 {
 exact ⟨0, x1.Peers, S6, a7, cap8, x1.Net, a11, cap12, x1.Chosen, x1.Conflict, F0, rfl, hS63, (hE0.up (by omega)), ho68, fo39, ho67, fo29, ho66, fo16, h69, rfl, h70, h71, (aD h32), (aD h4), ap19, (aW h33), (aW h9), ap20, ap21, (aW h34), (aW h13), ap22, ap23, ap24, hr⟩
 }
 {
 intro fr n H hI
 obtain ⟨x0, xs0, S0, a0, cap0, xs1, a1, cap1, xs2, x2, F1, hfr, hS1, hE1, ho0, fo0, ho1, fo1, ho2, fo2, h0, hl0, h1, h2, ap0, ap1, ap2, ap3, ap4, ap5, ap6, ap7, ap8, ap9, ap10, ap11, hr⟩ := hI
 rw [f_impl_Cluster_tick_L0] at hr
 cases hr
 }
 {
 intro k0 _ n1 H1 hI
 obtain ⟨x0, xs0, S0, a0, cap0, xs1, a1, cap1, xs2, x2, F1, rfl, hS1, hE1, ho0, fo0, ho1, fo1, ho2, fo2, h0, hl0, h1, h2, ap0, ap1, ap2, ap3, ap4, ap5, ap6, ap7, ap8, ap9, ap10, ap11, hr⟩ := hI
 have lt1 := hS1.lt ho0
 have lt2 := hS1.lt ho1
 have lt3 := hS1.lt ho2
 have hlen0 := hE1.le
 have hlon2 := hS1.lo
 rw [f_impl_Cluster_tick_L0] at hr
 refine wS (wR (bN rfl rfl (wN (eT (wS ?_)))))
 refine W.condD rfl (fun hc0 => ?_) (fun hc0 => ?_)
 {
 replace hr := ite_pos hr hc0
 refine wK (eT (wS ?_))
 refine W.cut (fun fr n H => ∃ (xs3 : (List GPeer)) (S1 : Nat → Prop) (a3 : OA) (cap2 : Nat) (xs4 : (List GMsg)) (a4 : OA) (cap4 : Nat) (xs5 : (List GRec)) (x3 : Bool) (F : Heap), fr = [(1, iv x18), (2, .func (.func 91) [].toArray [pt n0 0, pt (n0 + 1) 0].toArray), (11, iv (x1.Peers.length : Int)), (12, iv x0)] ∧ St lo n H F ∧ Ext n0 F0 n F ∧ H (n0 + 1) = some (.row 1 [iv x18]) ∧ F (n0 + 1) = none ∧ H n0 = some (.row 1 [pt p0 0]) ∧ F n0 = none ∧ H p0 = some (.row ez0 [.slice a2 x1.Peers.length cap3, .slice a3 xs4.length cap2, .slice a4 xs5.length cap4, .bool x3]) ∧ F p0 = none ∧ OD lo n H F S1 [] (.slice a2 x1.Peers.length cap3) xs3 ∧ x1.Peers.length = xs3.length ∧ Ow lo n H F a3 cap2 xs4 ∧ Ow lo n H F a4 cap4 xs5 ∧ ¬ S1 (n0 + 1) ∧ ¬ S1 n0 ∧ ¬ S1 p0 ∧ nP (.slice a3 xs4.length cap2) (n0 + 1) ∧ nP (.slice a3 xs4.length cap2) n0 ∧ nP (.slice a3 xs4.length cap2) p0 ∧ nS (.slice a3 xs4.length cap2) S1 ∧ nP (.slice a4 xs5.length cap4) (n0 + 1) ∧ nP (.slice a4 xs5.length cap4) n0 ∧ nP (.slice a4 xs5.length cap4) p0 ∧ nS (.slice a4 xs5.length cap4) S1 ∧ nA (.slice a4 xs5.length cap4) (.slice a3 xs4.length cap2) ∧ f_impl_Cluster_tick_J1 x0 (f_impl_Cluster_tick_L0 x1 x18 k0) xs3 xs4 xs5 x3 = some res) ?_ ?_
 {
 refine W.block (wS (wR (mN rfl (aN rfl (wN (eT (wS (wR (mN rfl (mN rfl (bN rfl rfl ?_)))))))))))
 refine wN (eT ?_)
 refine W.condN rfl (fun hc1 => ?_) (fun hc1 => ?_)
 {
 replace hr := ite_neg hr hc1
 refine wR (mN rfl (mN rfl ?_))
 refine GL.callIn (args := [iv x0, pt n0 0, pt (n0 + 1) 0]) .nil lo rfl rfl rfl rfl rfl rfl Try.func91 rfl rfl (Nat.le_refl _) hS1.lo ?_
 refine C.body Try.func91 rfl rfl ?_
 refine wR (lN rfl U60 rfl ho1 rfl (lN rfl U3 rfl ho0 rfl (mN rfl ?_)))
 obtain ⟨x4, hx0, hr⟩ := bnd_some hr
 refine GL.callIO g .nil (fun i => (F1 i).isSome = true ∨ i = p0 ∨ S0 i ∨ idOf (.slice a0 xs1.length cap0) = some i ∨ idOf (.slice a1 xs2.length cap1) = some i) rfl rfl rfl rfl rfl rfl Try.func89 rfl rfl (Nat.le_refl _) hS1.lo (f_impl_Cluster_records_k (x1 := (⟨xs0, xs1, xs2, x2⟩ : GCluster)) g (St.vis hS1 (fun i hi => .inl hi)) (by rw [← hl0]; exact vis_get ho2 (.inr (.inl rfl))) fo2 lo17 (OD.head hl0 (OD.vis h0 (fun i hi => (.inr (.inr (.inl hi)))))) (OW.vis h1 (fun i hi => (.inr (.inr (.inr (.inl hi)))))) (OW.vis h2 (fun i hi => (.inr (.inr (.inr (.inr (hi))))))) ap2 ap5 ap6 ap9 ap10 ap11 hx0) (fun v n2 H3 H4 hn0 hp0 hle0 hnew0 hk0 hd0 => ?_)
 obtain ⟨F2, S2, a5, cap5, a6, cap6, hX0, hS2, ho3, rfl, h3, hl1, h5, h6, ap12, ap13, ap14, ap15, ap16, ap17⟩ := hp0
 have hS3 : St lo n2 H3 _ := sA hS2 hnew0 hle0
 have ho4 := (hk0 _ (by have := lt1; omega) (oE5 (nF fo0) (by omega) ap0 ap3 ap7)).trans ho0
 have ho5 := (hk0 _ (by have := lt2; omega) (oE5 (nF fo1) (by omega) ap1 ap4 ap8)).trans ho1
 have fo3 := fA hX0 lt1 fo0
 have fo4 := fA hX0 lt2 fo1
 have fo5 := fA hX0 lt3 fo2
 have hE2 := (hE1.up (n' := n1) (by omega)).trans hX0
 have ho6 := hle0 _ _ ho3
 have h7 := OD.le h3 hle0
 have hl2 : x1.Peers.length = x4.Peers.length := hl0.trans hl1
 rw [← hl0] at h7
 have h8 := OW.le h5 hle0
 have h10 := OW.le h6 hle0
 rw [← hl0] at ho6
 have ap18 : ¬ S2 (n0 + 1) := fun hj => (OD.after h3 hd0 hj).elim (fun h => by have := lt1; omega) (oE5 (nF fo0) (by omega) ap0 ap3 ap7)
 have ap25 : ¬ S2 n0 := fun hj => (OD.after h3 hd0 hj).elim (fun h => by have := lt2; omega) (oE5 (nF fo1) (by omega) ap1 ap4 ap8)
 have qq0 := noS (b := (n0 + 1)) hd0 (oE5 (nF fo0) (by omega) ap0 ap3 ap7)
 have ap26 := nAf h5 hd0 lt1 qq0
 have qq1 := noS (b := n0) hd0 (oE5 (nF fo1) (by omega) ap1 ap4 ap8)
 have ap27 := nAf h5 hd0 lt2 qq1
 have ap28 := nAf h6 hd0 lt1 qq0
 have ap29 := nAf h6 hd0 lt2 qq1
 have hlon3 := hS3.lo
 have lt4 := hS3.lt ho4
 have lt5 := hS3.lt ho5
 have lt6 := hS3.lt ho6
 refine wN ?_
 refine ⟨.inl rfl, _, .nil, ?_⟩
 refine wN (eB (eT ?_))
 exact ⟨[(1, iv x18), (2, .func (.func 91) [].toArray [pt n0 0, pt (n0 + 1) 0].toArray), (11, iv (x1.Peers.length : Int)), (12, iv x0)], (fl4), x4.Peers, S2, a5, cap5, x4.Net, a6, cap6, x4.Chosen, x4.Conflict, F2, rfl, hS3, hE2, ho4, fo3, ho5, fo4, ho6, fo5, h7, hl2, h8, h10, ap18, ap25, ap12, ap26, ap27, ap13, ap15, ap28, ap29, ap14, ap16, ap17, hr⟩
 }
 {
 replace hr := ite_pos hr hc1
 refine wK (eB (eT ?_))
 exact ⟨[(1, iv x18), (2, .func (.func 91) [].toArray [pt n0 0, pt (n0 + 1) 0].toArray), (11, iv (x1.Peers.length : Int)), (12, iv x0)], (fl4), xs0, S0, a0, cap0, xs1, a1, cap1, xs2, x2, F1, rfl, hS1, hE1, ho0, fo0, ho1, fo1, ho2, fo2, h0, hl0, h1, h2, ap0, ap1, ap2, ap3, ap4, ap5, ap6, ap7, ap8, ap9, ap10, ap11, hr⟩
 }
 }
 {
 intro _ n3 H5 hI
 obtain ⟨xs3, S1, a3, cap2, xs4, a4, cap4, xs5, x3, F3, rfl, hS4, hE3, ho7, fo6, ho8, fo7, ho9, fo8, h11, hl3, h12, h14, ap30, ap31, ap32, ap33, ap34, ap35, ap36, ap37, ap38, ap39, ap40, ap41, hr⟩ := hI
 have lt7 := hS4.lt ho7
 have lt8 := hS4.lt ho8
 have lt9 := hS4.lt ho9
 have hlen1 := hE3.le
 have hlon4 := hS4.lo
 unfold f_impl_Cluster_tick_J1 at hr
 refine wR ?_
 obtain ⟨hc2, hr⟩ := chk_some hr
 refine WL.addI .nil rfl rfl rfl rfl rfl hc2.1 hc2.2 (mN rfl (wN (eT ?_)))
 exact ⟨[(1, iv x18), (2, .func (.func 91) [].toArray [pt n0 0, pt (n0 + 1) 0].toArray), (11, iv (x1.Peers.length : Int)), (12, iv (x0 + 1))], (fl4), (x0 + 1), xs3, S1, a3, cap2, xs4, a4, cap4, xs5, x3, F3, rfl, hS4, hE3, ho7, fo6, ho8, fo7, ho9, fo8, h11, hl3, h12, h14, ap30, ap31, ap32, ap33, ap34, ap35, ap36, ap37, ap38, ap39, ap40, ap41, hr⟩
 }
 }
 {
 replace hr := ite_neg hr hc0
 refine W.exit (eX (eX (eH ?_)))
 refine ⟨.inl rfl, _, .nil, ?_⟩
 refine wN (eB ?_)
 obtain rfl := Option.some.inj hr
 exact ⟨.inl rfl, _, .nil, ⟨F1, S0, a0, cap0, a1, cap1, (hE1.up (by omega)), hS1, ho2, rfl, h0, hl0, h1, h2, ap2, ap5, ap9, ap6, ap10, ap11⟩⟩
 }
 }
 }
 {
 replace hr := ite_neg hr hc85
 refine wS (wR (lN rfl U88 rfl ho64 rfl (zN rfl (fN rfl U42 rfl info3 rfl (lN rfl U3 rfl hrow74 (wG 1 hwin75) (bN rfl rfl (aN rfl (wN (eT ?_)))))))))
 refine W.condD rfl (fun hc3 => ?_) (fun hc3 => ?_)
 {
 replace hr := ite_pos hr hc3
 refine wS (wR (lN rfl U88 rfl ho64 rfl ?_))
 refine GL.callIn (args := [pt b47 el48]) .nil lo rfl rfl rfl rfl rfl rfl Try.func92 rfl rfl (Nat.le_refl _) hS63.lo ?_
 refine C.body Try.func92 rfl rfl ?_
 refine wR (mN rfl (mN rfl (mN rfl (mN rfl (zN rfl (fN rfl U42 rfl info3 rfl ?_))))))
 refine GL.store hS63 .nil (vc := [iv 0]) rfl rfl rfl info3 rfl rfl rfl rfl hrow74 (OD.fnone h69 (OD.bS h69 hp49)) (win_fit2 hwin75 (bl rfl) rfl (bl rfl)) (by have := (OD.id_lt h69 (OD.bS h69 hp49)).1; omega) (one1 rfl) rfl (fun H6 hS5 ho10 hk1 => ?_)
 have ho11 := (hk1 p0 (fun hj => ap19 (by rw [hj]; exact (OD.bS h69 hp49)))).trans ho66
 have ho12 := (hk1 n0 (fun hj => (aD h4) (by rw [hj]; exact (OD.bS h69 hp49)))).trans ho67
 have ho13 := (hk1 (n0 + 1) (fun hj => (aD h32) (by rw [hj]; exact (OD.bS h69 hp49)))).trans ho68
 have ho14 := (hk1 ((n0 + 1) + 1) (fun hj => (aD h43) (by rw [hj]; exact (OD.bS h69 hp49)))).trans ho64
 have h15 := kC h70 hk1 ap21 (OD.bS h69 hp49)
 have h16 := kC h71 hk1 ap23 (OD.bS h69 hp49)
 have h17 := GPeer.put_Role h69 hp49 hx46 hrow74 hwin75 (w := 0) ho10 hk1
 have hl4 := lnS h17
 have hx1 := ixS h17 hx46
 refine zN rfl (fN rfl U42 rfl info40 rfl ?_)
 obtain ⟨c0, ecs0, hrow0, hwin0, hb0⟩ := OD.get h17 hp49 hx1
 obtain ⟨a8, cap7, a9, cap9, a10, cap10, a12, cap11, rfl⟩ := GPeer.ofB hb0
 refine GL.store hS5 .nil (vc := [.slice none 0 0]) rfl rfl rfl info40 rfl rfl rfl rfl hrow0 (OD.fnone h17 (OD.bS h17 hp49)) (win_fit2 hwin0 (bl rfl) rfl (bl rfl)) (by have := (OD.id_lt h17 (OD.bS h17 hp49)).1; omega) (one1 rfl) rfl (fun H7 hS6 ho16 hk2 => ?_)
 have ho17 := (hk2 p0 (fun hj => ap19 (by rw [hj]; exact (OD.bS h17 hp49)))).trans ho11
 have ho18 := (hk2 n0 (fun hj => (aD h4) (by rw [hj]; exact (OD.bS h17 hp49)))).trans ho12
 have ho19 := (hk2 (n0 + 1) (fun hj => (aD h32) (by rw [hj]; exact (OD.bS h17 hp49)))).trans ho13
 have ho20 := (hk2 ((n0 + 1) + 1) (fun hj => (aD h43) (by rw [hj]; exact (OD.bS h17 hp49)))).trans ho14
 have h18 := kC h15 hk2 ap21 (OD.bS h17 hp49)
 have h19 := kC h16 hk2 ap23 (OD.bS h17 hp49)
 have h20 := GPeer.nil_Votes h17 hp49 hx1 hrow0 hwin0 z00 z00 ho16 hk2
 rw [setI_setI] at h20
 have hl5 : x1.Peers.length = (setI x1.Peers x18 (⟨x46.Up, x46.Term, x46.Vote, x46.Commit, 0, x46.Log, [], x46.Next, x46.Match⟩ : GPeer)).length := hl4.trans (by rw [setI_length, setI_length])
 have hx2 := idx_setI_same (y := (⟨x46.Up, x46.Term, x46.Vote, x46.Commit, 0, x46.Log, [], x46.Next, x46.Match⟩ : GPeer)) hx46
 refine zN rfl (fN rfl U42 rfl info31 rfl ?_)
 obtain ⟨c1, ecs1, hrow1, hwin1, hb1⟩ := OD.get h20 hp49 hx2
 obtain ⟨a13, cap13, a14, cap14, a15, cap15, a16, cap16, rfl⟩ := GPeer.ofB hb1
 refine GL.store hS6 .nil (vc := [.slice none 0 0]) rfl rfl rfl info31 rfl rfl rfl rfl hrow1 (OD.fnone h20 (OD.bS h20 hp49)) (win_fit2 hwin1 (bl rfl) rfl (bl rfl)) (by have := (OD.id_lt h20 (OD.bS h20 hp49)).1; omega) (one1 rfl) rfl (fun H8 hS7 ho21 hk3 => ?_)
 have ho22 := (hk3 p0 (fun hj => ap19 (by rw [hj]; exact (OD.bS h20 hp49)))).trans ho17
 have ho23 := (hk3 n0 (fun hj => (aD h4) (by rw [hj]; exact (OD.bS h20 hp49)))).trans ho18
 have ho24 := (hk3 (n0 + 1) (fun hj => (aD h32) (by rw [hj]; exact (OD.bS h20 hp49)))).trans ho19
 have ho25 := (hk3 ((n0 + 1) + 1) (fun hj => (aD h43) (by rw [hj]; exact (OD.bS h20 hp49)))).trans ho20
 have h21 := kC h18 hk3 ap21 (OD.bS h20 hp49)
 have h22 := kC h19 hk3 ap23 (OD.bS h20 hp49)
 have h23 := GPeer.nil_Next h20 hp49 hx2 hrow1 hwin1 z00 z00 ho21 hk3
 rw [setI_setI] at h23
 have hl6 : x1.Peers.length = (setI x1.Peers x18 (⟨x46.Up, x46.Term, x46.Vote, x46.Commit, 0, x46.Log, [], [], x46.Match⟩ : GPeer)).length := hl5.trans (by rw [setI_length, setI_length])
 have hx3 := idx_setI_same (y := (⟨x46.Up, x46.Term, x46.Vote, x46.Commit, 0, x46.Log, [], [], x46.Match⟩ : GPeer)) hx46
 refine zN rfl (fN rfl U42 rfl info31 rfl ?_)
 obtain ⟨c2, ecs2, hrow2, hwin2, hb2⟩ := OD.get h23 hp49 hx3
 obtain ⟨a17, cap17, a18, cap18, a19, cap19, a20, cap20, rfl⟩ := GPeer.ofB hb2
 refine GL.store hS7 .nil (vc := [.slice none 0 0]) rfl rfl rfl info31 rfl rfl rfl rfl hrow2 (OD.fnone h23 (OD.bS h23 hp49)) (win_fit2 hwin2 (bl rfl) rfl (bl rfl)) (by have := (OD.id_lt h23 (OD.bS h23 hp49)).1; omega) (one1 rfl) rfl (fun H9 hS8 ho26 hk4 => ?_)
 have ho28 := (hk4 p0 (fun hj => ap19 (by rw [hj]; exact (OD.bS h23 hp49)))).trans ho22
 have ho29 := (hk4 n0 (fun hj => (aD h4) (by rw [hj]; exact (OD.bS h23 hp49)))).trans ho23
 have ho30 := (hk4 (n0 + 1) (fun hj => (aD h32) (by rw [hj]; exact (OD.bS h23 hp49)))).trans ho24
 have ho32 := (hk4 ((n0 + 1) + 1) (fun hj => (aD h43) (by rw [hj]; exact (OD.bS h23 hp49)))).trans ho25
 have h24 := kC h21 hk4 ap21 (OD.bS h23 hp49)
 have h25 := kC h22 hk4 ap23 (OD.bS h23 hp49)
 have h26 := GPeer.nil_Match h23 hp49 hx3 hrow2 hwin2 z00 z00 ho26 hk4
 rw [setI_setI] at h26
 have hl7 : x1.Peers.length = (setI x1.Peers x18 (⟨x46.Up, x46.Term, x46.Vote, x46.Commit, 0, x46.Log, [], [], []⟩ : GPeer)).length := hl6.trans (by rw [setI_length, setI_length])
 have hx4 := idx_setI_same (y := (⟨x46.Up, x46.Term, x46.Vote, x46.Commit, 0, x46.Log, [], [], []⟩ : GPeer)) hx46
 refine wN ?_
 refine ⟨.inl rfl, _, .nil, ?_⟩
 refine wN (eT (wS (wR (lN rfl U88 rfl ho32 rfl (zN rfl (fN rfl U42 rfl info3 rfl ?_))))))
 obtain ⟨c3, ecs3, hrow3, hwin3, hb3⟩ := OD.get h26 hp49 hx4
 obtain ⟨a21, cap21, a22, cap22, a23, cap23, a24, cap24, rfl⟩ := GPeer.ofB hb3
 refine lN rfl U3 rfl hrow3 (wG 1 hwin3) ?_
 obtain ⟨hc4, hr⟩ := chk_some hr
 refine WL.addI .nil rfl rfl rfl rfl rfl hc4.1 hc4.2 (zN rfl (fN rfl U42 rfl info3 rfl ?_))
 refine GL.store hS8 .nil (vc := [iv (x46.Term + 1)]) rfl rfl rfl info3 rfl rfl rfl rfl hrow3 (OD.fnone h26 (OD.bS h26 hp49)) (win_fit2 hwin3 (bl rfl) rfl (bl rfl)) (by have := (OD.id_lt h26 (OD.bS h26 hp49)).1; omega) (one1 rfl) rfl (fun H10 hS9 ho33 hk5 => ?_)
 have ho34 := (hk5 p0 (fun hj => ap19 (by rw [hj]; exact (OD.bS h26 hp49)))).trans ho28
 have ho35 := (hk5 n0 (fun hj => (aD h4) (by rw [hj]; exact (OD.bS h26 hp49)))).trans ho29
 have ho36 := (hk5 (n0 + 1) (fun hj => (aD h32) (by rw [hj]; exact (OD.bS h26 hp49)))).trans ho30
 have ho38 := (hk5 ((n0 + 1) + 1) (fun hj => (aD h43) (by rw [hj]; exact (OD.bS h26 hp49)))).trans ho32
 have h27 := kC h24 hk5 ap21 (OD.bS h26 hp49)
 have h28 := kC h25 hk5 ap23 (OD.bS h26 hp49)
 have h29 := GPeer.put_Term h26 hp49 hx4 hrow3 hwin3 (w := (x46.Term + 1)) ho33 hk5
 rw [setI_setI] at h29
 have hl8 : x1.Peers.length = (setI x1.Peers x18 (⟨x46.Up, (x46.Term + 1), x46.Vote, x46.Commit, 0, x46.Log, [], [], []⟩ : GPeer)).length := hl7.trans (by rw [setI_length, setI_length])
 have hx5 := idx_setI_same (y := (⟨x46.Up, (x46.Term + 1), x46.Vote, x46.Commit, 0, x46.Log, [], [], []⟩ : GPeer)) hx46
 refine wN (eT (wS ?_))
 refine W.regionI (fun H => H ((n0 + 1) + 1) = some (.row 1 [pt b47 el48]) ∧ H (((n0 + 1) + 1) + 1) = some (.row (Rp.sz Bool) (List.replicate (x1.Peers.length : Int).toNat [.bool false]).flatten)) [0, 1, 2, 3, 4, 5, 6, 7, 8, 9, 10, 11, 12, 13, 14, 15, 16, 17, 18, 19] [(false, false, false), (false, true, false), (false, true, false), (false, false, false), (false, false, false), (false, false, false), (false, false, false), (false, false, false), (false, false, false), (false, true, false), (false, true, false), (false, false, false), (false, false, false), (true, false, false), (false, false, false), (false, false, false), (true, false, true), (false, false, false), (false, false, false), (true, false, true)] false rfl kr kr mP ?_
 refine oP (lR rfl U88 rfl ho38 rfl ?_)
 with_reducible refine WL.nil ⟨rfl, ?_⟩
 refine WLI.late (v := pt b47 el48) (fun h => by cases h) rfl rfl (fun H2 hI2 => Step.load1' rfl U88 rfl rfl (hI2.elim (fun e => by rw [e]; exact ho38) (fun h => h.1)) rfl) ?_
 refine WLI.late (v := pt b47 el48) (fun h => by cases h) rfl rfl (fun H2 hI2 => Step.load1' rfl U88 rfl rfl (hI2.elim (fun e => by rw [e]; exact ho38) (fun h => h.1)) rfl) ?_
 refine oP (lR rfl U3 rfl ho36 rfl ?_)
 with_reducible refine WL.nil ⟨rfl, ?_⟩
 refine oP ?_
 obtain ⟨hc5, hr⟩ := chk_some hr
 refine WL.addI .r rfl rfl rfl rfl rfl hc5.1 hc5.2 ?_
 with_reducible refine WL.nil ⟨rfl, ?_⟩
 refine oP (lR rfl U60 rfl ho35 rfl ?_)
 with_reducible refine WL.nil ⟨rfl, ?_⟩
 refine oP (zR rfl ?_)
 with_reducible refine WL.nil ⟨rfl, ?_⟩
 refine oP (fR rfl U30 rfl info26 rfl ?_)
 with_reducible refine WL.nil ⟨rfl, ?_⟩
 refine oP (lR rfl U26 rfl ho34 rfl ?_)
 with_reducible refine WL.nil ⟨rfl, ?_⟩
 refine WLI.late (v := iv (x1.Peers.length : Int)) (fun h => by cases h) rfl rfl (fun H2 hI2 => Step.len' rfl U26 rfl) ?_
 obtain ⟨hc6, hr⟩ := chk_some hr
 refine GL.makeLate (α := Bool) (u := false) (zc := [.bool false]) hS9 (fun h => by cases h) rfl rfl rfl U40 info4 rfl rfl rfl (by decide) rfl (by decide) rfl rfl rfl rfl hc6.1 hc6.2 (fun H h => h.2) (fun H11 hS10 hO0 hk6 hr0 => ?_)
 have ho39 := oA hk6 ho34 lt0
 have ho40 := oA hk6 ho35 lt30
 have ho43 := oA hk6 ho36 lt40
 have ho44 := oA hk6 ho38 lt55
 have h30 := OD.keep (n' := ((((n0 + 1) + 1) + 1) + 1)) h29 (by omega) (fun i hi => hk6 i (OD.id_lt h29 hi).2)
 have h31 := kA (n' := ((((n0 + 1) + 1) + 1) + 1)) h27 hk6
 have h35 := kA (n' := ((((n0 + 1) + 1) + 1) + 1)) h28 hk6
 have h36 := OW.lower (lo' := n0) hO0 (by omega)
 have hlon5 := hS10.lo
 have rw0 : RW n0 ((((n0 + 1) + 1) + 1) + 1) H11 F0 (((n0 + 1) + 1) + 1) (.row (Rp.sz Bool) (List.replicate (x1.Peers.length : Int).toNat [.bool false]).flatten) := ⟨by omega, by omega, OW.fnone h36 rfl, hr0⟩
 have ap42 : ∀ b, b = (((n0 + 1) + 1) + 1) → ¬ S6 b := fun b h => (Ap.fresh (OW.lb hO0) (OD.hb h29)) b (congrArg some h.symm)
 refine oP (zR rfl ?_)
 with_reducible refine WL.nil ⟨rfl, ?_⟩
 refine oP (fR rfl U42 rfl info3 rfl ?_)
 with_reducible refine WL.nil ⟨rfl, ?_⟩
 refine oP ?_
 obtain ⟨c4, ecs4, hrow4, hwin4, hb4⟩ := OD.get h30 hp49 hx5
 obtain ⟨a25, cap25, a26, cap26, a27, cap27, a28, cap28, rfl⟩ := GPeer.ofB hb4
 refine GL.store hS10 .w (vc := [iv (x18 + 1)]) rfl rfl rfl info3 rfl rfl rfl rfl hrow4 (OD.fnone h30 (OD.bS h30 hp49)) (win_fit2 hwin4 (bl rfl) rfl (bl rfl)) (by have := (OD.id_lt h30 (OD.bS h30 hp49)).1; omega) (one1 rfl) rfl (fun H12 hS11 ho45 hk7 => ?_)
 have ho46 := (hk7 p0 (fun hj => ap19 (by rw [hj]; exact (OD.bS h30 hp49)))).trans ho39
 have ho47 := (hk7 n0 (fun hj => (aD h4) (by rw [hj]; exact (OD.bS h30 hp49)))).trans ho40
 have ho48 := (hk7 (n0 + 1) (fun hj => (aD h32) (by rw [hj]; exact (OD.bS h30 hp49)))).trans ho43
 have ho49 := (hk7 ((n0 + 1) + 1) (fun hj => (aD h43) (by rw [hj]; exact (OD.bS h30 hp49)))).trans ho44
 have h37 := kC h31 hk7 ap21 (OD.bS h30 hp49)
 have h38 := kC h35 hk7 ap23 (OD.bS h30 hp49)
 have h39 := OW.keep h36 (Nat.le_refl _) (fun i hi => hk7 i (fun hj => (Ap.fresh (OW.lb hO0) (OD.hb h29)) i hi (by rw [hj]; exact (OD.bS h30 hp49))))
 have h40 := RW.keep rw0 (Nat.le_refl _) (fun i hi => hk7 i (fun hj => ap42 i hi (by rw [hj]; exact (OD.bS h30 hp49))))
 have h41 := GPeer.put_Vote h30 hp49 hx5 hrow4 hwin4 (w := (x18 + 1)) ho45 hk7
 rw [setI_setI] at h41
 have hl9 : x1.Peers.length = (setI x1.Peers x18 (⟨x46.Up, (x46.Term + 1), (x18 + 1), x46.Commit, 0, x46.Log, [], [], []⟩ : GPeer)).length := hl8.trans (by rw [setI_length, setI_length])
 have hx6 := idx_setI_same (y := (⟨x46.Up, (x46.Term + 1), (x18 + 1), x46.Commit, 0, x46.Log, [], [], []⟩ : GPeer)) hx46
 with_reducible refine WL.nil ⟨rfl, ?_⟩
 refine oP (zR rfl ?_)
 with_reducible refine WL.nil ⟨rfl, ?_⟩
 refine oP (fR rfl U42 rfl info3 rfl ?_)
 with_reducible refine WL.nil ⟨rfl, ?_⟩
 refine WLI.op (fun _ => ⟨ho49, h40.2.2.2⟩) ?_
 obtain ⟨c5, ecs5, hrow5, hwin5, hb5⟩ := OD.get h41 hp49 hx6
 obtain ⟨a29, cap29, a30, cap30, a31, cap31, a32, cap32, rfl⟩ := GPeer.ofB hb5
 refine GL.store hS11 .w (vc := [iv 1]) rfl rfl rfl info3 rfl rfl rfl rfl hrow5 (OD.fnone h41 (OD.bS h41 hp49)) (win_fit2 hwin5 (bl rfl) rfl (bl rfl)) (by have := (OD.id_lt h41 (OD.bS h41 hp49)).1; omega) (one1 rfl) rfl (fun H13 hS12 ho50 hk8 => ?_)
 have ho51 := (hk8 p0 (fun hj => ap19 (by rw [hj]; exact (OD.bS h41 hp49)))).trans ho46
 have ho53 := (hk8 n0 (fun hj => (aD h4) (by rw [hj]; exact (OD.bS h41 hp49)))).trans ho47
 have ho54 := (hk8 (n0 + 1) (fun hj => (aD h32) (by rw [hj]; exact (OD.bS h41 hp49)))).trans ho48
 have ho55 := (hk8 ((n0 + 1) + 1) (fun hj => (aD h43) (by rw [hj]; exact (OD.bS h41 hp49)))).trans ho49
 have h42 := kC h37 hk8 ap21 (OD.bS h41 hp49)
 have h46 := kC h38 hk8 ap23 (OD.bS h41 hp49)
 have h47 := OW.keep h39 (Nat.le_refl _) (fun i hi => hk8 i (fun hj => (Ap.fresh (OW.lb hO0) (OD.hb h29)) i hi (by rw [hj]; exact (OD.bS h41 hp49))))
 have h48 := RW.keep h40 (Nat.le_refl _) (fun i hi => hk8 i (fun hj => ap42 i hi (by rw [hj]; exact (OD.bS h41 hp49))))
 have h49 := GPeer.put_Role h41 hp49 hx6 hrow5 hwin5 (w := 1) ho50 hk8
 rw [setI_setI] at h49
 have hl10 : x1.Peers.length = (setI x1.Peers x18 (⟨x46.Up, (x46.Term + 1), (x18 + 1), x46.Commit, 1, x46.Log, [], [], []⟩ : GPeer)).length := hl9.trans (by rw [setI_length, setI_length])
 have hx7 := idx_setI_same (y := (⟨x46.Up, (x46.Term + 1), (x18 + 1), x46.Commit, 1, x46.Log, [], [], []⟩ : GPeer)) hx46
 with_reducible refine WL.nil ⟨rfl, ?_⟩
 refine oP (zR rfl ?_)
 with_reducible refine WL.nil ⟨rfl, ?_⟩
 refine oP (fR rfl U42 rfl info40 rfl ?_)
 with_reducible refine WL.nil ⟨rfl, ?_⟩
 refine WLI.op (fun _ => ⟨ho55, h48.2.2.2⟩) ?_
 obtain ⟨c6, ecs6, hrow6, hwin6, hb6⟩ := OD.get h49 hp49 hx7
 obtain ⟨a33, cap33, a34, cap34, a35, cap35, a36, cap36, rfl⟩ := GPeer.ofB hb6
 refine GL.store hS12 .w (vc := [.slice (some ⟨(((n0 + 1) + 1) + 1), 0, none⟩) (List.replicate (x1.Peers.length : Int).toNat (false : Bool)).length ((x1.Peers.length : Int).toNat)]) rfl rfl rfl info40 rfl rfl rfl rfl hrow6 (OD.fnone h49 (OD.bS h49 hp49)) (win_fit2 hwin6 (bl rfl) rfl (bl rfl)) (by have := (OD.id_lt h49 (OD.bS h49 hp49)).1; omega) (one1 rfl) rfl (fun H14 hS13 ho59 hk9 => ?_)
 have ho60 := (hk9 p0 (fun hj => ap19 (by rw [hj]; exact (OD.bS h49 hp49)))).trans ho51
 have ho61 := (hk9 n0 (fun hj => (aD h4) (by rw [hj]; exact (OD.bS h49 hp49)))).trans ho53
 have ho62 := (hk9 (n0 + 1) (fun hj => (aD h32) (by rw [hj]; exact (OD.bS h49 hp49)))).trans ho54
 have ho63 := (hk9 ((n0 + 1) + 1) (fun hj => (aD h43) (by rw [hj]; exact (OD.bS h49 hp49)))).trans ho55
 have h50 := kC h42 hk9 ap21 (OD.bS h49 hp49)
 have h51 := kC h46 hk9 ap23 (OD.bS h49 hp49)
 obtain ⟨S3, hs0, h52⟩ := GPeer.set_Votes h49 hp49 hx7 hrow6 hwin6 (OW.lower h47 (by omega)) (fun i hi => (Ap.fresh (OW.lb hO0) (OD.hb h29)) i hi) z00 z00 ho59 hk9
 rw [setI_setI] at h52
 have hl11 : x1.Peers.length = (setI x1.Peers x18 (⟨x46.Up, (x46.Term + 1), (x18 + 1), x46.Commit, 1, x46.Log, (List.replicate (x1.Peers.length : Int).toNat (false : Bool)), [], []⟩ : GPeer)).length := hl10.trans (by rw [setI_length, setI_length])
 have hx8 := idx_setI_same (y := (⟨x46.Up, (x46.Term + 1), (x18 + 1), x46.Commit, 1, x46.Log, (List.replicate (x1.Peers.length : Int).toNat (false : Bool)), [], []⟩ : GPeer)) hx46
 with_reducible refine WL.nil ⟨rfl, ?_⟩
 refine WLI.nil (fun h => by cases h) ?_
 refine eT (wS ?_)
 refine W.regionD [0, 1, 2, 3, 4, 5, 6] [false, false, false, false, false, false, true] rfl rfl kr kr mP ?_
 refine lR rfl U88 rfl ho63 rfl (zR rfl (fR rfl U42 rfl info40 rfl ?_))
 obtain ⟨c7, ecs7, hrow7, hwin7, hb7⟩ := OD.get h52 hp49 hx8
 obtain ⟨a37, cap37, a38, cap38, a39, cap39, a40, cap40, rfl⟩ := GPeer.ofB hb7
 obtain ⟨S4, hs1, hs2, hs3, h53, h54⟩ := GPeer.open_Votes h52 hp49 hx8 hrow7 hwin7 (List.forall_mem_nil _)
 refine lR rfl U40 rfl hrow7 (wG 6 hwin7) (lR rfl U3 rfl ho62 rfl ?_)
 obtain ⟨x5, hx9, hr⟩ := bnd_some hr
 refine GL.indexO .r rfl rfl rfl U40 info4 rfl rfl h53 rfl hx9 (fun b0 kp0 c8 ecs8 hid0 hrow8 hwin8 hR0 hup0 => ?_)
 have hcs : _ = ([.bool x5] : List Value) := hR0
 subst hcs
 refine GL.store hS13 .w (vc := [.bool true]) rfl rfl rfl info4 rfl rfl rfl rfl hrow8 (OW.fnone h53 hid0) (wF hwin8) (OW.id_lt h53 hid0).1 (one1 rfl) rfl (fun H15 hS14 ho65 hk10 => ?_)
 have h55 := hup0 0 [.bool true] (true : Bool) H15 (bl rfl) rfl ho65
 have ho69 := (hk10 p0 (fun hj => (Ap.sub0 hs2 (Ap.or0 hs0 ap19 (Ap.fresh0 (OW.lb hO0) (by have := lt0; omega)))) (by rw [hj]; exact hid0))).trans ho60
 have ho70 := (hk10 n0 (fun hj => (Ap.sub0 hs2 (Ap.or0 hs0 (aD h4) (Ap.fresh0 (OW.lb hO0) (by have := lt30; omega)))) (by rw [hj]; exact hid0))).trans ho61
 have ho71 := (hk10 (n0 + 1) (fun hj => (Ap.sub0 hs2 (Ap.or0 hs0 (aD h32) (Ap.fresh0 (OW.lb hO0) (by have := lt40; omega)))) (by rw [hj]; exact hid0))).trans ho62
 have ho72 := (hk10 ((n0 + 1) + 1) (fun hj => (Ap.sub0 hs2 (Ap.or0 hs0 (aD h43) (Ap.fresh0 (OW.lb hO0) (by have := lt55; omega)))) (by rw [hj]; exact hid0))).trans ho63
 have h56 := OD.keep h54 (Nat.le_refl _) (fun i hi => hk10 i (fun hj => (Ap.sym hs3) i hi (by rw [hj]; exact hid0)))
 have h57 := OW.keep h50 (Nat.le_refl _) (fun i hi => hk10 i (fun hj => (Ap.sym (Ap.sub hs2 (Ap.or hs0 (Ap.sym ap21) (Ap.fresh (OW.lb hO0) (OW.hb h27))))) i hi (by rw [hj]; exact hid0)))
 have h58 := OW.keep h51 (Nat.le_refl _) (fun i hi => hk10 i (fun hj => (Ap.sym (Ap.sub hs2 (Ap.or hs0 (Ap.sym ap23) (Ap.fresh (OW.lb hO0) (OW.hb h28))))) i hi (by rw [hj]; exact hid0)))
 have hl12 : (List.replicate (x1.Peers.length : Int).toNat (false : Bool)).length = (setI (List.replicate (x1.Peers.length : Int).toNat (false : Bool)) x18 true).length := (setI_length _ _ _).symm
 refine wN (eT (wS (wR (lN rfl U88 rfl ho72 rfl ?_))))
 obtain ⟨c9, ecs9, hrow9, hwin9, hb8⟩ := OD.get h56 hp49 hx8
 obtain ⟨a41, cap41, a42, cap42, a43, cap43, a44, cap44, rfl⟩ := GPeer.ofB hb8
 have hq0 := OD.hole h56 hp49 hx8 hrow9 hwin9
 obtain ⟨rfl, rfl⟩ := hdr_eq (a := a42) (c := cap42) hq0
 obtain ⟨S5, hs4, hs5, hs6, h62, h63⟩ := GPeer.open_Log h56 hp49 hx8 hrow9 hwin9 (List.forall_mem_cons.2 ⟨fun h => absurd (show (6 : Nat) = 5 from h.2) (by decide), List.forall_mem_nil _⟩)
 have ap43 : nP (.slice a41 x46.Log.length cap41) n0 := Ap.sub0 hs5 (Ap.sub0 hs1 (Ap.or0 hs0 (aD h4) (Ap.fresh0 (OW.lb hO0) (by have := lt30; omega))))
 have ap44 : nP (.slice a41 x46.Log.length cap41) (n0 + 1) := Ap.sub0 hs5 (Ap.sub0 hs1 (Ap.or0 hs0 (aD h32) (Ap.fresh0 (OW.lb hO0) (by have := lt40; omega))))
 have ap45 : idOf (.slice a41 x46.Log.length cap41) ≠ some ((n0 + 1) + 1) := Ap.sub0 hs5 (Ap.sub0 hs1 (Ap.or0 hs0 (aD h43) (Ap.fresh0 (OW.lb hO0) (by have := lt55; omega))))
 have ap46 : ¬ S5 n0 := Ap.sub0 hs4 (Ap.sub0 hs1 (Ap.or0 hs0 (aD h4) (Ap.fresh0 (OW.lb hO0) (by have := lt30; omega))))
 have ap47 : ¬ S5 (n0 + 1) := Ap.sub0 hs4 (Ap.sub0 hs1 (Ap.or0 hs0 (aD h32) (Ap.fresh0 (OW.lb hO0) (by have := lt40; omega))))
 have ap48 : ¬ S5 ((n0 + 1) + 1) := Ap.sub0 hs4 (Ap.sub0 hs1 (Ap.or0 hs0 (aD h43) (Ap.fresh0 (OW.lb hO0) (by have := lt55; omega))))
 obtain ⟨x6, hx10, hr⟩ := bnd_some hr
 refine GL.callP g.good .nil rfl rfl rfl rfl rfl rfl Try.func86 rfl rfl hS14.lo (f_impl_Peer_last_elem0_k  g hS14 hrow9 hwin9 h62 hx10) (fun v n4 H16 hn1 hk11 hp1 => ?_)
 obtain ⟨hS15, rfl⟩ := hp1
 have ho73 := oA hk11 ho69 lt0
 have ho74 := oA hk11 ho70 lt30
 have ho75 := oA hk11 ho71 lt40
 have ho76 := oA hk11 ho72 lt55
 have h64 := OD.keep (n' := n4) h63 (by omega) (fun i hi => hk11 i (OD.id_lt h63 hi).2)
 have h65 := kA (n' := n4) h57 hk11
 have h66 := kA (n' := n4) h58 hk11
 have h67 := kA (n' := n4) h55 hk11
 have h68 := kA (n' := n4) h62 hk11
 have hS16 : St lo n4 H16 F0 := ⟨by have := hS14.lo; omega, hS15.hb, hS15.fh⟩
 have hlon6 := hS16.lo
 refine mN rfl (WL.extract .nil rfl rfl rfl rfl rfl (WL.extract .nil rfl rfl rfl rfl rfl ?_))
 refine GL.alloc hS16 .nil (zc := [iv 0]) rfl rfl rfl info3 rfl rfl rfl (fun H17 hS17 ho77 hk12 => ?_)
 have fo9 := hS16.fnone (Nat.le_refl _)
 have ho78 := oA hk12 ho73 lt0
 have ho79 := oA hk12 ho74 lt30
 have ho80 := oA hk12 ho75 lt40
 have ho81 := oA hk12 ho76 lt55
 have h72 := OD.keep (n' := (n4 + 1)) h64 (by omega) (fun i hi => hk12 i (OD.id_lt h64 hi).2)
 have h73 := kA (n' := (n4 + 1)) h65 hk12
 have h74 := kA (n' := (n4 + 1)) h66 hk12
 have h75 := kA (n' := (n4 + 1)) h67 hk12
 have h76 := kA (n' := (n4 + 1)) h68 hk12
 have hlon7 := hS17.lo
 have lt10 : n4 < (n4 + 1) := by omega
 refine GL.alloc hS17 .nil (zc := [iv 0]) rfl rfl rfl info3 rfl rfl rfl (fun H18 hS18 ho82 hk13 => ?_)
 have fo10 := hS17.fnone (Nat.le_refl _)
 have ho83 := oA hk13 ho78 lt0
 have ho84 := oA hk13 ho79 lt30
 have ho85 := oA hk13 ho80 lt40
 have ho86 := oA hk13 ho81 lt55
 have ho87 := oA hk13 ho77 lt10
 have h77 := OD.keep (n' := ((n4 + 1) + 1)) h72 (by omega) (fun i hi => hk13 i (OD.id_lt h72 hi).2)
 have h78 := kA (n' := ((n4 + 1) + 1)) h73 hk13
 have h79 := kA (n' := ((n4 + 1) + 1)) h74 hk13
 have h80 := kA (n' := ((n4 + 1) + 1)) h75 hk13
 have h81 := kA (n' := ((n4 + 1) + 1)) h76 hk13
 have hlon8 := hS18.lo
 have lt11 : (n4 + 1) < ((n4 + 1) + 1) := by omega
 refine GL.store hS18 .nil (vc := [iv x6.1]) (c' := [iv x6.1]) rfl rfl rfl info3 rfl rfl rfl rfl ho87 fo9 (bl rfl) (by omega) (one1 rfl) rfl (fun H19 hS19 ho88 hk14 => ?_)
 have ho89 := (hk14 _ (by omega)).trans ho83
 have ho90 := (hk14 _ (by omega)).trans ho84
 have ho91 := (hk14 _ (by omega)).trans ho85
 have ho92 := (hk14 _ (by omega)).trans ho86
 have ho93 := (hk14 _ (by omega)).trans ho82
 have h82 := OD.keep h77 (Nat.le_refl _) (fun i hi => hk14 i (fun hj => (aD h64) (hj ▸ hi)))
 have h83 := kB h78 hk14 (aW h65)
 have h84 := kB h79 hk14 (aW h66)
 have h85 := kB h80 hk14 (aW h67)
 have h86 := kB h81 hk14 (aW h68)
 refine GL.store hS19 .nil (vc := [iv x6.2]) (c' := [iv x6.2]) rfl rfl rfl info3 rfl rfl rfl rfl ho93 fo10 (bl rfl) (by omega) (one1 rfl) rfl (fun H20 hS20 ho94 hk15 => ?_)
 have ho95 := (hk15 _ (by omega)).trans ho89
 have ho96 := (hk15 _ (by omega)).trans ho90
 have ho97 := (hk15 _ (by omega)).trans ho91
 have ho98 := (hk15 _ (by omega)).trans ho92
 have ho99 := (hk15 _ (by omega)).trans ho88
 have h87 := OD.keep h82 (Nat.le_refl _) (fun i hi => hk15 i (fun hj => (aD h72) (hj ▸ hi)))
 have h88 := kB h83 hk15 (aW h73)
 have h89 := kB h84 hk15 (aW h74)
 have h90 := kB h85 hk15 (aW h75)
 have h91 := kB h86 hk15 (aW h76)
 refine wN (eT (wS (wR (lN rfl U60 rfl ho96 rfl (lN rfl U3 rfl ho97 rfl (WL.mkFunc .nil rfl rfl rfl rfl rfl ?_))))))
 refine GL.callIn (args := [pt p0 0, iv x18, .func (.func 93) [].toArray [pt n0 0, pt (n0 + 1) 0, .pointer (some ⟨((n0 + 1) + 1), 0, none⟩), pt n4 0, pt (n4 + 1) 0].toArray]) .nil lo rfl rfl rfl rfl rfl rfl Try.func90 rfl rfl (Nat.le_refl _) hS20.lo ?_
 refine C.body Try.func90 rfl rfl ?_
 refine wS (wR (mN rfl (zN rfl (fN rfl U30 rfl info26 rfl (lN rfl U26 rfl ho95 rfl (WL.len .nil rfl rfl rfl U26 rfl (mN rfl (wN (eT (W.block ?_))))))))))
 obtain ⟨S7, hs7, h92⟩ := GPeer.close0_Log h87 hx8 h91
 have ap49 : ¬ S7 p0 := Ap.or0 hs7 (Ap.sub0 hs4 (Ap.sub0 hs1 (Ap.or0 hs0 ap19 (Ap.fresh0 (OW.lb hO0) (by have := lt0; omega))))) (Ap.sub0 hs5 (Ap.sub0 hs1 (Ap.or0 hs0 ap19 (Ap.fresh0 (OW.lb hO0) (by have := lt0; omega)))))
 have ap50 : Sn S7 (.slice a7 x1.Net.length cap8) := Ap.or hs7 (Ap.sub hs4 (Ap.sub hs1 (Ap.or hs0 (Ap.sym ap21) (Ap.fresh (OW.lb hO0) (OW.hb h27))))) (Ap.sub hs5 (Ap.sub hs1 (Ap.or hs0 (Ap.sym ap21) (Ap.fresh (OW.lb hO0) (OW.hb h27)))))
 have ap51 : Sn S7 (.slice a11 x1.Chosen.length cap12) := Ap.or hs7 (Ap.sub hs4 (Ap.sub hs1 (Ap.or hs0 (Ap.sym ap23) (Ap.fresh (OW.lb hO0) (OW.hb h28))))) (Ap.sub hs5 (Ap.sub hs1 (Ap.or hs0 (Ap.sym ap23) (Ap.fresh (OW.lb hO0) (OW.hb h28)))))
 obtain ⟨S8, hs8, h93⟩ := GPeer.close_Votes h92 hx8 hl12 h90
 have ap52 : ¬ S8 n0 := Ap.or0 hs8 (Ap.or0 hs7 ap46 ap43) (Ap.sub0 hs2 (Ap.or0 hs0 (aD h4) (Ap.fresh0 (OW.lb hO0) (by have := lt30; omega))))
 have ap53 : ¬ S8 (n0 + 1) := Ap.or0 hs8 (Ap.or0 hs7 ap47 ap44) (Ap.sub0 hs2 (Ap.or0 hs0 (aD h32) (Ap.fresh0 (OW.lb hO0) (by have := lt40; omega))))
 have ap54 : ¬ S8 ((n0 + 1) + 1) := Ap.or0 hs8 (Ap.or0 hs7 ap48 ap45) (Ap.sub0 hs2 (Ap.or0 hs0 (aD h43) (Ap.fresh0 (OW.lb hO0) (by have := lt55; omega))))
 rw [setI_setI] at h93
 have hl13 : x1.Peers.length = (setI x1.Peers x18 (⟨x46.Up, (x46.Term + 1), (x18 + 1), x46.Commit, 1, x46.Log, (setI (List.replicate (x1.Peers.length : Int).toNat (false : Bool)) x18 true), [], []⟩ : GPeer)).length := hl11.trans (by rw [setI_length, setI_length])
 have hx11 := idx_setI_same (y := (⟨x46.Up, (x46.Term + 1), (x18 + 1), x46.Commit, 1, x46.Log, (setI (List.replicate (x1.Peers.length : Int).toNat (false : Bool)) x18 true), [], []⟩ : GPeer)) hx46
 refine W.loopF (fun k2 fr n H => ∃ (x7 : Int) (xs6 : (List GPeer)) (S9 : Nat → Prop) (a45 : OA) (cap45 : Nat) (xs7 : (List GMsg)) (a46 : OA) (cap46 : Nat) (xs8 : (List GRec)) (x8 : Bool) (F : Heap), fr = [(1, iv x18), (2, .func (.func 93) [].toArray [pt n0 0, pt (n0 + 1) 0, .pointer (some ⟨((n0 + 1) + 1), 0, none⟩), pt n4 0, pt (n4 + 1) 0].toArray), (11, iv (x1.Peers.length : Int)), (12, iv x7)] ∧ St lo n H F ∧ Ext n0 F0 n F ∧ H ((n0 + 1) + 1) = some (.row 1 [pt b47 el48]) ∧ F ((n0 + 1) + 1) = none ∧ H (n0 + 1) = some (.row 1 [iv x18]) ∧ F (n0 + 1) = none ∧ H (n4 + 1) = some (.row 1 [iv x6.2]) ∧ F (n4 + 1) = none ∧ H n0 = some (.row 1 [pt p0 0]) ∧ F n0 = none ∧ H n4 = some (.row 1 [iv x6.1]) ∧ F n4 = none ∧ H p0 = some (.row ez0 [.slice a2 x1.Peers.length cap3, .slice a45 xs7.length cap45, .slice a46 xs8.length cap46, .bool x8]) ∧ F p0 = none ∧ OD lo n H F S9 [] (.slice a2 x1.Peers.length cap3) xs6 ∧ x1.Peers.length = xs6.length ∧ Ow lo n H F a45 cap45 xs7 ∧ Ow lo n H F a46 cap46 xs8 ∧ ¬ S9 ((n0 + 1) + 1) ∧ ¬ S9 (n0 + 1) ∧ ¬ S9 (n4 + 1) ∧ ¬ S9 n0 ∧ ¬ S9 n4 ∧ ¬ S9 p0 ∧ idOf (.slice a45 xs7.length cap45) ≠ some ((n0 + 1) + 1) ∧ nP (.slice a45 xs7.length cap45) (n0 + 1) ∧ nP (.slice a45 xs7.length cap45) (n4 + 1) ∧ nP (.slice a45 xs7.length cap45) n0 ∧ nP (.slice a45 xs7.length cap45) n4 ∧ nP (.slice a45 xs7.length cap45) p0 ∧ nS (.slice a45 xs7.length cap45) S9 ∧ idOf (.slice a46 xs8.length cap46) ≠ some ((n0 + 1) + 1) ∧ nP (.slice a46 xs8.length cap46) (n0 + 1) ∧ nP (.slice a46 xs8.length cap46) (n4 + 1) ∧ nP (.slice a46 xs8.length cap46) n0 ∧ nP (.slice a46 xs8.length cap46) n4 ∧ nP (.slice a46 xs8.length cap46) p0 ∧ nS (.slice a46 xs8.length cap46) S9 ∧ nA (.slice a46 xs8.length cap46) (.slice a45 xs7.length cap45) ∧ f_impl_Cluster_tick_L2 x1 x18 x6 k2 x7 xs6 xs7 xs8 x8 = some res) BIG (fr0 := [(1, iv x18), (2, .func (.func 93) [].toArray [pt n0 0, pt (n0 + 1) 0, .pointer (some ⟨((n0 + 1) + 1), 0, none⟩), pt n4 0, pt (n4 + 1) 0].toArray), (11, iv (x1.Peers.length : Int)), (12, iv 0)]) (fl4) ?_ ?_ ?_
 {
 exact ⟨0, (setI x1.Peers x18 (⟨x46.Up, (x46.Term + 1), (x18 + 1), x46.Commit, 1, x46.Log, (setI (List.replicate (x1.Peers.length : Int).toNat (false : Bool)) x18 true), [], []⟩ : GPeer)), S8, a7, cap8, x1.Net, a11, cap12, x1.Chosen, x1.Conflict, F0, rfl, hS20, (hE0.up (by omega)), ho98, fo54, ho97, fo39, ho94, fo10, ho96, fo29, ho99, fo9, ho95, fo16, h93, hl13, h88, h89, ap54, ap53, (Ap.or0 hs8 (Ap.or0 hs7 (aD h72) (aW h76)) (aW h75)), ap52, (Ap.or0 hs8 (Ap.or0 hs7 (aD h64) (aW h68)) (aW h67)), (Ap.or0 hs8 ap49 (Ap.sub0 hs2 (Ap.or0 hs0 ap19 (Ap.fresh0 (OW.lb hO0) (by have := lt0; omega))))), (aW h44), (aW h33), (aW h73), (aW h9), (aW h65), ap20, (Ap.sym (Ap.or hs8 ap50 (Ap.sub hs2 (Ap.or hs0 (Ap.sym ap21) (Ap.fresh (OW.lb hO0) (OW.hb h27)))))), (aW h45), (aW h34), (aW h74), (aW h13), (aW h66), ap22, (Ap.sym (Ap.or hs8 ap51 (Ap.sub hs2 (Ap.or hs0 (Ap.sym ap23) (Ap.fresh (OW.lb hO0) (OW.hb h28)))))), ap24, hr⟩
 }
 {
 intro fr n H hI
 obtain ⟨x7, xs6, S9, a45, cap45, xs7, a46, cap46, xs8, x8, F4, hfr, hS21, hE4, ho100, fo11, ho101, fo12, ho102, fo13, ho103, fo14, ho104, fo15, ho105, fo17, h94, hl14, h95, h96, ap55, ap56, ap57, ap58, ap59, ap60, ap61, ap62, ap63, ap64, ap65, ap66, ap67, ap68, ap69, ap70, ap71, ap72, ap73, ap74, ap75, hr⟩ := hI
 rw [f_impl_Cluster_tick_L2] at hr
 cases hr
 }
 {
 intro k2 _ n5 H21 hI
 obtain ⟨x7, xs6, S9, a45, cap45, xs7, a46, cap46, xs8, x8, F4, rfl, hS21, hE4, ho100, fo11, ho101, fo12, ho102, fo13, ho103, fo14, ho104, fo15, ho105, fo17, h94, hl14, h95, h96, ap55, ap56, ap57, ap58, ap59, ap60, ap61, ap62, ap63, ap64, ap65, ap66, ap67, ap68, ap69, ap70, ap71, ap72, ap73, ap74, ap75, hr⟩ := hI
 have lt12 := hS21.lt ho100
 have lt13 := hS21.lt ho101
 have lt14 := hS21.lt ho102
 have lt15 := hS21.lt ho103
 have lt16 := hS21.lt ho104
 have lt17 := hS21.lt ho105
 have hlen2 := hE4.le
 have hlon9 := hS21.lo
 rw [f_impl_Cluster_tick_L2] at hr
 refine wS (wR (bN rfl rfl (wN (eT (wS ?_)))))
 refine W.condD rfl (fun hc7 => ?_) (fun hc7 => ?_)
 {
 replace hr := ite_pos hr hc7
 refine wK (eT (wS ?_))
 refine W.cut (fun fr n H => ∃ (xs9 : (List GPeer)) (S10 : Nat → Prop) (a47 : OA) (cap47 : Nat) (xs10 : (List GMsg)) (a48 : OA) (cap48 : Nat) (xs11 : (List GRec)) (x9 : Bool) (F : Heap), fr = [(1, iv x18), (2, .func (.func 93) [].toArray [pt n0 0, pt (n0 + 1) 0, .pointer (some ⟨((n0 + 1) + 1), 0, none⟩), pt n4 0, pt (n4 + 1) 0].toArray), (11, iv (x1.Peers.length : Int)), (12, iv x7)] ∧ St lo n H F ∧ Ext n0 F0 n F ∧ H ((n0 + 1) + 1) = some (.row 1 [pt b47 el48]) ∧ F ((n0 + 1) + 1) = none ∧ H (n0 + 1) = some (.row 1 [iv x18]) ∧ F (n0 + 1) = none ∧ H (n4 + 1) = some (.row 1 [iv x6.2]) ∧ F (n4 + 1) = none ∧ H n0 = some (.row 1 [pt p0 0]) ∧ F n0 = none ∧ H n4 = some (.row 1 [iv x6.1]) ∧ F n4 = none ∧ H p0 = some (.row ez0 [.slice a2 x1.Peers.length cap3, .slice a47 xs10.length cap47, .slice a48 xs11.length cap48, .bool x9]) ∧ F p0 = none ∧ OD lo n H F S10 [] (.slice a2 x1.Peers.length cap3) xs9 ∧ x1.Peers.length = xs9.length ∧ Ow lo n H F a47 cap47 xs10 ∧ Ow lo n H F a48 cap48 xs11 ∧ ¬ S10 ((n0 + 1) + 1) ∧ ¬ S10 (n0 + 1) ∧ ¬ S10 (n4 + 1) ∧ ¬ S10 n0 ∧ ¬ S10 n4 ∧ ¬ S10 p0 ∧ idOf (.slice a47 xs10.length cap47) ≠ some ((n0 + 1) + 1) ∧ nP (.slice a47 xs10.length cap47) (n0 + 1) ∧ nP (.slice a47 xs10.length cap47) (n4 + 1) ∧ nP (.slice a47 xs10.length cap47) n0 ∧ nP (.slice a47 xs10.length cap47) n4 ∧ nP (.slice a47 xs10.length cap47) p0 ∧ nS (.slice a47 xs10.length cap47) S10 ∧ idOf (.slice a48 xs11.length cap48) ≠ some ((n0 + 1) + 1) ∧ nP (.slice a48 xs11.length cap48) (n0 + 1) ∧ nP (.slice a48 xs11.length cap48) (n4 + 1) ∧ nP (.slice a48 xs11.length cap48) n0 ∧ nP (.slice a48 xs11.length cap48) n4 ∧ nP (.slice a48 xs11.length cap48) p0 ∧ nS (.slice a48 xs11.length cap48) S10 ∧ nA (.slice a48 xs11.length cap48) (.slice a47 xs10.length cap47) ∧ f_impl_Cluster_tick_J3 x7 (f_impl_Cluster_tick_L2 x1 x18 x6 k2) xs9 xs10 xs11 x9 = some res) ?_ ?_
 {
 refine W.block (wS (wR (mN rfl (aN rfl (wN (eT (wS (wR (mN rfl (mN rfl (bN rfl rfl ?_)))))))))))
 refine wN (eT ?_)
 refine W.condN rfl (fun hc8 => ?_) (fun hc8 => ?_)
 {
 replace hr := ite_neg hr hc8
 refine wR (mN rfl (mN rfl ?_))
 refine GL.callIn (args := [iv x7, pt n0 0, pt (n0 + 1) 0, .pointer (some ⟨((n0 + 1) + 1), 0, none⟩), pt n4 0, pt (n4 + 1) 0]) .nil lo rfl rfl rfl rfl rfl rfl Try.func93 rfl rfl (Nat.le_refl _) hS21.lo ?_
 refine C.body Try.func93 rfl rfl ?_
 refine W.regionD [0, 1, 2, 3, 4, 5, 6, 7, 8, 9, 10] [false, false, false, false, false, false, false, false, false, false, true] rfl rfl kr kr mP ?_
 refine lR rfl U60 rfl ho103 rfl (lR rfl U3 rfl ho101 rfl (mR rfl (lR rfl U88 rfl ho100 rfl (zR rfl (fR rfl U42 rfl info3 rfl ?_)))))
 obtain ⟨x10, hx12, hr⟩ := bnd_some hr
 obtain ⟨c10, ecs10, hrow10, hwin10, hb9⟩ := OD.get h94 hp49 hx12
 obtain ⟨a49, cap49, a50, cap50, a51, cap51, a52, cap52, rfl⟩ := GPeer.ofB hb9
 refine lR rfl U3 rfl hrow10 (wG 1 hwin10) (lR rfl U3 rfl ho104 rfl (lR rfl U3 rfl ho102 rfl ?_))
 refine WL.buildL .r (cells := [iv 1, iv x18, iv x7, iv x10.Term, iv x6.1, iv x6.2, iv 0, .bool false, .slice none 0 0]) rfl rfl rfl U85 info85 rfl rfl rfl (by simp only [List.mapM_cons, List.mapM_nil, info3, info3, info3, info3, info3, info3, info3, info4, info28]; rfl) rfl (by first | rfl | ((conv => lhs; simp [splice, fillL, cells_int, cells_bool, cells_string, cells_str, cells_slice, cells_ptr, cells_map, cells_func, cells_nilFunc, cells_nilIface, cells_iface, cells_agg, cells_u8]) <;> rfl)) ?_
 obtain ⟨x11, hx13, hr⟩ := bnd_some hr
 refine GL.callIO g .w (fun i => (F4 i).isSome = true ∨ i = p0 ∨ S9 i ∨ idOf (.slice a45 xs7.length cap45) = some i ∨ idOf (.slice a46 xs8.length cap46) = some i) rfl rfl rfl rfl rfl rfl Try.func55 rfl rfl (Nat.le_refl _) hS21.lo (f_impl_Cluster_send_k (x1 := (⟨xs6, xs7, xs8, x8⟩ : GCluster)) (x18 := (⟨1, x18, x7, x10.Term, x6.1, x6.2, 0, false, []⟩ : GMsg)) g (St.vis hS21 (fun i hi => .inl hi)) (by rw [← hl14]; exact vis_get ho105 (.inr (.inl rfl))) fo17 lo17 (OD.head hl14 (OD.vis h94 (fun i hi => (.inr (.inr (.inl hi)))))) (OW.vis h95 (fun i hi => (.inr (.inr (.inr (.inl hi)))))) (OW.vis h96 (fun i hi => (.inr (.inr (.inr (.inr (hi))))))) SR.nil ap60 ap66 ap67 ap73 ap74 ap75 hx13) (fun v n6 H22 H23 hn2 hp2 hle1 hnew1 hk16 hd1 => ?_)
 obtain ⟨F5, S11, a53, cap53, a54, cap54, hX1, hS22, ho106, rfl, h97, hl15, h98, h99, ap76, ap77, ap78, ap79, ap80, ap81⟩ := hp2
 have hS23 : St lo n6 H22 _ := sA hS22 hnew1 hle1
 have ho107 := (hk16 _ (by have := lt12; omega) (oE5 (nF fo11) (by omega) ap55 ap61 ap68)).trans ho100
 have ho108 := (hk16 _ (by have := lt13; omega) (oE5 (nF fo12) (by omega) ap56 ap62 ap69)).trans ho101
 have ho109 := (hk16 _ (by have := lt14; omega) (oE5 (nF fo13) (by omega) ap57 ap63 ap70)).trans ho102
 have ho110 := (hk16 _ (by have := lt15; omega) (oE5 (nF fo14) (by omega) ap58 ap64 ap71)).trans ho103
 have ho111 := (hk16 _ (by have := lt16; omega) (oE5 (nF fo15) (by omega) ap59 ap65 ap72)).trans ho104
 have fo18 := fA hX1 lt12 fo11
 have fo19 := fA hX1 lt13 fo12
 have fo20 := fA hX1 lt14 fo13
 have fo21 := fA hX1 lt15 fo14
 have fo22 := fA hX1 lt16 fo15
 have fo23 := fA hX1 lt17 fo17
 have hE5 := (hE4.up (n' := n5) (by omega)).trans hX1
 have ho112 := hle1 _ _ ho106
 have h100 := OD.le h97 hle1
 have hl16 : x1.Peers.length = x11.Peers.length := hl14.trans hl15
 rw [← hl14] at h100
 have h101 := OW.le h98 hle1
 have h102 := OW.le h99 hle1
 rw [← hl14] at ho112
 have ap82 : ¬ S11 ((n0 + 1) + 1) := fun hj => (OD.after h97 hd1 hj).elim (fun h => by have := lt12; omega) (oE5 (nF fo11) (by omega) ap55 ap61 ap68)
 have ap83 : ¬ S11 (n0 + 1) := fun hj => (OD.after h97 hd1 hj).elim (fun h => by have := lt13; omega) (oE5 (nF fo12) (by omega) ap56 ap62 ap69)
 have ap84 : ¬ S11 (n4 + 1) := fun hj => (OD.after h97 hd1 hj).elim (fun h => by have := lt14; omega) (oE5 (nF fo13) (by omega) ap57 ap63 ap70)
 have ap85 : ¬ S11 n0 := fun hj => (OD.after h97 hd1 hj).elim (fun h => by have := lt15; omega) (oE5 (nF fo14) (by omega) ap58 ap64 ap71)
 have ap86 : ¬ S11 n4 := fun hj => (OD.after h97 hd1 hj).elim (fun h => by have := lt16; omega) (oE5 (nF fo15) (by omega) ap59 ap65 ap72)
 have ap87 : idOf (.slice a53 x11.Net.length cap53) ≠ some ((n0 + 1) + 1) := fun hj => (OW.after h98 hd1 hj).elim (fun h => by have := lt12; omega) (oE5 (nF fo11) (by omega) ap55 ap61 ap68)
 have qq2 := noS (b := (n0 + 1)) hd1 (oE5 (nF fo12) (by omega) ap56 ap62 ap69)
 have ap88 := nAf h98 hd1 lt13 qq2
 have qq3 := noS (b := (n4 + 1)) hd1 (oE5 (nF fo13) (by omega) ap57 ap63 ap70)
 have ap89 := nAf h98 hd1 lt14 qq3
 have qq4 := noS (b := n0) hd1 (oE5 (nF fo14) (by omega) ap58 ap64 ap71)
 have ap90 := nAf h98 hd1 lt15 qq4
 have qq5 := noS (b := n4) hd1 (oE5 (nF fo15) (by omega) ap59 ap65 ap72)
 have ap91 := nAf h98 hd1 lt16 qq5
 have ap92 : idOf (.slice a54 x11.Chosen.length cap54) ≠ some ((n0 + 1) + 1) := fun hj => (OW.after h99 hd1 hj).elim (fun h => by have := lt12; omega) (oE5 (nF fo11) (by omega) ap55 ap61 ap68)
 have qq6 := noS (b := (n0 + 1)) hd1 (oE5 (nF fo12) (by omega) ap56 ap62 ap69)
 have ap93 := nAf h99 hd1 lt13 qq6
 have qq7 := noS (b := (n4 + 1)) hd1 (oE5 (nF fo13) (by omega) ap57 ap63 ap70)
 have ap94 := nAf h99 hd1 lt14 qq7
 have qq8 := noS (b := n0) hd1 (oE5 (nF fo14) (by omega) ap58 ap64 ap71)
 have ap95 := nAf h99 hd1 lt15 qq8
 have qq9 := noS (b := n4) hd1 (oE5 (nF fo15) (by omega) ap59 ap65 ap72)
 have ap96 := nAf h99 hd1 lt16 qq9
 have hlon10 := hS23.lo
 have lt18 := hS23.lt ho107
 have lt19 := hS23.lt ho108
 have lt20 := hS23.lt ho109
 have lt21 := hS23.lt ho110
 have lt22 := hS23.lt ho111
 have lt23 := hS23.lt ho112
 refine wN ?_
 refine ⟨.inl rfl, _, .nil, ?_⟩
 refine wN (eB (eT ?_))
 exact ⟨[(1, iv x18), (2, .func (.func 93) [].toArray [pt n0 0, pt (n0 + 1) 0, .pointer (some ⟨((n0 + 1) + 1), 0, none⟩), pt n4 0, pt (n4 + 1) 0].toArray), (11, iv (x1.Peers.length : Int)), (12, iv x7)], (fl4), x11.Peers, S11, a53, cap53, x11.Net, a54, cap54, x11.Chosen, x11.Conflict, F5, rfl, hS23, hE5, ho107, fo18, ho108, fo19, ho109, fo20, ho110, fo21, ho111, fo22, ho112, fo23, h100, hl16, h101, h102, ap82, ap83, ap84, ap85, ap86, ap76, ap87, ap88, ap89, ap90, ap91, ap77, ap79, ap92, ap93, ap94, ap95, ap96, ap78, ap80, ap81, hr⟩
 }
 {
 replace hr := ite_pos hr hc8
 refine wK (eB (eT ?_))
 exact ⟨[(1, iv x18), (2, .func (.func 93) [].toArray [pt n0 0, pt (n0 + 1) 0, .pointer (some ⟨((n0 + 1) + 1), 0, none⟩), pt n4 0, pt (n4 + 1) 0].toArray), (11, iv (x1.Peers.length : Int)), (12, iv x7)], (fl4), xs6, S9, a45, cap45, xs7, a46, cap46, xs8, x8, F4, rfl, hS21, hE4, ho100, fo11, ho101, fo12, ho102, fo13, ho103, fo14, ho104, fo15, ho105, fo17, h94, hl14, h95, h96, ap55, ap56, ap57, ap58, ap59, ap60, ap61, ap62, ap63, ap64, ap65, ap66, ap67, ap68, ap69, ap70, ap71, ap72, ap73, ap74, ap75, hr⟩
 }
 }
 {
 intro _ n7 H24 hI
 obtain ⟨xs9, S10, a47, cap47, xs10, a48, cap48, xs11, x9, F6, rfl, hS24, hE6, ho113, fo24, ho114, fo25, ho115, fo26, ho116, fo27, ho117, fo28, ho118, fo30, h103, hl17, h104, h105, ap97, ap98, ap99, ap100, ap101, ap102, ap103, ap104, ap105, ap106, ap107, ap108, ap109, ap110, ap111, ap112, ap113, ap114, ap115, ap116, ap117, hr⟩ := hI
 have lt24 := hS24.lt ho113
 have lt25 := hS24.lt ho114
 have lt26 := hS24.lt ho115
 have lt27 := hS24.lt ho116
 have lt28 := hS24.lt ho117
 have lt29 := hS24.lt ho118
 have hlen3 := hE6.le
 have hlon11 := hS24.lo
 unfold f_impl_Cluster_tick_J3 at hr
 refine wR ?_
 obtain ⟨hc9, hr⟩ := chk_some hr
 refine WL.addI .nil rfl rfl rfl rfl rfl hc9.1 hc9.2 (mN rfl (wN (eT ?_)))
 exact ⟨[(1, iv x18), (2, .func (.func 93) [].toArray [pt n0 0, pt (n0 + 1) 0, .pointer (some ⟨((n0 + 1) + 1), 0, none⟩), pt n4 0, pt (n4 + 1) 0].toArray), (11, iv (x1.Peers.length : Int)), (12, iv (x7 + 1))], (fl4), (x7 + 1), xs9, S10, a47, cap47, xs10, a48, cap48, xs11, x9, F6, rfl, hS24, hE6, ho113, fo24, ho114, fo25, ho115, fo26, ho116, fo27, ho117, fo28, ho118, fo30, h103, hl17, h104, h105, ap97, ap98, ap99, ap100, ap101, ap102, ap103, ap104, ap105, ap106, ap107, ap108, ap109, ap110, ap111, ap112, ap113, ap114, ap115, ap116, ap117, hr⟩
 }
 }
 {
 replace hr := ite_neg hr hc7
 refine W.exit (eX (eX (eH ?_)))
 refine ⟨.inl rfl, _, .nil, ?_⟩
 refine wN (eT (wR (lN rfl U60 rfl ho103 rfl (lN rfl U3 rfl ho101 rfl ?_))))
 obtain ⟨x12, hx14, hr⟩ := bnd_some hr
 refine GL.callIO g .nil (fun i => (F4 i).isSome = true ∨ i = p0 ∨ S9 i ∨ idOf (.slice a45 xs7.length cap45) = some i ∨ idOf (.slice a46 xs8.length cap46) = some i) rfl rfl rfl rfl rfl rfl Try.func87 rfl rfl (Nat.le_refl _) hS21.lo (f_impl_Cluster_elect_k (x1 := (⟨xs6, xs7, xs8, x8⟩ : GCluster)) g (St.vis hS21 (fun i hi => .inl hi)) (by rw [← hl14]; exact vis_get ho105 (.inr (.inl rfl))) fo17 lo17 (OD.head hl14 (OD.vis h94 (fun i hi => (.inr (.inr (.inl hi)))))) (OW.vis h95 (fun i hi => (.inr (.inr (.inr (.inl hi)))))) (OW.vis h96 (fun i hi => (.inr (.inr (.inr (.inr (hi))))))) ap60 ap66 ap67 ap73 ap74 ap75 hx14) (fun v n8 H26 H27 hn3 hp3 hle2 hnew2 hk17 hd2 => ?_)
 obtain ⟨F7, S12, a55, cap55, a56, cap56, hX2, hS25, ho119, rfl, h106, hl18, h107, h108, ap118, ap119, ap120, ap121, ap122, ap123⟩ := hp3
 have hS27 : St lo n8 H26 _ := sA hS25 hnew2 hle2
 have ho120 := (hk17 _ (by have := lt12; omega) (oE5 (nF fo11) (by omega) ap55 ap61 ap68)).trans ho100
 have ho121 := (hk17 _ (by have := lt13; omega) (oE5 (nF fo12) (by omega) ap56 ap62 ap69)).trans ho101
 have ho122 := (hk17 _ (by have := lt14; omega) (oE5 (nF fo13) (by omega) ap57 ap63 ap70)).trans ho102
 have ho123 := (hk17 _ (by have := lt15; omega) (oE5 (nF fo14) (by omega) ap58 ap64 ap71)).trans ho103
 have ho124 := (hk17 _ (by have := lt16; omega) (oE5 (nF fo15) (by omega) ap59 ap65 ap72)).trans ho104
 have hE7 := (hE4.up (n' := n5) (by omega)).trans hX2
 have ho125 := hle2 _ _ ho119
 have h109 := OD.le h106 hle2
 have hl19 : x1.Peers.length = x12.Peers.length := hl14.trans hl18
 rw [← hl14] at h109
 have h110 := OW.le h107 hle2
 have h111 := OW.le h108 hle2
 rw [← hl14] at ho125
 have hlon12 := hS27.lo
 have lt31 := hS27.lt ho120
 have lt32 := hS27.lt ho121
 have lt33 := hS27.lt ho122
 have lt34 := hS27.lt ho123
 have lt35 := hS27.lt ho124
 have lt36 := hS27.lt ho125
 refine wN (eB ?_)
 obtain rfl := Option.some.inj hr
 exact ⟨.inl rfl, _, .nil, ⟨F7, S12, a55, cap55, a56, cap56, (hE7.up (by omega)), hS27, ho125, rfl, h109, hl19, h110, h111, ap118, ap119, ap120, ap121, ap122, ap123⟩⟩
 }
 }
 }
 {
 replace hr := ite_neg hr hc3
 refine wK (eB ?_)
 obtain rfl := Option.some.inj hr
 exact ⟨.inl rfl, _, .nil, ⟨F0, S6, a7, cap8, a11, cap12, (hE0.up (by omega)), hS63, ho66, rfl, h69, rfl, h70, h71, ap19, ap20, ap22, ap21, ap23, ap24⟩⟩
 }
 }
end Go.Proofs.YtlpcdcpcfeaecaaAb
