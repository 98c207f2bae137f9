import Derived.Test.YtlpcdcpcfeaecaaG05
import Derived.KernelRfl
set_option linter.all false
section
set_option maxRecDepth 20000
namespace Go.Proofs.YtlpcdcpcfeaecaaAb
open Go Go.Proofs
theorem f_impl_ClusterRun_k {Δ : Prims} (g : Env Try.prog Δ) {lo n0 : Nat} {H0 F0 : Heap} (hS : St lo n0 H0 F0) {x1 : Int} {a3 : Option Addr} {cap4 : Nat} {xs2 : (List GEvent)} (h5 : SR F0 (.slice a3 xs2.length cap4) xs2) {res : (GCluster × (List Int) × Int)} (hr : f_impl_ClusterRun x1 xs2 = some res) :
    C Try.prog Δ n0 8 [.int .i64 x1, .slice a3 xs2.length cap4] n0 H0 (fun v n H => ∃ (F : Heap) (ra1 : Option Addr) (rcap2 : Nat) (ra4 : Option Addr) (rcap5 : Nat) (ra7 : Option Addr) (rcap8 : Nat) (ra10 : Option Addr) (rcap11 : Nat), Ext n0 F0 n F ∧ St n0 n H F ∧ v = .tuple #[.agg [.slice ra1 res.1.Peers.length rcap2, .slice ra4 res.1.Net.length rcap5, .slice ra7 res.1.Chosen.length rcap8, .bool res.1.Conflict].toArray, .slice ra10 res.2.1.length rcap11, .int .i64 res.2.2] ∧ SR F (.slice ra1 res.1.Peers.length rcap2) res.1.Peers ∧ SR F (.slice ra4 res.1.Net.length rcap5) res.1.Net ∧ SR F (.slice ra7 res.1.Chosen.length rcap8) res.1.Chosen ∧ OW n0 n H F (.slice ra10 res.2.1.length rcap11) res.2.1) := by
 refine C.body Try.func8 rfl rfl ?_
 unfold f_impl_ClusterRun at hr
 have hS0 : St n0 n0 H0 F0 := hS.low (Nat.le_refl _)
 have hE0 := Ext.refl n0 F0
 have hlo0 := hS0.lo
 with_reducible refine W.seq ?_
 with_reducible refine W.region ?_
 refine GL.alloc hS0 .nil (zc := [.slice none 0 0, .slice none 0 0, .slice none 0 0, .bool false]) rfl rfl rfl info30 rfl rfl rfl (fun H6 hS7 ho8 hk9 => ?_)
 have fo10 := hS0.fnone (Nat.le_refl _)
 have hlon01 := hS7.lo
 have lt11 : n0 < (n0 + 1) := by omega
 refine WL.assign .nil rfl rfl rfl rfl ?_
 refine WL.assign .nil rfl rfl rfl rfl ?_
 refine WL.nil ?_
 refine Ex.thn_norm ?_
 with_reducible refine W.seq ?_
 with_reducible refine W.seq ?_
 with_reducible refine W.region ?_
 refine WL.move .nil rfl rfl rfl rfl ?_
 refine WL.len .nil rfl rfl rfl Try.underlying25 rfl ?_
 obtain ⟨x12, hx12, hr⟩ := bnd_some hr
 refine GL.callP g.good .nil rfl rfl rfl rfl rfl rfl Try.func28 rfl rfl hS7.lo (f_impl_longList_k  g hS7 hx12) (fun v n13 H14 hn15 hk16 hp17 => ?_)
 obtain ⟨hS18, rfl⟩ := hp17
 have ho19 := (hk16 _ (by have := lt11; omega)).trans ho8
 have hS20 : St n0 n13 H14 F0 := ⟨by have := hS7.lo; omega, hS18.hb, hS18.fh⟩
 have hlon13 := hS20.lo
 refine WL.move .nil rfl rfl rfl rfl ?_
 obtain ⟨x21, hx21, hr⟩ := bnd_some hr
 refine GL.callP g.good .nil rfl rfl rfl rfl rfl rfl Try.func30 rfl rfl hS20.lo (f_impl_within_k  g hS20 hx21) (fun v n22 H23 hn24 hk25 hp26 => ?_)
 obtain ⟨hS27, rfl⟩ := hp26
 have ho28 := (hk25 _ (by have := lt11; omega)).trans ho19
 have hS29 : St n0 n22 H23 F0 := ⟨by have := hS20.lo; omega, hS27.hb, hS27.fh⟩
 have hlon22 := hS29.lo
 obtain ⟨x30, hx30, hr⟩ := bnd_some hr
 refine GL.callP g.good .nil rfl rfl rfl rfl rfl rfl Try.func29 rfl rfl hS29.lo (f_impl_unless_k  g hS29 hx30) (fun v n31 H32 hn33 hk34 hp35 => ?_)
 obtain ⟨hS36, rfl⟩ := hp35
 have ho37 := (hk34 _ (by have := lt11; omega)).trans ho28
 have hS38 : St n0 n31 H32 F0 := ⟨by have := hS29.lo; omega, hS36.hb, hS36.fh⟩
 have hlon31 := hS38.lo
 refine WL.move .nil rfl rfl rfl rfl ?_
 refine WL.len .nil rfl rfl rfl Try.underlying25 rfl ?_
 refine WL.bin .nil rfl rfl rfl rfl rfl rfl ?_
 obtain ⟨x39, hx39, hr⟩ := bnd_some hr
 refine GL.callP g.good .nil rfl rfl rfl rfl rfl rfl Try.func29 rfl rfl hS38.lo (f_impl_unless_k  g hS38 hx39) (fun v n40 H41 hn42 hk43 hp44 => ?_)
 obtain ⟨hS45, rfl⟩ := hp44
 have ho46 := (hk43 _ (by have := lt11; omega)).trans ho37
 have hS47 : St n0 n40 H41 F0 := ⟨by have := hS38.lo; omega, hS45.hb, hS45.fh⟩
 have hlon40 := hS47.lo
 refine GL.lit (cs := [.int .i64 x12, .int .i64 x30, .int .i64 x39]) (xs := ([x12, x30, x39] : List Int)) hS47 .nil rfl rfl rfl Try.underlying31 info3 rfl rfl rfl (by decide) (by decide) rfl rfl rfl rfl rfl (RA.cons (cs := [.int .i64 x12]) (a := (x12 : Int)) rfl (RA.cons (cs := [.int .i64 x30]) (a := (x30 : Int)) rfl (RA.cons (cs := [.int .i64 x39]) (a := (x39 : Int)) rfl RA.nil))) rfl (fun H48 hS49 hO50 hk51 => ?_)
 have ho52 := (hk51 _ (by have := lt11; omega)).trans ho46
 have h53 := OW.lower (lo' := n0) hO50 (by omega)
 have hlon401 := hS49.lo
 obtain ⟨F56, hS57, hle58, h59, hf60⟩ := OW.freeze h53 hS49
 have fo61 := (hf60 _ (Ap.fresh0 (OW.lb hO50) (by have := lt11; omega))).trans fo10
 obtain ⟨x63, hx63, hr⟩ := bnd_some hr
 refine GL.callP g.good .nil rfl rfl rfl rfl rfl rfl Try.func27 rfl rfl hS49.lo (f_impl_first_k  g hS57 h59 hx63) (fun v n64 H65 hn66 hk67 hp68 => ?_)
 obtain ⟨hS69, rfl⟩ := hp68
 have ho70 := (hk67 _ (by have := lt11; omega)).trans ho52
 have h71 := OW.keep (n' := n64) h53 (by omega) (fun i hi => hk67 i (OW.id_lt h53 hi).2)
 have hS72 : St n0 n64 H65 F0 := ⟨by have := hS49.lo; omega, hS69.hb, fun i o hi => (hk67 i (hS49.lt (hS49.fh i o hi))).trans (hS49.fh i o hi)⟩
 have hlon64 := hS72.lo
 refine WL.assign .nil rfl rfl rfl rfl ?_
 refine WL.nil ?_
 refine Ex.thn_norm ?_
 with_reducible refine W.seq ?_
 with_reducible refine W.region ?_
 refine WL.move .nil rfl rfl rfl rfl ?_
 refine WL.bin .nil rfl rfl rfl rfl rfl rfl ?_
 refine WL.nil ?_
 refine Ex.thn_norm ?_
 refine W.condN rfl (fun hc79 => ?_) (fun hc79 => ?_)
 {
 replace hr := ite_neg hr hc79
 with_reducible refine W.seq ?_
 with_reducible refine W.region ?_
 refine WL.buildL .nil (cells := [.slice none 0 0, .slice none 0 0, .slice none 0 0, .bool false]) rfl rfl rfl Try.underlying30 info30 rfl rfl rfl (by simp only [List.mapM_cons, List.mapM_nil, info26, info27, info28, info4]; rfl) rfl (by first | rfl | ((conv => lhs; simp [splice, fillL, cells_int, cells_bool, cells_string, cells_str, cells_slice, cells_ptr, cells_map, cells_func, cells_nilFunc, cells_nilIface, cells_iface, cells_agg, cells_u8]) <;> rfl)) ?_
 refine WL.move .nil rfl rfl rfl rfl ?_
 refine GL.store hS72 .nil (vc := [.slice none 0 0, .slice none 0 0, .slice none 0 0, .bool false]) (c' := [.slice none 0 0, .slice none 0 0, .slice none 0 0, .bool false]) rfl rfl rfl info30 rfl rfl rfl rfl ho70 fo10 (Nat.le_of_ble_eq_true rfl) (by omega) (by repeat' (first | exact List.forall_mem_nil _ | refine List.forall_mem_cons.2 ⟨?_, ?_⟩ | rfl)) rfl (fun H80 hS81 ho82 hk83 => ?_)
 have h84 := OW.keep h71 (Nat.le_refl _) (fun i hi => hk83 i (fun hj => (Ap.fresh0 (OW.lb hO50) (by have := lt11; omega)) (hj ▸ hi)))
 refine WL.assign .nil rfl rfl rfl rfl ?_
 refine WL.assign .nil rfl rfl rfl rfl ?_
 refine WL.nil ?_
 refine Ex.thn_norm ?_
 with_reducible refine W.ret ?_
 with_reducible refine Ex.thn_ret ?_
 obtain rfl := Option.some.inj hr
 exact ⟨.inr rfl, _, (.cons (.cellN (l := [.slice none 0 0, .slice none 0 0, .slice none 0 0, .bool false]) rfl Try.underlying30 rfl info30 ho82 rfl rfl) (.cons (.tmp rfl) (.cons (.tmp rfl) .nil))), ⟨F0, none, 0, none, 0, none, 0, none, 0, (hE0.up (by omega)), hS81, rfl, SR.nil, SR.nil, SR.nil, OW.nil⟩⟩
 }
 {
 replace hr := ite_pos hr hc79
 with_reducible refine W.skip ?_
 refine Ex.thn_norm ?_
 with_reducible refine W.seq ?_
 with_reducible refine W.region ?_
 refine WL.move .nil rfl rfl rfl rfl ?_
 obtain ⟨x85, hx85, hr⟩ := bnd_some hr
 refine GL.callP g.good .nil rfl rfl rfl rfl rfl rfl Try.func31 rfl rfl hS72.lo (f_impl_newCluster_k  g hS72 hx85) (fun v n86 H87 hn88 hk89 hp90 => ?_)
 obtain ⟨F106, a95, cap96, S98, a99, cap100, a102, cap103, p91, hX107, hS105, rfl, lo92, ho93, fo94, h97, h101, h104, ap108, ap109, ap110, ap111, ap112, ap113⟩ := hp90
 have ho114 := (hk89 _ (by have := lt11; omega)).trans ho70
 have h115 := OW.keep (n' := n86) h71 (by omega) (fun i hi => hk89 i (OW.id_lt h71 hi).2)
 have hS116 : St n0 n86 H87 F106 := ⟨by have := hS72.lo; omega, hS105.hb, hS105.fh⟩
 have fo117 := (hX107.eq _ (by have := lt11; omega)).trans fo10
 have h118 := OW.keepF h115 hX107.sub (fun i hi => (hX107.eq i (by have := OW.id_lt h71 hi; omega)).trans (OW.fnone h115 hi))
 have hE119 := (hE0.up (n' := n64) (by omega)).trans hX107
 have hlon86 := hS116.lo
 have h120 := OD.lower (lo' := n0) h97 (by omega)
 have h124 := OW.lower (lo' := n0) h101 (by omega)
 have h128 := OW.lower (lo' := n0) h104 (by omega)
 have lt132 := hS116.lt ho93
 have ap133 : idOf (.slice (some ⟨n40, 0, none⟩) ([x12, x30, x39] : List Int).length 3) ≠ some p91 := fun hj => by have := (OW.hb h71) _ hj; omega
 refine GL.lit (cs := []) (xs := ([] : List Int)) hS116 .nil rfl rfl rfl Try.underlying31 info3 rfl rfl rfl (by decide) (by decide) rfl rfl rfl rfl rfl RA.nil rfl (fun H134 hS135 hO136 hk137 => ?_)
 have ho138 := (hk137 _ (by have := lt11; omega)).trans ho114
 have ho139 := (hk137 _ (by have := lt132; omega)).trans ho93
 have h140 := OW.keep (n' := (n86 + 1)) h118 (by omega) (fun i hi => hk137 i (OW.id_lt h118 hi).2)
 have h141 := OD.keep (n' := (n86 + 1)) h120 (by omega) (fun i hi => hk137 i (OD.id_lt h120 hi).2)
 have h142 := OW.keep (n' := (n86 + 1)) h124 (by omega) (fun i hi => hk137 i (OW.id_lt h124 hi).2)
 have h143 := OW.keep (n' := (n86 + 1)) h128 (by omega) (fun i hi => hk137 i (OW.id_lt h128 hi).2)
 have h144 := OW.lower (lo' := n0) hO136 (by omega)
 have hlon861 := hS135.lo
 refine WL.assign .nil rfl rfl rfl rfl ?_
 refine WL.assign .nil rfl rfl rfl rfl ?_
 refine WL.nil ?_
 refine Ex.thn_norm ?_
 with_reducible refine W.seq ?_
 with_reducible refine W.seq ?_
 with_reducible refine W.region ?_
 refine WL.move .nil rfl rfl rfl rfl ?_
 refine WL.len .nil rfl rfl rfl Try.underlying25 rfl ?_
 refine WL.move .nil rfl rfl rfl rfl ?_
 refine WL.nil ?_
 refine Ex.thn_norm ?_
 with_reducible refine W.block ?_
 refine W.loopF (fun k0 fr n H => ∃ (a1725 : Option Addr) (cap1726 : Nat) (xs1727 : (List Int)) (x1731 : Int) (xs1734 : (List GPeer)) (S1737 : Nat → Prop) (a1738 : Option Addr) (cap1739 : Nat) (xs1740 : (List GMsg)) (a1743 : Option Addr) (cap1744 : Nat) (xs1745 : (List GRec)) (x1748 : Bool) (F : Heap), fr = [(4, .pointer (some ⟨n0, 0, none⟩)), (8, .pointer (some ⟨p91, 0, none⟩)), (9, .slice a1725 xs1727.length cap1726), (31, .slice a3 xs2.length cap4), (32, .int .i64 (xs2.length : Int)), (33, .int .i64 x1731)] ∧ St n0 n H F ∧ Ext n0 F0 n F ∧ H n0 = some (.row 1 [.slice none 0 0, .slice none 0 0, .slice none 0 0, .bool false]) ∧ F n0 = none ∧ H p91 = some (.row 1 [.slice a95 x85.Peers.length cap96, .slice a1738 xs1740.length cap1739, .slice a1743 xs1745.length cap1744, .bool x1748]) ∧ F p91 = none ∧ OW n0 n H F (.slice a1725 xs1727.length cap1726) xs1727 ∧ SR F (.slice a3 xs2.length cap4) xs2 ∧ OD n0 n H F S1737 [] (.slice a95 x85.Peers.length cap96) xs1734 ∧ x85.Peers.length = xs1734.length ∧ OW n0 n H F (.slice a1738 xs1740.length cap1739) xs1740 ∧ OW n0 n H F (.slice a1743 xs1745.length cap1744) xs1745 ∧ idOf (.slice a1725 xs1727.length cap1726) ≠ some n0 ∧ idOf (.slice a1725 xs1727.length cap1726) ≠ some p91 ∧ ¬ S1737 n0 ∧ ¬ S1737 p91 ∧ (∀ b, S1737 b → idOf (.slice a1725 xs1727.length cap1726) ≠ some b) ∧ idOf (.slice a1738 xs1740.length cap1739) ≠ some n0 ∧ idOf (.slice a1738 xs1740.length cap1739) ≠ some p91 ∧ (∀ b, idOf (.slice a1738 xs1740.length cap1739) = some b → idOf (.slice a1725 xs1727.length cap1726) ≠ some b) ∧ (∀ b, idOf (.slice a1738 xs1740.length cap1739) = some b → ¬ S1737 b) ∧ idOf (.slice a1743 xs1745.length cap1744) ≠ some n0 ∧ idOf (.slice a1743 xs1745.length cap1744) ≠ some p91 ∧ (∀ b, idOf (.slice a1743 xs1745.length cap1744) = some b → idOf (.slice a1725 xs1727.length cap1726) ≠ some b) ∧ (∀ b, idOf (.slice a1743 xs1745.length cap1744) = some b → ¬ S1737 b) ∧ (∀ b, idOf (.slice a1743 xs1745.length cap1744) = some b → idOf (.slice a1738 xs1740.length cap1739) ≠ some b) ∧ f_impl_ClusterRun_L0 xs2 k0 xs1727 x1731 xs1734 xs1740 xs1745 x1748 = some res) BIG (fr0 := [(4, .pointer (some ⟨n0, 0, none⟩)), (8, .pointer (some ⟨p91, 0, none⟩)), (9, .slice (some ⟨n86, 0, none⟩) ([] : List Int).length 0), (31, .slice a3 xs2.length cap4), (32, .int .i64 (xs2.length : Int)), (33, .int .i64 0)]) (Fr.le_cons rfl (Fr.le_cons rfl (Fr.le_cons rfl (Fr.le_cons rfl (Fr.le_cons rfl (Fr.le_cons rfl Fr.le_nil)))))) ?_ ?_ ?_
 {
 exact ⟨(some ⟨n86, 0, none⟩), 0, ([] : List Int), 0, x85.Peers, S98, a99, cap100, x85.Net, a102, cap103, x85.Chosen, x85.Conflict, F106, rfl, hS135, (hE119.up (by omega)), ho138, fo117, ho139, fo94, h144, (h5.mono hX107.sub), h141, rfl, h142, h143, (Ap.fresh0 (OW.lb hO136) (by have := lt11; omega)), (Ap.fresh0 (OW.lb hO136) (by have := lt132; omega)), (Ap.fresh0 (OD.lb h97) (by have := lt11; omega)), ap108, (Ap.sym (Ap.fresh (OW.lb hO136) (OD.hb h120))), (Ap.fresh0 (OW.lb h101) (by have := lt11; omega)), ap109, (Ap.sym (Ap.fresh (OW.lb hO136) (OW.hb h124))), ap111, (Ap.fresh0 (OW.lb h104) (by have := lt11; omega)), ap110, (Ap.sym (Ap.fresh (OW.lb hO136) (OW.hb h128))), ap112, ap113, hr⟩
 }
 {
 intro fr n H hI
 obtain ⟨a1725, cap1726, xs1727, x1731, xs1734, S1737, a1738, cap1739, xs1740, a1743, cap1744, xs1745, x1748, F1722, hfr, hS1723, hE1724, ho1732, fo1733, ho1749, fo1750, h1728, h1730, h1735, hl1736, h1741, h1746, ap1751, ap1752, ap1753, ap1754, ap1755, ap1756, ap1757, ap1758, ap1759, ap1760, ap1761, ap1762, ap1763, ap1764, hr⟩ := hI
 rw [f_impl_ClusterRun_L0] at hr
 cases hr
 }
 {
 intro k0 _ n1720 H1721 hI
 obtain ⟨a1725, cap1726, xs1727, x1731, xs1734, S1737, a1738, cap1739, xs1740, a1743, cap1744, xs1745, x1748, F1722, rfl, hS1723, hE1724, ho1732, fo1733, ho1749, fo1750, h1728, h1730, h1735, hl1736, h1741, h1746, ap1751, ap1752, ap1753, ap1754, ap1755, ap1756, ap1757, ap1758, ap1759, ap1760, ap1761, ap1762, ap1763, ap1764, hr⟩ := hI
 have lt1765 := hS1723.lt ho1732
 have lt1766 := hS1723.lt ho1749
 have hlen1720 := hE1724.le
 have hlon1720 := hS1723.lo
 rw [f_impl_ClusterRun_L0] at hr
 with_reducible refine W.seq ?_
 with_reducible refine W.region ?_
 refine WL.bin .nil rfl rfl rfl rfl rfl rfl ?_
 refine WL.nil ?_
 refine Ex.thn_norm ?_
 with_reducible refine W.seq ?_
 refine W.condD rfl (fun hc1768 => ?_) (fun hc1768 => ?_)
 {
 replace hr := ite_pos hr hc1768
 with_reducible refine W.skip ?_
 refine Ex.thn_norm ?_
 with_reducible refine W.seq ?_
 with_reducible refine W.block ?_
 with_reducible refine W.seq ?_
 with_reducible refine W.region ?_
 obtain ⟨x1904, hx1904, hr⟩ := bnd_some hr
 refine GL.index .nil rfl rfl rfl Try.underlying25 info24 rfl rfl h1730 hS1723.fh rfl hx1904 (fun b1905 kp1906 c1907 ecs1908 hrow1909 hwin1910 hR1911 => ?_)
 obtain ⟨a1912, cap1913, rfl, h1914⟩ := GEvent.ofR hR1911
 refine WL.loadN .nil (l' := [.int .i64 x1904.Kind, .int .i64 x1904.N, .slice a1912 x1904.Data.length cap1913]) rfl rfl rfl Try.underlying24 rfl info24 rfl hrow1909 hwin1910 rfl ?_
 refine GL.alloc hS1723 .nil (zc := [.int .i64 0, .int .i64 0, .slice none 0 0]) rfl rfl rfl info24 rfl rfl rfl (fun H1915 hS1916 ho1917 hk1918 => ?_)
 have fo1919 := hS1723.fnone (Nat.le_refl _)
 have ho1921 := (hk1918 _ (by have := lt1765; omega)).trans ho1732
 have ho1922 := (hk1918 _ (by have := lt1766; omega)).trans ho1749
 have h1923 := OW.keep (n' := (n1720 + 1)) h1728 (by omega) (fun i hi => hk1918 i (OW.id_lt h1728 hi).2)
 have h1924 := OD.keep (n' := (n1720 + 1)) h1735 (by omega) (fun i hi => hk1918 i (OD.id_lt h1735 hi).2)
 have h1925 := OW.keep (n' := (n1720 + 1)) h1741 (by omega) (fun i hi => hk1918 i (OW.id_lt h1741 hi).2)
 have h1926 := OW.keep (n' := (n1720 + 1)) h1746 (by omega) (fun i hi => hk1918 i (OW.id_lt h1746 hi).2)
 have hlon17201 := hS1916.lo
 have lt1920 : n1720 < (n1720 + 1) := by omega
 refine GL.store hS1916 .nil (vc := [.int .i64 x1904.Kind, .int .i64 x1904.N, .slice a1912 x1904.Data.length cap1913]) (c' := [.int .i64 x1904.Kind, .int .i64 x1904.N, .slice a1912 x1904.Data.length cap1913]) rfl rfl rfl info24 rfl rfl rfl rfl ho1917 fo1919 (Nat.le_of_ble_eq_true rfl) (by omega) (by repeat' (first | exact List.forall_mem_nil _ | refine List.forall_mem_cons.2 ⟨?_, ?_⟩ | rfl)) rfl (fun H1927 hS1928 ho1929 hk1930 => ?_)
 have ho1931 := (hk1930 _ (by omega)).trans ho1921
 have ho1932 := (hk1930 _ (by omega)).trans ho1922
 have h1933 := OW.keep h1923 (Nat.le_refl _) (fun i hi => hk1930 i (fun hj => (Ap.alloc (OW.hb h1728)) (hj ▸ hi)))
 have h1934 := OD.keep h1924 (Nat.le_refl _) (fun i hi => hk1930 i (fun hj => (Ap.alloc (OD.hb h1735)) (hj ▸ hi)))
 have h1935 := OW.keep h1925 (Nat.le_refl _) (fun i hi => hk1930 i (fun hj => (Ap.alloc (OW.hb h1741)) (hj ▸ hi)))
 have h1936 := OW.keep h1926 (Nat.le_refl _) (fun i hi => hk1930 i (fun hj => (Ap.alloc (OW.hb h1746)) (hj ▸ hi)))
 refine WL.nil ?_
 refine Ex.thn_norm ?_
 with_reducible refine W.region ?_
 refine WL.move .nil rfl rfl rfl rfl ?_
 refine WL.move .nil rfl rfl rfl rfl ?_
 refine WL.loadN .nil (l' := [.int .i64 x1904.Kind, .int .i64 x1904.N, .slice a1912 x1904.Data.length cap1913]) rfl rfl rfl Try.underlying24 rfl info24 rfl ho1929 rfl rfl ?_
 obtain ⟨x1937, hx1937, hr⟩ := bnd_some hr
 refine GL.callIO g .nil (fun i => (F1722 i).isSome = true ∨ i = p91 ∨ S1737 i ∨ idOf (.slice a1738 xs1740.length cap1739) = some i ∨ idOf (.slice a1743 xs1745.length cap1744) = some i) rfl rfl rfl rfl rfl rfl Try.func32 rfl rfl (Nat.le_refl _) hS1928.lo (f_impl_Cluster_event_k (x1 := ({ Peers := xs1734, Net := xs1740, Chosen := xs1745, Conflict := x1748 } : GCluster)) (x18 := ({ Kind := x1904.Kind, N := x1904.N, Data := x1904.Data } : GEvent)) g (St.vis hS1928 (fun i hi => .inl hi)) (by rw [← hl1736]; exact vis_get ho1932 (.inr (.inl rfl))) fo1750 (by omega) (OD.head hl1736 (OD.vis h1934 (fun i hi => (.inr (.inr (.inl hi)))))) (OW.vis h1935 (fun i hi => (.inr (.inr (.inr (.inl hi)))))) (OW.vis h1936 (fun i hi => (.inr (.inr (.inr (.inr (hi))))))) h1914 ap1754 ap1757 ap1759 ap1761 ap1763 ap1764 hx1937) (fun v n1938 H1939 H1940 hn1941 hp1942 hle1943 hnew1944 hk1945 hd1946 => ?_)
 obtain ⟨F1957, S1948, a1950, cap1951, a1953, cap1954, hX1958, hS1956, ho1959, rfl, h1947, hl1949, h1952, h1955, ap1960, ap1961, ap1962, ap1963, ap1964, ap1965⟩ := hp1942
 have hS1966 : St n0 n1938 H1939 _ := ⟨hS1956.lo, fun i hi => (hnew1944 i (by omega)).trans (hS1956.hb i hi), hS1956.fh.trans hle1943⟩
 have ho1967 := (hk1945 _ (by have := lt1765; omega) (fun hs => by
      rcases hs with h | h | h | h | h
      · rw [fo1733] at h; cases h
      · omega
      · exact ap1753 h
      · exact ap1756 h
      · exact ap1760 h)).trans ho1931
 have ho1968 := (hk1945 _ (by have := lt1920; omega) (fun hs => by
      rcases hs with h | h | h | h | h
      · rw [fo1919] at h; cases h
      · omega
      · exact (Ap.alloc (OD.hb h1735)) h
      · exact (Ap.alloc (OW.hb h1741)) h
      · exact (Ap.alloc (OW.hb h1746)) h)).trans ho1929
 have h1969 := OW.keep (n' := n1938) h1933 (by omega) (fun i hi => hk1945 i (OW.id_lt h1933 hi).2 (fun hs => by
      rcases hs with h | h | h | h | h
      · rw [(OW.fnone h1933 hi)] at h; cases h
      · exact ap1752 (h ▸ hi)
      · exact ap1755 _ h hi
      · exact ap1758 _ h hi
      · exact ap1762 _ h hi))
 have fo1970 := (hX1958.eq _ (by have := lt1765; omega)).trans fo1733
 have fo1971 := (hX1958.eq _ (by have := lt1766; omega)).trans fo1750
 have fo1972 := (hX1958.eq _ (by have := lt1920; omega)).trans fo1919
 have h1973 := OW.keepF h1969 hX1958.sub (fun i hi => (hX1958.eq i (by have := (OW.hb h1933) i hi; omega)).trans (OW.fnone h1969 hi))
 have hE1974 := (hE1724.up (n' := (n1720 + 1)) (by omega)).trans hX1958
 have ho1975 := hle1943 _ _ ho1959
 have h1976 := OD.le h1947 hle1943
 have hl1977 : x85.Peers.length = x1937.1.Peers.length := hl1736.trans hl1949
 rw [← hl1736] at h1976
 have h1979 := OW.le h1952 hle1943
 have h1981 := OW.le h1955 hle1943
 rw [← hl1736] at ho1975
 have ap1982 : ¬ S1948 n0 := fun hj => (OD.after h1947 hd1946 hj).elim (fun h => by have := lt1765; omega) (fun hs => by
      rcases hs with h | h | h | h | h
      · rw [fo1733] at h; cases h
      · omega
      · exact ap1753 h
      · exact ap1756 h
      · exact ap1760 h)
 have ap1983 : ¬ S1948 n1720 := fun hj => (OD.after h1947 hd1946 hj).elim (fun h => by have := lt1920; omega) (fun hs => by
      rcases hs with h | h | h | h | h
      · rw [fo1919] at h; cases h
      · omega
      · exact (Ap.alloc (OD.hb h1735)) h
      · exact (Ap.alloc (OW.hb h1741)) h
      · exact (Ap.alloc (OW.hb h1746)) h)
 have ap1984 : ∀ b, S1948 b → idOf (.slice a1725 xs1727.length cap1726) ≠ some b := fun b hj hi => (OD.after h1947 hd1946 hj).elim (fun h => by have := (OW.hb h1933) b hi; omega) (fun hs => by
      rcases hs with h | h | h | h | h
      · rw [(OW.fnone h1933 hi)] at h; cases h
      · exact ap1752 (h ▸ hi)
      · exact ap1755 _ h hi
      · exact ap1758 _ h hi
      · exact ap1762 _ h hi)
 have ap1985 : idOf (.slice a1950 x1937.1.Net.length cap1951) ≠ some n0 := fun hj => (OW.after h1952 hd1946 hj).elim (fun h => by have := lt1765; omega) (fun hs => by
      rcases hs with h | h | h | h | h
      · rw [fo1733] at h; cases h
      · omega
      · exact ap1753 h
      · exact ap1756 h
      · exact ap1760 h)
 have ap1986 : idOf (.slice a1950 x1937.1.Net.length cap1951) ≠ some n1720 := fun hj => (OW.after h1952 hd1946 hj).elim (fun h => by have := lt1920; omega) (fun hs => by
      rcases hs with h | h | h | h | h
      · rw [fo1919] at h; cases h
      · omega
      · exact (Ap.alloc (OD.hb h1735)) h
      · exact (Ap.alloc (OW.hb h1741)) h
      · exact (Ap.alloc (OW.hb h1746)) h)
 have ap1987 : ∀ b, idOf (.slice a1950 x1937.1.Net.length cap1951) = some b → idOf (.slice a1725 xs1727.length cap1726) ≠ some b := fun b hj hi => (OW.after h1952 hd1946 hj).elim (fun h => by have := (OW.hb h1933) b hi; omega) (fun hs => by
      rcases hs with h | h | h | h | h
      · rw [(OW.fnone h1933 hi)] at h; cases h
      · exact ap1752 (h ▸ hi)
      · exact ap1755 _ h hi
      · exact ap1758 _ h hi
      · exact ap1762 _ h hi)
 have ap1988 : idOf (.slice a1953 x1937.1.Chosen.length cap1954) ≠ some n0 := fun hj => (OW.after h1955 hd1946 hj).elim (fun h => by have := lt1765; omega) (fun hs => by
      rcases hs with h | h | h | h | h
      · rw [fo1733] at h; cases h
      · omega
      · exact ap1753 h
      · exact ap1756 h
      · exact ap1760 h)
 have ap1989 : idOf (.slice a1953 x1937.1.Chosen.length cap1954) ≠ some n1720 := fun hj => (OW.after h1955 hd1946 hj).elim (fun h => by have := lt1920; omega) (fun hs => by
      rcases hs with h | h | h | h | h
      · rw [fo1919] at h; cases h
      · omega
      · exact (Ap.alloc (OD.hb h1735)) h
      · exact (Ap.alloc (OW.hb h1741)) h
      · exact (Ap.alloc (OW.hb h1746)) h)
 have ap1990 : ∀ b, idOf (.slice a1953 x1937.1.Chosen.length cap1954) = some b → idOf (.slice a1725 xs1727.length cap1726) ≠ some b := fun b hj hi => (OW.after h1955 hd1946 hj).elim (fun h => by have := (OW.hb h1933) b hi; omega) (fun hs => by
      rcases hs with h | h | h | h | h
      · rw [(OW.fnone h1933 hi)] at h; cases h
      · exact ap1752 (h ▸ hi)
      · exact ap1755 _ h hi
      · exact ap1758 _ h hi
      · exact ap1762 _ h hi)
 have hlon1938 := hS1966.lo
 have lt1991 := hS1966.lt ho1967
 have lt1992 := hS1966.lt ho1975
 have lt1993 := hS1966.lt ho1968
 refine GL.lit (cs := [.int .i64 x1937.2]) (xs := ([x1937.2] : List Int)) hS1966 .nil rfl rfl rfl Try.underlying31 info3 rfl rfl rfl (by decide) (by decide) rfl rfl rfl rfl rfl (RA.cons (cs := [.int .i64 x1937.2]) (a := (x1937.2 : Int)) rfl RA.nil) rfl (fun H1994 hS1995 hO1996 hk1997 => ?_)
 have ho1998 := (hk1997 _ (by have := lt1991; omega)).trans ho1967
 have ho1999 := (hk1997 _ (by have := lt1992; omega)).trans ho1975
 have ho2000 := (hk1997 _ (by have := lt1993; omega)).trans ho1968
 have h2001 := OW.keep (n' := (n1938 + 1)) h1973 (by omega) (fun i hi => hk1997 i (OW.id_lt h1973 hi).2)
 have h2002 := OD.keep (n' := (n1938 + 1)) h1976 (by omega) (fun i hi => hk1997 i (OD.id_lt h1976 hi).2)
 have h2003 := OW.keep (n' := (n1938 + 1)) h1979 (by omega) (fun i hi => hk1997 i (OW.id_lt h1979 hi).2)
 have h2004 := OW.keep (n' := (n1938 + 1)) h1981 (by omega) (fun i hi => hk1997 i (OW.id_lt h1981 hi).2)
 have h2005 := OW.lower (lo' := n0) hO1996 (by omega)
 have hlon19381 := hS1995.lo
 obtain ⟨hc2014, hr⟩ := chk_some hr
 refine GL.append (α := Int) hS1995 .nil rfl rfl rfl Try.underlying31 Try.underlying31 rfl info3 rfl rfl rfl (by decide) rfl rfl h2001 (by omega) (by omega) (OW.src h2005) hc2014 (fun a2015 cap2016 n2017 H2018 hS2019 hn2020 hO2021 hk2022 hid2023 => ?_)
 have ho2024 := (hk2022 _ (by have := lt1991; omega) ap1751).trans ho1998
 have ho2025 := (hk2022 _ (by have := lt1992; omega) ap1752).trans ho1999
 have ho2026 := (hk2022 _ (by have := lt1993; omega) (Ap.alloc (OW.hb h1728))).trans ho2000
 have h2027 := OD.keep h2002 hn2020 (fun i hi => hk2022 i (OD.id_lt h2002 hi).2 (fun hj => (Ap.sym ap1984) _ hj hi))
 have h2028 := OW.keep h2003 hn2020 (fun i hi => hk2022 i (OW.id_lt h2003 hi).2 (fun hj => (Ap.sym ap1987) _ hj hi))
 have h2029 := OW.keep h2004 hn2020 (fun i hi => hk2022 i (OW.id_lt h2004 hi).2 (fun hj => (Ap.sym ap1990) _ hj hi))
 have h2030 := OW.keep h2005 hn2020 (fun i hi => hk2022 i (OW.id_lt h2005 hi).2 (fun hj => (Ap.sym (Ap.fresh (OW.lb hO1996) (OW.hb h1973))) _ hj hi))
 have hlon2017 := hS2019.lo
 refine WL.assign .nil rfl rfl rfl rfl ?_
 refine WL.nil ?_
 with_reducible refine Ex.blk_norm ?_
 refine Ex.thn_norm ?_
 with_reducible refine W.region ?_
 obtain ⟨hc2039, hr⟩ := chk_some hr
 refine WL.addI .nil rfl rfl rfl rfl rfl hc2039.1 hc2039.2 ?_
 refine WL.move .nil rfl rfl rfl rfl ?_
 refine WL.nil ?_
 refine Ex.thn_norm ?_
 exact ⟨[(4, .pointer (some ⟨n0, 0, none⟩)), (8, .pointer (some ⟨p91, 0, none⟩)), (9, .slice a2015 (xs1727 ++ ([x1937.2] : List Int)).length cap2016), (31, .slice a3 xs2.length cap4), (32, .int .i64 (xs2.length : Int)), (33, .int .i64 (x1731 + 1))], (Fr.le_cons rfl (Fr.le_cons rfl (Fr.le_cons rfl (Fr.le_cons rfl (Fr.le_cons rfl (Fr.le_cons rfl Fr.le_nil)))))), a2015, cap2016, (xs1727 ++ ([x1937.2] : List Int)), (x1731 + 1), x1937.1.Peers, S1948, a1950, cap1951, x1937.1.Net, a1953, cap1954, x1937.1.Chosen, x1937.1.Conflict, F1957, rfl, hS2019, (hE1974.up (by omega)), ho2024, fo1970, ho2025, fo1971, hO2021, (h1730.mono hX1958.sub), h2027, hl1977, h2028, h2029, (Ap.new0 hid2023 (by have := lt1991; omega) ap1751), (Ap.new0 hid2023 (by have := lt1992; omega) ap1752), ap1982, ap1960, (Ap.sym (Ap.new hid2023 (OD.hb h2002) (Ap.sym ap1984))), ap1985, ap1961, (Ap.sym (Ap.new hid2023 (OW.hb h2003) (Ap.sym ap1987))), ap1963, ap1988, ap1962, (Ap.sym (Ap.new hid2023 (OW.hb h2004) (Ap.sym ap1990))), ap1964, ap1965, hr⟩
 }
 {
 replace hr := ite_neg hr hc1768
 with_reducible refine W.exit ?_
 with_reducible refine Ex.thn_ex ?_
 with_reducible refine Ex.thn_ex ?_
 with_reducible refine Ex.blk_here ?_
 refine Ex.thn_norm ?_
 with_reducible refine W.seq ?_
 with_reducible refine W.region ?_
 refine WL.move .nil rfl rfl rfl rfl ?_
 obtain ⟨x2040, hx2040, hr⟩ := bnd_some hr
 refine GL.callP g.good .nil rfl rfl rfl rfl rfl rfl Try.func33 rfl rfl hS1723.lo (f_impl_Cluster_told_k (x1 := ({ Peers := xs1734, Net := xs1740, Chosen := xs1745, Conflict := x1748 } : GCluster)) g hS1723 (by rw [← hl1736]; exact ho1749) fo1750 (OD.head hl1736 h1735) h1741 h1746 ap1754 ap1757 ap1759 ap1761 ap1763 ap1764 hx2040) (fun v n2041 H2042 hn2043 hk2044 hp2045 => ?_)
 obtain ⟨F2056, a2046, cap2047, a2049, cap2050, a2052, cap2053, hX2057, hS2055, rfl, h2048, h2051, h2054⟩ := hp2045
 have ho2058 := (hk2044 _ (by have := lt1765; omega)).trans ho1732
 have ho2059 := (hk2044 _ (by have := lt1766; omega)).trans ho1749
 have h2060 := OW.keep (n' := n2041) h1728 (by omega) (fun i hi => hk2044 i (OW.id_lt h1728 hi).2)
 have h2061 := OD.keep (n' := n2041) h1735 (by omega) (fun i hi => hk2044 i (OD.id_lt h1735 hi).2)
 have h2062 := OW.keep (n' := n2041) h1741 (by omega) (fun i hi => hk2044 i (OW.id_lt h1741 hi).2)
 have h2063 := OW.keep (n' := n2041) h1746 (by omega) (fun i hi => hk2044 i (OW.id_lt h1746 hi).2)
 have hS2064 : St n0 n2041 H2042 F2056 := ⟨by have := hS1723.lo; omega, hS2055.hb, hS2055.fh⟩
 have fo2065 := (hX2057.eq _ (by have := lt1765; omega)).trans fo1733
 have fo2066 := (hX2057.eq _ (by have := lt1766; omega)).trans fo1750
 have h2067 := OW.keepF h2060 hX2057.sub (fun i hi => (hX2057.eq i (by have := OW.id_lt h1728 hi; omega)).trans (OW.fnone h2060 hi))
 have h2068 := OD.keepF h2061 hX2057.sub (fun i hi => (hX2057.eq i (by have := OD.id_lt h1735 hi; omega)).trans (OD.fnone h2061 hi))
 have h2069 := OW.keepF h2062 hX2057.sub (fun i hi => (hX2057.eq i (by have := OW.id_lt h1741 hi; omega)).trans (OW.fnone h2062 hi))
 have h2070 := OW.keepF h2063 hX2057.sub (fun i hi => (hX2057.eq i (by have := OW.id_lt h1746 hi; omega)).trans (OW.fnone h2063 hi))
 have hE2071 := (hE1724.up (n' := n1720) (by omega)).trans hX2057
 have hlon2041 := hS2064.lo
 refine WL.move .nil rfl rfl rfl rfl ?_
 refine GL.store hS2064 .nil (vc := [.slice a2046 x2040.Peers.length cap2047, .slice a2049 x2040.Net.length cap2050, .slice a2052 x2040.Chosen.length cap2053, .bool x2040.Conflict]) (c' := [.slice a2046 x2040.Peers.length cap2047, .slice a2049 x2040.Net.length cap2050, .slice a2052 x2040.Chosen.length cap2053, .bool x2040.Conflict]) rfl rfl rfl info30 rfl rfl rfl rfl ho2058 fo2065 (Nat.le_of_ble_eq_true rfl) (by omega) (by repeat' (first | exact List.forall_mem_nil _ | refine List.forall_mem_cons.2 ⟨?_, ?_⟩ | rfl)) rfl (fun H2072 hS2073 ho2074 hk2075 => ?_)
 have ho2076 := (hk2075 _ (by omega)).trans ho2059
 have h2077 := OW.keep h2067 (Nat.le_refl _) (fun i hi => hk2075 i (fun hj => ap1751 (hj ▸ hi)))
 have h2078 := OD.keep h2068 (Nat.le_refl _) (fun i hi => hk2075 i (fun hj => ap1753 (hj ▸ hi)))
 have h2079 := OW.keep h2069 (Nat.le_refl _) (fun i hi => hk2075 i (fun hj => ap1756 (hj ▸ hi)))
 have h2080 := OW.keep h2070 (Nat.le_refl _) (fun i hi => hk2075 i (fun hj => ap1760 (hj ▸ hi)))
 refine WL.assign .nil rfl rfl rfl rfl ?_
 refine WL.assign .nil rfl rfl rfl rfl ?_
 refine WL.nil ?_
 refine Ex.thn_norm ?_
 with_reducible refine W.ret ?_
 obtain rfl := Option.some.inj hr
 exact ⟨.inr rfl, _, (.cons (.cellN (l := [.slice a2046 x2040.Peers.length cap2047, .slice a2049 x2040.Net.length cap2050, .slice a2052 x2040.Chosen.length cap2053, .bool x2040.Conflict]) rfl Try.underlying30 rfl info30 ho2074 rfl rfl) (.cons (.tmp rfl) (.cons (.tmp rfl) .nil))), ⟨F2056, a2046, cap2047, a2049, cap2050, a2052, cap2053, a1725, cap1726, (hE2071.up (by omega)), hS2073, rfl, h2048, h2051, h2054, h2077⟩⟩
 }
 }
 }
theorem f_impl_Majority_k {Δ : Prims} (g : Env Try.prog Δ) {lo n0 : Nat} {H0 F0 : Heap} (hS : St lo n0 H0 F0) {x1 : Int} {res : (Int)} (hr : f_impl_Majority x1 = some res) :
    C Try.prog Δ n0 9 [.int .i64 x1] n0 H0 (fun v n H => St n0 n H F0 ∧ v = .int .i64 res) := by
 refine C.body Try.func9 rfl rfl ?_
 unfold f_impl_Majority at hr
 have hS0 : St n0 n0 H0 F0 := hS.low (Nat.le_refl _)
 have hE0 := Ext.refl n0 F0
 have hlo0 := hS0.lo
 with_reducible refine W.seq ?_
 with_reducible refine W.region ?_
 refine WL.assign .nil rfl rfl rfl rfl ?_
 refine WL.nil ?_
 refine Ex.thn_norm ?_
 with_reducible refine W.seq ?_
 with_reducible refine W.seq ?_
 with_reducible refine W.region ?_
 refine WL.move .nil rfl rfl rfl rfl ?_
 obtain ⟨x2, hx2, hr⟩ := bnd_some hr
 refine GL.callP g.good .nil rfl rfl rfl rfl rfl rfl Try.func30 rfl rfl hS0.lo (f_impl_within_k  g hS0 hx2) (fun v n3 H4 hn5 hk6 hp7 => ?_)
 obtain ⟨hS8, rfl⟩ := hp7
 have hS9 : St n0 n3 H4 F0 := ⟨by have := hS0.lo; omega, hS8.hb, hS8.fh⟩
 have hlon3 := hS9.lo
 refine WL.not .nil rfl rfl rfl rfl ?_
 refine WL.nil ?_
 refine Ex.thn_norm ?_
 refine W.cond rfl (fun hc11 => ?_) (fun hc11 => ?_)
 {
 replace hr := iteB_pos hr hc11
 with_reducible refine W.seq ?_
 with_reducible refine W.region ?_
 refine WL.assign .nil rfl rfl rfl rfl ?_
 refine WL.nil ?_
 refine Ex.thn_norm ?_
 with_reducible refine W.ret ?_
 with_reducible refine Ex.thn_ret ?_
 obtain rfl := Option.some.inj hr
 exact ⟨.inr rfl, _, (.cons (.tmp rfl) .nil), ⟨(Ext.st hE0 hS9), rfl⟩⟩
 }
 {
 replace hr := iteB_neg hr hc11
 with_reducible refine W.skip ?_
 refine Ex.thn_norm ?_
 with_reducible refine W.seq ?_
 with_reducible refine W.region ?_
 refine WL.move .nil rfl rfl rfl rfl ?_
 obtain ⟨x12, hx12, hr⟩ := bnd_some hr
 refine GL.callP g.good .nil rfl rfl rfl rfl rfl rfl Try.func34 rfl rfl hS9.lo (f_impl_most_k  g hS9 hx12) (fun v n13 H14 hn15 hk16 hp17 => ?_)
 obtain ⟨hS18, rfl⟩ := hp17
 have hS19 : St n0 n13 H14 F0 := ⟨by have := hS9.lo; omega, hS18.hb, hS18.fh⟩
 have hlon13 := hS19.lo
 refine WL.assign .nil rfl rfl rfl rfl ?_
 refine WL.nil ?_
 refine Ex.thn_norm ?_
 with_reducible refine W.ret ?_
 obtain rfl := Option.some.inj hr
 exact ⟨.inr rfl, _, (.cons (.tmp rfl) .nil), ⟨(Ext.st hE0 hS19), rfl⟩⟩
 }
theorem f_laws_FnLives_k {Δ : Prims} (g : Env Try.prog Δ) {lo n0 : Nat} {H0 F0 : Heap} (hS : St lo n0 H0 F0) {a2 : Option Addr} {cap3 : Nat} {xs1 : (List UInt8)} (h4 : SR F0 (.slice a2 xs1.length cap3) xs1) {res : (Bool)} (hr : f_laws_FnLives xs1 = some res) :
    C Try.prog Δ n0 3 [.slice a2 xs1.length cap3] n0 H0 (fun v n H => St n0 n H F0 ∧ v = .bool res) := by
 refine C.body Try.func3 rfl rfl ?_
 unfold f_laws_FnLives at hr
 have hS0 : St n0 n0 H0 F0 := hS.low (Nat.le_refl _)
 have hE0 := Ext.refl n0 F0
 have hlo0 := hS0.lo
 with_reducible refine W.seq ?_
 with_reducible refine W.region ?_
 refine WL.assign .nil rfl rfl rfl rfl ?_
 refine WL.nil ?_
 refine Ex.thn_norm ?_
 with_reducible refine W.seq ?_
 with_reducible refine W.seq ?_
 with_reducible refine W.region ?_
 refine WL.move .nil rfl rfl rfl rfl ?_
 refine WL.len .nil rfl rfl rfl Try.underlying22 rfl ?_
 refine WL.bin .nil rfl rfl rfl rfl rfl rfl ?_
 refine WL.nil ?_
 refine Ex.thn_norm ?_
 refine W.condD rfl (fun hc6 => ?_) (fun hc6 => ?_)
 {
 replace hr := ite_pos hr hc6
 with_reducible refine W.seq ?_
 with_reducible refine W.region ?_
 refine WL.assign .nil rfl rfl rfl rfl ?_
 refine WL.nil ?_
 refine Ex.thn_norm ?_
 with_reducible refine W.ret ?_
 with_reducible refine Ex.thn_ret ?_
 obtain rfl := Option.some.inj hr
 exact ⟨.inr rfl, _, (.cons (.tmp rfl) .nil), ⟨(Ext.st hE0 hS0), rfl⟩⟩
 }
 {
 replace hr := ite_neg hr hc6
 with_reducible refine W.skip ?_
 refine Ex.thn_norm ?_
 with_reducible refine W.seq ?_
 with_reducible refine W.region ?_
 refine WL.move .nil rfl rfl rfl rfl ?_
 refine WL.len .nil rfl rfl rfl Try.underlying22 rfl ?_
 obtain ⟨hc7, hr⟩ := chk_some hr
 refine WL.remI .nil rfl rfl rfl rfl rfl hc7.1 hc7.2 ?_
 refine WL.buildL .nil (cells := [.int .i64 1, .int .i64 ((xs1.length : Int) % 3), .slice none 0 0]) rfl rfl rfl Try.underlying24 info24 rfl rfl rfl (by simp only [List.mapM_cons, List.mapM_nil, info3, info3, info22]; rfl) rfl (by first | rfl | ((conv => lhs; simp [splice, fillL, cells_int, cells_bool, cells_string, cells_str, cells_slice, cells_ptr, cells_map, cells_func, cells_nilFunc, cells_nilIface, cells_iface, cells_agg, cells_u8]) <;> rfl)) ?_
 refine GL.lit (cs := [.int .i64 1, .int .i64 ((xs1.length : Int) % 3), .slice none 0 0]) (xs := ([({ Kind := 1, N := ((xs1.length : Int) % 3), Data := [] } : GEvent)] : List GEvent)) hS0 .nil rfl rfl rfl Try.underlying25 info24 rfl rfl rfl (by decide) (by decide) rfl rfl rfl rfl rfl (RA.cons (cs := [.int .i64 1, .int .i64 ((xs1.length : Int) % 3), .slice none 0 0]) (a := (({ Kind := 1, N := ((xs1.length : Int) % 3), Data := [] } : GEvent) : GEvent)) (GEvent.toR (x := ({ Kind := 1, N := ((xs1.length : Int) % 3), Data := [] } : GEvent)) SR.nil) RA.nil) rfl (fun H8 hS9 hO10 hk11 => ?_)
 have h12 := OW.lower (lo' := n0) hO10 (by omega)
 have hlon01 := hS9.lo
 refine WL.assign .nil rfl rfl rfl rfl ?_
 refine WL.nil ?_
 refine Ex.thn_norm ?_
 with_reducible refine W.seq ?_
 with_reducible refine W.seq ?_
 with_reducible refine W.region ?_
 refine WL.assign .nil rfl rfl rfl rfl ?_
 refine WL.nil ?_
 refine Ex.thn_norm ?_
 with_reducible refine W.block ?_
 refine W.loopF (fun k0 fr n H => ∃ (a295 : Option Addr) (cap296 : Nat) (xs297 : (List GEvent)) (x300 : Int) (F : Heap), fr = [(0, .slice a2 xs1.length cap3), (3, .slice a295 xs297.length cap296), (4, .int .i64 x300)] ∧ St n0 n H F ∧ Ext n0 F0 n F ∧ SR F (.slice a2 xs1.length cap3) xs1 ∧ OW n0 n H F (.slice a295 xs297.length cap296) xs297 ∧ f_laws_FnLives_L0 xs1 k0 xs297 x300 = some res) BIG (fr0 := [(0, .slice a2 xs1.length cap3), (3, .slice (some ⟨n0, 0, none⟩) ([({ Kind := 1, N := ((xs1.length : Int) % 3), Data := [] } : GEvent)] : List GEvent).length 1), (4, .int .i64 0)]) (Fr.le_cons rfl (Fr.le_cons rfl (Fr.le_cons rfl Fr.le_nil))) ?_ ?_ ?_
 {
 exact ⟨(some ⟨n0, 0, none⟩), 1, ([({ Kind := 1, N := ((xs1.length : Int) % 3), Data := [] } : GEvent)] : List GEvent), 0, F0, rfl, hS9, (hE0.up (by omega)), h4, h12, hr⟩
 }
 {
 intro fr n H hI
 obtain ⟨a295, cap296, xs297, x300, F291, hfr, hS292, hE293, h294, h298, hr⟩ := hI
 rw [f_laws_FnLives_L0] at hr
 cases hr
 }
 {
 intro k0 _ n289 H290 hI
 obtain ⟨a295, cap296, xs297, x300, F291, rfl, hS292, hE293, h294, h298, hr⟩ := hI
 have hlen289 := hE293.le
 have hlon289 := hS292.lo
 rw [f_laws_FnLives_L0] at hr
 with_reducible refine W.seq ?_
 with_reducible refine W.seq ?_
 with_reducible refine W.region ?_
 refine WL.move .nil rfl rfl rfl rfl ?_
 refine WL.bin .nil rfl rfl rfl rfl rfl rfl ?_
 refine WL.nil ?_
 refine Ex.thn_norm ?_
 refine W.condD rfl (fun hc302 => ?_) (fun hc302 => ?_)
 {
 replace hr := ite_pos hr hc302
 with_reducible refine W.skip ?_
 refine Ex.thn_norm ?_
 with_reducible refine W.seq ?_
 with_reducible refine W.block ?_
 with_reducible refine W.region ?_
 refine WL.move .nil rfl rfl rfl rfl ?_
 refine WL.buildL .nil (cells := [.int .i64 2, .int .i64 0, .slice none 0 0]) rfl rfl rfl Try.underlying24 info24 rfl rfl rfl (by simp only [List.mapM_cons, List.mapM_nil, info3, info3, info22]; rfl) rfl (by first | rfl | ((conv => lhs; simp [splice, fillL, cells_int, cells_bool, cells_string, cells_str, cells_slice, cells_ptr, cells_map, cells_func, cells_nilFunc, cells_nilIface, cells_iface, cells_agg, cells_u8]) <;> rfl)) ?_
 refine GL.lit (cs := [.int .i64 2, .int .i64 0, .slice none 0 0]) (xs := ([({ Kind := 2, N := 0, Data := [] } : GEvent)] : List GEvent)) hS292 .nil rfl rfl rfl Try.underlying25 info24 rfl rfl rfl (by decide) (by decide) rfl rfl rfl rfl rfl (RA.cons (cs := [.int .i64 2, .int .i64 0, .slice none 0 0]) (a := (({ Kind := 2, N := 0, Data := [] } : GEvent) : GEvent)) (GEvent.toR (x := ({ Kind := 2, N := 0, Data := [] } : GEvent)) SR.nil) RA.nil) rfl (fun H324 hS325 hO326 hk327 => ?_)
 have h328 := OW.keep (n' := (n289 + 1)) h298 (by omega) (fun i hi => hk327 i (OW.id_lt h298 hi).2)
 have h329 := OW.lower (lo' := n0) hO326 (by omega)
 have hlon2891 := hS325.lo
 obtain ⟨hc332, hr⟩ := chk_some hr
 refine GL.append (α := GEvent) hS325 .nil rfl rfl rfl Try.underlying25 Try.underlying25 rfl info24 rfl rfl rfl (by decide) rfl rfl h328 (by omega) (by omega) (OW.src h329) hc332 (fun a333 cap334 n335 H336 hS337 hn338 hO339 hk340 hid341 => ?_)
 have h342 := OW.keep h329 hn338 (fun i hi => hk340 i (OW.id_lt h329 hi).2 (fun hj => (Ap.sym (Ap.fresh (OW.lb hO326) (OW.hb h298))) _ hj hi))
 have hlon335 := hS337.lo
 refine WL.assign .nil rfl rfl rfl rfl ?_
 refine WL.nil ?_
 with_reducible refine Ex.blk_norm ?_
 refine Ex.thn_norm ?_
 with_reducible refine W.region ?_
 refine WL.move .nil rfl rfl rfl rfl ?_
 obtain ⟨hc345, hr⟩ := chk_some hr
 refine WL.addI .nil rfl rfl rfl rfl rfl hc345.1 hc345.2 ?_
 refine WL.assign .nil rfl rfl rfl rfl ?_
 refine WL.nil ?_
 refine Ex.thn_norm ?_
 exact ⟨[(0, .slice a2 xs1.length cap3), (3, .slice a333 (xs297 ++ ([({ Kind := 2, N := 0, Data := [] } : GEvent)] : List GEvent)).length cap334), (4, .int .i64 (x300 + 1))], (Fr.le_cons rfl (Fr.le_cons rfl (Fr.le_cons rfl Fr.le_nil))), a333, cap334, (xs297 ++ ([({ Kind := 2, N := 0, Data := [] } : GEvent)] : List GEvent)), (x300 + 1), F291, rfl, hS337, (hE293.up (by omega)), h294, hO339, hr⟩
 }
 {
 replace hr := ite_neg hr hc302
 with_reducible refine W.exit ?_
 with_reducible refine Ex.thn_ex ?_
 with_reducible refine Ex.thn_ex ?_
 with_reducible refine Ex.blk_here ?_
 refine Ex.thn_norm ?_
 with_reducible refine W.seq ?_
 with_reducible refine W.region ?_
 refine WL.move .nil rfl rfl rfl rfl ?_
 refine WL.move .nil rfl rfl rfl rfl ?_
 refine WL.len .nil rfl rfl rfl Try.underlying22 rfl ?_
 obtain ⟨hc346, hr⟩ := chk_some hr
 refine WL.remI .nil rfl rfl rfl rfl rfl hc346.1 hc346.2 ?_
 refine WL.move .nil rfl rfl rfl rfl ?_
 refine WL.buildL .nil (cells := [.int .i64 7, .int .i64 ((xs1.length : Int) % 3), .slice a2 xs1.length cap3]) rfl rfl rfl Try.underlying24 info24 rfl rfl rfl (by simp only [List.mapM_cons, List.mapM_nil, info3, info3, info22]; rfl) rfl (by first | rfl | ((conv => lhs; simp [splice, fillL, cells_int, cells_bool, cells_string, cells_str, cells_slice, cells_ptr, cells_map, cells_func, cells_nilFunc, cells_nilIface, cells_iface, cells_agg, cells_u8]) <;> rfl)) ?_
 refine WL.move .nil rfl rfl rfl rfl ?_
 refine WL.len .nil rfl rfl rfl Try.underlying22 rfl ?_
 obtain ⟨hc347, hr⟩ := chk_some hr
 refine WL.remI .nil rfl rfl rfl rfl rfl hc347.1 hc347.2 ?_
 refine WL.buildL .nil (cells := [.int .i64 1, .int .i64 ((xs1.length : Int) % 3), .slice none 0 0]) rfl rfl rfl Try.underlying24 info24 rfl rfl rfl (by simp only [List.mapM_cons, List.mapM_nil, info3, info3, info22]; rfl) rfl (by first | rfl | ((conv => lhs; simp [splice, fillL, cells_int, cells_bool, cells_string, cells_str, cells_slice, cells_ptr, cells_map, cells_func, cells_nilFunc, cells_nilIface, cells_iface, cells_agg, cells_u8]) <;> rfl)) ?_
 refine GL.lit (cs := [.int .i64 7, .int .i64 ((xs1.length : Int) % 3), .slice a2 xs1.length cap3, .int .i64 1, .int .i64 ((xs1.length : Int) % 3), .slice none 0 0]) (xs := ([({ Kind := 7, N := ((xs1.length : Int) % 3), Data := xs1 } : GEvent), ({ Kind := 1, N := ((xs1.length : Int) % 3), Data := [] } : GEvent)] : List GEvent)) hS292 .nil rfl rfl rfl Try.underlying25 info24 rfl rfl rfl (by decide) (by decide) rfl rfl rfl rfl rfl (RA.cons (cs := [.int .i64 7, .int .i64 ((xs1.length : Int) % 3), .slice a2 xs1.length cap3]) (a := (({ Kind := 7, N := ((xs1.length : Int) % 3), Data := xs1 } : GEvent) : GEvent)) (GEvent.toR (x := ({ Kind := 7, N := ((xs1.length : Int) % 3), Data := xs1 } : GEvent)) h294) (RA.cons (cs := [.int .i64 1, .int .i64 ((xs1.length : Int) % 3), .slice none 0 0]) (a := (({ Kind := 1, N := ((xs1.length : Int) % 3), Data := [] } : GEvent) : GEvent)) (GEvent.toR (x := ({ Kind := 1, N := ((xs1.length : Int) % 3), Data := [] } : GEvent)) SR.nil) RA.nil)) rfl (fun H348 hS349 hO350 hk351 => ?_)
 have h352 := OW.keep (n' := (n289 + 1)) h298 (by omega) (fun i hi => hk351 i (OW.id_lt h298 hi).2)
 have h353 := OW.lower (lo' := n0) hO350 (by omega)
 have hlon2891 := hS349.lo
 obtain ⟨hc356, hr⟩ := chk_some hr
 refine GL.append (α := GEvent) hS349 .nil rfl rfl rfl Try.underlying25 Try.underlying25 rfl info24 rfl rfl rfl (by decide) rfl rfl h352 (by omega) (by omega) (OW.src h353) hc356 (fun a357 cap358 n359 H360 hS361 hn362 hO363 hk364 hid365 => ?_)
 have h366 := OW.keep h353 hn362 (fun i hi => hk364 i (OW.id_lt h353 hi).2 (fun hj => (Ap.sym (Ap.fresh (OW.lb hO350) (OW.hb h298))) _ hj hi))
 have hlon359 := hS361.lo
 refine WL.assign .nil rfl rfl rfl rfl ?_
 refine WL.nil ?_
 refine Ex.thn_norm ?_
 with_reducible refine W.seq ?_
 with_reducible refine W.seq ?_
 with_reducible refine W.region ?_
 refine WL.assign .nil rfl rfl rfl rfl ?_
 refine WL.nil ?_
 refine Ex.thn_norm ?_
 with_reducible refine W.block ?_
 refine W.loopF (fun k1 fr n H => ∃ (a650 : Option Addr) (cap651 : Nat) (xs652 : (List GEvent)) (x655 : Int) (F : Heap), fr = [(0, .slice a2 xs1.length cap3), (3, .slice a650 xs652.length cap651), (5, .int .i64 x655)] ∧ St n0 n H F ∧ Ext n0 F0 n F ∧ SR F (.slice a2 xs1.length cap3) xs1 ∧ OW n0 n H F (.slice a650 xs652.length cap651) xs652 ∧ f_laws_FnLives_L1 xs1 k1 xs652 x655 = some res) BIG (fr0 := [(0, .slice a2 xs1.length cap3), (3, .slice a357 (xs297 ++ ([({ Kind := 7, N := ((xs1.length : Int) % 3), Data := xs1 } : GEvent), ({ Kind := 1, N := ((xs1.length : Int) % 3), Data := [] } : GEvent)] : List GEvent)).length cap358), (5, .int .i64 0)]) (Fr.le_cons rfl (Fr.le_cons rfl (Fr.le_cons rfl Fr.le_nil))) ?_ ?_ ?_
 {
 exact ⟨a357, cap358, (xs297 ++ ([({ Kind := 7, N := ((xs1.length : Int) % 3), Data := xs1 } : GEvent), ({ Kind := 1, N := ((xs1.length : Int) % 3), Data := [] } : GEvent)] : List GEvent)), 0, F291, rfl, hS361, (hE293.up (by omega)), h294, hO363, hr⟩
 }
 {
 intro fr n H hI
 obtain ⟨a650, cap651, xs652, x655, F646, hfr, hS647, hE648, h649, h653, hr⟩ := hI
 rw [f_laws_FnLives_L1] at hr
 cases hr
 }
 {
 intro k1 _ n644 H645 hI
 obtain ⟨a650, cap651, xs652, x655, F646, rfl, hS647, hE648, h649, h653, hr⟩ := hI
 have hlen644 := hE648.le
 have hlon644 := hS647.lo
 rw [f_laws_FnLives_L1] at hr
 with_reducible refine W.seq ?_
 with_reducible refine W.seq ?_
 with_reducible refine W.region ?_
 refine WL.move .nil rfl rfl rfl rfl ?_
 refine WL.bin .nil rfl rfl rfl rfl rfl rfl ?_
 refine WL.nil ?_
 refine Ex.thn_norm ?_
 refine W.condD rfl (fun hc657 => ?_) (fun hc657 => ?_)
 {
 replace hr := ite_pos hr hc657
 with_reducible refine W.skip ?_
 refine Ex.thn_norm ?_
 with_reducible refine W.seq ?_
 with_reducible refine W.block ?_
 with_reducible refine W.region ?_
 refine WL.move .nil rfl rfl rfl rfl ?_
 refine WL.buildL .nil (cells := [.int .i64 2, .int .i64 0, .slice none 0 0]) rfl rfl rfl Try.underlying24 info24 rfl rfl rfl (by simp only [List.mapM_cons, List.mapM_nil, info3, info3, info22]; rfl) rfl (by first | rfl | ((conv => lhs; simp [splice, fillL, cells_int, cells_bool, cells_string, cells_str, cells_slice, cells_ptr, cells_map, cells_func, cells_nilFunc, cells_nilIface, cells_iface, cells_agg, cells_u8]) <;> rfl)) ?_
 refine GL.lit (cs := [.int .i64 2, .int .i64 0, .slice none 0 0]) (xs := ([({ Kind := 2, N := 0, Data := [] } : GEvent)] : List GEvent)) hS647 .nil rfl rfl rfl Try.underlying25 info24 rfl rfl rfl (by decide) (by decide) rfl rfl rfl rfl rfl (RA.cons (cs := [.int .i64 2, .int .i64 0, .slice none 0 0]) (a := (({ Kind := 2, N := 0, Data := [] } : GEvent) : GEvent)) (GEvent.toR (x := ({ Kind := 2, N := 0, Data := [] } : GEvent)) SR.nil) RA.nil) rfl (fun H679 hS680 hO681 hk682 => ?_)
 have h683 := OW.keep (n' := (n644 + 1)) h653 (by omega) (fun i hi => hk682 i (OW.id_lt h653 hi).2)
 have h684 := OW.lower (lo' := n0) hO681 (by omega)
 have hlon6441 := hS680.lo
 obtain ⟨hc687, hr⟩ := chk_some hr
 refine GL.append (α := GEvent) hS680 .nil rfl rfl rfl Try.underlying25 Try.underlying25 rfl info24 rfl rfl rfl (by decide) rfl rfl h683 (by omega) (by omega) (OW.src h684) hc687 (fun a688 cap689 n690 H691 hS692 hn693 hO694 hk695 hid696 => ?_)
 have h697 := OW.keep h684 hn693 (fun i hi => hk695 i (OW.id_lt h684 hi).2 (fun hj => (Ap.sym (Ap.fresh (OW.lb hO681) (OW.hb h653))) _ hj hi))
 have hlon690 := hS692.lo
 refine WL.assign .nil rfl rfl rfl rfl ?_
 refine WL.nil ?_
 with_reducible refine Ex.blk_norm ?_
 refine Ex.thn_norm ?_
 with_reducible refine W.region ?_
 refine WL.move .nil rfl rfl rfl rfl ?_
 obtain ⟨hc700, hr⟩ := chk_some hr
 refine WL.addI .nil rfl rfl rfl rfl rfl hc700.1 hc700.2 ?_
 refine WL.assign .nil rfl rfl rfl rfl ?_
 refine WL.nil ?_
 refine Ex.thn_norm ?_
 exact ⟨[(0, .slice a2 xs1.length cap3), (3, .slice a688 (xs652 ++ ([({ Kind := 2, N := 0, Data := [] } : GEvent)] : List GEvent)).length cap689), (5, .int .i64 (x655 + 1))], (Fr.le_cons rfl (Fr.le_cons rfl (Fr.le_cons rfl Fr.le_nil))), a688, cap689, (xs652 ++ ([({ Kind := 2, N := 0, Data := [] } : GEvent)] : List GEvent)), (x655 + 1), F646, rfl, hS692, (hE648.up (by omega)), h649, hO694, hr⟩
 }
 {
 replace hr := ite_neg hr hc657
 with_reducible refine W.exit ?_
 with_reducible refine Ex.thn_ex ?_
 with_reducible refine Ex.thn_ex ?_
 with_reducible refine Ex.blk_here ?_
 refine Ex.thn_norm ?_
 with_reducible refine W.seq ?_
 with_reducible refine W.region ?_
 refine WL.move .nil rfl rfl rfl rfl ?_
 obtain ⟨F701, hS702, hle703, h704, hf705⟩ := OW.freeze h653 hS647
 have hE706 : Ext n0 F0 n644 F701 := ⟨Nat.le_trans hE648.le (by omega), hE648.sub.trans hle703, fun i hi => (hf705 i (fun hj => by have := OW.id_lt h653 hj; omega)).trans (hE648.eq i hi)⟩
 obtain ⟨x707, hx707, hr⟩ := bnd_some hr
 refine GL.callP g.good .nil rfl rfl rfl rfl rfl rfl Try.func8 rfl rfl hS702.lo (f_impl_ClusterRun_k  g hS702 h704 hx707) (fun v n708 H709 hn710 hk711 hp712 => ?_)
 obtain ⟨F726, a713, cap714, a716, cap717, a719, cap720, a722, cap723, hX727, hS725, rfl, h715, h718, h721, h724⟩ := hp712
 have hS728 : St n0 n708 H709 F726 := ⟨by have := hS702.lo; omega, hS725.hb, hS725.fh⟩
 have hE729 := (hE706.up (n' := n644) (by omega)).trans hX727
 have hlon708 := hS728.lo
 have h730 := OW.lower (lo' := n0) h724 (by omega)
 refine WL.move .nil rfl rfl rfl rfl ?_
 refine WL.extract .nil rfl rfl rfl rfl rfl ?_
 refine WL.extract .nil rfl rfl rfl rfl rfl ?_
 refine WL.extract .nil rfl rfl rfl rfl rfl ?_
 refine GL.alloc hS728 .nil (zc := [.slice none 0 0, .slice none 0 0, .slice none 0 0, .bool false]) rfl rfl rfl info30 rfl rfl rfl (fun H732 hS733 ho734 hk735 => ?_)
 have fo736 := hS728.fnone (Nat.le_refl _)
 have h738 := OW.keep (n' := (n708 + 1)) h730 (by omega) (fun i hi => hk735 i (OW.id_lt h730 hi).2)
 have hlon7081 := hS733.lo
 have lt737 : n708 < (n708 + 1) := by omega
 refine GL.store hS733 .nil (vc := [.slice a713 x707.1.Peers.length cap714, .slice a716 x707.1.Net.length cap717, .slice a719 x707.1.Chosen.length cap720, .bool x707.1.Conflict]) (c' := [.slice a713 x707.1.Peers.length cap714, .slice a716 x707.1.Net.length cap717, .slice a719 x707.1.Chosen.length cap720, .bool x707.1.Conflict]) rfl rfl rfl info30 rfl rfl rfl rfl ho734 fo736 (Nat.le_of_ble_eq_true rfl) (by omega) (by repeat' (first | exact List.forall_mem_nil _ | refine List.forall_mem_cons.2 ⟨?_, ?_⟩ | rfl)) rfl (fun H739 hS740 ho741 hk742 => ?_)
 have h743 := OW.keep h738 (Nat.le_refl _) (fun i hi => hk742 i (fun hj => (Ap.alloc (OW.hb h730)) (hj ▸ hi)))
 refine WL.assign .nil rfl rfl rfl rfl ?_
 refine WL.assign .nil rfl rfl rfl rfl ?_
 refine WL.nil ?_
 refine Ex.thn_norm ?_
 with_reducible refine W.seq ?_
 refine W.regionD [0, 1, 2, 3, 4, 5, 6, 7, 8, 9, 10, 11, 12, 13, 14, 15, 16, 17, 18, 19, 20, 21, 22, 23] [false, false, false, false, false, false, false, false, false, false, false, false, false, false, false, false, false, false, false, false, false, false, false, false] rfl rfl (by kernel_rfl) (by kernel_rfl) (by (conv => lhs; simp only [List.map_cons, List.map_nil, List.getD_cons_zero, List.getD_cons_succ]) <;> rfl) ?_
 refine WL.move .r rfl rfl rfl rfl ?_
 refine WL.bin .r rfl rfl rfl rfl rfl rfl ?_
 refine WL.move .r rfl rfl rfl rfl ?_
 refine WL.guardD rfl rfl rfl (fun hg744 => ?_) (fun hg744 => ?_)
 {
 replace hr := ite_pos hr hg744
 refine WL.fieldAddr .r rfl rfl rfl Try.underlying30 rfl info28 rfl rfl ?_
 refine WL.load1 .r rfl rfl rfl Try.underlying28 rfl rfl ho741 rfl ?_
 refine WL.len .r rfl rfl rfl Try.underlying28 rfl ?_
 refine WL.bin .r rfl rfl rfl rfl rfl rfl ?_
 refine WL.pick .r rfl rfl rfl rfl rfl ?_
 refine WL.move .r rfl rfl rfl rfl ?_
 refine WL.guardD rfl rfl rfl (fun hg745 => ?_) (fun hg745 => ?_)
 {
 replace hr := ite_pos hr hg745
 refine WL.fieldAddr .r rfl rfl rfl Try.underlying30 rfl info28 rfl rfl ?_
 refine WL.load1 .r rfl rfl rfl Try.underlying28 rfl rfl ho741 rfl ?_
 obtain ⟨x746, hx746, hr⟩ := bnd_some hr
 refine GL.index .r rfl rfl rfl Try.underlying28 info35 rfl rfl h721 hS740.fh rfl hx746 (fun b747 kp748 c749 ecs750 hrow751 hwin752 hR753 => ?_)
 obtain ⟨a754, cap755, rfl, h756⟩ := GRec.ofR hR753
 refine WL.fieldAddr .r rfl rfl rfl Try.underlying35 rfl info22 rfl rfl ?_
 refine WL.load1 .r rfl rfl rfl Try.underlying22 rfl rfl hrow751 ((win_get (m := 2) hwin752 (show (2 : Nat) < 3 by decide)).trans rfl) ?_
 refine GL.toStr .r rfl rfl rfl Try.underlying22 Try.underlying9 Try.underlying5 rfl h756 hS740.fh ?_
 refine WL.move .r rfl rfl rfl rfl ?_
 refine GL.toStr .r rfl rfl rfl Try.underlying22 Try.underlying9 Try.underlying5 rfl ((h649.mono hle703).mono hX727.sub) hS740.fh ?_
 refine GL.strCmp .r rfl rfl rfl rfl rfl (by decide) rfl ?_
 refine WL.pick .r rfl rfl rfl rfl rfl ?_
 refine WL.move .r rfl rfl rfl rfl ?_
 refine WL.guardD (p := lst x746.Data = lst xs1) rfl rfl rfl (fun hg757 => ?_) (fun hg757 => ?_)
 {
 replace hr := ite_pos hr hg757
 obtain ⟨x758, hx758, hr⟩ := bnd_some hr
 refine GL.callP g.good .r rfl rfl rfl rfl rfl rfl Try.func9 rfl rfl (Nat.le_refl _) (f_impl_Majority_k  g hS740 hx758) (fun v n759 H760 hn761 hk762 hp763 => ?_)
 obtain ⟨hS764, rfl⟩ := hp763
 have ho765 := (hk762 _ (by have := lt737; omega)).trans ho741
 have h766 := OW.keep (n' := n759) h743 (by omega) (fun i hi => hk762 i (OW.id_lt h743 hi).2)
 have hS767 : St n0 n759 H760 F726 := ⟨by have := hS740.lo; omega, hS764.hb, hS764.fh⟩
 have hlon759 := hS767.lo
 refine WL.bin .r rfl rfl rfl rfl rfl rfl ?_
 refine WL.pick .r rfl rfl rfl rfl rfl ?_
 refine WL.assign .r rfl rfl rfl rfl ?_
 refine WL.nil ?_
 refine Ex.thn_norm ?_
 with_reducible refine W.ret ?_
 obtain rfl := Option.some.inj hr
 exact ⟨.inr rfl, _, (.cons (.tmp rfl) .nil), ⟨(Ext.st hE729 hS767), rfl⟩⟩
 }
 {
 replace hr := ite_neg hr hg757
 refine WL.skip .r rfl rfl ?_
 refine WL.skip .r rfl rfl ?_
 refine WL.pick .r rfl rfl rfl rfl rfl ?_
 refine WL.assign .r rfl rfl rfl rfl ?_
 refine WL.nil ?_
 refine Ex.thn_norm ?_
 with_reducible refine W.ret ?_
 obtain rfl := Option.some.inj hr
 exact ⟨.inr rfl, _, (.cons (.tmp rfl) .nil), ⟨(Ext.st hE729 hS740), rfl⟩⟩
 }
 }
 {
 replace hr := ite_neg hr hg745
 refine WL.skip .r rfl rfl ?_
 refine WL.skip .r rfl rfl ?_
 refine WL.skip .r rfl rfl ?_
 refine WL.skip .r rfl rfl ?_
 refine WL.skip .r rfl rfl ?_
 refine WL.skip .r rfl rfl ?_
 refine WL.skip .r rfl rfl ?_
 refine WL.skip .r rfl rfl ?_
 refine WL.skip .r rfl rfl ?_
 refine WL.pick .r rfl rfl rfl rfl rfl ?_
 refine WL.move .r rfl rfl rfl rfl ?_
 refine WL.skip .r rfl rfl ?_
 refine WL.skip .r rfl rfl ?_
 refine WL.pick .r rfl rfl rfl rfl rfl ?_
 refine WL.assign .r rfl rfl rfl rfl ?_
 refine WL.nil ?_
 refine Ex.thn_norm ?_
 with_reducible refine W.ret ?_
 obtain rfl := Option.some.inj hr
 exact ⟨.inr rfl, _, (.cons (.tmp rfl) .nil), ⟨(Ext.st hE729 hS740), rfl⟩⟩
 }
 }
 {
 replace hr := ite_neg hr hg744
 refine WL.skip .r rfl rfl ?_
 refine WL.skip .r rfl rfl ?_
 refine WL.skip .r rfl rfl ?_
 refine WL.skip .r rfl rfl ?_
 refine WL.pick .r rfl rfl rfl rfl rfl ?_
 refine WL.move .r rfl rfl rfl rfl ?_
 refine WL.skip .r rfl rfl ?_
 refine WL.skip .r rfl rfl ?_
 refine WL.skip .r rfl rfl ?_
 refine WL.skip .r rfl rfl ?_
 refine WL.skip .r rfl rfl ?_
 refine WL.skip .r rfl rfl ?_
 refine WL.skip .r rfl rfl ?_
 refine WL.skip .r rfl rfl ?_
 refine WL.skip .r rfl rfl ?_
 refine WL.pick .r rfl rfl rfl rfl rfl ?_
 refine WL.move .r rfl rfl rfl rfl ?_
 refine WL.skip .r rfl rfl ?_
 refine WL.skip .r rfl rfl ?_
 refine WL.pick .r rfl rfl rfl rfl rfl ?_
 refine WL.assign .r rfl rfl rfl rfl ?_
 refine WL.nil ?_
 refine Ex.thn_norm ?_
 with_reducible refine W.ret ?_
 obtain rfl := Option.some.inj hr
 exact ⟨.inr rfl, _, (.cons (.tmp rfl) .nil), ⟨(Ext.st hE729 hS740), rfl⟩⟩
 }
 }
 }
 }
 }
 }
end Go.Proofs.YtlpcdcpcfeaecaaAb
end
section
namespace Go.Proofs.YtlpcdcpcfeaecaaAb
open Go
end Go.Proofs.YtlpcdcpcfeaecaaAb
end
section
namespace Go.Proofs.YtlpcdcpcfeaecaaAb
open Go
theorem BIG_eq : BIG = 18446744073709551616 := rfl
theorem slc_tail {α : Type} {xs : List α} {l : Int} (h0 : 0 ≤ l) (h1 : l ≤ xs.length) : slc xs l xs.length = some (xs.drop l.toNat) := by
  rw [slc_pos h0 h1 (Int.le_refl _), Int.toNat_natCast, List.take_length]
theorem slc_head {α : Type} {xs : List α} {h : Int} (h0 : 0 ≤ h) (h1 : h ≤ xs.length) : slc xs 0 h = some (xs.take h.toNat) := by
  rw [slc_pos (Int.le_refl _) h0 h1]; rfl
theorem idx_nat {α : Type} {xs : List α} {j : Nat} (hj : j < xs.length) : idx xs (j : Int) = some xs[j] := by
  rw [idx_pos (by omega) (by omega)]; rfl
theorem idx_zero {α : Type} {x : α} {xs : List α} : idx (x :: xs) 0 = some x := by unfold idx; simp
@[simp] theorem obind_some {α β : Type} (a : α) (f : α → Option β) : (some a).bind f = f a := Eq.trans rfl rfl
end Go.Proofs.YtlpcdcpcfeaecaaAb
end
section
namespace Go.Proofs.YtlpcdcpcfeaecaaAb
open Go
def DBr (r : GRec) : Prop := r.Data.length ≤ 1000
def DBl (l : List GRec) : Prop := ∀ r ∈ l, DBr r
theorem clone_b {xs : List UInt8} (h : xs.length ≤ 1000000000) : f_slices_Clone_byte xs = some xs := by
  unfold f_slices_Clone_byte; rw [chk_pos (by omega)]
theorem clone_r {xs : List GRec} (h : xs.length ≤ 1000000000) : f_slices_Clone_implRec xs = some xs := by
  unfold f_slices_Clone_implRec; rw [chk_pos (by omega)]
theorem clone_bool {xs : List Bool} (h : xs.length ≤ 1000000000) : f_slices_Clone_bool xs = some xs := by
  unfold f_slices_Clone_bool; rw [chk_pos (by omega)]
theorem clone_int {xs : List Int} (h : xs.length ≤ 1000000000) : f_slices_Clone_int xs = some xs := by
  unfold f_slices_Clone_int; rw [chk_pos (by omega)]
theorem copy_loop {α : Type} {xs : List α} (hl : xs.length ≤ 1000000000) {L : Nat → List α → Int → Option (List α)} {P : α → Prop} (hP : ∀ x ∈ xs, P x)
    (hL : ∀ k acc (i : Nat), (h : i < xs.length) → P xs[i] → acc.length ≤ 1000000000 → L (k + 1) acc (i : Int) = L k (acc ++ [xs[i]]) ((i + 1 : Nat) : Int))
    (hE : ∀ k acc (i : Nat), xs.length ≤ i → L (k + 1) acc (i : Int) = some acc) : L BIG [] 0 = some xs := by
  have key : ∀ (m k i : Nat) (acc : List α), xs.length - i = m → m + 1 ≤ k → i ≤ xs.length → acc = xs.take i → L k acc (i : Int) = some xs := by
    intro m
    induction m with
    | zero =>
      intro k i acc hm hk hi ha
      obtain ⟨k, rfl⟩ : ∃ j, k = j + 1 := ⟨k - 1, by omega⟩
      rw [hE k acc i (by omega), ha, List.take_of_length_le (by omega)]
    | succ m ih =>
      intro k i acc hm hk hi ha
      obtain ⟨k, rfl⟩ : ∃ j, k = j + 1 := ⟨k - 1, by omega⟩
      have hlt : i < xs.length := by omega
      rw [hL k acc i hlt (hP _ (List.getElem_mem hlt)) (by rw [ha, List.length_take]; omega)]
      exact ih k (i + 1) _ (by omega) (by omega) (by omega) (by rw [ha, List.take_succ_eq_append_getElem hlt])
  exact key xs.length BIG 0 [] (by omega) (by rw [BIG_eq]; omega) (by omega) (by simp)
theorem copyRecs_m {xs : List GRec} (hl : xs.length ≤ 1000000000) (hd : DBl xs) : f_impl_copyRecs xs = some xs := by
  unfold f_impl_copyRecs
  refine copy_loop (P := DBr) hl hd (fun k acc i h hr ha => ?_) (fun k acc i h => ?_)
  · unfold DBr at hr
    rw [f_impl_copyRecs_L0, if_pos (by omega), idx_nat h, obind_some, clone_b (by omega), obind_some, chk_pos (by simp; omega), chk_pos (by omega)]
    have e : ((i : Int) + 1) = ((i + 1 : Nat) : Int) := by omega
    rw [e]
  · rw [f_impl_copyRecs_L0, if_neg (by omega)]
theorem copyRecs_o {xs : List GRec} (hl : xs.length ≤ 1000000000) (hd : DBl xs) : f_impl_copyRecs_own0 xs = some xs := by
  unfold f_impl_copyRecs_own0
  refine copy_loop (P := DBr) hl hd (fun k acc i h hr ha => ?_) (fun k acc i h => ?_)
  · unfold DBr at hr
    rw [f_impl_copyRecs_own0_L0, if_pos (by omega), idx_nat h, obind_some, clone_b (by omega), obind_some, chk_pos (by simp; omega), chk_pos (by omega)]
    have e : ((i : Int) + 1) = ((i + 1 : Nat) : Int) := by omega
    rw [e]
  · rw [f_impl_copyRecs_own0_L0, if_neg (by omega)]
theorem copied_m {m : GMsg} (hl : m.Log.length ≤ 1000000000) (hd : DBl m.Log) : f__impl_Msg_copied m = some m := by
  unfold f__impl_Msg_copied; rw [copyRecs_m hl hd]; rfl
theorem copied_o {m : GMsg} (hl : m.Log.length ≤ 1000000000) (hd : DBl m.Log) : f__impl_Msg_copied_own0 m = some m := by
  unfold f__impl_Msg_copied_own0; rw [copyRecs_o hl hd]; rfl
theorem equal_b {xs ys : List UInt8} (h : xs.length ≤ 1000000000) : f_slices_Equal_byte xs ys = some (decide (xs = ys)) := by
  unfold f_slices_Equal_byte
  by_cases hl : xs.length = ys.length
  · rw [if_pos (by omega)]
    have key : ∀ (m k i : Nat), xs.length - i = m → m + 1 ≤ k → i ≤ xs.length → xs.take i = ys.take i → f_slices_Equal_byte_L0 xs ys k (i : Int) = some (decide (xs = ys)) := by
      intro m
      induction m with
      | zero =>
        intro k i hm hk hi ht
        obtain ⟨k, rfl⟩ : ∃ j, k = j + 1 := ⟨k - 1, by omega⟩
        rw [f_slices_Equal_byte_L0, if_neg (by omega)]
        rw [List.take_of_length_le (by omega), List.take_of_length_le (by omega)] at ht
        rw [decide_eq_true ht]
      | succ m ih =>
        intro k i hm hk hi ht
        obtain ⟨k, rfl⟩ : ∃ j, k = j + 1 := ⟨k - 1, by omega⟩
        have h1 : i < xs.length := by omega
        have h2 : i < ys.length := by omega
        have e : ((i : Int) + 1) = ((i + 1 : Nat) : Int) := by omega
        rw [f_slices_Equal_byte_L0, if_pos (by omega), idx_nat h1, obind_some, idx_nat h2, obind_some]
        by_cases hx : xs[i] = ys[i]
        · rw [if_pos (by rw [hx]), chk_pos (by omega), e]
          exact ih k (i + 1) (by omega) (by omega) (by omega) (by rw [List.take_succ_eq_append_getElem h1, List.take_succ_eq_append_getElem h2, ht, hx])
        · rw [if_neg (fun hh => hx (UInt8.toNat_inj.1 (by omega)))]
          rw [decide_eq_false (fun hh => hx (by subst hh; rfl))]
    exact key xs.length BIG 0 (by omega) (by rw [BIG_eq]; omega) (by omega) (by simp)
  · rw [if_neg (by omega), decide_eq_false (fun hh => hl (by rw [hh]))]
def sameR (a b : GRec) : Bool := decide (a.Term = b.Term) && (decide (a.Index = b.Index) && decide (a.Data = b.Data))
theorem sameRec_m {a b : GRec} (h : DBr a) : f_impl_sameRec a b = some (sameR a b) := by
  unfold f_impl_sameRec sameR
  unfold DBr at h
  by_cases h1 : a.Term = b.Term
  · rw [if_pos h1, decide_eq_true h1]
    by_cases h2 : a.Index = b.Index
    · rw [if_pos h2, decide_eq_true h2, equal_b (by omega)]; rfl
    · rw [if_neg h2, decide_eq_false h2]; rfl
  · rw [if_neg h1, decide_eq_false h1]; rfl
def chooseL : List GRec → Nat → List GRec → Bool → List GRec × Bool
  | [], _, ch, cf => (ch, cf)
  | r :: rs, i, ch, cf => if i = ch.length then chooseL rs (i + 1) (ch ++ [r]) cf else chooseL rs (i + 1) ch (cf || !((ch[i]?.map (sameR r)).getD false))
theorem choose_L {c : GCluster} {xs : List GRec} (hx : xs.length ≤ 1000) (hd : DBl xs) : ∀ (m k i : Nat) (ch : List GRec) (cf : Bool), xs.length - i = m → m + 1 ≤ k → i ≤ xs.length → i ≤ ch.length → ch.length ≤ 100000 + i →
    f_impl_Cluster_choose_L0 xs c k (i : Int) ch cf = some { c with Chosen := (chooseL (xs.drop i) i ch cf).1, Conflict := (chooseL (xs.drop i) i ch cf).2 } := by
  intro m
  induction m with
  | zero =>
    intro k i ch cf hm hk hi hc hl
    obtain ⟨k, rfl⟩ : ∃ j, k = j + 1 := ⟨k - 1, by omega⟩
    rw [f_impl_Cluster_choose_L0, if_neg (by omega), List.drop_of_length_le (by omega)]
    rfl
  | succ m ih =>
    intro k i ch cf hm hk hi hc hl
    obtain ⟨k, rfl⟩ : ∃ j, k = j + 1 := ⟨k - 1, by omega⟩
    have hlt : i < xs.length := by omega
    have e : ((i : Int) + 1) = ((i + 1 : Nat) : Int) := by omega
    rw [f_impl_Cluster_choose_L0, if_pos (by omega), idx_nat hlt, obind_some, List.drop_eq_getElem_cons hlt]
    unfold chooseL f_impl_Cluster_choose_J1
    by_cases h1 : i = ch.length
    · rw [if_pos (by omega), if_pos h1, chk_pos (by simp; omega), chk_pos (by omega), e]
      exact ih k (i + 1) _ _ (by omega) (by omega) (by omega) (by simp; omega) (by simp; omega)
    · have h2 : i < ch.length := by omega
      rw [if_neg (by omega), if_neg h1, idx_nat h2, obind_some, sameRec_m (hd _ (List.getElem_mem hlt)), obind_some, List.getElem?_eq_getElem h2]
      simp only [Option.map_some, Option.getD_some]
      cases hs : sameR xs[i] ch[i]
      · rw [if_pos (by rfl), chk_pos (by omega), e, ih k (i + 1) _ _ (by omega) (by omega) (by omega) (by omega) (by omega)]
        simp
      · rw [if_neg (by simp), chk_pos (by omega), e, ih k (i + 1) _ _ (by omega) (by omega) (by omega) (by omega) (by omega)]
        simp
theorem within_l (x l h : Int) : f_impl_within x l h = some (decide (l ≤ x ∧ x ≤ h)) := by
  unfold f_impl_within
  by_cases h1 : l ≤ x
  · rw [if_pos h1]; simp [h1]
  · rw [if_neg h1]; simp [h1]
theorem most_m {n : Nat} (h : n ≤ 1000000) : f_impl_most (n : Int) = some ((n : Int) / 2 + 1) := by
  unfold f_impl_most; rw [chk_pos (by omega), chk_pos (by omega)]
def termAt (l : List GRec) (i : Int) : Int := if i = 0 then 0 else ((l[(i - 1).toNat]?).map (·.Term)).getD 0
theorem term_m {p : GPeer} {i : Int} (h0 : 0 ≤ i) (h1 : i ≤ p.Log.length) (hl : p.Log.length ≤ 1000000) : f_impl_Peer_term_elem0 p i = some (termAt p.Log i) := by
  unfold f_impl_Peer_term_elem0 termAt
  by_cases h : i = 0
  · rw [if_pos h, if_pos h]
  · rw [if_neg h, if_neg h, chk_pos (by omega), idx_pos (by omega) (by omega), obind_some, List.getElem?_eq_getElem (by omega)]
    rfl
theorem last_m {p : GPeer} (hl : p.Log.length ≤ 1000000) : f_impl_Peer_last_elem0 p = some ((p.Log.length : Int), termAt p.Log p.Log.length) := by
  unfold f_impl_Peer_last_elem0
  rw [term_m (by omega) (Int.le_refl _) hl]; rfl
theorem repeat_m {x : Int} {n : Nat} (h1 : 1 ≤ n) (h2 : n ≤ 1000) : f_slices_Repeat_int [x] (n : Int) = some (List.replicate n x) := by
  unfold f_slices_Repeat_int
  rw [chk_pos ⟨rfl, by omega, by omega⟩]; rfl
end Go.Proofs.YtlpcdcpcfeaecaaAb
end
section
namespace Go.Proofs.YtlpcdcpcfeaecaaAb
open Go
def mSend (c : GCluster) (m : GMsg) : GCluster := if c.Net.length < 200 then { c with Net := c.Net ++ [m] } else c
theorem send_m {c : GCluster} {m : GMsg} (hl : m.Log.length ≤ 1000000000) (hd : DBl m.Log) : f_impl_Cluster_send c m = some (mSend c m) := by
  unfold f_impl_Cluster_send mSend
  by_cases h : c.Net.length < 200
  · rw [if_pos (by omega), if_pos h]
    obtain ⟨k, f, t, te, a, b, cc, ok, l⟩ := m
    rw [copied_m hl hd, obind_some, chk_pos (by simp; omega)]
  · rw [if_neg (by omega), if_neg h]
theorem mSend_peers {c : GCluster} {m : GMsg} : (mSend c m).Peers = c.Peers := by unfold mSend; split <;> rfl
theorem mSend_chosen {c : GCluster} {m : GMsg} : (mSend c m).Chosen = c.Chosen := by unfold mSend; split <;> rfl
def mChoose (c : GCluster) (p : GPeer) : GCluster :=
  { c with Chosen := (chooseL (p.Log.take p.Commit.toNat) 0 c.Chosen c.Conflict).1, Conflict := (chooseL (p.Log.take p.Commit.toNat) 0 c.Chosen c.Conflict).2 }
theorem mChoose_peers {c : GCluster} {p : GPeer} : (mChoose c p).Peers = c.Peers := rfl
theorem idx_some {α : Type} {xs : List α} {i : Nat} {x : α} (h : xs[i]? = some x) : idx xs (i : Int) = some x := by
  obtain ⟨h1, h2⟩ := List.getElem?_eq_some_iff.1 h
  rw [idx_nat h1, h2]
theorem DBl.take {l : List GRec} (h : DBl l) (n : Nat) : DBl (l.take n) := fun r hr => h r (List.mem_of_mem_take hr)
theorem DBl.drop {l : List GRec} (h : DBl l) (n : Nat) : DBl (l.drop n) := fun r hr => h r (List.mem_of_mem_drop hr)
theorem choose_m {c : GCluster} {i : Nat} {p : GPeer} (hp : c.Peers[i]? = some p) (h0 : 0 ≤ p.Commit) (h1 : p.Commit ≤ p.Log.length) (hl : p.Log.length ≤ 1000) (hd : DBl p.Log) (hc : c.Chosen.length ≤ 100000) :
    f_impl_Cluster_choose c (i : Int) = some (mChoose c p) := by
  unfold f_impl_Cluster_choose
  rw [idx_some hp, obind_some, slc_head h0 h1, obind_some]
  have := choose_L (c := c) (xs := p.Log.take p.Commit.toNat) (by rw [List.length_take]; omega) (hd.take _) _ BIG 0 c.Chosen c.Conflict rfl (by rw [BIG_eq, List.length_take]; omega) (by omega) (by omega) (by omega)
  rw [List.drop_zero] at this
  exact this
def cntGe (n : Int) : List Int → Nat
  | [] => 0
  | x :: l => if n ≤ x then cntGe n l + 1 else cntGe n l
def mMost (c : GCluster) : Int := (c.Peers.length : Int) / 2 + 1
def mCidx (p : GPeer) (q : Int) : Nat → Option Nat
  | 0 => none
  | n + 1 => if p.Commit < ((n + 1 : Nat) : Int) then (if q ≤ (cntGe ((n + 1 : Nat) : Int) p.Match : Int) ∧ termAt p.Log ((n + 1 : Nat) : Int) = p.Term then some (n + 1) else mCidx p q n) else none
theorem mCidx_some {p : GPeer} {q : Int} {a : Nat} : ∀ {n : Nat}, mCidx p q n = some a → p.Commit < a ∧ a ≤ n ∧ termAt p.Log a = p.Term ∧ q ≤ (cntGe a p.Match : Int)
  | 0, h => by cases h
  | n + 1, h => by
    unfold mCidx at h
    split at h
    · next h1 =>
      split at h
      · next h2 => cases h; exact ⟨h1, Nat.le_refl _, h2.2, h2.1⟩
      · obtain ⟨x1, x2, x3⟩ := mCidx_some h; exact ⟨x1, by omega, x3⟩
    · cases h
def mCommitP (q : Int) (p : GPeer) : GPeer := match mCidx p q p.Log.length with | some a => { p with Commit := (a : Int) } | none => p
def mCommit (c : GCluster) (i : Nat) (p : GPeer) : GCluster := mChoose { c with Peers := c.Peers.set i (mCommitP (mMost c) p) } (mCommitP (mMost c) p)
theorem commit_L2 {p : GPeer} {n : Int} {c : GCluster} {i : Int} {rc1 : Int → Option GCluster} (hM : p.Match.length ≤ 1000) : ∀ (m k j t : Nat), p.Match.length - j = m → m + 1 ≤ k → j ≤ p.Match.length → t ≤ j →
    f_impl_Cluster_commit_L2 p n c i rc1 k (t : Int) (j : Int) = (f_impl_most (c.Peers.length : Int)).bind fun q =>
      if q ≤ ((t + cntGe n (p.Match.drop j) : Nat) : Int) then (f_impl_Peer_term_elem0 p n).bind fun x => f_impl_Cluster_commit_J4 c i p n rc1 (decide (x = p.Term)) else f_impl_Cluster_commit_J4 c i p n rc1 false := by
  intro m
  induction m with
  | zero =>
    intro k j t hm hk hj ht
    obtain ⟨k, rfl⟩ : ∃ j, k = j + 1 := ⟨k - 1, by omega⟩
    rw [f_impl_Cluster_commit_L2, if_neg (by omega), List.drop_of_length_le (by omega)]
    rfl
  | succ m ih =>
    intro k j t hm hk hj ht
    obtain ⟨k, rfl⟩ : ∃ j, k = j + 1 := ⟨k - 1, by omega⟩
    have hlt : j < p.Match.length := by omega
    have e : ((j : Int) + 1) = ((j + 1 : Nat) : Int) := by omega
    have e2 : ((t : Int) + 1) = ((t + 1 : Nat) : Int) := by omega
    rw [f_impl_Cluster_commit_L2, if_pos (by omega), idx_nat hlt, obind_some, List.drop_eq_getElem_cons hlt]
    unfold f_impl_Cluster_commit_J3
    by_cases hx : n ≤ p.Match[j]
    · rw [if_pos hx, chk_pos (by omega), chk_pos (by omega), e, e2, ih k (j + 1) (t + 1) (by omega) (by omega) (by omega) (by omega)]
      unfold cntGe
      rw [if_pos hx, show t + (cntGe n (p.Match.drop (j + 1)) + 1) = t + 1 + cntGe n (p.Match.drop (j + 1)) by omega]
      cases p.Match.drop (j + 1) <;> rfl
    · rw [if_neg hx, chk_pos (by omega), e, ih k (j + 1) t (by omega) (by omega) (by omega) (by omega)]
      conv => rhs; unfold cntGe
      rw [if_neg hx]
theorem commit_L1 {p : GPeer} {c : GCluster} {i : Int} (hM : p.Match.length ≤ 1000) (hl : p.Log.length ≤ 1000) (hn : c.Peers.length ≤ 1000) (h0 : 0 ≤ p.Commit) : ∀ (n k : Nat), n + 1 ≤ k → n ≤ p.Log.length →
    f_impl_Cluster_commit_L1 p c i k (n : Int) = f_impl_Cluster_commit_J0 c i (match mCidx p (mMost c) n with | some a => setI c.Peers i { p with Commit := (a : Int) } | none => c.Peers) := by
  intro n
  induction n with
  | zero =>
    intro k hk hj
    obtain ⟨k, rfl⟩ : ∃ j, k = j + 1 := ⟨k - 1, by omega⟩
    rw [f_impl_Cluster_commit_L1, if_neg (by omega)]; rfl
  | succ n ih =>
    intro k hk hj
    obtain ⟨k, rfl⟩ : ∃ j, k = j + 1 := ⟨k - 1, by omega⟩
    rw [f_impl_Cluster_commit_L1]
    unfold mCidx
    by_cases h1 : p.Commit < ((n + 1 : Nat) : Int)
    · rw [if_pos h1, if_pos h1]
      have := commit_L2 (p := p) (n := ((n + 1 : Nat) : Int)) (c := c) (i := i) (rc1 := f_impl_Cluster_commit_L1 p c i k) hM _ BIG 0 0 rfl (by rw [BIG_eq]; omega) (by omega) (by omega)
      rw [List.drop_zero, Nat.zero_add] at this
      refine this.trans ?_
      rw [most_m (by omega), obind_some, show (c.Peers.length : Int) / 2 + 1 = mMost c from rfl]
      have e : (((n + 1 : Nat) : Int) - 1) = (n : Int) := by omega
      by_cases h2 : mMost c ≤ (cntGe ((n + 1 : Nat) : Int) p.Match : Int)
      · rw [if_pos h2, term_m (by omega) (by omega) (by omega), obind_some]
        unfold f_impl_Cluster_commit_J4
        by_cases h3 : termAt p.Log ((n + 1 : Nat) : Int) = p.Term
        · rw [if_pos (by rw [decide_eq_true h3]), if_pos ⟨h2, h3⟩]
        · rw [if_neg (by rw [decide_eq_false h3]; decide), if_neg (fun h => h3 h.2), chk_pos (by omega), e, ih k (by omega) (by omega)]
      · rw [if_neg h2, if_neg (fun h => h2 h.1)]
        unfold f_impl_Cluster_commit_J4
        rw [if_neg (by decide), chk_pos (by omega), e, ih k (by omega) (by omega)]
    · rw [if_neg h1, if_neg h1]
theorem set_self {α : Type} {xs : List α} {i : Nat} {x : α} (h : xs[i]? = some x) : xs.set i x = xs := by
  obtain ⟨h1, h2⟩ := List.getElem?_eq_some_iff.1 h
  rw [← h2, List.set_getElem_self]
theorem get_set {α : Type} {xs : List α} {i : Nat} {x y : α} (h : xs[i]? = some x) : (xs.set i y)[i]? = some y := by
  obtain ⟨h1, h2⟩ := List.getElem?_eq_some_iff.1 h
  rw [List.getElem?_set_self h1]
theorem mCommitP_log {q : Int} {p : GPeer} : (mCommitP q p).Log = p.Log := by unfold mCommitP; split <;> rfl
theorem mCommitP_next {q : Int} {p : GPeer} : (mCommitP q p).Next = p.Next := by unfold mCommitP; split <;> rfl
theorem mCommitP_ge {q : Int} {p : GPeer} (h0 : 0 ≤ p.Commit) (h1 : p.Commit ≤ p.Log.length) : p.Commit ≤ (mCommitP q p).Commit ∧ (mCommitP q p).Commit ≤ p.Log.length := by
  unfold mCommitP
  split
  · next a h => have := mCidx_some h; exact ⟨by show p.Commit ≤ (a : Int); omega, by show (a : Int) ≤ _; omega⟩
  · exact ⟨Int.le_refl _, h1⟩
theorem commit_m {c : GCluster} {i : Nat} {p : GPeer} (hp : c.Peers[i]? = some p) (h0 : 0 ≤ p.Commit) (h1 : p.Commit ≤ p.Log.length) (hl : p.Log.length ≤ 1000) (hM : p.Match.length ≤ 1000) (hn : c.Peers.length ≤ 1000) (hd : DBl p.Log) (hc : c.Chosen.length ≤ 100000) :
    f_impl_Cluster_commit c (i : Int) = some (mCommit c i p) := by
  unfold f_impl_Cluster_commit
  rw [idx_some hp, obind_some, commit_L1 hM hl hn h0 _ BIG (by rw [BIG_eq]; omega) (Nat.le_refl _)]
  have e : (match mCidx p (mMost c) p.Log.length with | some a => setI c.Peers (i : Int) { p with Commit := (a : Int) } | none => c.Peers) = c.Peers.set i (mCommitP (mMost c) p) := by
    unfold mCommitP
    split
    · rfl
    · rw [set_self hp]
  rw [e]
  unfold f_impl_Cluster_commit_J0
  have hb := mCommitP_ge (q := mMost c) h0 h1
  rw [choose_m (c := { c with Peers := c.Peers.set i (mCommitP (mMost c) p) }) (p := mCommitP (mMost c) p) (get_set hp) (by omega) (by rw [mCommitP_log]; omega) (by rw [mCommitP_log]; omega) (by rw [mCommitP_log]; exact hd) hc, obind_some]
  rfl
def mRecords (c : GCluster) (i : Nat) (p : GPeer) (t : Nat) : GCluster :=
  mSend c { Kind := 3, From := (i : Int), To := (t : Int), Term := p.Term, A := (p.Next[t]?.getD 1) - 1, B := termAt p.Log ((p.Next[t]?.getD 1) - 1), C := p.Commit, Ok := false, Log := p.Log.drop ((p.Next[t]?.getD 1) - 1).toNat }
theorem records_m {c : GCluster} {i t : Nat} {p : GPeer} {nx : Int} (hp : c.Peers[i]? = some p) (ht : p.Next[t]? = some nx) (h1 : 1 ≤ nx) (h2 : nx ≤ p.Log.length + 1) (hl : p.Log.length ≤ 1000000) (hd : DBl p.Log) :
    f_impl_Cluster_records c (i : Int) (t : Int) = some (mRecords c i p t) := by
  unfold f_impl_Cluster_records mRecords mSend
  rw [idx_some hp, obind_some, idx_some ht, obind_some, chk_pos (by omega), term_m (by omega) (by omega) hl, obind_some, slc_tail (by omega) (by omega), obind_some, ht, Option.getD_some]
  by_cases h : c.Net.length < 200
  · rw [if_pos (by omega), if_pos h, copied_o (by simp; omega) (hd.drop _), obind_some, chk_pos (by simp; omega)]
  · rw [if_neg (by omega), if_neg h]
theorem mRecords_peers {c : GCluster} {i t : Nat} {p : GPeer} : (mRecords c i p t).Peers = c.Peers := mSend_peers
def mFrom (g : GCluster → Nat → GCluster) (i : Nat) : Nat → Nat → GCluster → GCluster
  | 0, _, d => d
  | m + 1, j, d => mFrom g i m (j + 1) (if j = i then d else g d j)
theorem mFrom_inv {g : GCluster → Nat → GCluster} {i : Nat} {I : GCluster → Prop} (hg : ∀ d j, I d → I (g d j)) : ∀ (m j : Nat) (d : GCluster), I d → I (mFrom g i m j d)
  | 0, _, d, h => h
  | m + 1, j, d, h => by
    unfold mFrom
    refine mFrom_inv hg m (j + 1) _ ?_
    split
    · exact h
    · exact hg _ _ h
theorem from_loop {n i : Nat} {F : Nat → Int → List GPeer → List GMsg → List GRec → Bool → Option GCluster} {g : GCluster → Nat → GCluster} {fin : GCluster → Option GCluster} {I : GCluster → Prop} (hn : n ≤ 1000)
    (hI : ∀ d j, I d → I (g d j))
    (hs : ∀ k j d, I d → j < n → j = i → F (k + 1) (j : Int) d.Peers d.Net d.Chosen d.Conflict = F k ((j + 1 : Nat) : Int) d.Peers d.Net d.Chosen d.Conflict)
    (hg : ∀ k j d, I d → j < n → j ≠ i → F (k + 1) (j : Int) d.Peers d.Net d.Chosen d.Conflict = F k ((j + 1 : Nat) : Int) (g d j).Peers (g d j).Net (g d j).Chosen (g d j).Conflict)
    (he : ∀ k j d, I d → n ≤ j → F (k + 1) (j : Int) d.Peers d.Net d.Chosen d.Conflict = fin d) (d : GCluster) (hd : I d) :
    F BIG 0 d.Peers d.Net d.Chosen d.Conflict = fin (mFrom g i n 0 d) := by
  have key : ∀ (m k j : Nat) (d : GCluster), n - j = m → m + 1 ≤ k → I d → F k (j : Int) d.Peers d.Net d.Chosen d.Conflict = fin (mFrom g i m j d) := by
    intro m
    induction m with
    | zero =>
      intro k j d hm hk hd
      obtain ⟨k, rfl⟩ : ∃ j, k = j + 1 := ⟨k - 1, by omega⟩
      rw [he k j d hd (by omega)]; rfl
    | succ m ih =>
      intro k j d hm hk hd
      obtain ⟨k, rfl⟩ : ∃ j, k = j + 1 := ⟨k - 1, by omega⟩
      unfold mFrom
      by_cases hji : j = i
      · rw [hs k j d hd (by omega) hji, if_pos hji]
        exact ih k (j + 1) d (by omega) (by omega) hd
      · rw [hg k j d hd (by omega) hji, if_neg hji]
        exact ih k (j + 1) _ (by omega) (by omega) (hI _ _ hd)
  exact key n BIG 0 d (by omega) (by rw [BIG_eq]; omega) hd
def NextOk (n : Nat) (p : GPeer) : Prop := p.Next.length = n ∧ ∀ x ∈ p.Next, 1 ≤ x ∧ x ≤ (p.Log.length : Int) + 1
theorem NextOk.get {n : Nat} {p : GPeer} (h : NextOk n p) {t : Nat} (ht : t < n) : ∃ nx, p.Next[t]? = some nx ∧ 1 ≤ nx ∧ nx ≤ (p.Log.length : Int) + 1 :=
  ⟨p.Next[t]'(by rw [h.1]; exact ht), List.getElem?_eq_getElem _, h.2 _ (List.getElem_mem _)⟩
def mSendAll (c : GCluster) (i : Nat) (p : GPeer) : GCluster := mFrom (fun d j => mRecords d i p j) i c.Peers.length 0 c
theorem elect_L3 {c d : GCluster} {i : Nat} {p : GPeer} (hp : d.Peers[i]? = some p) (hn : c.Peers.length ≤ 1000) (hdn : d.Peers.length = c.Peers.length) (hx : NextOk c.Peers.length p) (hl : p.Log.length ≤ 1000000) (hd : DBl p.Log) :
    f_impl_Cluster_elect_L3 c (i : Int) BIG 0 d.Peers d.Net d.Chosen d.Conflict = some (mSendAll d i p) := by
  unfold mSendAll; rw [hdn]
  refine from_loop (F := fun k j a b cc e => f_impl_Cluster_elect_L3 c (i : Int) k j a b cc e) (fin := some) (I := fun e => e.Peers = d.Peers) hn (fun e j h => by rw [← h]; exact mRecords_peers) (fun k j e he hj hji => ?_) (fun k j e he hj hji => ?_) (fun k j e he hj => ?_) d rfl
  · show f_impl_Cluster_elect_L3 _ _ (k + 1) _ _ _ _ _ = _
    rw [f_impl_Cluster_elect_L3, if_pos (by omega), if_pos (by omega)]
    unfold f_impl_Cluster_elect_J4
    rw [chk_pos (by omega), show ((j : Int) + 1) = ((j + 1 : Nat) : Int) by omega]
  · obtain ⟨nx, h1, h2, h3⟩ := hx.get hj
    show f_impl_Cluster_elect_L3 _ _ (k + 1) _ _ _ _ _ = _
    rw [f_impl_Cluster_elect_L3, if_pos (by omega), if_neg (by omega)]
    unfold f_impl_Cluster_elect_J4
    rw [records_m (p := p) (by show e.Peers[i]? = _; rw [he]; exact hp) h1 h2 h3 hl hd, obind_some, chk_pos (by omega), show ((j : Int) + 1) = ((j + 1 : Nat) : Int) by omega]
  · show f_impl_Cluster_elect_L3 _ _ (k + 1) _ _ _ _ _ = _
    rw [f_impl_Cluster_elect_L3, if_neg (by omega)]
theorem tick_L0 {c : GCluster} {i : Nat} {p : GPeer} (hp : c.Peers[i]? = some p) (hn : c.Peers.length ≤ 1000) (hx : NextOk c.Peers.length p) (hl : p.Log.length ≤ 1000000) (hd : DBl p.Log) :
    f_impl_Cluster_tick_L0 c (i : Int) BIG 0 c.Peers c.Net c.Chosen c.Conflict = some (mSendAll c i p) := by
  unfold mSendAll
  refine from_loop (F := fun k j a b cc e => f_impl_Cluster_tick_L0 c (i : Int) k j a b cc e) (fin := some) (I := fun e => e.Peers = c.Peers) hn (fun e j h => by rw [← h]; exact mRecords_peers) (fun k j e he hj hji => ?_) (fun k j e he hj hji => ?_) (fun k j e he hj => ?_) c rfl
  · show f_impl_Cluster_tick_L0 _ _ (k + 1) _ _ _ _ _ = _
    rw [f_impl_Cluster_tick_L0, if_pos (by omega), if_pos (by omega)]
    unfold f_impl_Cluster_tick_J1
    rw [chk_pos (by omega), show ((j : Int) + 1) = ((j + 1 : Nat) : Int) by omega]
  · obtain ⟨nx, h1, h2, h3⟩ := hx.get hj
    show f_impl_Cluster_tick_L0 _ _ (k + 1) _ _ _ _ _ = _
    rw [f_impl_Cluster_tick_L0, if_pos (by omega), if_neg (by omega)]
    unfold f_impl_Cluster_tick_J1
    rw [records_m (p := p) (by show e.Peers[i]? = _; rw [he]; exact hp) h1 h2 h3 hl hd, obind_some, chk_pos (by omega), show ((j : Int) + 1) = ((j + 1 : Nat) : Int) by omega]
  · show f_impl_Cluster_tick_L0 _ _ (k + 1) _ _ _ _ _ = _
    rw [f_impl_Cluster_tick_L0, if_neg (by omega)]
end Go.Proofs.YtlpcdcpcfeaecaaAb
end
section
namespace Go.Proofs.YtlpcdcpcfeaecaaAb
open Go
def cntT : List Bool → Nat
  | [] => 0
  | b :: l => if b = true then cntT l + 1 else cntT l
def mLeader (n i : Nat) (p : GPeer) : GPeer :=
  { p with Role := 2, Votes := [], Next := List.replicate n ((p.Log.length : Int) + 1), Match := (List.replicate n (0 : Int)).set i (p.Log.length : Int) }
def mLead (c : GCluster) (i : Nat) (p : GPeer) : GCluster := { c with Peers := c.Peers.set i (mLeader c.Peers.length i p) }
def mElect (c : GCluster) (i : Nat) (p : GPeer) : GCluster :=
  if p.Role = 1 ∧ mMost c ≤ (cntT p.Votes : Int) then mSendAll (mCommit (mLead c i p) i (mLeader c.Peers.length i p)) i (mCommitP (mMost (mLead c i p)) (mLeader c.Peers.length i p)) else c
theorem elect_L0 {p : GPeer} {c : GCluster} {i : Int} (hM : p.Votes.length ≤ 1000) : ∀ (m k j t : Nat), p.Votes.length - j = m → m + 1 ≤ k → j ≤ p.Votes.length → t ≤ j →
    f_impl_Cluster_elect_L0 p c i k (t : Int) (j : Int) = if p.Role = 1 then (f_impl_most (c.Peers.length : Int)).bind fun q => f_impl_Cluster_elect_J2 c p i (decide (((t + cntT (p.Votes.drop j) : Nat) : Int) < q)) else f_impl_Cluster_elect_J2 c p i true := by
  intro m
  induction m with
  | zero =>
    intro k j t hm hk hj ht
    obtain ⟨k, rfl⟩ : ∃ j, k = j + 1 := ⟨k - 1, by omega⟩
    rw [f_impl_Cluster_elect_L0, if_neg (by omega), List.drop_of_length_le (by omega)]
    rfl
  | succ m ih =>
    intro k j t hm hk hj ht
    obtain ⟨k, rfl⟩ : ∃ j, k = j + 1 := ⟨k - 1, by omega⟩
    have hlt : j < p.Votes.length := by omega
    have e : ((j : Int) + 1) = ((j + 1 : Nat) : Int) := by omega
    have e2 : ((t : Int) + 1) = ((t + 1 : Nat) : Int) := by omega
    rw [f_impl_Cluster_elect_L0, if_pos (by omega), idx_nat hlt, obind_some, List.drop_eq_getElem_cons hlt]
    unfold f_impl_Cluster_elect_J1
    by_cases hx : p.Votes[j] = true
    · rw [if_pos hx, chk_pos (by omega), chk_pos (by omega), e, e2, ih k (j + 1) (t + 1) (by omega) (by omega) (by omega) (by omega)]
      conv => rhs; unfold cntT
      rw [if_pos hx, show t + (cntT (p.Votes.drop (j + 1)) + 1) = t + 1 + cntT (p.Votes.drop (j + 1)) by omega]
    · rw [if_neg hx, chk_pos (by omega), e, ih k (j + 1) t (by omega) (by omega) (by omega) (by omega)]
      conv => rhs; unfold cntT
      rw [if_neg hx]
theorem lead_next {n i : Nat} {p : GPeer} (q : Int) : NextOk n (mCommitP q (mLeader n i p)) := by
  unfold NextOk
  rw [mCommitP_next, mCommitP_log]
  unfold mLeader
  refine ⟨List.length_replicate, fun x hx => ?_⟩
  rw [List.eq_of_mem_replicate hx]
  exact ⟨by omega, Int.le_refl _⟩
theorem elect_m {c : GCluster} {i : Nat} {p : GPeer} (hp : c.Peers[i]? = some p) (hn : c.Peers.length ≤ 1000) (hv : p.Votes.length ≤ 1000) (h0 : 0 ≤ p.Commit) (h1 : p.Commit ≤ p.Log.length) (hl : p.Log.length ≤ 1000) (hd : DBl p.Log) (hc : c.Chosen.length ≤ 100000) :
    f_impl_Cluster_elect c (i : Int) = some (mElect c i p) := by
  have hi : i < c.Peers.length := (List.getElem?_eq_some_iff.1 hp).1
  unfold f_impl_Cluster_elect mElect
  rw [idx_some hp, obind_some]
  have := elect_L0 (p := p) (c := c) (i := (i : Int)) hv _ BIG 0 0 rfl (by rw [BIG_eq]; omega) (by omega) (by omega)
  rw [List.drop_zero, Nat.zero_add] at this
  refine this.trans ?_
  by_cases hr : p.Role = 1
  · rw [if_pos hr, most_m (by omega), obind_some, show (c.Peers.length : Int) / 2 + 1 = mMost c from rfl]
    unfold f_impl_Cluster_elect_J2
    by_cases hq : mMost c ≤ (cntT p.Votes : Int)
    · rw [if_neg (by rw [decide_eq_false (by omega)]; decide), if_pos ⟨hr, hq⟩, chk_pos (by omega), chk_pos (by omega), repeat_m (by omega) (by omega), obind_some, idx_nat (by simp; omega), obind_some]
      have hp2 : (mLead c i p).Peers[i]? = some (mLeader c.Peers.length i p) := get_set hp
      have := commit_m (c := mLead c i p) (i := i) hp2 h0 h1 hl (by unfold mLeader; simp; omega) (by unfold mLead; simp; omega) hd hc
      refine (congrArg (fun o => Option.bind o (fun x : GCluster => f_impl_Cluster_elect_L3 c (i : Int) BIG 0 x.Peers x.Net x.Chosen x.Conflict)) this).trans ?_
      rw [obind_some]
      have hx : NextOk c.Peers.length (mCommitP (mMost (mLead c i p)) (mLeader c.Peers.length i p)) := lead_next _
      have hlen : (mCommit (mLead c i p) i (mLeader c.Peers.length i p)).Peers.length = c.Peers.length := by
        unfold mCommit mLead; rw [mChoose_peers]; simp
      refine elect_L3 (d := mCommit (mLead c i p) i (mLeader c.Peers.length i p)) ?_ hn hlen hx ?_ ?_
      · unfold mCommit; rw [mChoose_peers]; exact get_set hp2
      · rw [mCommitP_log]; exact (show p.Log.length ≤ 1000000 by omega)
      · rw [mCommitP_log]; exact hd
    · rw [if_pos (by rw [decide_eq_true (by omega)]), if_neg (fun h => hq h.2)]
  · rw [if_neg hr, if_neg (fun h => hr h.1)]
    unfold f_impl_Cluster_elect_J2
    rw [if_pos rfl]
def mCand (n i : Nat) (p : GPeer) : GPeer :=
  { p with Term := p.Term + 1, Vote := (i : Int) + 1, Role := 1, Votes := (List.replicate n false).set i true, Next := [], Match := [] }
def mAsk (i : Nat) (p : GPeer) (c : GCluster) (j : Nat) : GCluster :=
  mSend c { Kind := 1, From := (i : Int), To := (j : Int), Term := p.Term, A := (p.Log.length : Int), B := termAt p.Log p.Log.length, C := 0, Ok := false, Log := [] }
def mStand (c : GCluster) (i : Nat) (p : GPeer) : GCluster := { c with Peers := c.Peers.set i (mCand c.Peers.length i p) }
def mAskAll (c : GCluster) (i : Nat) (p : GPeer) : GCluster := mFrom (mAsk i p) i c.Peers.length 0 c
theorem mAskAll_peers {c : GCluster} {i : Nat} {p : GPeer} : (mAskAll c i p).Peers = c.Peers :=
  mFrom_inv (I := fun d => d.Peers = c.Peers) (fun d j h => by rw [← h]; exact mSend_peers) _ _ _ rfl
theorem mAskAll_chosen {c : GCluster} {i : Nat} {p : GPeer} : (mAskAll c i p).Chosen = c.Chosen :=
  mFrom_inv (I := fun d => d.Chosen = c.Chosen) (fun d j h => by rw [← h]; exact mSend_chosen) _ _ _ rfl
def mTick (c : GCluster) (i : Nat) (p : GPeer) : GCluster :=
  if p.Role = 2 then mSendAll c i p
  else if p.Term < 1000000 then mElect (mAskAll (mStand c i p) i (mCand c.Peers.length i p)) i (mCand c.Peers.length i p) else c
theorem DBl.nil : DBl [] := fun r hr => nomatch hr
theorem tick_L2 {c e0 : GCluster} {i : Nat} {p : GPeer} {fin : Option GCluster} (hp : e0.Peers[i]? = some p) (hn : c.Peers.length ≤ 1000) (hdn : e0.Peers.length = c.Peers.length) :
    f_impl_Cluster_tick_L2 c (i : Int) ((p.Log.length : Int), termAt p.Log p.Log.length) BIG 0 e0.Peers e0.Net e0.Chosen e0.Conflict = f_impl_Cluster_elect (mAskAll e0 i p) (i : Int) := by
  unfold mAskAll; rw [hdn]
  refine from_loop (F := fun k j a b cc e => f_impl_Cluster_tick_L2 c (i : Int) ((p.Log.length : Int), termAt p.Log p.Log.length) k j a b cc e) (fin := fun d => f_impl_Cluster_elect d (i : Int)) (I := fun e => e.Peers = e0.Peers) hn (fun e j h => by rw [← h]; exact mSend_peers) (fun k j e he hj hji => ?_) (fun k j e he hj hji => ?_) (fun k j e he hj => ?_) e0 rfl
  · show f_impl_Cluster_tick_L2 _ _ _ (k + 1) _ _ _ _ _ = _
    rw [f_impl_Cluster_tick_L2, if_pos (by omega), if_pos (by omega)]
    unfold f_impl_Cluster_tick_J3
    rw [chk_pos (by omega), show ((j : Int) + 1) = ((j + 1 : Nat) : Int) by omega]
  · show f_impl_Cluster_tick_L2 _ _ _ (k + 1) _ _ _ _ _ = _
    rw [f_impl_Cluster_tick_L2, if_pos (by omega), if_neg (by omega)]
    unfold f_impl_Cluster_tick_J3
    rw [idx_some (x := p) (by rw [he]; exact hp), obind_some, send_m (by simp) DBl.nil, obind_some, chk_pos (by omega), show ((j : Int) + 1) = ((j + 1 : Nat) : Int) by omega]
    rfl
  · show f_impl_Cluster_tick_L2 _ _ _ (k + 1) _ _ _ _ _ = _
    rw [f_impl_Cluster_tick_L2, if_neg (by omega)]
    cases f_impl_Cluster_elect e (i : Int) <;> rfl
theorem tick_m {c : GCluster} {i : Nat} {p : GPeer} (hp : c.Peers[i]? = some p) (hn : c.Peers.length ≤ 1000) (h2 : p.Role = 2 → NextOk c.Peers.length p) (ht : 0 ≤ p.Term) (h0 : 0 ≤ p.Commit) (h1 : p.Commit ≤ p.Log.length) (hl : p.Log.length ≤ 1000) (hd : DBl p.Log) (hc : c.Chosen.length ≤ 100000) :
    f_impl_Cluster_tick c (i : Int) = some (mTick c i p) := by
  have hi : i < c.Peers.length := (List.getElem?_eq_some_iff.1 hp).1
  unfold f_impl_Cluster_tick mTick
  rw [idx_some hp, obind_some]
  by_cases hr : p.Role = 2
  · rw [if_pos hr, if_pos hr, tick_L0 hp hn (h2 hr) (by omega) hd]
  · rw [if_neg hr, if_neg hr]
    by_cases h3 : p.Term < 1000000
    · rw [if_pos h3, if_pos h3, chk_pos (by omega), chk_pos (by omega), chk_pos (by omega), idx_nat (by simp; omega), obind_some, last_m (by show p.Log.length ≤ _; omega), obind_some]
      have hp2 : (mStand c i p).Peers[i]? = some (mCand c.Peers.length i p) := get_set hp
      have hlen : (mStand c i p).Peers.length = c.Peers.length := by unfold mStand; simp
      refine (tick_L2 (c := c) (e0 := mStand c i p) (fin := none) hp2 hn hlen).trans ?_
      refine elect_m (by rw [mAskAll_peers]; exact hp2) (by rw [mAskAll_peers, hlen]; exact hn) (by unfold mCand; simp; omega) h0 h1 hl hd (by rw [mAskAll_chosen]; exact hc)
    · rw [if_neg h3, if_neg h3]
def takeL : List GRec → List GRec → Int → List GRec × Int
  | [], l, a => (l, a)
  | r :: rs, l, _ =>
    let l1 := if r.Index ≤ (l.length : Int) ∧ termAt l r.Index ≠ r.Term then l.take (r.Index - 1).toNat else l
    takeL rs (if (l1.length : Int) < r.Index then l1 ++ [r] else l1) r.Index
def mnx (a b k : Int) : Int := if (if a < b then a else b) > k then (if a < b then a else b) else k
theorem take_L2 {m rep : GMsg} {c : GCluster} {p1 q : GPeer} {xs : List GPeer} {i : Nat} (hi : i < xs.length) (ht : m.To = (i : Int)) (hr : ∀ r ∈ m.Log, 1 ≤ r.Index ∧ r.Index ≤ 1000000) (hm : m.Log.length ≤ 1000) :
    ∀ (n k j : Nat) (l : List GRec) (a : Int), m.Log.length - j = n → n + 1 ≤ k → j ≤ m.Log.length → l.length ≤ 100000 + j →
    f_impl_Cluster_take_L2 m c rep p1 k a (j : Int) (xs.set i { q with Log := l }) =
      (f_impl_Cluster_choose { c with Peers := xs.set i { q with Log := (takeL (m.Log.drop j) l a).1, Commit := mnx (takeL (m.Log.drop j) l a).2 m.C q.Commit } } (i : Int)).bind fun d =>
        (f_impl_Cluster_send d { rep with Kind := 4, Term := p1.Term, A := (takeL (m.Log.drop j) l a).2, Ok := true }).bind some := by
  have hget : ∀ l, idx (xs.set i { q with Log := l }) (i : Int) = some { q with Log := l } := fun l => by
    rw [idx_nat (by simp; exact hi)]; simp
  have hset : ∀ l (z : GPeer), setI (xs.set i { q with Log := l }) (i : Int) z = xs.set i z := fun l z => by
    show (xs.set i _).set i z = _
    rw [List.set_set]
  intro n
  induction n with
  | zero =>
    intro k j l a hn hk hj hl
    obtain ⟨k, rfl⟩ : ∃ j, k = j + 1 := ⟨k - 1, by omega⟩
    rw [f_impl_Cluster_take_L2, if_neg (by omega), List.drop_of_length_le (by omega), ht, hget, obind_some, hset]
    rfl
  | succ n ih =>
    intro k j l a hn hk hj hl
    obtain ⟨k, rfl⟩ : ∃ j, k = j + 1 := ⟨k - 1, by omega⟩
    have hlt : j < m.Log.length := by omega
    have e : ((j : Int) + 1) = ((j + 1 : Nat) : Int) := by omega
    obtain ⟨r1, r2⟩ := hr _ (List.getElem_mem hlt)
    have h5 : ∀ l1 : List GRec, l1.length ≤ 100000 + j → f_impl_Cluster_take_J5 m m.Log[j] (j : Int) (f_impl_Cluster_take_L2 m c rep p1 k) (xs.set i { q with Log := l1 }) = f_impl_Cluster_take_L2 m c rep p1 k m.Log[j].Index ((j + 1 : Nat) : Int) (xs.set i { q with Log := (if (l1.length : Int) < m.Log[j].Index then l1 ++ [m.Log[j]] else l1) }) := by
      intro l1 h1
      unfold f_impl_Cluster_take_J5 f_impl_Cluster_take_J3
      rw [ht, hget, obind_some]
      by_cases h : (l1.length : Int) < m.Log[j].Index
      · rw [if_pos h, if_pos h, chk_pos (by simp; omega), chk_pos (by omega), e, hset]
      · rw [if_neg h, if_neg h, chk_pos (by omega), e]
    have h4 : f_impl_Cluster_take_L2 m c rep p1 (k + 1) a (j : Int) (xs.set i { q with Log := l }) = f_impl_Cluster_take_J4 (xs.set i { q with Log := l }) m m.Log[j] (j : Int) (f_impl_Cluster_take_L2 m c rep p1 k) (decide (m.Log[j].Index ≤ (l.length : Int) ∧ termAt l m.Log[j].Index ≠ m.Log[j].Term)) := by
      rw [f_impl_Cluster_take_L2, if_pos (by omega), idx_nat hlt, obind_some, ht, hget, obind_some]
      by_cases h : m.Log[j].Index ≤ (l.length : Int)
      · rw [if_pos h, term_m (p := { q with Log := l }) (by omega) h (by show l.length ≤ _; omega), obind_some]
        simp [h]
      · rw [if_neg h]
        simp [h]
    rw [h4, List.drop_eq_getElem_cons hlt]
    unfold takeL f_impl_Cluster_take_J4
    by_cases h : m.Log[j].Index ≤ (l.length : Int) ∧ termAt l m.Log[j].Index ≠ m.Log[j].Term
    · have hll : (l.take (m.Log[j].Index - 1).toNat).length ≤ 100000 + j := by rw [List.length_take]; omega
      rw [if_pos (by rw [decide_eq_true h]), if_pos h, ht, hget, obind_some, chk_pos (by omega), slc_head (by omega) (by show _ ≤ (l.length : Int); omega), obind_some, clone_r (by rw [List.length_take]; show min _ l.length ≤ _; omega), obind_some, hset]
      rw [show f_impl_Cluster_take_J5 m m.Log[j] (j : Int) (f_impl_Cluster_take_L2 m c rep p1 k) _ = _ from h5 (l.take (m.Log[j].Index - 1).toNat) hll]
      refine (ih k (j + 1) _ _ (by omega) (by omega) (by omega) ?_).trans rfl
      split
      · simp; omega
      · omega
    · rw [if_neg (by rw [decide_eq_false h]; decide), if_neg h, h5 l hl]
      refine (ih k (j + 1) _ _ (by omega) (by omega) (by omega) ?_).trans rfl
      split
      · simp; omega
      · omega
end Go.Proofs.YtlpcdcpcfeaecaaAb
end
section
namespace Go.Proofs.YtlpcdcpcfeaecaaAb
open Go
section
variable {P : GRec → Prop}
theorem chooseL_all : ∀ (l : List GRec) (i : Nat) (ch : List GRec) (cf : Bool), (∀ r ∈ l, P r) → (∀ r ∈ ch, P r) → ∀ r ∈ (chooseL l i ch cf).1, P r
  | [], _, ch, _, _, h => h
  | r :: rs, i, ch, cf, h1, h => by
    unfold chooseL
    split
    · refine chooseL_all rs _ _ _ (fun x hx => h1 x (List.mem_cons_of_mem _ hx)) (fun x hx => ?_)
      rcases List.mem_append.1 hx with hx | hx
      · exact h x hx
      · rw [List.mem_singleton.1 hx]; exact h1 r List.mem_cons_self
    · exact chooseL_all rs _ _ _ (fun x hx => h1 x (List.mem_cons_of_mem _ hx)) h
theorem add_all {l1 : List GRec} {r : GRec} (h : ∀ x ∈ l1, P x) (hr : P r) : ∀ x ∈ (if (l1.length : Int) < r.Index then l1 ++ [r] else l1), P x := by
  intro x hx
  split at hx
  · rcases List.mem_append.1 hx with hx | hx
    · exact h x hx
    · rw [List.mem_singleton.1 hx]; exact hr
  · exact h x hx
theorem takeL_all : ∀ (ms : List GRec) (l : List GRec) (a : Int), (∀ r ∈ ms, P r) → (∀ r ∈ l, P r) → ∀ r ∈ (takeL ms l a).1, P r
  | [], l, _, _, h => h
  | r :: rs, l, a, h1, h => by
    unfold takeL
    have hl1 : ∀ x ∈ (if r.Index ≤ (l.length : Int) ∧ termAt l r.Index ≠ r.Term then l.take (r.Index - 1).toNat else l), P x := by
      intro x hx
      split at hx
      · exact h x (List.mem_of_mem_take hx)
      · exact h x hx
    exact takeL_all rs _ _ (fun x hx => h1 x (List.mem_cons_of_mem _ hx)) (add_all hl1 (h1 r List.mem_cons_self))
end
structure DBc (c : GCluster) : Prop where
  peers : ∀ p ∈ c.Peers, DBl p.Log
  net : ∀ m ∈ c.Net, DBl m.Log
  chosen : DBl c.Chosen
theorem DBc.send {c : GCluster} {m : GMsg} (h : DBc c) (hm : DBl m.Log) : DBc (mSend c m) := by
  unfold mSend
  split
  · refine ⟨h.peers, fun x hx => ?_, h.chosen⟩
    rcases List.mem_append.1 hx with hx | hx
    · exact h.net x hx
    · rw [List.mem_singleton.1 hx]; exact hm
  · exact h
theorem DBc.choose {c : GCluster} {p : GPeer} (h : DBc c) (hp : DBl p.Log) : DBc (mChoose c p) :=
  ⟨h.peers, h.net, chooseL_all _ _ _ _ (hp.take _) h.chosen⟩
theorem DBc.set {c : GCluster} {i : Nat} {p : GPeer} (h : DBc c) (hp : DBl p.Log) : DBc { c with Peers := c.Peers.set i p } :=
  ⟨fun x hx => by
    rcases List.mem_or_eq_of_mem_set hx with hx | rfl
    · exact h.peers x hx
    · exact hp, h.net, h.chosen⟩
theorem DBc.commit {c : GCluster} {i : Nat} {p : GPeer} (h : DBc c) (hp : DBl p.Log) : DBc (mCommit c i p) :=
  (h.set (p := mCommitP (mMost c) p) (by rw [mCommitP_log]; exact hp)).choose (by rw [mCommitP_log]; exact hp)
theorem DBc.records {c : GCluster} {i t : Nat} {p : GPeer} (h : DBc c) (hp : DBl p.Log) : DBc (mRecords c i p t) := h.send (hp.drop _)
theorem DBc.sendAll {c : GCluster} {i : Nat} {p : GPeer} (h : DBc c) (hp : DBl p.Log) : DBc (mSendAll c i p) := mFrom_inv (I := DBc) (fun d j hd => hd.records hp) _ _ _ h
theorem DBc.elect {c : GCluster} {i : Nat} {p : GPeer} (h : DBc c) (hp : DBl p.Log) : DBc (mElect c i p) := by
  unfold mElect
  split
  · exact DBc.sendAll ((h.set (p := mLeader c.Peers.length i p) hp).commit hp) (by rw [mCommitP_log]; exact hp)
  · exact h
theorem DBc.tick {c : GCluster} {i : Nat} {p : GPeer} (h : DBc c) (hp : DBl p.Log) : DBc (mTick c i p) := by
  unfold mTick
  split
  · exact h.sendAll hp
  · split
    · exact DBc.elect (mFrom_inv (I := DBc) (fun d j hd => hd.send DBl.nil) _ _ _ (h.set (p := mCand c.Peers.length i p) hp)) hp
    · exact h
def mBack (m : GMsg) (t a : Int) (ok : Bool) : GMsg := { Kind := 4, From := m.To, To := m.From, Term := t, A := a, B := 0, C := 0, Ok := ok, Log := [] }
def mFresh (m : GMsg) (p : GPeer) : GPeer := if p.Term < m.Term then { p with Term := m.Term, Vote := 0 } else p
def mFollow (m : GMsg) (p : GPeer) : GPeer := { mFresh m p with Role := 0, Votes := [], Next := [], Match := [] }
def mTaken (m : GMsg) (p : GPeer) : GPeer := { mFollow m p with Log := (takeL m.Log p.Log m.A).1, Commit := mnx (takeL m.Log p.Log m.A).2 m.C p.Commit }
def mTake (c : GCluster) (m : GMsg) (i : Nat) (p : GPeer) : GCluster :=
  if m.Term < p.Term then mSend c (mBack m p.Term 0 false)
  else if (p.Log.length : Int) < m.A ∨ termAt p.Log m.A ≠ m.B then
    mSend { c with Peers := c.Peers.set i (mFollow m p) } (mBack m (mFresh m p).Term (if (p.Log.length : Int) < (m.A - 1) then (p.Log.length : Int) else (m.A - 1)) false)
  else mSend (mChoose { c with Peers := c.Peers.set i (mTaken m p) } (mTaken m p)) (mBack m (mFresh m p).Term (takeL m.Log p.Log m.A).2 true)
theorem mFresh_log {m : GMsg} {p : GPeer} : (mFresh m p).Log = p.Log := by unfold mFresh; split <;> rfl
theorem mFresh_commit {m : GMsg} {p : GPeer} : (mFresh m p).Commit = p.Commit := by unfold mFresh; split <;> rfl
theorem DBc.take {c : GCluster} {m : GMsg} {i : Nat} {p : GPeer} (h : DBc c) (hm : DBl m.Log) (hp : DBl p.Log) : DBc (mTake c m i p) := by
  have h2 : DBl (takeL m.Log p.Log m.A).1 := takeL_all _ _ _ hm hp
  unfold mTake
  split
  · exact h.send DBl.nil
  · split
    · exact (h.set (p := mFollow m p) (by unfold mFollow; dsimp only; rw [mFresh_log]; exact hp)).send DBl.nil
    · exact ((h.set (p := mTaken m p) h2).choose h2).send DBl.nil
def TakeOk (m : GMsg) (p : GPeer) : Prop := m.A ≤ (p.Log.length : Int) → termAt p.Log m.A = m.B →
  0 ≤ mnx (takeL m.Log p.Log m.A).2 m.C p.Commit ∧ mnx (takeL m.Log p.Log m.A).2 m.C p.Commit ≤ ((takeL m.Log p.Log m.A).1.length : Int) ∧ (takeL m.Log p.Log m.A).1.length ≤ 1000
theorem take_m {c : GCluster} {m : GMsg} {i : Nat} {p : GPeer} (hp : c.Peers[i]? = some p) (ht : m.To = (i : Int)) (ha : 0 ≤ m.A) (ha2 : m.A ≤ 1000000) (hl : p.Log.length ≤ 1000) (hm : m.Log.length ≤ 1000) (hr : ∀ r ∈ m.Log, 1 ≤ r.Index ∧ r.Index ≤ 1000000)
    (hd : DBl p.Log) (hdm : DBl m.Log) (hc : c.Chosen.length ≤ 100000) (hk : TakeOk m p) :
    f_impl_Cluster_take c m { Kind := 0, From := m.To, To := m.From, Term := 0, A := 0, B := 0, C := 0, Ok := false, Log := [] } = some (mTake c m i p) := by
  have hi : i < c.Peers.length := (List.getElem?_eq_some_iff.1 hp).1
  unfold f_impl_Cluster_take
  rw [ht, idx_some hp, obind_some, ← ht]
  by_cases h1 : m.Term < p.Term
  · rw [if_pos h1, send_m (by simp) DBl.nil, obind_some]
    unfold mTake mBack; rw [if_pos h1]
  · rw [if_neg h1]
    have e : (if p.Term < m.Term then f_impl_Cluster_take_J0 m c { Kind := 0, From := m.To, To := m.From, Term := 0, A := 0, B := 0, C := 0, Ok := false, Log := [] } (setI c.Peers m.To { p with Term := m.Term, Vote := 0 }) else f_impl_Cluster_take_J0 m c { Kind := 0, From := m.To, To := m.From, Term := 0, A := 0, B := 0, C := 0, Ok := false, Log := [] } c.Peers)
        = f_impl_Cluster_take_J0 m c { Kind := 0, From := m.To, To := m.From, Term := 0, A := 0, B := 0, C := 0, Ok := false, Log := [] } (c.Peers.set i (mFresh m p)) := by
      unfold mFresh
      by_cases h2 : p.Term < m.Term
      · rw [if_pos h2, if_pos h2, ht]; rfl
      · rw [if_neg h2, if_neg h2, set_self hp]
    refine e.trans ?_
    have hset : ∀ z : GPeer, setI (c.Peers.set i (mFresh m p)) m.To z = c.Peers.set i z := fun z => by
      rw [ht]; show (c.Peers.set i _).set i z = _; rw [List.set_set]
    unfold f_impl_Cluster_take_J0
    rw [ht, idx_some (get_set hp), obind_some, ← ht]
    have hJ : ∀ b, f_impl_Cluster_take_J1 m (c.Peers.set i (mFresh m p)) (mFresh m p) c { Kind := 0, From := m.To, To := m.From, Term := 0, A := 0, B := 0, C := 0, Ok := false, Log := [] } b =
        if b = true then some (mSend { c with Peers := c.Peers.set i (mFollow m p) } (mBack m (mFresh m p).Term (if (p.Log.length : Int) < (m.A - 1) then (p.Log.length : Int) else (m.A - 1)) false))
        else f_impl_Cluster_take_L2 m c { Kind := 0, From := m.To, To := m.From, Term := 0, A := 0, B := 0, C := 0, Ok := false, Log := [] } (mFresh m p) BIG m.A 0 (c.Peers.set i (mFollow m p)) := by
      intro b
      unfold f_impl_Cluster_take_J1
      by_cases hb : b = true
      · rw [if_pos hb, if_pos hb, chk_pos (by omega), send_m (by simp) DBl.nil, obind_some, hset]
        unfold mFollow mBack
        simp only [mFresh_log]
      · rw [if_neg hb, if_neg hb, hset]
        rfl
    unfold mTake
    rw [if_neg h1]
    by_cases h3 : (p.Log.length : Int) < m.A
    · rw [if_pos (by rw [mFresh_log]; exact h3), hJ, if_pos rfl, if_pos (Or.inl h3)]
    · rw [if_neg (by rw [mFresh_log]; exact h3), term_m ha (by show _ ≤ ((mFresh m p).Log.length : Int); rw [mFresh_log]; omega) (by show (mFresh m p).Log.length ≤ _; rw [mFresh_log]; omega), obind_some, hJ]
      dsimp only
      rw [mFresh_log]
      by_cases h4 : termAt p.Log m.A = m.B
      · rw [if_neg (by rw [decide_eq_true h4]; decide), if_neg (fun h => h.elim h3 (fun h => h h4))]
        obtain ⟨k1, k2, k3⟩ := hk (by omega) h4
        have hf : mFollow m p = { mFollow m p with Log := p.Log } := by unfold mFollow; dsimp only; rw [mFresh_log]
        rw [hf]
        have := take_L2 (m := m) (rep := { Kind := 0, From := m.To, To := m.From, Term := 0, A := 0, B := 0, C := 0, Ok := false, Log := [] }) (c := c) (p1 := mFresh m p) (q := mFollow m p) (xs := c.Peers) hi ht hr hm _ BIG 0 p.Log m.A rfl (by rw [BIG_eq]; omega) (by omega) (by omega)
        rw [List.drop_zero] at this
        refine this.trans ?_
        have hq : (mFollow m p).Commit = p.Commit := by unfold mFollow; dsimp only; rw [mFresh_commit]
        have hch := choose_m (c := { c with Peers := c.Peers.set i (mTaken m p) }) (i := i) (p := mTaken m p) (get_set hp) k1 k2 k3 (takeL_all _ _ _ hdm hd) hc
        rw [hq]
        refine (congrArg (fun o => Option.bind o (fun d => (f_impl_Cluster_send d { Kind := 4, From := m.To, To := m.From, Term := (mFresh m p).Term, A := (takeL m.Log p.Log m.A).2, B := 0, C := 0, Ok := true, Log := [] }).bind some)) hch).trans ?_
        rw [obind_some, send_m (by simp) DBl.nil, obind_some]
        rfl
      · rw [if_pos (by rw [decide_eq_false h4]; rfl), if_pos (Or.inr h4)]
structure PeerOk (n : Nat) (p : GPeer) : Prop where
  com0 : 0 ≤ p.Commit
  com1 : p.Commit ≤ (p.Log.length : Int)
  logl : p.Log.length ≤ 1000
  term0 : 0 ≤ p.Term
  votes : p.Votes.length ≤ 1000
  mat : p.Match.length ≤ 1000
  cand : p.Role = 1 → p.Votes.length = n
  lead : p.Role = 2 → NextOk n p
  mlen : p.Role = 2 → p.Match.length = n
  mall : p.Role = 2 → ∀ x ∈ p.Match, 0 ≤ x ∧ x ≤ (p.Log.length : Int)
structure MsgOk (n : Nat) (m : GMsg) : Prop where
  frm : 0 ≤ m.From ∧ m.From < n
  to : 0 ≤ m.To ∧ m.To < n
  a : 0 ≤ m.A ∧ m.A ≤ 1000000
  logl : m.Log.length ≤ 1000
  recs : ∀ r ∈ m.Log, 1 ≤ r.Index ∧ r.Index ≤ 1000000
def AckOk (m : GMsg) (p : GPeer) : Prop := m.Kind = 4 → p.Role = 2 → m.Term = p.Term → m.A ≤ (p.Log.length : Int)
def mNewer (m : GMsg) (p : GPeer) : GPeer := if p.Term < m.Term then { p with Term := m.Term, Vote := 0, Role := 0, Votes := [], Next := [], Match := [] } else p
def mGrant (m : GMsg) (p : GPeer) : Bool :=
  decide (m.Term = p.Term ∧ (p.Vote = 0 ∨ p.Vote = m.From + 1) ∧ (termAt p.Log p.Log.length < m.B ∨ (m.B = termAt p.Log p.Log.length ∧ (p.Log.length : Int) ≤ m.A)))
def mVoted (m : GMsg) (p : GPeer) : GPeer := if mGrant m p = true then { p with Vote := m.From + 1 } else p
def mHeard (m : GMsg) (p : GPeer) : GPeer := { p with Votes := p.Votes.set m.From.toNat true }
def mAcked (m : GMsg) (p : GPeer) (nx mt : Int) : GPeer :=
  { p with Next := p.Next.set m.From.toNat (if (m.A + 1) > nx then (m.A + 1) else nx), Match := p.Match.set m.From.toNat (if m.A > mt then m.A else mt) }
def mNaked (m : GMsg) (p : GPeer) (mt : Int) : GPeer :=
  { p with Next := p.Next.set m.From.toNat (if (m.A + 1) > (mt + 1) then (m.A + 1) else (mt + 1)) }
def atI (l : List Int) (i : Int) : Int := l[i.toNat]?.getD 0
def mArr (c : GCluster) (m : GMsg) (i : Nat) (p : GPeer) : GCluster :=
  if m.Kind = 1 then mSend { c with Peers := c.Peers.set i (mVoted m p) } { Kind := 2, From := m.To, To := m.From, Term := p.Term, A := 0, B := 0, C := 0, Ok := mGrant m p, Log := [] }
  else if m.Kind = 2 then (if m.Term = p.Term ∧ p.Role = 1 ∧ m.Ok = true then mElect { c with Peers := c.Peers.set i (mHeard m p) } i (mHeard m p) else c)
  else if m.Kind = 3 then mTake c m i p
  else if m.Kind = 4 then
    if m.Term = p.Term ∧ p.Role = 2 then
      if m.Ok = true then mCommit { c with Peers := c.Peers.set i (mAcked m p (atI p.Next m.From) (atI p.Match m.From)) } i (mAcked m p (atI p.Next m.From) (atI p.Match m.From))
      else if m.A + 1 < atI p.Next m.From then mRecords { c with Peers := c.Peers.set i (mNaked m p (atI p.Match m.From)) } i (mNaked m p (atI p.Match m.From)) m.From.toNat
      else c
    else c
  else c
end Go.Proofs.YtlpcdcpcfeaecaaAb
end
section
namespace Go.Proofs.YtlpcdcpcfeaecaaAb
open Go
theorem arr_grant {m : GMsg} {c : GCluster} {xs : List GPeer} {p : GPeer} (hl : p.Log.length ≤ 1000) (hf : 0 ≤ m.From ∧ m.From ≤ 1000) :
    (f_impl_Peer_last_elem0 p).bind (fun x323 =>
    if m.Term = p.Term then
      if p.Vote = 0 then
        if x323.2 < m.B then f_impl_Cluster_arrive_J1 m c p xs true
        else if m.B = x323.2 then f_impl_Cluster_arrive_J1 m c p xs (decide (x323.1 ≤ m.A)) else f_impl_Cluster_arrive_J1 m c p xs false
      else
        chk (-9223372036854775808 ≤ m.From + 1 ∧ m.From + 1 < 9223372036854775808) <|
        if p.Vote = (m.From + 1) then
          if x323.2 < m.B then f_impl_Cluster_arrive_J1 m c p xs true
          else if m.B = x323.2 then f_impl_Cluster_arrive_J1 m c p xs (decide (x323.1 ≤ m.A)) else f_impl_Cluster_arrive_J1 m c p xs false
        else f_impl_Cluster_arrive_J1 m c p xs false
    else f_impl_Cluster_arrive_J1 m c p xs false) = f_impl_Cluster_arrive_J1 m c p xs (mGrant m p) := by
  rw [last_m (by omega), obind_some, chk_pos (by omega)]
  unfold mGrant
  by_cases h1 : m.Term = p.Term
  · by_cases h2 : p.Vote = 0
    · by_cases h3 : termAt p.Log p.Log.length < m.B
      · simp [h1, h2, h3]
      · by_cases h4 : m.B = termAt p.Log p.Log.length
        · simp [h1, h2, h4]
        · simp [h1, h2, h3, h4]
    · by_cases h5 : p.Vote = m.From + 1
      · by_cases h3 : termAt p.Log p.Log.length < m.B
        · simp [h1, h2, h3, h5]
        · by_cases h4 : m.B = termAt p.Log p.Log.length
          · simp [h1, h2, h4, h5]
          · simp [h1, h2, h3, h4, h5]
      · simp [h1, h2, h5]
  · simp [h1]
theorem arr_J1 {m : GMsg} {c : GCluster} {xs : List GPeer} {p : GPeer} {i : Nat} (hp : xs[i]? = some p) (ht : m.To = (i : Int)) (hf : 0 ≤ m.From ∧ m.From ≤ 1000) (b : Bool) :
    f_impl_Cluster_arrive_J1 m c p xs b = some (mSend { c with Peers := xs.set i (if b = true then { p with Vote := m.From + 1 } else p) } { Kind := 2, From := m.To, To := m.From, Term := p.Term, A := 0, B := 0, C := 0, Ok := b, Log := [] }) := by
  unfold f_impl_Cluster_arrive_J1 f_impl_Cluster_arrive_J2
  cases b
  · rw [if_neg (by decide), if_neg (by decide), send_m (by simp) DBl.nil, obind_some, set_self hp]
  · rw [if_pos rfl, if_pos rfl, chk_pos (by omega), send_m (by simp) DBl.nil, obind_some, ht]; rfl
theorem atI_get {l : List Int} {f : Nat} (h : f < l.length) : l[f]? = some (atI l (f : Int)) := by
  unfold atI; rw [Int.toNat_natCast, List.getElem?_eq_getElem h]; rfl
theorem arr_m {m : GMsg} {c : GCluster} {xs : List GPeer} {p : GPeer} {i : Nat} (hn : xs.length ≤ 1000) (hp : xs[i]? = some p) (ht : m.To = (i : Int)) (hm : MsgOk xs.length m) (hpo : PeerOk xs.length p) (hk : TakeOk m p) (ha : AckOk m p)
    (hd : DBl p.Log) (hdm : DBl m.Log) (hc : c.Chosen.length ≤ 100000) : f_impl_Cluster_arrive_J0 m c xs = some (mArr { c with Peers := xs } m i p) := by
  have hi : i < xs.length := (List.getElem?_eq_some_iff.1 hp).1
  obtain ⟨f1, f2⟩ := hm.frm
  obtain ⟨a1, a2⟩ := hm.a
  have hl := hpo.logl
  obtain ⟨f, hf⟩ : ∃ f : Nat, m.From = (f : Int) := ⟨m.From.toNat, by omega⟩
  have hfn : m.From.toNat = f := by omega
  unfold f_impl_Cluster_arrive_J0 mArr
  by_cases k1 : m.Kind = 1
  · rw [if_pos k1, if_pos k1, ht, idx_some hp, obind_some, ← ht]
    refine (arr_grant hl ⟨f1, by omega⟩).trans ?_
    rw [arr_J1 hp ht ⟨f1, by omega⟩]; rfl
  rw [if_neg k1, if_neg k1]
  by_cases k2 : m.Kind = 2
  · rw [if_pos k2, if_pos k2, ht, idx_some hp, obind_some]
    have hJ : ∀ b : Bool, f_impl_Cluster_arrive_J3 xs m c b = if b = true then (idx xs m.To).bind (fun x696 => (idx x696.Votes m.From).bind fun x717 =>
        (f_impl_Cluster_elect ({ Peers := (setI xs m.To ({ x696 with Votes := (setI x696.Votes m.From true) } : GPeer)), Net := c.Net, Chosen := c.Chosen, Conflict := c.Conflict } : GCluster) m.To).bind some) else some { c with Peers := xs } := fun b => by
      unfold f_impl_Cluster_arrive_J3; rfl
    by_cases h1 : m.Term = p.Term
    · rw [if_pos h1]
      by_cases h2 : p.Role = 1
      · rw [if_pos h2, hJ]
        by_cases h3 : m.Ok = true
        · rw [if_pos h3, if_pos ⟨h1, h2, h3⟩, ht, idx_some hp, obind_some, hf, idx_nat (by rw [hpo.cand h2]; omega), obind_some]
          have := elect_m (c := { c with Peers := xs.set i (mHeard m p) }) (i := i) (p := mHeard m p) (get_set hp) (by simp; omega) (by unfold mHeard; simp; have := hpo.votes; omega) hpo.com0 hpo.com1 hl hd hc
          have e : mHeard m p = { p with Votes := setI p.Votes (f : Int) true } := by unfold mHeard setI; rw [hfn]; rfl
          rw [e] at this ⊢
          refine (congrArg (fun o => Option.bind o some) this).trans ?_
          rfl
        · rw [if_neg h3, if_neg (fun h => h3 h.2.2)]
      · rw [if_neg h2, hJ, if_neg (by decide), if_neg (fun h => h2 h.2.1)]
    · rw [if_neg h1, hJ, if_neg (by decide), if_neg (fun h => h1 h.1)]
  rw [if_neg k2, if_neg k2]
  by_cases k3 : m.Kind = 3
  · rw [if_pos k3, if_pos k3]
    have := take_m (c := { c with Peers := xs }) (m := m) (i := i) hp ht a1 a2 hl hm.logl hm.recs hd hdm hc hk
    refine (congrArg (fun o => Option.bind o some) this).trans ?_
    rfl
  rw [if_neg k3, if_neg k3]
  by_cases k4 : m.Kind = 4
  · rw [if_pos k4, if_pos k4, ht, idx_some hp, obind_some]
    by_cases h1 : m.Term = p.Term
    · rw [if_pos h1]
      by_cases h2 : p.Role = 2
      · rw [if_pos ⟨h1, h2⟩]
        have hle := ha k4 h2 h1
        obtain ⟨n1, n2⟩ := hpo.lead h2
        have hnx : p.Next[f]? = some (atI p.Next m.From) := by rw [hf]; exact atI_get (by rw [n1]; omega)
        have hmt : p.Match[f]? = some (atI p.Match m.From) := by rw [hf]; exact atI_get (by rw [hpo.mlen h2]; omega)
        unfold f_impl_Cluster_arrive_J4
        rw [if_neg (by rw [decide_eq_true h2]; decide)]
        by_cases h3 : m.Ok = true
        · rw [if_pos h3, if_pos h3, ht, idx_some hp, obind_some]
          have q1 : idx p.Match m.From = some (atI p.Match m.From) := by conv => lhs; rw [hf]
                                                                         exact idx_some hmt
          have q2 : idx p.Next m.From = some (atI p.Next m.From) := by conv => lhs; rw [hf]
                                                                       exact idx_some hnx
          rw [q1, obind_some, q2, obind_some, chk_pos (by omega), obind_some, obind_some]
          have := commit_m (c := { c with Peers := xs.set i (mAcked m p (atI p.Next m.From) (atI p.Match m.From)) }) (i := i) (p := mAcked m p (atI p.Next m.From) (atI p.Match m.From)) (get_set hp) hpo.com0 hpo.com1 hl (by unfold mAcked; simp; have := hpo.mat; omega) (by simp; omega) hd hc
          refine (congrArg (fun o => Option.bind o some) this).trans ?_
          rfl
        · rw [if_neg h3, if_neg h3, chk_pos (by omega), ht, idx_some hp, obind_some]
          have q1 : idx p.Match m.From = some (atI p.Match m.From) := by conv => lhs; rw [hf]
                                                                         exact idx_some hmt
          have q2 : idx p.Next m.From = some (atI p.Next m.From) := by conv => lhs; rw [hf]
                                                                       exact idx_some hnx
          rw [q2, obind_some]
          by_cases h5 : m.A + 1 < atI p.Next m.From
          · have hm5 := hpo.mall h2 _ (List.mem_of_getElem? hmt)
            rw [if_pos h5, if_pos h5, q1, obind_some, chk_pos (by omega), chk_pos (by omega), obind_some]
            have := records_m (c := { c with Peers := xs.set i (mNaked m p (atI p.Match m.From)) }) (i := i) (t := f) (p := mNaked m p (atI p.Match m.From)) (nx := (if (m.A + 1) > (atI p.Match m.From + 1) then (m.A + 1) else (atI p.Match m.From + 1))) (get_set hp)
              (by unfold mNaked; dsimp only; rw [hfn]; exact List.getElem?_set_self (by rw [n1]; omega)) (by split <;> omega) (by show _ ≤ (p.Log.length : Int) + 1; split <;> omega) (by show p.Log.length ≤ _; omega) hd
            rw [hfn]
            rw [← hf] at this
            refine (congrArg (fun o => Option.bind o some) this).trans ?_
            rfl
          · rw [if_neg h5, if_neg h5]
      · rw [if_neg (fun h => h2 h.2)]
        unfold f_impl_Cluster_arrive_J4
        rw [if_pos (by rw [decide_eq_false h2]; rfl)]
    · rw [if_neg h1, if_neg (fun h => h1 h.1)]
      unfold f_impl_Cluster_arrive_J4
      rw [if_pos rfl]
  · rw [if_neg k4, if_neg k4]
theorem mNewer_log {m : GMsg} {p : GPeer} : (mNewer m p).Log = p.Log := by unfold mNewer; split <;> rfl
theorem mNewer_ok {m : GMsg} {p : GPeer} {n : Nat} (h : PeerOk n p) : PeerOk n (mNewer m p) := by
  unfold mNewer
  split
  · next ht => exact ⟨h.com0, h.com1, h.logl, by show 0 ≤ m.Term; have := h.term0; omega, Nat.zero_le _, Nat.zero_le _, (fun hh => nomatch hh), (fun hh => nomatch hh), (fun hh => nomatch hh), (fun hh => nomatch hh)⟩
  · exact h
def mArrive (c : GCluster) (m : GMsg) : GCluster :=
  match c.Peers[m.To.toNat]? with
  | none => c
  | some p => if p.Up = true then mArr (if p.Term < m.Term then { c with Peers := c.Peers.set m.To.toNat (mNewer m p) } else c) m m.To.toNat (mNewer m p) else c
theorem arrive_m {m : GMsg} {c : GCluster} {p : GPeer} (hn : c.Peers.length ≤ 1000) (hp : c.Peers[m.To.toNat]? = some p) (hm : MsgOk c.Peers.length m) (hpo : PeerOk c.Peers.length p) (hk : TakeOk m (mNewer m p)) (ha : AckOk m (mNewer m p))
    (hd : DBl p.Log) (hdm : DBl m.Log) (hc : c.Chosen.length ≤ 100000) : f_impl_Cluster_arrive c m = some (mArrive c m) := by
  obtain ⟨t1, t2⟩ := hm.to
  have ht : m.To = (m.To.toNat : Int) := by omega
  unfold f_impl_Cluster_arrive mArrive
  rw [hp]
  have hpi : idx c.Peers m.To = some p := by rw [ht]; exact idx_some hp
  rw [hpi, obind_some]
  dsimp only
  cases hu : p.Up
  · rw [if_pos (by decide), if_neg (by decide)]
  · rw [if_neg (by decide), if_pos rfl]
    by_cases h1 : p.Term < m.Term
    · rw [if_pos h1, if_pos h1, if_pos h1]
      unfold f_impl_Cluster_arrive_J5
      have hg : idx (setI c.Peers m.To ({ Up := p.Up, Term := m.Term, Vote := 0, Commit := p.Commit, Role := p.Role, Log := p.Log, Votes := p.Votes, Next := p.Next, Match := p.Match } : GPeer)) m.To = some { p with Term := m.Term, Vote := 0 } := by
        rw [ht]; exact idx_some (get_set hp)
      rw [← hu, hg, obind_some]
      have e : setI (setI c.Peers m.To ({ Up := p.Up, Term := m.Term, Vote := 0, Commit := p.Commit, Role := p.Role, Log := p.Log, Votes := p.Votes, Next := p.Next, Match := p.Match } : GPeer)) m.To ({ Up := p.Up, Term := m.Term, Vote := 0, Commit := p.Commit, Role := 0, Log := p.Log, Votes := [], Next := [], Match := [] } : GPeer) = c.Peers.set m.To.toNat (mNewer m p) := by
        unfold mNewer setI; rw [if_pos h1, List.set_set]
      rw [show f_impl_Cluster_arrive_J0 m c (setI _ m.To _) = _ from congrArg _ e]
      refine arr_m (by simp; omega) (get_set hp) ht (by simpa using hm) ?_ hk ha (by rw [mNewer_log]; exact hd) hdm hc
      simpa using mNewer_ok hpo
    · rw [if_neg h1, if_neg h1]
      have e : mNewer m p = p := by unfold mNewer; rw [if_neg h1]
      rw [e] at hk ha ⊢
      exact arr_m hn hp ht hm hpo hk ha hd hdm hc
end Go.Proofs.YtlpcdcpcfeaecaaAb
end
section
namespace Go.Proofs.YtlpcdcpcfeaecaaAb
open Go
theorem DBc.arr {c : GCluster} {m : GMsg} {i : Nat} {p : GPeer} (h : DBc c) (hm : DBl m.Log) (hp : DBl p.Log) : DBc (mArr c m i p) := by
  unfold mArr
  repeat' split
  · refine (h.set ?_).send DBl.nil
    unfold mVoted; split <;> exact hp
  · exact (h.set (p := mHeard m p) hp).elect hp
  · exact h
  · exact h.take hm hp
  · exact (h.set (p := mAcked m p (atI p.Next m.From) (atI p.Match m.From)) hp).commit hp
  · exact (h.set (p := mNaked m p (atI p.Match m.From)) hp).records hp
  · exact h
  · exact h
  · exact h
theorem DBc.arrive {c : GCluster} {m : GMsg} (h : DBc c) (hm : DBl m.Log) : DBc (mArrive c m) := by
  unfold mArrive
  split
  · exact h
  · next p hp =>
    have hd : DBl p.Log := h.peers p (List.mem_of_getElem? hp)
    split
    · refine DBc.arr ?_ hm (by rw [mNewer_log]; exact hd)
      split
      · exact h.set (by rw [mNewer_log]; exact hd)
      · exact h
    · exact h
def mCut (c : GCluster) (i : Nat) : GCluster := { c with Net := c.Net.take i ++ c.Net.drop (i + 1) }
def mDown (p : GPeer) : GPeer := { Up := false, Term := p.Term, Vote := p.Vote, Commit := 0, Role := 0, Log := p.Log, Votes := [], Next := [], Match := [] }
def mGrown (i : Nat) (p : GPeer) (d : List UInt8) : GPeer :=
  { p with Log := p.Log ++ [{ Term := p.Term, Index := (p.Log.length : Int) + 1, Data := d }], Match := p.Match.set i ((p.Log.length : Int) + 1) }
def mPropose (c : GCluster) (i : Nat) (p : GPeer) (d : List UInt8) : GCluster := mCommit { c with Peers := c.Peers.set i (mGrown i p d) } i (mGrown i p d)
def mNetEv (c : GCluster) (k : Int) (i : Nat) : GCluster × Int :=
  match c.Net[i]? with
  | none => (c, 6)
  | some m => if k = 4 then (mSend c m, 0) else if k = 2 then (mArrive (mCut c i) m, 0) else (mCut c i, 0)
def mPeerEv (c : GCluster) (e : GEvent) (i : Nat) : GCluster × Int :=
  match c.Peers[i]? with
  | none => (c, 6)
  | some p =>
    if p.Up = decide (e.Kind = 6) then (c, 15)
    else if e.Kind = 1 then (mTick c i p, 0)
    else if e.Kind = 5 then ({ c with Peers := c.Peers.set i (mDown p) }, 0)
    else if e.Kind = 6 then ({ c with Peers := c.Peers.set i { p with Up := true } }, 0)
    else if p.Role = 2 then (if 1000 < (e.Data.length : Int) ∨ 100 ≤ (p.Log.length : Int) then (c, 14) else (mPropose c i p e.Data, 0))
    else (c, 15)
def mEvent (c : GCluster) (e : GEvent) : GCluster × Int :=
  if e.Kind = 2 ∨ e.Kind = 3 ∨ e.Kind = 4 then
    if 0 ≤ e.N ∧ e.N ≤ (c.Net.length : Int) - 1 then mNetEv c e.Kind e.N.toNat else (c, 6)
  else if e.Kind = 1 ∨ e.Kind = 5 ∨ e.Kind = 6 ∨ e.Kind = 7 then
    if 0 ≤ e.N ∧ e.N ≤ (c.Peers.length : Int) - 1 then mPeerEv c e e.N.toNat else (c, 6)
  else (c, 3)
structure ClOk (c : GCluster) : Prop where
  n : c.Peers.length ≤ 1000
  net : c.Net.length ≤ 1000
  chosen : c.Chosen.length ≤ 100000
  peers : ∀ p ∈ c.Peers, PeerOk c.Peers.length p
  msgs : ∀ m ∈ c.Net, MsgOk c.Peers.length m
def EvOk (c : GCluster) (e : GEvent) : Prop := e.Kind = 2 → ∀ m, c.Net[e.N.toNat]? = some m → ∀ p, c.Peers[m.To.toNat]? = some p → TakeOk m (mNewer m p) ∧ AckOk m (mNewer m p)
theorem event_J1 {c : GCluster} {e : GEvent} (h : ClOk c) (hd : DBc c) (b : Bool) (hb : b = decide (e.Kind = 1 ∨ e.Kind = 5 ∨ e.Kind = 6 ∨ e.Kind = 7)) :
    f_impl_Cluster_event_J1 c e b = some (if e.Kind = 1 ∨ e.Kind = 5 ∨ e.Kind = 6 ∨ e.Kind = 7 then
    if 0 ≤ e.N ∧ e.N ≤ (c.Peers.length : Int) - 1 then mPeerEv c e e.N.toNat else (c, 6)
  else (c, 3)) := by
  have hn := h.n
  unfold f_impl_Cluster_event_J1
  subst hb
  by_cases k : e.Kind = 1 ∨ e.Kind = 5 ∨ e.Kind = 6 ∨ e.Kind = 7
  · rw [if_pos (by rw [decide_eq_true k]), if_pos k, chk_pos (by omega), within_l, obind_some]
    by_cases hN : 0 ≤ e.N ∧ e.N ≤ (c.Peers.length : Int) - 1
    · rw [if_neg (by rw [decide_eq_true hN]; decide), if_pos hN]
      have hi : e.N.toNat < c.Peers.length := by omega
      have hp : c.Peers[e.N.toNat]? = some c.Peers[e.N.toNat] := List.getElem?_eq_getElem hi
      have hmem := List.getElem_mem hi
      generalize c.Peers[e.N.toNat] = p at hp hmem
      have hNN : e.N = (e.N.toNat : Int) := by omega
      have hpi : idx c.Peers e.N = some p := by rw [hNN]; exact idx_some hp
      rw [hpi, obind_some]
      unfold mPeerEv
      rw [hp]
      dsimp only
      have hpo := h.peers p hmem
      have hdl := hd.peers p hmem
      have hl := hpo.logl
      by_cases hu : p.Up = decide (e.Kind = 6)
      · rw [if_pos (by rw [hu]; simp), if_pos hu]
      · rw [if_neg (by simpa using hu), if_neg hu]
        by_cases k1 : e.Kind = 1
        · rw [if_pos k1, if_pos k1]
          have := tick_m hp hn hpo.lead hpo.term0 hpo.com0 hpo.com1 hl hdl h.chosen
          rw [← hNN] at this
          refine (congrArg (fun o => Option.bind o (fun x : GCluster => some (x, (0 : Int)))) this).trans ?_
          rfl
        rw [if_neg k1, if_neg k1]
        by_cases k5 : e.Kind = 5
        · rw [if_pos k5, if_pos k5]; rfl
        rw [if_neg k5, if_neg k5]
        by_cases k6 : e.Kind = 6
        · rw [if_pos k6, if_pos k6]; rfl
        have k7 : e.Kind = 7 := by omega
        rw [if_neg k6, if_neg k6, if_pos k7]
        by_cases hr : p.Role = 2
        · rw [if_pos hr, if_pos hr]
          unfold f_impl_Cluster_event_J2
          by_cases hb1 : 1000 < (e.Data.length : Int)
          · rw [if_pos hb1, if_pos rfl, if_pos (Or.inl hb1)]
          rw [if_neg hb1]
          by_cases hb2 : 100 ≤ (p.Log.length : Int)
          · rw [if_pos (by rw [decide_eq_true hb2]), if_pos (Or.inr hb2)]
          rw [if_neg (by rw [decide_eq_false hb2]; decide), if_neg (fun hh => hh.elim hb1 hb2), chk_pos (by omega), clone_b (by omega), obind_some, chk_pos (by simp; omega)]
          have hmt : idx p.Match e.N = some (atI p.Match e.N) := by
            conv => lhs; rw [hNN]
            rw [hNN]; exact idx_some (atI_get (by rw [hpo.mlen hr]; exact hi))
          rw [hmt, obind_some]
          have hg : (mGrown e.N.toNat p e.Data).Log.length = p.Log.length + 1 := by unfold mGrown; simp
          have hdg : DBl (mGrown e.N.toNat p e.Data).Log := fun r hr => by
            rcases List.mem_append.1 hr with hr | hr
            · exact hdl r hr
            · rw [List.mem_singleton.1 hr]; show e.Data.length ≤ 1000; omega
          have := commit_m (c := { c with Peers := c.Peers.set e.N.toNat (mGrown e.N.toNat p e.Data) }) (i := e.N.toNat) (p := mGrown e.N.toNat p e.Data) (get_set hp) hpo.com0 (by rw [hg]; have := hpo.com1; show p.Commit ≤ _; omega) (by omega) (by unfold mGrown; simp; exact hpo.mat) (by simp; omega) hdg h.chosen
          rw [← hNN] at this
          have e3 : ((p.Log ++ ([({ Term := p.Term, Index := ((p.Log.length : Int) + 1), Data := e.Data } : GRec)] : List GRec)).length : Int) = (p.Log.length : Int) + 1 := by simp
          rw [e3]
          refine (congrArg (fun o => Option.bind o (fun x : GCluster => some (x, (0 : Int)))) this).trans ?_
          rfl
        · rw [if_neg hr, if_neg hr]
    · rw [if_pos (by rw [decide_eq_false hN]; rfl), if_neg hN]
  · rw [if_neg (by rw [decide_eq_false k]; decide), if_neg k]
end Go.Proofs.YtlpcdcpcfeaecaaAb
end
section
namespace Go.Proofs.YtlpcdcpcfeaecaaAb
open Go
theorem event_J0 {c : GCluster} {e : GEvent} (h : ClOk c) (hd : DBc c) (hk : EvOk c e) (b : Bool) (hb : b = decide (e.Kind = 2 ∨ e.Kind = 3 ∨ e.Kind = 4)) :
    f_impl_Cluster_event_J0 c e b = some (mEvent c e) := by
  have hn := h.net
  unfold f_impl_Cluster_event_J0 mEvent
  subst hb
  by_cases k : e.Kind = 2 ∨ e.Kind = 3 ∨ e.Kind = 4
  · rw [if_pos (by rw [decide_eq_true k]), if_pos k, chk_pos (by omega), within_l, obind_some]
    by_cases hN : 0 ≤ e.N ∧ e.N ≤ (c.Net.length : Int) - 1
    · rw [if_neg (by rw [decide_eq_true hN]; decide), if_pos hN]
      have hi : e.N.toNat < c.Net.length := by omega
      have hp : c.Net[e.N.toNat]? = some c.Net[e.N.toNat] := List.getElem?_eq_getElem hi
      have hmem := List.getElem_mem hi
      generalize c.Net[e.N.toNat] = m at hp hmem
      have hNN : e.N = (e.N.toNat : Int) := by omega
      have hpi : idx c.Net e.N = some m := by rw [hNN]; exact idx_some hp
      rw [hpi, obind_some]
      unfold mNetEv
      rw [hp]
      dsimp only
      have hmo := h.msgs m hmem
      have hdm := hd.net m hmem
      have hl := hmo.logl
      by_cases k4 : e.Kind = 4
      · rw [if_pos k4, if_pos k4]
        refine (congrArg (fun o => Option.bind o (fun x : GCluster => some (x, (0 : Int)))) (send_m (c := c) (m := m) (by omega) hdm)).trans ?_
        rfl
      · rw [if_neg k4, if_neg k4, chk_pos (by omega)]
        unfold f_slices_Delete_implMsg
        rw [chk_pos ⟨hN.1, rfl, by omega⟩, obind_some]
        by_cases k2 : e.Kind = 2
        · rw [if_pos k2, if_pos k2]
          have hti : m.To.toNat < c.Peers.length := by have := hmo.to; omega
          have hpp : c.Peers[m.To.toNat]? = some c.Peers[m.To.toNat] := List.getElem?_eq_getElem hti
          obtain ⟨ho1, ho2⟩ := hk k2 m hp _ hpp
          have := arrive_m (m := m) (c := mCut c e.N.toNat) h.n hpp hmo (h.peers _ (List.getElem_mem hti)) ho1 ho2 (hd.peers _ (List.getElem_mem hti)) hdm h.chosen
          refine (congrArg (fun o => Option.bind o (fun x : GCluster => some (x, (0 : Int)))) this).trans ?_
          rfl
        · rw [if_neg k2, if_neg k2]; rfl
    · rw [if_pos (by rw [decide_eq_false hN]; rfl), if_neg hN]
  · rw [if_neg (by rw [decide_eq_false k]; decide), if_neg k]
    by_cases k1 : e.Kind = 1
    · rw [if_pos k1]; exact event_J1 h hd _ (by rw [k1]; rfl)
    rw [if_neg k1]
    by_cases k5 : e.Kind = 5
    · rw [if_pos k5]; exact event_J1 h hd _ (by rw [k5]; rfl)
    rw [if_neg k5]
    by_cases k6 : e.Kind = 6
    · rw [if_pos k6]; exact event_J1 h hd _ (by rw [k6]; rfl)
    rw [if_neg k6]
    exact event_J1 h hd _ (by simp [k1, k5, k6])
theorem event_m {c : GCluster} {e : GEvent} (h : ClOk c) (hd : DBc c) (hk : EvOk c e) : f_impl_Cluster_event c e = some (mEvent c e) := by
  unfold f_impl_Cluster_event
  by_cases k2 : e.Kind = 2
  · rw [if_pos k2]; exact event_J0 h hd hk _ (by rw [k2]; rfl)
  rw [if_neg k2]
  by_cases k3 : e.Kind = 3
  · rw [if_pos k3]; exact event_J0 h hd hk _ (by rw [k3]; rfl)
  rw [if_neg k3]
  exact event_J0 h hd hk _ (by simp [k2, k3])
theorem DBc.event {c : GCluster} {e : GEvent} (h : DBc c) : DBc (mEvent c e).1 := by
  unfold mEvent
  split
  · split
    · unfold mNetEv
      split
      · exact h
      · next m hm =>
        have hdm : DBl m.Log := h.net m (List.mem_of_getElem? hm)
        have hcut : DBc (mCut c e.N.toNat) := ⟨h.peers, fun x hx => by
          rcases List.mem_append.1 hx with hx | hx
          · exact h.net x (List.mem_of_mem_take hx)
          · exact h.net x (List.mem_of_mem_drop hx), h.chosen⟩
        split
        · exact h.send hdm
        · split
          · exact hcut.arrive hdm
          · exact hcut
    · exact h
  · split
    · split
      · unfold mPeerEv
        split
        · exact h
        · next p hp =>
          have hdp : DBl p.Log := h.peers p (List.mem_of_getElem? hp)
          split
          · exact h
          split
          · exact h.tick hdp
          split
          · exact h.set (p := mDown p) hdp
          split
          · exact h.set (p := { p with Up := true }) hdp
          split
          · split
            · exact h
            · next hb =>
              have hg : DBl (mGrown e.N.toNat p e.Data).Log := fun r hr => by
                rcases List.mem_append.1 hr with hr | hr
                · exact hdp r hr
                · rw [List.mem_singleton.1 hr]; show e.Data.length ≤ 1000; omega
              exact (h.set hg).commit hg
          · exact h
      · exact h
    · exact h
theorem told_L1 {c : GCluster} {ps : List GPeer} {ch : List GRec} (hn : c.Net.length ≤ 1000) (hd : ∀ m ∈ c.Net, DBl m.Log) (hl : ∀ m ∈ c.Net, m.Log.length ≤ 1000) :
    f_impl_Cluster_told_L1 c ps ch BIG 0 [] = some { c with Peers := ps, Chosen := ch } := by
  have key : ∀ (m k i : Nat) (acc : List GMsg), c.Net.length - i = m → m + 1 ≤ k → i ≤ c.Net.length → acc = c.Net.take i → f_impl_Cluster_told_L1 c ps ch k (i : Int) acc = some { c with Peers := ps, Chosen := ch } := by
    intro m
    induction m with
    | zero =>
      intro k i acc hm hk hi ha
      obtain ⟨k, rfl⟩ : ∃ j, k = j + 1 := ⟨k - 1, by omega⟩
      rw [f_impl_Cluster_told_L1, if_neg (by omega), ha, List.take_of_length_le (by omega)]
    | succ m ih =>
      intro k i acc hm hk hi ha
      obtain ⟨k, rfl⟩ : ∃ j, k = j + 1 := ⟨k - 1, by omega⟩
      have hlt : i < c.Net.length := by omega
      have hmm := List.getElem_mem hlt
      have h1 := hl _ hmm
      have hlen : acc.length = i := by rw [ha, List.length_take]; omega
      rw [f_impl_Cluster_told_L1, if_pos (by omega), idx_nat hlt, obind_some]
      refine (congrArg (fun o => Option.bind o _) (copied_m (m := c.Net[i]) (by omega) (hd _ hmm))).trans ?_
      rw [obind_some, chk_pos (by simp; omega), chk_pos (by omega), show ((i : Int) + 1) = ((i + 1 : Nat) : Int) by omega]
      exact ih k (i + 1) _ (by omega) (by omega) (by omega) (by rw [ha, List.take_succ_eq_append_getElem hlt])
  exact key c.Net.length BIG 0 [] (by omega) (by rw [BIG_eq]; omega) (by omega) (by simp)
theorem told_m {c : GCluster} (hn : c.Net.length ≤ 1000) (hpn : c.Peers.length ≤ 1000) (hd : DBc c) (hl : ∀ m ∈ c.Net, m.Log.length ≤ 1000) (hp : ∀ p ∈ c.Peers, p.Log.length ≤ 1000 ∧ p.Votes.length ≤ 1000 ∧ p.Next.length ≤ 1000 ∧ p.Match.length ≤ 1000) (hc : c.Chosen.length ≤ 100000) :
    f_impl_Cluster_told c = some c := by
  unfold f_impl_Cluster_told
  rw [copyRecs_o (by omega) hd.chosen, obind_some]
  have key : ∀ (m k i : Nat) (acc : List GPeer), c.Peers.length - i = m → m + 1 ≤ k → i ≤ c.Peers.length → acc = c.Peers.take i → f_impl_Cluster_told_L0 c c.Chosen k (i : Int) acc = some c := by
    intro m
    induction m with
    | zero =>
      intro k i acc hm hk hi ha
      obtain ⟨k, rfl⟩ : ∃ j, k = j + 1 := ⟨k - 1, by omega⟩
      rw [f_impl_Cluster_told_L0, if_neg (by omega), ha, List.take_of_length_le (by omega)]
      exact told_L1 hn hd.net hl
    | succ m ih =>
      intro k i acc hm hk hi ha
      obtain ⟨k, rfl⟩ : ∃ j, k = j + 1 := ⟨k - 1, by omega⟩
      have hlt : i < c.Peers.length := by omega
      have hmm := List.getElem_mem hlt
      obtain ⟨h1, h2, h3, h4⟩ := hp _ hmm
      have hlen : acc.length = i := by rw [ha, List.length_take]; omega
      rw [f_impl_Cluster_told_L0, if_pos (by omega), idx_nat hlt, obind_some, copyRecs_o (by omega) (hd.peers _ hmm), obind_some, clone_bool (by omega), obind_some, clone_int (by omega), obind_some, clone_int (by omega), obind_some, chk_pos (by simp; omega), chk_pos (by omega), show ((i : Int) + 1) = ((i + 1 : Nat) : Int) by omega]
      exact ih k (i + 1) _ (by omega) (by omega) (by omega) (by rw [ha, List.take_succ_eq_append_getElem hlt])
  exact key c.Peers.length BIG 0 [] (by omega) (by rw [BIG_eq]; omega) (by omega) (by simp)
end Go.Proofs.YtlpcdcpcfeaecaaAb
end
section
namespace Go.Proofs.YtlpcdcpcfeaecaaAb
open Go
def mPeerS (c : GCluster) (e : GEvent) (i : Nat) : GCluster × Int :=
  match c.Peers[i]? with
  | none => (c, 6)
  | some p =>
    if p.Up = decide (e.Kind = 6) then (c, 15)
    else if e.Kind = 1 then (mTick c i p, 0)
    else if e.Kind = 5 then ({ c with Peers := c.Peers.set i (mDown p) }, 0)
    else if e.Kind = 6 then ({ c with Peers := c.Peers.set i { p with Up := true } }, 0)
    else if p.Role = 2 then (if 100 ≤ (p.Log.length : Int) then (c, 14) else (mPropose c i p e.Data, 0))
    else (c, 15)
def mEvS (c : GCluster) (e : GEvent) : GCluster × Int :=
  if e.Kind = 2 ∨ e.Kind = 3 ∨ e.Kind = 4 then
    if 0 ≤ e.N ∧ e.N ≤ (c.Net.length : Int) - 1 then mNetEv c e.Kind e.N.toNat else (c, 6)
  else if e.Kind = 1 ∨ e.Kind = 5 ∨ e.Kind = 6 ∨ e.Kind = 7 then
    if 0 ≤ e.N ∧ e.N ≤ (c.Peers.length : Int) - 1 then mPeerS c e e.N.toNat else (c, 6)
  else (c, 3)
theorem mEvS_eq {c : GCluster} {e : GEvent} (h : e.Data.length ≤ 1000) : mEvent c e = mEvS c e := by
  have hp : ∀ i, mPeerEv c e i = mPeerS c e i := fun i => by
    unfold mPeerEv mPeerS
    have e0 : ∀ q : Prop, (1000 < (e.Data.length : Int) ∨ q) ↔ q := fun q => ⟨fun h2 => h2.elim (fun h3 => by omega) id, Or.inr⟩
    cases c.Peers[i]? with
    | none => rfl
    | some p => simp only [e0]
  unfold mEvent mEvS
  simp only [hp]
def okP (n : Nat) (p : GPeer) : Bool :=
  decide (0 ≤ p.Commit ∧ p.Commit ≤ (p.Log.length : Int)) && decide (p.Log.length ≤ 1000 ∧ p.Next.length ≤ 1000) && decide (0 ≤ p.Term) && decide (p.Votes.length ≤ 1000 ∧ p.Match.length ≤ 1000) &&
  (decide (p.Role ≠ 1) || decide (p.Votes.length = n)) &&
  (decide (p.Role ≠ 2) || (decide (p.Next.length = n) && (decide (p.Match.length = n) && (p.Next.all (fun x => decide (1 ≤ x ∧ x ≤ (p.Log.length : Int) + 1)) && p.Match.all (fun x => decide (0 ≤ x ∧ x ≤ (p.Log.length : Int)))))))
theorem okP_ok {n : Nat} {p : GPeer} (h : okP n p = true) : PeerOk n p ∧ p.Next.length ≤ 1000 := by
  unfold okP at h
  simp only [Bool.and_eq_true, Bool.or_eq_true, decide_eq_true_eq, List.all_eq_true] at h
  obtain ⟨⟨⟨⟨⟨⟨h1, h2⟩, h3, h4⟩, h5⟩, h6, h7⟩, h8⟩, h9⟩ := h
  refine ⟨⟨h1, h2, h3, h5, h6, h7, fun hr => h8.resolve_left (fun hh => hh hr), fun hr => ?_, fun hr => ?_, fun hr => ?_⟩, h4⟩
  · obtain ⟨a, b, c, d⟩ := h9.resolve_left (fun hh => hh hr)
    exact ⟨a, c⟩
  · obtain ⟨a, b, c, d⟩ := h9.resolve_left (fun hh => hh hr)
    exact b
  · obtain ⟨a, b, c, d⟩ := h9.resolve_left (fun hh => hh hr)
    exact d
def okM (n : Nat) (m : GMsg) : Bool :=
  decide (0 ≤ m.From ∧ m.From < n) && (decide (0 ≤ m.To ∧ m.To < n) && (decide (0 ≤ m.A ∧ m.A ≤ 1000000) && (decide (m.Log.length ≤ 1000) && m.Log.all (fun r => decide (1 ≤ r.Index ∧ r.Index ≤ 1000000)))))
theorem okM_ok {n : Nat} {m : GMsg} (h : okM n m = true) : MsgOk n m := by
  unfold okM at h
  simp only [Bool.and_eq_true, decide_eq_true_eq, List.all_eq_true] at h
  obtain ⟨h1, h2, h3, h4, h5⟩ := h
  exact ⟨h1, h2, h3, h4, h5⟩
def okC (c : GCluster) : Bool :=
  decide (c.Peers.length ≤ 1000) && (decide (c.Net.length ≤ 1000) && (decide (c.Chosen.length ≤ 100000) && (c.Peers.all (okP c.Peers.length) && c.Net.all (okM c.Peers.length))))
theorem okC_ok {c : GCluster} (h : okC c = true) : ClOk c ∧ ∀ p ∈ c.Peers, p.Next.length ≤ 1000 := by
  unfold okC at h
  simp only [Bool.and_eq_true, decide_eq_true_eq, List.all_eq_true] at h
  obtain ⟨h1, h2, h3, h4, h5⟩ := h
  exact ⟨⟨h1, h2, h3, fun p hp => (okP_ok (h4 p hp)).1, fun m hm => okM_ok (h5 m hm)⟩, fun p hp => (okP_ok (h4 p hp)).2⟩
def okT (m : GMsg) (p : GPeer) : Bool :=
  (decide (¬ m.A ≤ (p.Log.length : Int)) || (decide (termAt p.Log m.A ≠ m.B) || (decide (0 ≤ mnx (takeL m.Log p.Log m.A).2 m.C p.Commit) && (decide (mnx (takeL m.Log p.Log m.A).2 m.C p.Commit ≤ ((takeL m.Log p.Log m.A).1.length : Int)) && decide ((takeL m.Log p.Log m.A).1.length ≤ 1000))))) &&
  (decide (m.Kind ≠ 4) || (decide (p.Role ≠ 2) || (decide (m.Term ≠ p.Term) || decide (m.A ≤ (p.Log.length : Int)))))
theorem okT_ok {m : GMsg} {p : GPeer} (h : okT m p = true) : TakeOk m p ∧ AckOk m p := by
  unfold okT at h
  simp only [Bool.and_eq_true, Bool.or_eq_true, decide_eq_true_eq] at h
  obtain ⟨h1, h2⟩ := h
  refine ⟨fun a b => ?_, fun a b c => ?_⟩
  · rcases h1 with h1 | h1 | ⟨x, y, z⟩
    · exact absurd a h1
    · exact absurd b h1
    · exact ⟨x, y, z⟩
  · rcases h2 with h2 | h2 | h2 | h2
    · exact absurd a h2
    · exact absurd b h2
    · exact absurd c h2
    · exact h2
def okE (c : GCluster) (e : GEvent) : Bool :=
  if e.Kind = 2 then
    match c.Net[e.N.toNat]? with
    | none => true
    | some m => match c.Peers[m.To.toNat]? with
      | none => true
      | some p => okT m (mNewer m p)
  else true
theorem okE_ok {c : GCluster} {e : GEvent} (h : okE c e = true) : EvOk c e := by
  intro hk m hm p hp
  unfold okE at h
  rw [if_pos hk, hm] at h
  dsimp only at h
  rw [hp] at h
  exact okT_ok h
def okRun (c : GCluster) : List GEvent → Bool
  | [] => okC c
  | e :: es => okC c && (okE c e && okRun (mEvS c e).1 es)
def mRun (c : GCluster) : List GEvent → GCluster
  | [] => c
  | e :: es => mRun (mEvS c e).1 es
def mCodes (c : GCluster) : List GEvent → List Int
  | [] => []
  | e :: es => (mEvS c e).2 :: mCodes (mEvS c e).1 es
theorem run_m {es : List GEvent} (hes : es.length ≤ 1000) (he : ∀ e ∈ es, e.Data.length ≤ 1000) : ∀ (m k j : Nat) (codes : List Int) (c : GCluster), es.length - j = m → m + 1 ≤ k → j ≤ es.length → codes.length ≤ j → DBc c → okRun c (es.drop j) = true →
    f_impl_ClusterRun_L0 es k codes (j : Int) c.Peers c.Net c.Chosen c.Conflict = some (mRun c (es.drop j), codes ++ mCodes c (es.drop j), 0) := by
  intro m
  induction m with
  | zero =>
    intro k j codes c hm hk hj hl hd ho
    obtain ⟨k, rfl⟩ : ∃ j, k = j + 1 := ⟨k - 1, by omega⟩
    rw [List.drop_of_length_le (by omega)] at ho ⊢
    obtain ⟨h1, h2⟩ := okC_ok ho
    rw [f_impl_ClusterRun_L0, if_neg (by omega)]
    have := told_m (c := c) h1.net h1.n hd (fun m hm => (h1.msgs m hm).logl) (fun p hp => ⟨(h1.peers p hp).logl, (h1.peers p hp).votes, h2 p hp, (h1.peers p hp).mat⟩) h1.chosen
    refine (congrArg (fun o => Option.bind o (fun x : GCluster => some (x, codes, (0 : Int)))) this).trans ?_
    rw [obind_some]
    unfold mRun mCodes
    rw [List.append_nil]
  | succ m ih =>
    intro k j codes c hm hk hj hl hd ho
    obtain ⟨k, rfl⟩ : ∃ j, k = j + 1 := ⟨k - 1, by omega⟩
    have hlt : j < es.length := by omega
    have hmm := he _ (List.getElem_mem hlt)
    rw [List.drop_eq_getElem_cons hlt] at ho ⊢
    unfold okRun at ho
    rw [Bool.and_eq_true, Bool.and_eq_true] at ho
    obtain ⟨h1, h2, h3⟩ := ho
    rw [f_impl_ClusterRun_L0, if_pos (by omega), idx_nat hlt, obind_some]
    have := event_m (okC_ok h1).1 hd (okE_ok h2)
    refine (congrArg (fun o => Option.bind o _) this).trans ?_
    rw [obind_some, chk_pos (by simp; omega), chk_pos (by omega), show ((j : Int) + 1) = ((j + 1 : Nat) : Int) by omega]
    have hdd : DBc (mEvS c es[j]).1 := by rw [← mEvS_eq hmm]; exact hd.event
    rw [mEvS_eq hmm]
    rw [ih k (j + 1) _ _ (by omega) (by omega) (by omega) (by simp; omega) hdd h3]
    conv => rhs; unfold mRun mCodes
    rw [List.append_assoc]; rfl
end Go.Proofs.YtlpcdcpcfeaecaaAb
end
section
namespace Go.Proofs.YtlpcdcpcfeaecaaAb
open Go
def c30 : GCluster := { Peers := List.replicate 3 { Up := true, Term := 0, Vote := 0, Commit := 0, Role := 0, Log := [], Votes := [], Next := [], Match := [] }, Net := [], Chosen := [], Conflict := false }
def evD : GEvent := { Kind := 2, N := 0, Data := [] }
def evLives (n : Int) (d : List UInt8) : List GEvent :=
  (([{ Kind := 1, N := n, Data := [] }] ++ List.replicate 30 evD) ++ [{ Kind := 7, N := n, Data := d }, { Kind := 1, N := n, Data := [] }]) ++ List.replicate 30 evD
theorem new3 : f_impl_newCluster 3 = some c30 := by kernel_rfl
theorem lives_ok0 (d : List UInt8) : okRun c30 (evLives 0 d) = true := by kernel_rfl
theorem lives_ok1 (d : List UInt8) : okRun c30 (evLives 1 d) = true := by kernel_rfl
theorem lives_ok2 (d : List UInt8) : okRun c30 (evLives 2 d) = true := by kernel_rfl
theorem lives_ch0 (d : List UInt8) : (mRun c30 (evLives 0 d)).Chosen = [{ Term := 1, Index := 1, Data := d }] := by kernel_rfl
theorem lives_ch1 (d : List UInt8) : (mRun c30 (evLives 1 d)).Chosen = [{ Term := 1, Index := 1, Data := d }] := by kernel_rfl
theorem lives_ch2 (d : List UInt8) : (mRun c30 (evLives 2 d)).Chosen = [{ Term := 1, Index := 1, Data := d }] := by kernel_rfl
theorem c30_db : DBc c30 := by
  refine ⟨fun p hp => ?_, fun m hm => (nomatch hm), DBl.nil⟩
  unfold c30 at hp
  rw [List.eq_of_mem_replicate hp]; exact DBl.nil
theorem clusterRun_m {es : List GEvent} (hes : es.length ≤ 300) (he : ∀ e ∈ es, e.Data.length ≤ 1000) (ho : okRun c30 es = true) :
    f_impl_ClusterRun 3 es = some (mRun c30 es, mCodes c30 es, 0) := by
  unfold f_impl_ClusterRun f_impl_longList f_impl_unless
  rw [if_pos (by rw [decide_eq_true (by omega)]), obind_some, obind_some, within_l, obind_some, if_pos (by decide), obind_some, if_pos (by rw [decide_eq_true (by omega)]), obind_some]
  rw [show f_impl_first [0, 0, 0] = some 0 by kernel_rfl, obind_some, if_pos rfl, new3, obind_some]
  have := run_m (es := es) (by omega) he _ BIG 0 [] c30 rfl (by rw [BIG_eq]; omega) (by omega) (by simp) c30_db (by rw [List.drop_zero]; exact ho)
  rw [List.drop_zero, List.nil_append] at this
  exact this
theorem evLives_len (n : Int) (d : List UInt8) : (evLives n d).length = 63 := by kernel_rfl
theorem evLives_data {n : Int} {d : List UInt8} (hd : d.length ≤ 1000) : ∀ e ∈ evLives n d, e.Data.length ≤ 1000 := by
  intro e he
  unfold evLives at he
  simp only [List.mem_append, List.mem_cons, List.mem_singleton, List.mem_replicate, List.not_mem_nil, or_false] at he
  rcases he with ((rfl | ⟨_, rfl⟩) | rfl | rfl) | ⟨_, rfl⟩
  · exact Nat.zero_le _
  · exact Nat.zero_le _
  · exact hd
  · exact Nat.zero_le _
  · exact Nat.zero_le _
theorem lives_L1 {xs : List UInt8} : ∀ (m k j : Nat) (acc : List GEvent), 30 - j = m → m + 1 ≤ k → j ≤ 30 → acc.length ≤ 100000 + j →
    f_laws_FnLives_L1 xs k acc (j : Int) = f_laws_FnLives_L1 xs (k - m) (acc ++ List.replicate m evD) 30 := by
  intro m
  induction m with
  | zero => intro k j acc hm hk hj hl; rw [show (j : Int) = 30 by omega]; simp
  | succ m ih =>
    intro k j acc hm hk hj hl
    obtain ⟨k, rfl⟩ : ∃ j, k = j + 1 := ⟨k - 1, by omega⟩
    rw [f_laws_FnLives_L1, if_pos (by omega), chk_pos (by simp; omega), chk_pos (by omega), show ((j : Int) + 1) = ((j + 1 : Nat) : Int) by omega]
    refine (ih k (j + 1) _ (by omega) (by omega) (by omega) (by simp; omega)).trans ?_
    rw [show k + 1 - (m + 1) = k - m by omega, List.append_assoc]; rfl
theorem lives_L0 {xs : List UInt8} : ∀ (m k j : Nat) (acc : List GEvent), 30 - j = m → m + 1 ≤ k → j ≤ 30 → acc.length ≤ 100000 + j →
    f_laws_FnLives_L0 xs k acc (j : Int) = f_laws_FnLives_L0 xs (k - m) (acc ++ List.replicate m evD) 30 := by
  intro m
  induction m with
  | zero => intro k j acc hm hk hj hl; rw [show (j : Int) = 30 by omega]; simp
  | succ m ih =>
    intro k j acc hm hk hj hl
    obtain ⟨k, rfl⟩ : ∃ j, k = j + 1 := ⟨k - 1, by omega⟩
    rw [f_laws_FnLives_L0, if_pos (by omega), chk_pos (by simp; omega), chk_pos (by omega), show ((j : Int) + 1) = ((j + 1 : Nat) : Int) by omega]
    refine (ih k (j + 1) _ (by omega) (by omega) (by omega) (by simp; omega)).trans ?_
    rw [show k + 1 - (m + 1) = k - m by omega, List.append_assoc]; rfl
theorem major3 : f_impl_Majority 3 = some 2 := by kernel_rfl
theorem lives_m (xs : List UInt8) : f_laws_FnLives xs = some true := by
  unfold f_laws_FnLives
  by_cases h : (1000 : Int) < (xs.length : Int)
  · rw [if_pos h]
  · rw [if_neg h]
    have hx : xs.length ≤ 1000 := by omega
    have hmod : (xs.length : Int) % 3 = 0 ∨ (xs.length : Int) % 3 = 1 ∨ (xs.length : Int) % 3 = 2 := by omega
    have hok : okRun c30 (evLives ((xs.length : Int) % 3) xs) = true := by
      rcases hmod with e | e | e <;> rw [e]
      · exact lives_ok0 xs
      · exact lives_ok1 xs
      · exact lives_ok2 xs
    have hch : (mRun c30 (evLives ((xs.length : Int) % 3) xs)).Chosen = [{ Term := 1, Index := 1, Data := xs }] := by
      rcases hmod with e | e | e <;> rw [e]
      · exact lives_ch0 xs
      · exact lives_ch1 xs
      · exact lives_ch2 xs
    have hrun := clusterRun_m (es := evLives ((xs.length : Int) % 3) xs) (by rw [evLives_len]; omega) (evLives_data hx) hok
    rw [chk_pos ⟨by omega, by omega⟩]
    have l0 := lives_L0 (xs := xs) 30 BIG 0 [({ Kind := 1, N := ((xs.length : Int) % 3), Data := [] } : GEvent)] rfl (by rw [BIG_eq]; omega) (by omega) (by simp)
    refine l0.trans ?_
    obtain ⟨k, hk⟩ : ∃ k, BIG - 30 = k + 1 := ⟨18446744073709551585, rfl⟩
    rw [hk, f_laws_FnLives_L0, if_neg (by omega), chk_pos ⟨by omega, by omega⟩, chk_pos ⟨by omega, by omega⟩, chk_pos (by simp)]
    have l1 := lives_L1 (xs := xs) 30 BIG 0 ((([({ Kind := 1, N := ((xs.length : Int) % 3), Data := [] } : GEvent)] : List GEvent) ++ List.replicate 30 evD) ++ [({ Kind := 7, N := ((xs.length : Int) % 3), Data := xs } : GEvent), ({ Kind := 1, N := ((xs.length : Int) % 3), Data := [] } : GEvent)]) rfl (by rw [BIG_eq]; omega) (by omega) (by simp)
    refine l1.trans ?_
    rw [hk, f_laws_FnLives_L1, if_neg (by omega)]
    unfold evLives at hrun hch
    rw [hrun, obind_some]
    dsimp only
    rw [if_pos rfl, hch, if_pos (by rfl), idx_zero, obind_some, if_pos rfl, major3, obind_some]
    rfl
end Go.Proofs.YtlpcdcpcfeaecaaAb
end
