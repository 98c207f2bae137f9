import Derived.Test.YtlpcdcpcfeaecaaG04
import Derived.KernelRfl
set_option linter.all false
section
namespace Go.Proofs.YtlpcdcpcfeaecaaAb
open Go
theorem Pre.of_get {k : Nat} {l l' : List GR} (h1 : k ≤ l.length) (h2 : k ≤ l'.length) (h : ∀ j, j < k → l[j]? = l'[j]?) : Pre k l l' := by
  refine ⟨h1, h2, List.ext_getElem? fun j => ?_⟩
  rw [List.getElem?_take, List.getElem?_take]
  split
  · next hj => exact h j hj
  · rfl
theorem GStep.refl {g : RGh} {i : Nat} {τ : Int} (h : ∀ U, g.vt i U ≠ 0 → U ≤ τ) : GStep i τ g g :=
  ⟨Gle.refl g, fun _ _ _ => rfl, fun _ _ _ => rfl, fun _ _ h => .inl h, fun _ _ => rfl, fun _ _ _ => rfl, fun _ _ => rfl, fun _ _ h => .inl h, h⟩
theorem PInv.vtI {g : RGh} {n i : Nat} {p : GP} (h : PInv g n i p) : ∀ U, g.vt i U ≠ 0 → U ≤ p.Term := fun U hU => by
  by_cases h1 : p.Term < U
  · exact absurd (h.later U h1) hU
  · omega
structure CInv (g : RGh) (c : GC) : Prop where
  n1 : 1 ≤ c.Peers.length
  n7 : c.Peers.length ≤ 7
  gi : GInv g c.Peers.length
  peers : ∀ (i : Nat) p, c.Peers[i]? = some p → PInv g c.Peers.length i p
  net : ∀ m ∈ c.Net, MInv g c.Peers.length m
  netl : c.Net.length ≤ 200
  ch : c.Chosen = [] ∨ ∃ T k, Com g c.Peers.length T k ∧ c.Chosen.length ≤ k ∧ Pre c.Chosen.length c.Chosen (g.L T)
  conf : c.Conflict = false
theorem CInv.send {g : RGh} {c : GC} {m : GM} (h : CInv g c) (hm : MInv g c.Peers.length m) : CInv g (mSend c m) := by
  unfold mSend
  split
  · next hl =>
    refine ⟨h.n1, h.n7, h.gi, h.peers, fun x hx => ?_, by simp; omega, h.ch, h.conf⟩
    rcases List.mem_append.1 hx with hx | hx
    · exact h.net x hx
    · rw [List.mem_singleton.1 hx]; exact hm
  · exact h
theorem CInv.step {g g' : RGh} {c : GC} {i : Nat} {p p' : GP} {τ : Int} (h : CInv g c) (hp : c.Peers[i]? = some p) (hs : GStep i τ g g') (hg : GInv g' c.Peers.length) (hp' : PInv g' c.Peers.length i p') :
    CInv g' { c with Peers := c.Peers.set i p' } := by
  have hl : (c.Peers.set i p').length = c.Peers.length := List.length_set
  refine ⟨by show 1 ≤ (c.Peers.set i p').length; rw [hl]; exact h.n1, by show (c.Peers.set i p').length ≤ 7; rw [hl]; exact h.n7, by show GInv g' (c.Peers.set i p').length; rw [hl]; exact hg, fun j q hq => ?_, fun m hm => ?_, h.netl, ?_, h.conf⟩
  · show PInv g' (c.Peers.set i p').length j q
    rw [hl]
    by_cases hj : j = i
    · subst hj
      have : (c.Peers.set j p')[j]? = some q := hq
      rw [gS hp] at this
      rw [← Option.some.inj this]; exact hp'
    · have : (c.Peers.set i p')[j]? = some q := hq
      rw [List.getElem?_set_ne (fun hh => hj hh.symm)] at this
      exact hs.other h.gi hj (h.peers j q this)
  · show MInv g' (c.Peers.set i p').length m
    rw [hl]; exact hs.toGle.msg (h.net m hm)
  · show c.Chosen = [] ∨ ∃ T k, Com g' (c.Peers.set i p').length T k ∧ _
    rw [hl]
    rcases h.ch with h1 | ⟨T, k, a, b, d⟩
    · exact .inl h1
    · exact .inr ⟨T, k, hs.com a, b, hs.preR d⟩
theorem CInv.same {g : RGh} {c : GC} {i : Nat} {p p' : GP} (h : CInv g c) (hp : c.Peers[i]? = some p) (hp' : PInv g c.Peers.length i p') : CInv g { c with Peers := c.Peers.set i p' } :=
  h.step (τ := p.Term) hp (GStep.refl (h.peers i p hp).vtI) h.gi hp'
theorem chooseL_m : ∀ (m i : Nat) (xs ch : List GR), xs.length - i = m → i ≤ xs.length → i ≤ ch.length → (∀ j, j < xs.length → j < ch.length → xs[j]? = ch[j]?) →
    (chooseL (xs.drop i) i ch false).2 = false ∧ (chooseL (xs.drop i) i ch false).1.length = max xs.length ch.length ∧ (∀ j, j < xs.length → (chooseL (xs.drop i) i ch false).1[j]? = xs[j]?) ∧ (∀ j, j < ch.length → (chooseL (xs.drop i) i ch false).1[j]? = ch[j]?) := by
  intro m
  induction m with
  | zero =>
    intro i xs ch hm hi hc hx
    rw [List.drop_of_length_le (by omega)]
    unfold chooseL
    exact ⟨rfl, by show ch.length = _; omega, fun j hj => (hx j hj (by omega)).symm, fun j _ => rfl⟩
  | succ m ih =>
    intro i xs ch hm hi hc hx
    have hlt : i < xs.length := by omega
    rw [List.drop_eq_getElem_cons hlt]
    unfold chooseL
    by_cases h1 : i = ch.length
    · rw [if_pos h1]
      have hx2 : ∀ j, j < xs.length → j < (ch ++ [xs[i]]).length → xs[j]? = (ch ++ [xs[i]])[j]? := by
        intro j h2 h3
        rcases Nat.lt_or_ge j ch.length with h4 | h4
        · rw [List.getElem?_append_left h4]; exact hx j h2 h4
        · have h5 : j = i := by simp at h3; omega
          subst h5
          rw [List.getElem?_append_right (by omega), List.getElem?_eq_getElem h2]
          simp [h1]
      obtain ⟨a, b, d, e⟩ := ih (i + 1) xs (ch ++ [xs[i]]) (by omega) (by omega) (by simp; omega) hx2
      refine ⟨a, by rw [b]; simp; omega, d, fun j hj => ?_⟩
      rw [e j (by simp; omega), List.getElem?_append_left hj]
    · rw [if_neg h1]
      have hlt2 : i < ch.length := by omega
      have e := hx i hlt hlt2
      rw [List.getElem?_eq_getElem hlt, List.getElem?_eq_getElem hlt2] at e
      rw [List.getElem?_eq_getElem hlt2, ← Option.some.inj e]
      simp only [Option.map_some, Option.getD_some, sameR_self, Bool.not_true, Bool.or_false]
      exact ih (i + 1) xs ch (by omega) (by omega) (by omega) hx
theorem CInv.choose {g : RGh} {c : GC} {i : Nat} {p : GP} (h : CInv g c) (hp : c.Peers[i]? = some p) : CInv g (mChoose c p) := by
  have hpi := h.peers i p hp
  have hconf := h.conf
  rcases hpi.com with h0 | ⟨T, k, hc, hT, hk, hpre⟩
  · have e : mChoose c p = c := by
      unfold mChoose
      rw [h0]; rfl
    rw [e]; exact h
  · have hcom0 := hpi.com0
    have hlen : (p.Log.take p.Commit.toNat).length = p.Commit.toNat := by rw [List.length_take]; have := hpre.1; omega
    have hget : ∀ j, j < p.Commit.toNat → (p.Log.take p.Commit.toNat)[j]? = (g.L T)[j]? := fun j hj => by
      rw [List.getElem?_take, if_pos hj]; exact hpre.get hj
    have hcomp : ∀ j, j < (p.Log.take p.Commit.toNat).length → j < c.Chosen.length → (p.Log.take p.Commit.toNat)[j]? = c.Chosen[j]? := by
      intro j h1 h2
      rw [hlen] at h1
      rw [hget j h1]
      rcases h.ch with h3 | ⟨T2, k2, a, b, d⟩
      · rw [h3] at h2; simp at h2
      · rw [d.get h2]
        exact (com_com h.gi hc a (m := j + 1) (by omega) (by omega)).get (by omega)
    have key := chooseL_m _ 0 (p.Log.take p.Commit.toNat) c.Chosen rfl (by omega) (by omega) hcomp
    rw [List.drop_zero, hlen] at key
    obtain ⟨q1, q2, q3, q4⟩ := key
    unfold mChoose
    rw [hconf]
    refine ⟨h.n1, h.n7, h.gi, h.peers, h.net, h.netl, .inr ?_, q1⟩
    show ∃ T k, Com g c.Peers.length T k ∧ (chooseL (p.Log.take p.Commit.toNat) 0 c.Chosen false).1.length ≤ k ∧ Pre (chooseL (p.Log.take p.Commit.toNat) 0 c.Chosen false).1.length (chooseL (p.Log.take p.Commit.toNat) 0 c.Chosen false).1 (g.L T)
    rw [q2]
    rcases Nat.le_total c.Chosen.length p.Commit.toNat with h5 | h5
    · refine ⟨T, k, hc, by omega, Pre.of_get (by omega) (by have := hpre.2.1; omega) fun j hj => ?_⟩
      have hj' : j < p.Commit.toNat := by omega
      rw [q3 j hj', hget j hj']
    · rcases h.ch with h3 | ⟨T2, k2, a, b, d⟩
      · rw [h3] at h5 ⊢
        exact ⟨T, k, hc, by simp; omega, Pre.of_get (by rw [h3] at q2; omega) (by have := hpre.2.1; simp; omega) fun j hj => by
          have hj' : j < p.Commit.toNat := by simp at hj; omega
          rw [h3] at q3; rw [q3 j hj', hget j hj']⟩
      · refine ⟨T2, k2, a, by omega, Pre.of_get (by omega) (by have := d.2.1; omega) fun j hj => ?_⟩
        have hj' : j < c.Chosen.length := by omega
        rw [q4 j hj', d.get hj']
end Go.Proofs.YtlpcdcpcfeaecaaAb
end
section
namespace Go.Proofs.YtlpcdcpcfeaecaaAb
open Go
section
variable {g : RGh} {n i : Nat} {p : GP}
theorem PInv.newer (h : PInv g n i p) {t : Int} (h1 : p.Term < t) (h2 : t ≤ 1000000) : PInv g n i { p with Term := t, Vote := 0, Role := 0, Votes := [], Next := [], Match := [] } := by
  refine ⟨h.later t h1, fun t' ht => h.later t' (by have : t < t' := ht; omega), h.log.mono (by show p.Term ≤ t; omega), (fun hh => nomatch hh), (fun hh => nomatch hh), fun T k he hT hk hb => ?_, fun T hT => h.acl T (by have : t < T := hT; omega), fun T hT => by have := h.ldl T hT; show T ≤ t; omega, h.com0, ?_, ⟨by have := h.term.1; show 0 ≤ t; omega, h2⟩, Nat.zero_le _, Nat.zero_le _, Nat.zero_le _⟩
  · by_cases hT2 : T ≤ p.Term
    · exact h.z T k he hT2 hk fun U a b c => hb U a (by show U ≤ t; omega) c
    · rw [h.acl T (by omega)] at hk
      have := he.1; omega
  · rcases h.com with a | ⟨T, k, a, b, c⟩
    · exact .inl a
    · exact .inr ⟨T, k, a, by show T ≤ t; omega, c⟩
theorem PInv.reset (h : PInv g n i p) : PInv g n i { p with Role := 0, Votes := [], Next := [], Match := [] } :=
  ⟨h.vote, h.later, h.log, (fun hh => nomatch hh), (fun hh => nomatch hh), h.z, h.acl, h.ldl, h.com0, h.com, h.term, Nat.zero_le _, Nat.zero_le _, Nat.zero_le _⟩
theorem PInv.down (h : PInv g n i p) : PInv g n i (mDown p) :=
  ⟨h.vote, h.later, h.log, (fun hh => nomatch hh), (fun hh => nomatch hh), h.z, h.acl, h.ldl, Int.le_refl _, .inl rfl, h.term, Nat.zero_le _, Nat.zero_le _, Nat.zero_le _⟩
theorem PInv.up (h : PInv g n i p) : PInv g n i { p with Up := true } :=
  ⟨h.vote, h.later, h.log, h.lead, h.cand, h.z, h.acl, h.ldl, h.com0, h.com, h.term, h.votes, h.mat, h.next⟩
theorem PInv.newerM (h : PInv g n i p) {m : GM} (hm : m.Term ≤ 1000000) : PInv g n i (mNewer m p) := by
  unfold mNewer
  split
  · next h1 => exact h.newer h1 hm
  · exact h
theorem PInv.heard (h : PInv g n i p) {m : GM} (hr : p.Role = 1) (hv : g.vt m.From.toNat p.Term = (i : Int) + 1) : PInv g n i (mHeard m p) := by
  obtain ⟨a, b, c, d, e⟩ := h.cand hr
  refine ⟨h.vote, h.later, h.log, fun hh => ?_, fun _ => ⟨a, b, by show (p.Votes.set _ _).length = n; rw [List.length_set]; exact c, fun v hvv => ?_, e⟩, h.z, h.acl, h.ldl, h.com0, h.com, h.term, by show (p.Votes.set _ _).length ≤ _; rw [List.length_set]; exact h.votes, h.mat, h.next⟩
  · have : p.Role = 2 := hh
    omega
  · have hvv' : (p.Votes.set m.From.toNat true)[v]? = some true := hvv
    by_cases hf : v = m.From.toNat
    · rw [hf]; exact hv
    · rw [List.getElem?_set_ne (fun hh => hf hh.symm)] at hvv'
      exact d v hvv'
theorem PInv.match_ac (hg : GInv g n) (h : PInv g n i p) (hr : p.Role = 2) {v : Nat} {x : Int} (hx : p.Match[v]? = some x) : 0 ≤ x ∧ x ≤ (p.Log.length : Int) := by
  obtain ⟨a, b, c, d, e⟩ := h.lead hr
  obtain ⟨e1, e2⟩ := e v x hx
  have := hg.ac p.Term v
  rw [b] at this
  exact ⟨e1, by omega⟩
theorem PInv.nextSet (h : PInv g n i p) (hr : p.Role = 2) {f : Nat} {x : Int} (h1 : 1 ≤ x) (h2 : x ≤ (p.Log.length : Int) + 1) : PInv g n i { p with Next := p.Next.set f x } := by
  obtain ⟨a, b, c, d, e⟩ := h.lead hr
  refine ⟨h.vote, h.later, h.log, fun _ => ⟨a, b, ⟨by show (p.Next.set f x).length = n; rw [List.length_set]; exact c.1, fun y hy => ?_⟩, d, e⟩, fun hh => ?_, h.z, h.acl, h.ldl, h.com0, h.com, h.term, h.votes, h.mat, by show (p.Next.set f x).length ≤ _; rw [List.length_set]; exact h.next⟩
  · rcases List.mem_or_eq_of_mem_set (show y ∈ p.Next.set f x from hy) with hy | rfl
    · exact c.2 y hy
    · exact ⟨h1, h2⟩
  · have : p.Role = 1 := hh
    omega
theorem PInv.matSet (h : PInv g n i p) (hr : p.Role = 2) {f : Nat} {x : Int} (h1 : 0 ≤ x) (h2 : x ≤ (g.ac p.Term f : Int)) : PInv g n i { p with Match := p.Match.set f x } := by
  obtain ⟨a, b, c, d, e⟩ := h.lead hr
  refine ⟨h.vote, h.later, h.log, fun _ => ⟨a, b, c, by show (p.Match.set f x).length = n; rw [List.length_set]; exact d, fun v y hy => ?_⟩, fun hh => ?_, h.z, h.acl, h.ldl, h.com0, h.com, h.term, h.votes, by show (p.Match.set f x).length ≤ _; rw [List.length_set]; exact h.mat, h.next⟩
  · have hy' : (p.Match.set f x)[v]? = some y := hy
    by_cases hf : v = f
    · subst hf
      by_cases hlt : v < p.Match.length
      · rw [List.getElem?_set_self hlt] at hy'
        rw [← Option.some.inj hy']; exact ⟨h1, h2⟩
      · rw [List.getElem?_eq_none (by rw [List.length_set]; omega)] at hy'; cases hy'
    · rw [List.getElem?_set_ne (fun hh => hf hh.symm)] at hy'
      exact e v y hy'
  · have : p.Role = 1 := hh
    omega
theorem PInv.commit (hg : GInv g n) (h : PInv g n i p) (hr : p.Role = 2) {q : Int} (hq : q = (n : Int) / 2 + 1) : PInv g n i (mCommitP q p) := by
  unfold mCommitP
  split
  · next a ha =>
    obtain ⟨c1, c2, c3, c4⟩ := mCidx_some ha
    obtain ⟨l1, l2, l3, l4, l5⟩ := h.lead hr
    have h0 := h.com0
    rw [termAt_nat] at c3
    have hent : REnt g p.Term a := ⟨by omega, by rw [l2]; exact c2, by rw [l2]; exact c3⟩
    have hcom : Com g n p.Term a := by
      refine ⟨hent, ?_⟩
      unfold Maj
      have hcn := cntGe_cn (a : Int) p.Match
      rw [l4] at hcn
      have hmono := cn_mono (P := fun v => ∃ x, p.Match[v]? = some x ∧ (a : Int) ≤ x) (Q := fun v => a ≤ g.ac p.Term v) (List.range n) (fun v _ hv => by
        obtain ⟨x, hx, hax⟩ := hv
        have := (l5 v x hx).2
        omega)
      have e2 : ((n / 2 + 1 : Nat) : Int) = (n : Int) / 2 + 1 := by omega
      omega
    refine ⟨h.vote, h.later, h.log, h.lead, h.cand, h.z, h.acl, h.ldl, by show (0 : Int) ≤ (a : Int); omega, .inr ⟨p.Term, a, hcom, Int.le_refl _, Int.le_refl _, ?_⟩, h.term, h.votes, h.mat, h.next⟩
    show Pre ((a : Int)).toNat p.Log (g.L p.Term)
    rw [l2]; exact Pre.refl (by omega)
  · exact h
end
theorem CInv.commit {g : RGh} {c : GC} {i : Nat} {p0 p : GP} (h : CInv g { c with Peers := c.Peers.set i p }) (hi : c.Peers[i]? = some p0) (hr : p.Role = 2) : CInv g (mCommit { c with Peers := c.Peers.set i p } i p) := by
  have hp : (c.Peers.set i p)[i]? = some p := gS hi
  have hpi := h.peers i p hp
  have h2 : CInv g { c with Peers := (c.Peers.set i p).set i (mCommitP (mMost { c with Peers := c.Peers.set i p }) p) } := h.same hp (hpi.commit h.gi hr rfl)
  exact h2.choose (gS hp)
end Go.Proofs.YtlpcdcpcfeaecaaAb
end
section
namespace Go.Proofs.YtlpcdcpcfeaecaaAb
open Go
theorem mFrom_inv2 {g : GC → Nat → GC} {i N : Nat} {I : GC → Prop} (hg : ∀ d j, I d → j < N → j ≠ i → I (g d j)) : ∀ (m j : Nat) (d : GC), j + m ≤ N → I d → I (mFrom g i m j d)
  | 0, _, d, _, h => h
  | m + 1, j, d, hN, h => by
    unfold mFrom
    refine mFrom_inv2 hg m (j + 1) _ (by omega) ?_
    split
    · exact h
    · next hj => exact hg _ _ h (by omega) hj
theorem PInv.recMsg {g : RGh} {n i t : Nat} {p : GP} (hg : GInv g n) (h : PInv g n i p) (hr : p.Role = 2) (hi : i < n) (ht : t < n) (hne : i ≠ t) :
    MInv g n { Kind := 3, From := (i : Int), To := (t : Int), Term := p.Term, A := (p.Next[t]?.getD 1) - 1, B := termAt p.Log ((p.Next[t]?.getD 1) - 1), C := p.Commit, Ok := false, Log := p.Log.drop ((p.Next[t]?.getD 1) - 1).toNat } := by
  obtain ⟨a, b, c, d, e⟩ := h.lead hr
  obtain ⟨nx, h1, h2, h3⟩ := c.get ht
  have hll := h.log.len
  rw [h1, Option.getD_some]
  obtain ⟨k, hk⟩ : ∃ k : Nat, nx - 1 = (k : Int) := ⟨(nx - 1).toNat, by omega⟩
  rw [hk, termAt_nat]
  refine ⟨⟨i, rfl, hi⟩, ⟨t, rfl, ht⟩, fun hh => hne (Int.ofNat.inj hh), ⟨by show (0 : Int) ≤ (k : Int); omega, by show (k : Int) ≤ 1000; omega⟩, h.term.2, (fun hh => by cases hh), (fun hh => by cases hh), fun _ => ⟨a, ?_, ?_, ⟨p.Log.length, ?_, ?_, ?_⟩, ?_⟩, (fun hh => absurd rfl hh), (fun hh => by cases hh)⟩
  · show (k : Int) ≤ ((g.L p.Term).length : Int); rw [b]; omega
  · show tn p.Log k = tn (g.L p.Term) ((k : Int)).toNat; rw [b]; rfl
  · show ((k : Int)).toNat ≤ p.Log.length; omega
  · show p.Log.length ≤ (g.L p.Term).length; rw [b]; exact Nat.le_refl _
  · show p.Log.drop ((k : Int)).toNat = ((g.L p.Term).take p.Log.length).drop ((k : Int)).toNat; rw [b, List.take_length]
  · rcases h.com with h4 | ⟨T, k2, q1, q2, q3, q4⟩
    · exact .inl h4
    · rcases Int.lt_or_eq_of_le h.com0 with h5 | h5
      · exact .inr ⟨h5, T, k2, q1, q2, q3, by show Pre p.Commit.toNat (g.L p.Term) (g.L T); rw [b]; exact q4⟩
      · exact .inl h5.symm
theorem CInv.records {g : RGh} {c : GC} {i t : Nat} {p : GP} (h : CInv g c) (hp : c.Peers[i]? = some p) (hr : p.Role = 2) (ht : t < c.Peers.length) (hne : i ≠ t) : CInv g (mRecords c i p t) :=
  h.send ((h.peers i p hp).recMsg h.gi hr (List.getElem?_eq_some_iff.1 hp).1 ht hne)
theorem CInv.sendAll {g : RGh} {c : GC} {i : Nat} {p : GP} (h : CInv g c) (hp : c.Peers[i]? = some p) (hr : p.Role = 2) : CInv g (mSendAll c i p) := by
  refine (mFrom_inv2 (N := c.Peers.length) (I := fun d => CInv g d ∧ d.Peers = c.Peers) (fun d j hd hj hji => ⟨?_, ?_⟩) _ _ _ (by omega) ⟨h, rfl⟩).1
  · exact hd.1.records (by rw [hd.2]; exact hp) hr (by rw [hd.2]; exact hj) (fun hh => hji hh.symm)
  · rw [mRecords_peers]; exact hd.2
theorem CInv.askAll {g : RGh} {c : GC} {i : Nat} {p : GP} (h : CInv g c) (hp : c.Peers[i]? = some p) (hr : p.Role = 1) : CInv g (mAskAll c i p) := by
  have hpi := h.peers i p hp
  obtain ⟨a, b, q, d, e⟩ := hpi.cand hr
  have hi := (List.getElem?_eq_some_iff.1 hp).1
  refine (mFrom_inv2 (N := c.Peers.length) (I := fun x => CInv g x ∧ x.Peers = c.Peers) (fun x j hd hj hji => ⟨?_, ?_⟩) _ _ _ (by omega) ⟨h, rfl⟩).1
  · refine hd.1.send ?_
    rw [hd.2]
    have hl := hpi.log.len
    refine ⟨⟨i, rfl, hi⟩, ⟨j, rfl, hj⟩, fun hh => hji (Int.ofNat.inj hh).symm, ⟨by show (0 : Int) ≤ (p.Log.length : Int); omega, by show (p.Log.length : Int) ≤ 1000; omega⟩, hpi.term.2, fun _ => ⟨b, ?_, ?_⟩, (fun hh => by cases hh), (fun hh => by cases hh), fun _ => rfl, (fun hh => by cases hh)⟩
    · show (p.Log.length : Int) = ((g.cl p.Term i).length : Int); rw [a]
    · show termAt p.Log p.Log.length = tn (g.cl p.Term i) (g.cl p.Term i).length; rw [a, termAt_nat]
  · unfold mAsk; rw [mSend_peers]; exact hd.2
open Classical in
noncomputable def RGh.stand (g : RGh) (i : Nat) (U : Int) (l : List GR) : RGh :=
  { g with vt := fun v t => if v = i ∧ t = U then (i : Int) + 1 else g.vt v t, cl := fun t c => if t = U ∧ c = i then l else g.cl t c, ev := fun t v => g.ev t v ∨ (t = U ∧ v = i ∧ g.ld U = none) }
theorem stand_step {g : RGh} {n i : Nat} {p : GP} (h : PInv g n i p) : GStep i p.Term g (g.stand i (p.Term + 1) p.Log) := by
  have hz : g.vt i (p.Term + 1) = 0 := h.later _ (by omega)
  refine ⟨⟨fun v t hv => ?_, fun _ _ h => h, fun T => ⟨[], by show g.L T = _; simp⟩, fun T k _ h1 h2 => by have h3 : k ≤ (g.L T).length := h2; omega, fun U c hc => ?_, fun _ _ => Nat.le_refl _, fun _ _ h => .inl h⟩, fun v t hv => ?_, fun _ _ _ => rfl, fun _ _ h => .inl h, fun _ _ => rfl, fun U c hc => ?_, fun _ _ => rfl, fun U w hw => ?_, h.vtI⟩
  · show (if v = i ∧ t = p.Term + 1 then (i : Int) + 1 else g.vt v t) = g.vt v t
    rw [if_neg]; rintro ⟨rfl, rfl⟩; exact hv hz
  · show (if U = p.Term + 1 ∧ c = i then p.Log else g.cl U c) = g.cl U c
    rw [if_neg]; rintro ⟨rfl, rfl⟩; omega
  · show (if v = i ∧ t = p.Term + 1 then (i : Int) + 1 else g.vt v t) = g.vt v t
    rw [if_neg]; rintro ⟨rfl, _⟩; exact hv rfl
  · show (if U = p.Term + 1 ∧ c = i then p.Log else g.cl U c) = g.cl U c
    rw [if_neg]; rintro ⟨_, rfl⟩; exact hc rfl
  · rcases hw with hw | ⟨rfl, rfl, _⟩
    · exact .inl hw
    · exact .inr ⟨rfl, hz⟩
end Go.Proofs.YtlpcdcpcfeaecaaAb
end
section
namespace Go.Proofs.YtlpcdcpcfeaecaaAb
open Go
theorem stand_inv {g : RGh} {n i : Nat} {p : GP} (hg : GInv g n) (hi : i < n) (h : PInv g n i p) : GInv (g.stand i (p.Term + 1) p.Log) n := by
  have hs := stand_step h
  refine hs.inv hg (fun T hT => hs.good (hg.log T)) (fun T hT => .inl hT) (fun T => hg.ac T i) (fun T hT => ?_) (fun U c hin hz hv => ?_) (fun U hin hv => ?_) ?_
  · have := h.ldl T hT
    obtain ⟨s, e⟩ := hg.ext T i hT
    refine ⟨s, ?_⟩
    show g.L T = (if T = p.Term + 1 ∧ i = i then p.Log else g.cl T i) ++ s
    rw [if_neg (by omega)]; exact e
  · have hv' : (if i = i ∧ U = p.Term + 1 then (i : Int) + 1 else g.vt i U) = (c : Int) + 1 := hv
    by_cases hU : U = p.Term + 1
    · subst hU
      rw [if_pos ⟨rfl, rfl⟩] at hv'
      have hc : c = i := by omega
      subst hc
      refine ⟨⟨hi, hv⟩, ?_, fun hn => .inr ⟨rfl, rfl, hn⟩, fun _ T k hT he hk hb => ?_⟩
      · show GoodLog _ (p.Term + 1 - 1) (if p.Term + 1 = p.Term + 1 ∧ c = c then p.Log else g.cl (p.Term + 1) c)
        rw [if_pos ⟨rfl, rfl⟩]; exact (hs.good h.log).mono (by omega)
      · show Pre k (if p.Term + 1 = p.Term + 1 ∧ c = c then p.Log else g.cl (p.Term + 1) c) (g.L T)
        rw [if_pos ⟨rfl, rfl⟩]
        exact h.z T k he (by omega) hk fun U' a b d => hb U' a (by omega) d
    · rw [if_neg (fun hh => hU hh.2)] at hv'
      omega
  · by_cases hU : U = p.Term + 1
    · exact ⟨i, by show (if i = i ∧ U = p.Term + 1 then (i : Int) + 1 else g.vt i U) = _; rw [if_pos ⟨rfl, hU⟩]⟩
    · have hv' : (if i = i ∧ U = p.Term + 1 then (i : Int) + 1 else g.vt i U) ≠ 0 := hv
      rw [if_neg (fun hh => hU hh.2)] at hv'
      obtain ⟨c, e⟩ := hg.form i U hin hv'
      exact ⟨c, by show (if i = i ∧ U = p.Term + 1 then (i : Int) + 1 else g.vt i U) = _; rw [if_neg (fun hh => hU hh.2)]; exact e⟩
  · intro U hin he
    rcases he with he | ⟨rfl, _, _⟩
    · rw [hs.vt i U (hg.evv U i hin he)]; exact hg.evv U i hin he
    · show (if i = i ∧ (p.Term + 1) = (p.Term + 1) then (i : Int) + 1 else g.vt i (p.Term + 1)) ≠ 0
      rw [if_pos ⟨rfl, rfl⟩]; omega
theorem stand_peer {g : RGh} {n i : Nat} {p : GP} (hn : n ≤ 1000) (hg : GInv g n) (hi : i < n) (h : PInv g n i p) (ht : p.Term < 1000000) : PInv (g.stand i (p.Term + 1) p.Log) n i (mCand n i p) := by
  have hs := stand_step h
  have hv : (g.stand i (p.Term + 1) p.Log).vt i (p.Term + 1) = (i : Int) + 1 := if_pos ⟨rfl, rfl⟩
  have ht0 := h.term.1
  refine ⟨hv, fun t htt => ?_, (hs.good h.log).mono (by show p.Term ≤ p.Term + 1; omega), (fun hh => nomatch hh), fun _ => ⟨if_pos ⟨rfl, rfl⟩, hv, by unfold mCand; simp, fun v hvv => ?_, fun hh => ?_, by show 1 ≤ p.Term + 1; omega⟩, fun T k he hT hk hb => ?_, fun T hT => h.acl T (by have : p.Term + 1 < T := hT; omega), fun T hT => by have := h.ldl T hT; show T ≤ p.Term + 1; omega, h.com0, ?_, ⟨by show 0 ≤ p.Term + 1; omega, by show p.Term + 1 ≤ 1000000; omega⟩, by unfold mCand; simp; omega, Nat.zero_le _, Nat.zero_le _⟩
  · have htt' : p.Term + 1 < t := htt
    show (if i = i ∧ t = p.Term + 1 then (i : Int) + 1 else g.vt i t) = 0
    rw [if_neg (by omega)]; exact h.later t (by omega)
  · have hvv' : ((List.replicate n false).set i true)[v]? = some true := hvv
    by_cases hf : v = i
    · rw [hf]; exact hv
    · rw [List.getElem?_set_ne (fun hh => hf hh.symm), List.getElem?_replicate] at hvv'
      split at hvv' <;> cases hvv'
  · have := h.ldl _ hh
    have : (mCand n i p).Term = p.Term + 1 := rfl
    omega
  · by_cases hT2 : T ≤ p.Term
    · exact h.z T k he hT2 hk fun U a b c => hb U a (by show U ≤ p.Term + 1; omega) c
    · have hk' : k ≤ g.ac T i := hk
      rw [h.acl T (by omega)] at hk'
      have := he.1; omega
  · rcases h.com with a | ⟨T, k, a, b, c, d⟩
    · exact .inl a
    · exact .inr ⟨T, k, hs.com a, by show T ≤ p.Term + 1; omega, c, d⟩
noncomputable def RGh.grant (g : RGh) (i : Nat) (U : Int) (f : Nat) : RGh :=
  { g with vt := fun v t => if v = i ∧ t = U then (f : Int) + 1 else g.vt v t, ev := fun t v => g.ev t v ∨ (t = U ∧ v = i ∧ g.ld U = none) }
theorem grant_step {g : RGh} {n i f : Nat} {p : GP} (h : PInv g n i p) (hz : p.Vote = 0) : GStep i p.Term g (g.grant i p.Term f) := by
  have hz : g.vt i p.Term = 0 := by rw [h.vote]; exact hz
  refine ⟨⟨fun v t hv => ?_, fun _ _ h => h, fun T => ⟨[], by show g.L T = _; simp⟩, fun T k _ h1 h2 => by have h3 : k ≤ (g.L T).length := h2; omega, fun U c hc => rfl, fun _ _ => Nat.le_refl _, fun _ _ h => .inl h⟩, fun v t hv => ?_, fun _ _ _ => rfl, fun _ _ h => .inl h, fun _ _ => rfl, fun U c hc => rfl, fun _ _ => rfl, fun U w hw => ?_, h.vtI⟩
  · show (if v = i ∧ t = p.Term then (f : Int) + 1 else g.vt v t) = g.vt v t
    rw [if_neg]; rintro ⟨rfl, rfl⟩; exact hv hz
  · show (if v = i ∧ t = p.Term then (f : Int) + 1 else g.vt v t) = g.vt v t
    rw [if_neg]; rintro ⟨rfl, _⟩; exact hv rfl
  · rcases hw with hw | ⟨rfl, rfl, _⟩
    · exact .inl hw
    · exact .inr ⟨rfl, hz⟩
theorem uptodate {g : RGh} {n : Nat} (hg : GInv g n) {l cl : List GR} {t U T : Int} {k : Nat} (hl : GoodLog g t l) (hcl : GoodLog g (U - 1) cl) (hT : T < U) (he : REnt g T k) (hp : Pre k l (g.L T))
    (hb : ∀ U', T < U' → U' < U → g.ld U' ≠ none → Pre k (g.L U') (g.L T))
    (hup : tn l l.length < tn cl cl.length ∨ (tn cl cl.length = tn l l.length ∧ l.length ≤ cl.length)) : Pre k cl (g.L T) := by
  obtain ⟨k1, k2, k3⟩ := he
  have hkt : tn l k = T := by rw [hp.tn (Nat.le_refl _)]; exact k3
  have hTl : T ≤ tn l l.length := by rw [← hkt]; exact hl.rise hg k1 hp.1 (Nat.le_refl _)
  have hT1 : 1 ≤ T := by rw [← hkt]; exact (hl.ent k k1 hp.1).1
  have hclen : 1 ≤ cl.length := by
    rcases Nat.eq_zero_or_pos cl.length with h0 | h0
    · have : tn cl cl.length = 0 := by rw [h0]; rfl
      omega
    · exact h0
  obtain ⟨e1, e2, e3⟩ := hcl.ent cl.length hclen (Nat.le_refl _)
  by_cases hB : tn cl cl.length = T
  ·
    have hlen : k ≤ cl.length := by
      rcases hup with h1 | h1
      · omega
      · have := hp.1; omega
    rw [hB] at e3
    exact e3.mono hlen
  · have hBT : T < tn cl cl.length := by
      rcases hup with h1 | h1 <;> omega
    have hne : g.ld (tn cl cl.length) ≠ none := fun hn => by
      have := hg.none _ hn
      have h2 := e3.2.1
      rw [this] at h2
      have h3 : cl.length ≤ 0 := h2
      omega
    have hag := hb _ hBT (by omega) hne
    have hkl : k ≤ cl.length := by
      rcases Nat.lt_or_ge cl.length k with h1 | h1
      · have h2 := (hg.log (tn cl cl.length)).rise hg hclen (Nat.le_of_lt h1) hag.1
        have h3 : tn (g.L (tn cl cl.length)) k = T := by rw [hag.tn (Nat.le_refl _)]; exact k3
        have h4 := e3.tn (Nat.le_refl _)
        omega
      · exact h1
    exact (e3.mono hkl).trans hag
theorem grant_inv {g : RGh} {n i f : Nat} {p : GP} (hg : GInv g n) (hi : i < n) (h : PInv g n i p) (hz : p.Vote = 0) (hf : f < n) (hv : g.vt f p.Term = (f : Int) + 1)
    (hup : tn p.Log p.Log.length < tn (g.cl p.Term f) (g.cl p.Term f).length ∨ (tn (g.cl p.Term f) (g.cl p.Term f).length = tn p.Log p.Log.length ∧ p.Log.length ≤ (g.cl p.Term f).length)) : GInv (g.grant i p.Term f) n := by
  have hs := grant_step (f := f) h hz
  have hz0 : g.vt i p.Term = 0 := by rw [h.vote]; exact hz
  refine hs.inv hg (fun T hT => hs.good (hg.log T)) (fun T hT => .inl hT) (fun T => hg.ac T i) (fun T hT => hg.ext T i hT) (fun U c hin hzz hvv => ?_) (fun U hin hvv => ?_) ?_
  · have hv' : (if i = i ∧ U = p.Term then (f : Int) + 1 else g.vt i U) = (c : Int) + 1 := hvv
    by_cases hU : U = p.Term
    · subst hU
      rw [if_pos ⟨rfl, rfl⟩] at hv'
      have hc : c = f := by omega
      subst hc
      refine ⟨⟨hf, ?_⟩, hs.good (hg.cl c p.Term c hf hv), fun hn => .inr ⟨rfl, rfl, hn⟩, fun hev T k hT he hk hb => ?_⟩
      · show (if c = i ∧ p.Term = p.Term then (c : Int) + 1 else g.vt c p.Term) = _
        rw [if_neg]
        · exact hv
        · rintro ⟨rfl, _⟩; omega
      · have hn : g.ld p.Term = none := by
          rcases hev with hev | ⟨_, _, hn⟩
          · exact absurd hz0 (hg.evv _ _ hi hev)
          · exact hn
        have hz2 := h.z T k he (by omega) hk fun U' a b d => by
          rcases Int.lt_or_eq_of_le b with b2 | b2
          · exact hb U' a b2 d
          · rw [b2] at d; exact absurd hn d
        exact uptodate hg h.log (hg.cl c p.Term c hf hv) hT he hz2 hb hup
    · rw [if_neg (fun hh => hU hh.2)] at hv'
      omega
  · by_cases hU : U = p.Term
    · exact ⟨f, by show (if i = i ∧ U = p.Term then (f : Int) + 1 else g.vt i U) = _; rw [if_pos ⟨rfl, hU⟩]⟩
    · have hv' : (if i = i ∧ U = p.Term then (f : Int) + 1 else g.vt i U) ≠ 0 := hvv
      rw [if_neg (fun hh => hU hh.2)] at hv'
      obtain ⟨c, e⟩ := hg.form i U hin hv'
      exact ⟨c, by show (if i = i ∧ U = p.Term then (f : Int) + 1 else g.vt i U) = _; rw [if_neg (fun hh => hU hh.2)]; exact e⟩
  · intro U hin he
    rcases he with he | ⟨rfl, _, _⟩
    · rw [hs.vt i U (hg.evv U i hin he)]; exact hg.evv U i hin he
    · show (if i = i ∧ p.Term = p.Term then (f : Int) + 1 else g.vt i p.Term) ≠ 0
      rw [if_pos ⟨rfl, rfl⟩]; omega
end Go.Proofs.YtlpcdcpcfeaecaaAb
end
section
namespace Go.Proofs.YtlpcdcpcfeaecaaAb
open Go
theorem Gle.comP {g g' : RGh} {n : Nat} (h : Gle g g') {t t' C : Int} {l : List GR} (ht : t ≤ t') (hc : C = 0 ∨ ∃ T k, Com g n T k ∧ T ≤ t ∧ C ≤ ((k : Nat) : Int) ∧ Pre C.toNat l (g.L T)) :
    C = 0 ∨ ∃ T k, Com g' n T k ∧ T ≤ t' ∧ C ≤ ((k : Nat) : Int) ∧ Pre C.toNat l (g'.L T) := by
  rcases hc with a | ⟨T, k, a, b, c, d⟩
  · exact .inl a
  · exact .inr ⟨T, k, h.com a, by omega, c, h.preR d⟩
theorem grant_peer {g : RGh} {n i f : Nat} {p : GP} (hg : GInv g n) (h : PInv g n i p) (hz : p.Vote = 0) : PInv (g.grant i p.Term f) n i { p with Vote := (f : Int) + 1 } := by
  have hs := grant_step (f := f) h hz
  have hz0 : g.vt i p.Term = 0 := by rw [h.vote]; exact hz
  refine ⟨if_pos ⟨rfl, rfl⟩, fun t ht => ?_, hs.good h.log, h.lead, fun hr => ?_, h.z, h.acl, h.ldl, h.com0, hs.toGle.comP (Int.le_refl _) h.com, h.term, h.votes, h.mat, h.next⟩
  · have ht' : p.Term < t := ht
    show (if i = i ∧ t = p.Term then (f : Int) + 1 else g.vt i t) = 0
    rw [if_neg (by omega)]; exact h.later t ht'
  · have := (h.cand hr).2.1
    omega
def RGh.lead (g : RGh) (i : Nat) (U : Int) (l : List GR) : RGh :=
  { g with ld := fun t => if t = U then some i else g.ld t, L := fun t => if t = U then l else g.L t, ac := fun t v => if t = U ∧ v = i then l.length else g.ac t v }
theorem lead_step {g : RGh} {n i : Nat} {p : GP} (hg : GInv g n) (h : PInv g n i p) (hn : g.ld p.Term = none) : GStep i p.Term g (g.lead i p.Term p.Log) := by
  have hL := hg.none _ hn
  have hld : ∀ T, T ≠ p.Term → (g.lead i p.Term p.Log).ld T = g.ld T := fun T hT => if_neg hT
  have hLL : ∀ T, T ≠ p.Term → (g.lead i p.Term p.Log).L T = g.L T := fun T hT => if_neg hT
  refine ⟨⟨fun _ _ _ => rfl, fun T c hT => ?_, fun T => ?_, fun T k hT h1 h2 => ?_, fun _ _ _ => rfl, fun T v => ?_, fun _ _ h => h⟩, fun _ _ _ => rfl, fun T v hv => if_neg (fun hh => hv hh.2), fun T c hT => ?_, fun T hT => ?_, fun _ _ _ => rfl, fun T hT => if_neg (fun hh => hT hh.1), fun _ _ h => .inl h, h.vtI⟩
  · rw [hld T (fun hh => by rw [hh, hn] at hT; cases hT)]; exact hT
  · by_cases hT : T = p.Term
    · subst hT; exact ⟨p.Log, by rw [hL]; show (if p.Term = p.Term then p.Log else g.L p.Term) = _; rw [if_pos rfl]; rfl⟩
    · exact ⟨[], by rw [hLL T hT]; simp⟩
  · have hT2 : T ≠ p.Term := fun hh => hT (by rw [hh]; exact hn)
    rw [hLL T hT2] at h2; omega
  · show g.ac T v ≤ if T = p.Term ∧ v = i then p.Log.length else g.ac T v
    split
    · next hh =>
      have := hg.ac T v
      rw [hh.1, hL] at this
      have h0 : g.ac p.Term v ≤ 0 := this
      rw [hh.1]; omega
    · exact Nat.le_refl _
  · by_cases hT2 : T = p.Term
    · have hT' : (if T = p.Term then some i else g.ld T) = some c := hT
      rw [if_pos hT2] at hT'
      exact .inr (Option.some.inj hT').symm
    · rw [hld T hT2] at hT; exact .inl hT
  · refine hLL T fun hh => hT ?_
    show (if T = p.Term then some i else g.ld T) = some i
    rw [if_pos hh]
theorem cand_none {g : RGh} {n i : Nat} {p : GP} (hg : GInv g n) (h : PInv g n i p) (hr : p.Role = 1) (hm : (n : Int) / 2 + 1 ≤ (cntT p.Votes : Int)) :
    g.ld p.Term = none ∧ Maj n (fun v => g.vt v p.Term = (i : Int) + 1) := by
  obtain ⟨a, b, c, d, e, f⟩ := h.cand hr
  have hcn := cntT_cn p.Votes
  rw [c] at hcn
  have hmono := cn_mono (P := fun v => p.Votes[v]? = some true) (Q := fun v => g.vt v p.Term = (i : Int) + 1) (List.range n) (fun v _ hv => d v hv)
  have hmaj : Maj n (fun v => g.vt v p.Term = (i : Int) + 1) := by
    unfold Maj
    have e2 : ((n / 2 + 1 : Nat) : Int) = (n : Int) / 2 + 1 := by omega
    omega
  refine ⟨?_, hmaj⟩
  cases hld : g.ld p.Term with
  | none => rfl
  | some c' =>
    obtain ⟨v, hv, h1, h2⟩ := hmaj.inter (hg.ld p.Term c' hld).2
    have h3 := h2.2
    have : c' = i := by omega
    rw [this] at hld
    exact absurd hld e
theorem lead_inv {g : RGh} {n i : Nat} {p : GP} (hg : GInv g n) (hi : i < n) (h : PInv g n i p) (hr : p.Role = 1) (hm : (n : Int) / 2 + 1 ≤ (cntT p.Votes : Int)) : GInv (g.lead i p.Term p.Log) n := by
  obtain ⟨hn, hmaj⟩ := cand_none hg h hr hm
  have hs := lead_step hg h hn
  obtain ⟨a, b, c, d, e, f⟩ := h.cand hr
  have hU : ∀ T, T = p.Term → (g.lead i p.Term p.Log).L T = p.Log := fun T hT => if_pos hT
  have hV : ∀ T, T ≠ p.Term → (g.lead i p.Term p.Log).L T = g.L T := fun T hT => if_neg hT
  have hld : ∀ T, T ≠ p.Term → (g.lead i p.Term p.Log).ld T = g.ld T := fun T hT => if_neg hT
  refine hs.inv hg (fun T hT => ?_) (fun T hT => ?_) (fun T => ?_) (fun T hT => ?_) (fun U c' hin hz hv => ?_) (fun U hin hv => hg.form i U hin hv) (fun U hin he => hg.evv U i hin he)
  · by_cases hT2 : T = p.Term
    · rw [hU T hT2, hT2]; exact hs.good h.log
    · rw [hV T hT2]; exact hs.good (hg.log T)
  · by_cases hT2 : T = p.Term
    · subst hT2
      exact .inr ⟨⟨hi, f⟩, hmaj.mono fun v hv hh => ⟨hg.early v p.Term hv (by omega) hn, hh⟩⟩
    · rw [hld T hT2] at hT; exact .inl hT
  · show (if T = p.Term ∧ i = i then p.Log.length else g.ac T i) ≤ _
    by_cases hT2 : T = p.Term
    · rw [if_pos ⟨hT2, rfl⟩, hU T hT2]; exact Nat.le_refl _
    · rw [if_neg (fun hh => hT2 hh.1), hV T hT2]; exact hg.ac T i
  · by_cases hT2 : T = p.Term
    · subst hT2
      exact ⟨[], by rw [hU _ rfl]; show p.Log = g.cl p.Term i ++ []; rw [a]; simp⟩
    · rw [hld T hT2] at hT
      rw [hV T hT2]; exact hg.ext T i hT
  · have hv' : g.vt i U = (c' : Int) + 1 := hv
    omega
theorem lead_peer {g : RGh} {n i : Nat} {p : GP} (hn7 : n ≤ 1000) (hg : GInv g n) (hi : i < n) (h : PInv g n i p) (hr : p.Role = 1) (hm : (n : Int) / 2 + 1 ≤ (cntT p.Votes : Int)) : PInv (g.lead i p.Term p.Log) n i (mLeader n i p) := by
  obtain ⟨hn, hmaj⟩ := cand_none hg h hr hm
  have hs := lead_step hg h hn
  obtain ⟨a, b, c, d, e, f⟩ := h.cand hr
  have hLU : (g.lead i p.Term p.Log).L p.Term = p.Log := if_pos rfl
  have hV : ∀ T, T ≠ p.Term → (g.lead i p.Term p.Log).L T = g.L T := fun T hT => if_neg hT
  have hldU : (g.lead i p.Term p.Log).ld p.Term = some i := if_pos rfl
  refine ⟨h.vote, h.later, hs.good h.log, fun _ => ⟨hldU, hLU, ⟨List.length_replicate, fun x hx => ?_⟩, by show ((List.replicate n (0 : Int)).set i _).length = n; simp, fun v x hx => ?_⟩, (fun hh => nomatch hh), fun T k he hT hk hb => ?_, fun T hT => ?_, fun T hT => ?_, h.com0, hs.toGle.comP (Int.le_refl _) h.com, h.term, Nat.zero_le _, by show ((List.replicate n (0 : Int)).set i _).length ≤ _; simp; exact hn7, by show (List.replicate n _).length ≤ _; simp; exact hn7⟩
  · have hx' : x ∈ List.replicate n ((p.Log.length : Int) + 1) := hx
    rw [List.eq_of_mem_replicate hx']
    exact ⟨by omega, Int.le_refl _⟩
  · have hx' : ((List.replicate n (0 : Int)).set i (p.Log.length : Int))[v]? = some x := hx
    show 0 ≤ x ∧ x ≤ ((if p.Term = p.Term ∧ v = i then p.Log.length else g.ac p.Term v : Nat) : Int)
    by_cases hv : v = i
    · subst hv
      rw [List.getElem?_set_self (by simp; exact hi)] at hx'
      rw [if_pos ⟨rfl, rfl⟩, ← Option.some.inj hx']
      exact ⟨by omega, Int.le_refl _⟩
    · rw [List.getElem?_set_ne (fun hh => hv hh.symm), List.getElem?_replicate] at hx'
      split at hx'
      · rw [← Option.some.inj hx']; exact ⟨Int.le_refl _, by omega⟩
      · cases hx'
  · have hT' : T ≤ p.Term := hT
    rcases Int.lt_or_eq_of_le hT' with h1 | h1
    · have := hb p.Term h1 (Int.le_refl _) (by rw [hldU]; exact fun hh => by cases hh)
      rw [hLU] at this
      exact this
    · subst h1
      have hk' : k ≤ (if p.Term = p.Term ∧ i = i then p.Log.length else g.ac p.Term i) := hk
      rw [if_pos ⟨rfl, rfl⟩] at hk'
      rw [hLU]; exact Pre.refl hk'
  · have hT' : p.Term < T := hT
    show (if T = p.Term ∧ i = i then p.Log.length else g.ac T i) = 0
    rw [if_neg (by omega)]; exact h.acl T hT'
  · by_cases hT2 : T = p.Term
    · exact Int.le_of_eq hT2
    · have hT' : (if T = p.Term then some i else g.ld T) = some i := hT
      rw [if_neg hT2] at hT'
      exact h.ldl T hT'
end Go.Proofs.YtlpcdcpcfeaecaaAb
end
section
namespace Go.Proofs.YtlpcdcpcfeaecaaAb
open Go
theorem tn_last {l : List GR} {r : GR} : tn (l ++ [r]) (l.length + 1) = r.Term := by
  show (((l ++ [r])[l.length]?).map (·.Term)).getD 0 = r.Term
  rw [List.getElem?_append_right (Nat.le_refl _)]; simp
theorem grow_step {g : RGh} {n i : Nat} {p : GP} (hg : GInv g n) (h : PInv g n i p) (hr : p.Role = 2) {r : GR} (hrt : r.Term = p.Term) : GStep i p.Term g (g.lead i p.Term (p.Log ++ [r])) := by
  obtain ⟨a, b, c, d, e⟩ := h.lead hr
  have hld : ∀ T, (g.lead i p.Term (p.Log ++ [r])).ld T = g.ld T := fun T => by
    show (if T = p.Term then some i else g.ld T) = g.ld T
    split
    · next hh => rw [hh, a]
    · rfl
  have hLU : (g.lead i p.Term (p.Log ++ [r])).L p.Term = p.Log ++ [r] := if_pos rfl
  have hLL : ∀ T, T ≠ p.Term → (g.lead i p.Term (p.Log ++ [r])).L T = g.L T := fun T hT => if_neg hT
  refine ⟨⟨fun _ _ _ => rfl, fun T c hT => by rw [hld T]; exact hT, fun T => ?_, fun T k hT h1 h2 => ?_, fun _ _ _ => rfl, fun T v => ?_, fun _ _ h => h⟩, fun _ _ _ => rfl, fun T v hv => if_neg (fun hh => hv hh.2), fun T c hT => ?_, fun T hT => ?_, fun _ _ _ => rfl, fun T hT => if_neg (fun hh => hT hh.1), fun _ _ h => .inl h, h.vtI⟩
  · by_cases hT : T = p.Term
    · subst hT; exact ⟨[r], by rw [hLU, b]⟩
    · exact ⟨[], by rw [hLL T hT]; simp⟩
  · by_cases hT2 : T = p.Term
    · subst hT2
      rw [hLU] at h2 ⊢
      rw [b] at h1
      have hk : k = p.Log.length + 1 := by simp at h2; omega
      rw [hk, tn_last]; exact hrt
    · rw [hLL T hT2] at h2; omega
  · show g.ac T v ≤ if T = p.Term ∧ v = i then (p.Log ++ [r]).length else g.ac T v
    split
    · next hh =>
      have := hg.ac T v
      rw [hh.1, b] at this
      rw [hh.1]; simp; omega
    · exact Nat.le_refl _
  · rw [hld T] at hT; exact .inl hT
  · refine hLL T fun hh => hT ?_
    rw [hld T, hh]; exact a
theorem grow_good {g : RGh} {n i : Nat} {p : GP} (hg : GInv g n) (h : PInv g n i p) (hr : p.Role = 2) {r : GR} (hrt : r.Term = p.Term) (hri : r.Index = (p.Log.length : Int) + 1) (hl : p.Log.length < 100) : GoodLog (g.lead i p.Term (p.Log ++ [r])) p.Term (p.Log ++ [r]) := by
  have hs := grow_step hg h hr hrt
  obtain ⟨a, b, c, d, e⟩ := h.lead hr
  have hLU : (g.lead i p.Term (p.Log ++ [r])).L p.Term = p.Log ++ [r] := if_pos rfl
  have ht1 := (hg.ld _ _ a).1.2
  refine ⟨fun k h1 h2 => ?_, fun k q hq => ?_, by simp; omega⟩
  · by_cases hk : k ≤ p.Log.length
    · have hp : Pre k (p.Log ++ [r]) p.Log := Pre.of_append hk
      obtain ⟨x, y, z⟩ := (hs.good h.log).ent k h1 hk
      rw [hp.tn (Nat.le_refl _)]
      exact ⟨x, y, hp.trans z⟩
    · have hk2 : k = p.Log.length + 1 := by simp at h2; omega
      rw [hk2, tn_last, hrt, hLU]
      exact ⟨ht1, Int.le_refl _, Pre.refl (by simp)⟩
  · by_cases hk : k < p.Log.length
    · rw [List.getElem?_append_left hk] at hq; exact h.log.idx k q hq
    · rw [List.getElem?_append_right (by omega)] at hq
      have hk2 : k - p.Log.length = 0 := by
        rcases Nat.eq_zero_or_pos (k - p.Log.length) with h0 | h0
        · exact h0
        · rw [List.getElem?_eq_none (by simp; omega)] at hq; cases hq
      rw [hk2] at hq
      obtain rfl : r = q := Option.some.inj hq
      rw [hri]; omega
theorem grow_inv {g : RGh} {n i : Nat} {p : GP} (hg : GInv g n) (h : PInv g n i p) (hr : p.Role = 2) {r : GR} (hrt : r.Term = p.Term) (hri : r.Index = (p.Log.length : Int) + 1) (hl : p.Log.length < 100) : GInv (g.lead i p.Term (p.Log ++ [r])) n := by
  have hs := grow_step hg h hr hrt
  obtain ⟨a, b, c, d, e⟩ := h.lead hr
  have hld : ∀ T, (g.lead i p.Term (p.Log ++ [r])).ld T = g.ld T := fun T => by
    show (if T = p.Term then some i else g.ld T) = g.ld T
    split
    · next hh => rw [hh, a]
    · rfl
  have hLU : (g.lead i p.Term (p.Log ++ [r])).L p.Term = p.Log ++ [r] := if_pos rfl
  have hLL : ∀ T, T ≠ p.Term → (g.lead i p.Term (p.Log ++ [r])).L T = g.L T := fun T hT => if_neg hT
  refine hs.inv hg (fun T hT => ?_) (fun T hT => .inl (by rw [← hld T]; exact hT)) (fun T => ?_) (fun T hT => ?_) (fun U c' hin hz hv => ?_) (fun U hin hv => hg.form i U hin hv) (fun U hin he => hg.evv U i hin he)
  · by_cases hT2 : T = p.Term
    · subst hT2; rw [hLU]; exact grow_good hg h hr hrt hri hl
    · rw [hLL T hT2]; exact hs.good (hg.log T)
  · show (if T = p.Term ∧ i = i then (p.Log ++ [r]).length else g.ac T i) ≤ _
    by_cases hT2 : T = p.Term
    · subst hT2; rw [if_pos ⟨rfl, rfl⟩, hLU]; exact Nat.le_refl _
    · rw [if_neg (fun hh => hT2 hh.1), hLL T hT2]; exact hg.ac T i
  · rw [hld T] at hT
    obtain ⟨s, es⟩ := hg.ext T i hT
    by_cases hT2 : T = p.Term
    · subst hT2
      rw [b] at es
      exact ⟨s ++ [r], by rw [hLU, es]; show _ = g.cl p.Term i ++ (s ++ [r]); rw [List.append_assoc]⟩
    · exact ⟨s, by rw [hLL T hT2]; exact es⟩
  · have hv' : g.vt i U = (c' : Int) + 1 := hv
    omega
theorem grow_peer {g : RGh} {n i : Nat} {p : GP} {dt : List UInt8} (hg : GInv g n) (hi : i < n) (h : PInv g n i p) (hr : p.Role = 2) (hl : p.Log.length < 100) : PInv (g.lead i p.Term (p.Log ++ [{ Term := p.Term, Index := (p.Log.length : Int) + 1, Data := dt }])) n i (mGrown i p dt) := by
  have hs := grow_step hg h hr (r := { Term := p.Term, Index := (p.Log.length : Int) + 1, Data := dt }) rfl
  obtain ⟨a, b, c, d, e⟩ := h.lead hr
  have hLU : (g.lead i p.Term (p.Log ++ [{ Term := p.Term, Index := (p.Log.length : Int) + 1, Data := dt }])).L p.Term = p.Log ++ [{ Term := p.Term, Index := (p.Log.length : Int) + 1, Data := dt }] := if_pos rfl
  have hld : ∀ T, (g.lead i p.Term (p.Log ++ [{ Term := p.Term, Index := (p.Log.length : Int) + 1, Data := dt }])).ld T = g.ld T := fun T => by
    show (if T = p.Term then some i else g.ld T) = g.ld T
    split
    · next hh => rw [hh, a]
    · rfl
  refine ⟨h.vote, h.later, grow_good hg h hr rfl rfl hl, fun _ => ⟨by rw [hld]; exact a, hLU, ⟨c.1, fun x hx => ?_⟩, by show (p.Match.set i _).length = n; rw [List.length_set]; exact d, fun v x hx => ?_⟩, fun hh => ?_, fun T k he hT hk hb => ?_, fun T hT => ?_, fun T hT => h.ldl T (by rw [← hld T]; exact hT), h.com0, ?_, h.term, h.votes, by show (p.Match.set i _).length ≤ _; rw [List.length_set]; exact h.mat, h.next⟩
  · have := c.2 x hx
    refine ⟨this.1, ?_⟩
    show x ≤ ((p.Log ++ [_]).length : Int) + 1
    simp; omega
  · have hx' : (p.Match.set i ((p.Log.length : Int) + 1))[v]? = some x := hx
    show 0 ≤ x ∧ x ≤ ((if p.Term = p.Term ∧ v = i then (p.Log ++ [_]).length else g.ac p.Term v : Nat) : Int)
    by_cases hv : v = i
    · subst hv
      rw [List.getElem?_set_self (by rw [d]; exact hi)] at hx'
      rw [if_pos ⟨rfl, rfl⟩, ← Option.some.inj hx']
      simp; omega
    · rw [List.getElem?_set_ne (fun hh => hv hh.symm)] at hx'
      rw [if_neg (fun hh => hv hh.2)]
      exact e v x hx'
  · have : p.Role = 1 := hh
    omega
  · have hT' : T ≤ p.Term := hT
    rcases Int.lt_or_eq_of_le hT' with h1 | h1
    · have := hb p.Term h1 (Int.le_refl _) (by rw [hld, a]; exact fun hh => by cases hh)
      rw [hLU] at this
      exact this
    · subst h1
      have hk' : k ≤ (if p.Term = p.Term ∧ i = i then (p.Log ++ [({ Term := p.Term, Index := (p.Log.length : Int) + 1, Data := dt } : GR)]).length else g.ac p.Term i) := hk
      rw [if_pos ⟨rfl, rfl⟩] at hk'
      rw [hLU]; exact Pre.refl hk'
  · have hT' : p.Term < T := hT
    show (if T = p.Term ∧ i = i then _ else g.ac T i) = 0
    rw [if_neg (by omega)]; exact h.acl T hT'
  · rcases h.com with x | ⟨T, k, x, y, z, w⟩
    · exact .inl x
    · exact .inr ⟨T, k, hs.com x, y, z, (hs.preR w).appendL⟩
theorem takeL_m {g : RGh} {n : Nat} (hg : GInv g n) {T : Int} : ∀ (m a e : Nat) (l : List GR), e - a = m → a ≤ e → e ≤ (g.L T).length → GoodLog g T l → Pre a l (g.L T) →
    (takeL (((g.L T).take e).drop a) l (a : Int)).2 = (e : Int) ∧ Pre e (takeL (((g.L T).take e).drop a) l (a : Int)).1 (g.L T) ∧ (∀ k, Pre k l (g.L T) → Pre k (takeL (((g.L T).take e).drop a) l (a : Int)).1 (g.L T)) ∧ GoodLog g T (takeL (((g.L T).take e).drop a) l (a : Int)).1 := by
  intro m
  induction m with
  | zero =>
    intro a e l hm hae he hl hp
    obtain rfl : a = e := by omega
    rw [List.drop_of_length_le (by rw [List.length_take]; omega)]
    exact ⟨rfl, hp, fun k h => h, hl⟩
  | succ m ih =>
    intro a e l hm hae he hl hp
    have hlt : a < ((g.L T).take e).length := by rw [List.length_take]; omega
    have hlt2 : a < (g.L T).length := by omega
    have hr : ((g.L T).take e)[a] = (g.L T)[a] := List.getElem_take
    rw [List.drop_eq_getElem_cons hlt, hr]
    have hidx : (g.L T)[a].Index = (a : Int) + 1 := (hg.log T).idx a _ (List.getElem?_eq_getElem hlt2)
    have htake : l.take a ++ [(g.L T)[a]] = (g.L T).take (a + 1) := by rw [hp.2.2, List.take_succ_eq_append_getElem hlt2]
    have hgood : GoodLog g T ((g.L T).take (a + 1)) := (hg.log T).take _
    have hpre : Pre (a + 1) ((g.L T).take (a + 1)) (g.L T) := Pre.of_take (Nat.le_refl _) hlt2
    have htn : tn (g.L T) (a + 1) = (g.L T)[a].Term := by
      show (((g.L T)[a]?).map (·.Term)).getD 0 = _
      rw [List.getElem?_eq_getElem hlt2]; rfl
    have e1 : ((a : Int) + 1) = ((a + 1 : Nat) : Int) := by omega
    unfold takeL
    rw [hidx, e1, termAt_nat, show (((a + 1 : Nat) : Int) - 1).toNat = a by omega]
    by_cases hc : ((a + 1 : Nat) : Int) ≤ (l.length : Int) ∧ tn l (a + 1) ≠ (g.L T)[a].Term
    · rw [if_pos hc]
      dsimp only
      rw [if_pos (by rw [List.length_take]; omega), htake]
      obtain ⟨x1, x2, x3, x4⟩ := ih (a + 1) e ((g.L T).take (a + 1)) (by omega) (by omega) he hgood hpre
      refine ⟨x1, x2, fun k hk => x3 k ?_, x4⟩
      have hka : k ≤ a := by
        rcases Nat.lt_or_ge a k with h1 | h1
        · exact absurd ((hk.mono h1).tn (Nat.le_refl _)) (by rw [htn]; exact hc.2)
        · exact h1
      exact hpre.mono (by omega)
    · rw [if_neg hc]
      dsimp only
      by_cases hd : (l.length : Int) < ((a + 1 : Nat) : Int)
      · have hla : l.length = a := by have := hp.1; omega
        have hl2 : l ++ [(g.L T)[a]] = (g.L T).take (a + 1) := by rw [← htake, List.take_of_length_le (by omega)]
        rw [if_pos hd, hl2]
        obtain ⟨x1, x2, x3, x4⟩ := ih (a + 1) e ((g.L T).take (a + 1)) (by omega) (by omega) he hgood hpre
        exact ⟨x1, x2, fun k hk => x3 k (hpre.mono (by have := hk.1; omega)), x4⟩
      · rw [if_neg hd]
        have hteq : tn l (a + 1) = (g.L T)[a].Term := Classical.byContradiction fun hh => hc ⟨by omega, hh⟩
        have hp1 : Pre (a + 1) l (g.L T) := by
          obtain ⟨_, _, y1⟩ := hl.ent (a + 1) (by omega) (by omega)
          obtain ⟨_, _, y2⟩ := (hg.log T).ent (a + 1) (by omega) (by omega)
          rw [hteq] at y1
          rw [htn] at y2
          exact y1.trans y2.symm
        obtain ⟨x1, x2, x3, x4⟩ := ih (a + 1) e l (by omega) (by omega) he hl hp1
        exact ⟨x1, x2, x3, x4⟩
end Go.Proofs.YtlpcdcpcfeaecaaAb
end
section
namespace Go.Proofs.YtlpcdcpcfeaecaaAb
open Go
def RGh.ack (g : RGh) (i : Nat) (U : Int) (e : Nat) : RGh := { g with ac := fun t v => if t = U ∧ v = i then max (g.ac t v) e else g.ac t v }
theorem ack_step {g : RGh} {n i e : Nat} {p : GP} (h : PInv g n i p) : GStep i p.Term g (g.ack i p.Term e) := by
  refine ⟨⟨fun _ _ _ => rfl, fun _ _ h => h, fun T => ⟨[], by show g.L T = _; simp⟩, fun T k _ h1 h2 => by have h3 : k ≤ (g.L T).length := h2; omega, fun _ _ _ => rfl, fun T v => ?_, fun _ _ h => h⟩, fun _ _ _ => rfl, fun T v hv => if_neg (fun hh => hv hh.2), fun _ _ h => .inl h, fun _ _ => rfl, fun _ _ _ => rfl, fun T hT => if_neg (fun hh => hT hh.1), fun _ _ h => .inl h, h.vtI⟩
  show g.ac T v ≤ if T = p.Term ∧ v = i then max (g.ac T v) e else g.ac T v
  split
  · omega
  · exact Nat.le_refl _
theorem ack_inv {g : RGh} {n i e : Nat} {p : GP} (hg : GInv g n) (h : PInv g n i p) (he : e ≤ (g.L p.Term).length) : GInv (g.ack i p.Term e) n := by
  have hs := ack_step (e := e) h
  refine hs.inv hg (fun T hT => hs.good (hg.log T)) (fun T hT => .inl hT) (fun T => ?_) (fun T hT => hg.ext T i hT) (fun U c' hin hz hv => ?_) (fun U hin hv => hg.form i U hin hv) (fun U hin he => hg.evv U i hin he)
  · show (if T = p.Term ∧ i = i then max (g.ac T i) e else g.ac T i) ≤ (g.L T).length
    have := hg.ac T i
    split
    · next hh => rw [hh.1] at this ⊢; omega
    · exact this
  · have hv' : g.vt i U = (c' : Int) + 1 := hv
    omega
theorem mnx_cases (a b k : Int) : mnx a b k = k ∨ (mnx a b k ≤ a ∧ mnx a b k ≤ b ∧ k < mnx a b k) := by
  unfold mnx
  split <;> split <;> omega
theorem take_peer {g : RGh} {n i : Nat} {p : GP} {m : GM} (hg : GInv g n) (h : PInv g n i p) (hm : MInv g n m) (hk : m.Kind = 3) (ht : m.Term = p.Term) (ha : m.A ≤ (p.Log.length : Int)) (hb : termAt p.Log m.A = m.B) :
    ∃ e : Nat, (takeL m.Log p.Log m.A).2 = (e : Int) ∧ e ≤ (g.L p.Term).length ∧ e ≤ 100 ∧ PInv (g.ack i p.Term e) n i (mTaken m p) ∧ (mTaken m p).Commit ≤ ((takeL m.Log p.Log m.A).1.length : Int) := by
  obtain ⟨k1, k2, k3, ⟨e, e1, e2, e3⟩, k5⟩ := hm.k3 hk
  rw [ht] at k1 k2 k3 e2 e3 k5
  obtain ⟨a, haa⟩ : ∃ a : Nat, m.A = (a : Int) := ⟨m.A.toNat, by have := hm.a.1; omega⟩
  have hta : m.A.toNat = a := by omega
  rw [hta] at k3 e1 e3
  have hpa : Pre a p.Log (g.L p.Term) := by
    rcases Nat.eq_zero_or_pos a with h0 | h0
    · rw [h0]; exact Pre.zero
    · obtain ⟨_, _, y1⟩ := h.log.ent a h0 (by omega)
      obtain ⟨_, _, y2⟩ := (hg.log p.Term).ent a h0 (by omega)
      rw [haa, termAt_nat] at hb
      rw [hb] at y1
      rw [← k3] at y2
      exact y1.trans y2.symm
  have key := takeL_m hg (T := p.Term) _ a e p.Log rfl e1 e2 h.log hpa
  rw [← e3, ← haa] at key
  obtain ⟨t1, t2, t3, t4⟩ := key
  have hs := ack_step (e := e) h
  have hll := (hg.log p.Term).len
  have hne : g.ld p.Term ≠ none := by rw [k1]; exact fun hh => by cases hh
  have hfr : mFresh m p = p := by unfold mFresh; rw [if_neg (by omega)]
  have hC0 := h.com0
  have hcom : (mTaken m p).Commit = 0 ∨ ∃ T k, Com g n T k ∧ T ≤ p.Term ∧ (mTaken m p).Commit ≤ ((k : Nat) : Int) ∧ Pre (mTaken m p).Commit.toNat (takeL m.Log p.Log m.A).1 (g.L T) := by
    have hold : p.Commit = 0 ∨ ∃ T k, Com g n T k ∧ T ≤ p.Term ∧ p.Commit ≤ ((k : Nat) : Int) ∧ Pre p.Commit.toNat (takeL m.Log p.Log m.A).1 (g.L T) := by
      rcases h.com with x | ⟨T, k, x, y, z, w⟩
      · exact .inl x
      · have h1 := (com_le hg x y hne).mono (show p.Commit.toNat ≤ k by omega)
        exact .inr ⟨T, k, x, y, z, (t3 _ (w.trans h1.symm)).trans h1⟩
    show mnx (takeL m.Log p.Log m.A).2 m.C p.Commit = 0 ∨ ∃ T k, Com g n T k ∧ T ≤ p.Term ∧ mnx (takeL m.Log p.Log m.A).2 m.C p.Commit ≤ ((k : Nat) : Int) ∧ Pre (mnx (takeL m.Log p.Log m.A).2 m.C p.Commit).toNat (takeL m.Log p.Log m.A).1 (g.L T)
    rcases mnx_cases (takeL m.Log p.Log m.A).2 m.C p.Commit with hq | ⟨q1, q2, q3⟩
    · rw [hq]; exact hold
    · rcases k5 with x | ⟨x0, T, k, x, y, z, w⟩
      · omega
      · exact .inr ⟨T, k, x, y, by omega, (t2.mono (by have := Int.le_trans q1 (Int.le_of_eq t1); omega)).trans (w.mono (by omega))⟩
  refine ⟨e, t1, e2, by omega, ⟨?_, ?_, hs.good ?_, ?_, ?_, fun T k he hT hkk hbb => ?_, fun T hT => ?_, ?_, ?_, hs.toGle.comP ?_ hcom, ?_, Nat.zero_le _, Nat.zero_le _, Nat.zero_le _⟩, ?_⟩
  · show (g.ack i p.Term e).vt i (mFresh m p).Term = (mFresh m p).Vote; rw [hfr]; exact h.vote
  · show ∀ t, (mFresh m p).Term < t → g.vt i t = 0; rw [hfr]; exact h.later
  · show GoodLog g (mFresh m p).Term (takeL m.Log p.Log m.A).1; rw [hfr]; exact t4
  · exact fun hh => nomatch hh
  · exact fun hh => nomatch hh
  · have hT' : T ≤ (mFresh m p).Term := hT
    rw [hfr] at hT'
    have hbb' : ∀ U, T < U → U ≤ p.Term → g.ld U ≠ none → Pre k (g.L U) (g.L T) := fun U a b c => hbb U a (by show U ≤ (mFresh m p).Term; rw [hfr]; exact b) c
    have hkk' : k ≤ (if T = p.Term ∧ i = i then max (g.ac T i) e else g.ac T i) := hkk
    show Pre k (takeL m.Log p.Log m.A).1 (g.L T)
    by_cases hTT : T = p.Term
    · subst hTT
      rw [if_pos ⟨rfl, rfl⟩] at hkk'
      by_cases h1 : k ≤ e
      · exact t2.mono h1
      · exact t3 k (h.z p.Term k he (Int.le_refl _) (by omega) hbb')
    · rw [if_neg (fun hh => hTT hh.1)] at hkk'
      have h1 := h.z T k he hT' hkk' hbb'
      have h2 := hbb' p.Term (by omega) (Int.le_refl _) hne
      exact (t3 k (h1.trans h2.symm)).trans h2
  · have hT' : (mFresh m p).Term < T := hT
    rw [hfr] at hT'
    show (if T = p.Term ∧ i = i then max (g.ac T i) e else g.ac T i) = 0
    rw [if_neg (by omega)]; exact h.acl T hT'
  · show ∀ T, g.ld T = some i → T ≤ (mFresh m p).Term; rw [hfr]; exact h.ldl
  · show 0 ≤ mnx (takeL m.Log p.Log m.A).2 m.C p.Commit
    rcases mnx_cases (takeL m.Log p.Log m.A).2 m.C p.Commit with hq | ⟨q1, q2, q3⟩ <;> omega
  · show p.Term ≤ (mFresh m p).Term; rw [hfr]; exact Int.le_refl _
  · show 0 ≤ (mFresh m p).Term ∧ (mFresh m p).Term ≤ 1000000; rw [hfr]; exact h.term
  · rcases hcom with x | ⟨T, k, x, y, z, w⟩
    · rw [x]; omega
    · have := w.1; omega
end Go.Proofs.YtlpcdcpcfeaecaaAb
end
section
namespace Go.Proofs.YtlpcdcpcfeaecaaAb
open Go
theorem mCommitP_role {q : Int} {p : GP} : (mCommitP q p).Role = p.Role := by unfold mCommitP; split <;> rfl
theorem elect_c {g : RGh} {c : GC} {i : Nat} {p : GP} (h : CInv g c) (hp : c.Peers[i]? = some p) : ∃ g', CInv g' (mElect c i p) := by
  unfold mElect
  split
  · next hc =>
    have hi := (List.getElem?_eq_some_iff.1 hp).1
    have hpi := h.peers i p hp
    have hm : (c.Peers.length : Int) / 2 + 1 ≤ (cntT p.Votes : Int) := hc.2
    have h1 : CInv (g.lead i p.Term p.Log) (mLead c i p) :=
      h.step hp (lead_step h.gi hpi (cand_none h.gi hpi hc.1 hm).1) (lead_inv h.gi hi hpi hc.1 hm) (lead_peer (by have := h.n7; omega) h.gi hi hpi hc.1 hm)
    have h2 : CInv (g.lead i p.Term p.Log) (mCommit (mLead c i p) i (mLeader c.Peers.length i p)) := CInv.commit h1 hp rfl
    refine ⟨_, h2.sendAll (p := mCommitP (mMost (mLead c i p)) (mLeader c.Peers.length i p)) ?_ (by rw [mCommitP_role]; rfl)⟩
    show (((mLead c i p).Peers).set i _)[i]? = _
    exact gS (gS hp)
  · exact ⟨g, h⟩
theorem tick_c {g : RGh} {c : GC} {i : Nat} {p : GP} (h : CInv g c) (hp : c.Peers[i]? = some p) : ∃ g', CInv g' (mTick c i p) := by
  have hi := (List.getElem?_eq_some_iff.1 hp).1
  have hpi := h.peers i p hp
  unfold mTick
  split
  · next hr => exact ⟨g, h.sendAll hp hr⟩
  · split
    · next ht =>
      have h1 : CInv (g.stand i (p.Term + 1) p.Log) (mStand c i p) :=
        h.step hp (stand_step hpi) (stand_inv h.gi hi hpi) (stand_peer (by have := h.n7; omega) h.gi hi hpi ht)
      have hp2 : (mStand c i p).Peers[i]? = some (mCand c.Peers.length i p) := gS hp
      exact elect_c (h1.askAll hp2 rfl) (by rw [mAskAll_peers]; exact hp2)
    · exact ⟨g, h⟩
theorem back_msg {g : RGh} {n i : Nat} {m : GM} (hm : MInv g n m) (ht : m.To = (i : Int)) {t a : Int} {ok : Bool} (h0 : 0 ≤ a) (h1 : a ≤ 1000) (h2 : t ≤ 1000000) (h3 : a ≤ ((g.L t).length : Int)) (h4 : ok = true → a ≤ (g.ac t i : Int)) : MInv g n (mBack m t a ok) := by
  refine ⟨hm.to, hm.frm, fun hh => hm.ne hh.symm, ⟨h0, h1⟩, h2, (fun hh => by cases hh), (fun hh => by cases hh), (fun hh => by cases hh), fun _ => rfl, fun _ => ⟨h3, fun ho => ?_⟩⟩
  show a ≤ (g.ac t m.To.toNat : Int)
  rw [ht, Int.toNat_natCast]; exact h4 ho
theorem take_c {g : RGh} {c : GC} {i : Nat} {p : GP} {m : GM} (h : CInv g c) (hp : c.Peers[i]? = some p) (ht : m.To = (i : Int)) (hm : MInv g c.Peers.length m) (hk : m.Kind = 3) (hle : m.Term ≤ p.Term) : ∃ g', CInv g' (mTake c m i p) := by
  have hi := (List.getElem?_eq_some_iff.1 hp).1
  have hpi := h.peers i p hp
  have hll := hpi.log.len
  obtain ⟨a1, a2⟩ := hm.a
  unfold mTake
  split
  · exact ⟨g, h.send (back_msg hm ht (Int.le_refl _) (by omega) hpi.term.2 (by omega) (fun hh => by cases hh))⟩
  · next h1 =>
    have hT : m.Term = p.Term := by omega
    have hfr : mFresh m p = p := by unfold mFresh; rw [if_neg (by omega)]
    obtain ⟨k1, k2, k3, k4, k5⟩ := hm.k3 hk
    split
    · next h2 =>
      have hfol : PInv g c.Peers.length i (mFollow m p) := by unfold mFollow; rw [hfr]; exact hpi.reset
      refine ⟨g, (h.same hp hfol).send (back_msg (by show MInv g (c.Peers.set i _).length m; rw [List.length_set]; exact hm) ht ?_ ?_ (by rw [hfr]; exact hpi.term.2) ?_ (fun hh => by cases hh))⟩
      · have hA : 1 ≤ m.A := by
          rcases h2 with h2 | h2
          · omega
          · rcases Int.lt_or_eq_of_le a1 with h3 | h3
            · omega
            · exfalso
              rw [← h3] at h2 k3
              exact h2 k3.symm
        split <;> omega
      · split <;> omega
      · rw [hfr, ← hT]; split <;> omega
    · next h2 =>
      have hA : m.A ≤ (p.Log.length : Int) := Int.not_lt.1 fun hh => h2 (.inl hh)
      have hB : termAt p.Log m.A = m.B := Classical.byContradiction fun hh => h2 (.inr hh)
      obtain ⟨e, e1, e2, e3, e4, e5⟩ := take_peer h.gi hpi hm hk hT hA hB
      have hs := h.step hp (ack_step (e := e) hpi) (ack_inv h.gi hpi e2) e4
      have hch := hs.choose (i := i) (p := mTaken m p) (gS hp)
      refine ⟨_, hch.send ?_⟩
      have hm' : MInv (g.ack i p.Term e) (c.Peers.set i (mTaken m p)).length m := by rw [List.length_set]; exact (ack_step (e := e) hpi).toGle.msg hm
      rw [e1]
      refine back_msg hm' ht (by omega) (by omega) (by rw [hfr]; exact hpi.term.2) ?_ (fun _ => ?_)
      · rw [hfr]; show (e : Int) ≤ ((g.L p.Term).length : Int); omega
      · rw [hfr]
        show (e : Int) ≤ ((if p.Term = p.Term ∧ i = i then max (g.ac p.Term i) e else g.ac p.Term i : Nat) : Int)
        rw [if_pos ⟨rfl, rfl⟩]; omega
theorem arr_c {g : RGh} {c : GC} {i : Nat} {p : GP} {m : GM} (h : CInv g c) (hp : c.Peers[i]? = some p) (ht : m.To = (i : Int)) (hm : MInv g c.Peers.length m) (hle : m.Term ≤ p.Term) : ∃ g', CInv g' (mArr c m i p) := by
  have hi := (List.getElem?_eq_some_iff.1 hp).1
  have hpi := h.peers i p hp
  have hll := hpi.log.len
  obtain ⟨a1, a2⟩ := hm.a
  obtain ⟨f, hf, hfn⟩ := hm.frm
  have hff : m.From.toNat = f := by omega
  have hfi : f ≠ i := fun hh => hm.ne (by rw [hf, ht, hh])
  unfold mArr
  split
  · next k1 =>
    obtain ⟨q1, q2, q3⟩ := hm.k1 k1
    rw [hff] at q1 q2 q3
    have reply : ∀ (g' : RGh) (ps : List GP), ps.length = c.Peers.length → (mGrant m p = true → g'.vt i p.Term = m.From + 1) → MInv g' ps.length { Kind := 2, From := m.To, To := m.From, Term := p.Term, A := 0, B := 0, C := 0, Ok := mGrant m p, Log := [] } := by
      intro g' ps hps hv
      rw [hps]
      refine ⟨hm.to, hm.frm, fun hh => hm.ne hh.symm, ⟨Int.le_refl _, by show (0 : Int) ≤ 1000; omega⟩, hpi.term.2, (fun hh => by cases hh), fun _ ho => ?_, (fun hh => by cases hh), fun _ => rfl, (fun hh => by cases hh)⟩
      show g'.vt m.To.toNat p.Term = m.From + 1
      rw [ht, Int.toNat_natCast]; exact hv ho
    by_cases hgr : mGrant m p = true
    · have hG : m.Term = p.Term ∧ (p.Vote = 0 ∨ p.Vote = m.From + 1) ∧ (termAt p.Log p.Log.length < m.B ∨ (m.B = termAt p.Log p.Log.length ∧ (p.Log.length : Int) ≤ m.A)) := of_decide_eq_true hgr
      obtain ⟨g1, g2, g3⟩ := hG
      have hvp : mVoted m p = { p with Vote := (f : Int) + 1 } := by unfold mVoted; rw [if_pos hgr, hf]
      rw [g1] at q1 q2 q3
      by_cases hv0 : p.Vote = 0
      · have hup : tn p.Log p.Log.length < tn (g.cl p.Term f) (g.cl p.Term f).length ∨ (tn (g.cl p.Term f) (g.cl p.Term f).length = tn p.Log p.Log.length ∧ p.Log.length ≤ (g.cl p.Term f).length) := by
          rw [termAt_nat, q3, q2] at g3
          rcases g3 with g3 | ⟨g3, g4⟩
          · exact .inl g3
          · exact .inr ⟨g3, by omega⟩
        have h2 := h.step hp (grant_step (f := f) hpi hv0) (grant_inv h.gi hi hpi hv0 hfn (by rw [q1, hf]) hup) (grant_peer (f := f) h.gi hpi hv0)
        rw [hvp]
        refine ⟨_, h2.send (reply _ _ List.length_set fun _ => ?_)⟩
        show (if i = i ∧ p.Term = p.Term then (f : Int) + 1 else g.vt i p.Term) = m.From + 1
        rw [if_pos ⟨rfl, rfl⟩, hf]
      · have hv1 : p.Vote = (f : Int) + 1 := by rcases g2 with g2 | g2; exact absurd g2 hv0; rw [g2, hf]
        have he : ({ p with Vote := (f : Int) + 1 } : GP) = p := by rw [← hv1]
        rw [hvp, he, set_self hp]
        exact ⟨g, h.send (reply g c.Peers rfl fun _ => by rw [hpi.vote, hv1, hf])⟩
    · have hvp : mVoted m p = p := by unfold mVoted; rw [if_neg hgr]
      rw [hvp, set_self hp]
      exact ⟨g, h.send (reply g c.Peers rfl fun hh => absurd hh hgr)⟩
  split
  · next k1 k2 =>
    split
    · next hc =>
      obtain ⟨c1, c2, c3⟩ := hc
      have hv := hm.k2 k2 c3
      rw [c1, ht] at hv
      have h2 := h.same hp (hpi.heard (m := m) c2 hv)
      exact elect_c h2 (gS hp)
    · exact ⟨g, h⟩
  split
  · next k3 => exact take_c h hp ht hm k3 hle
  split
  · next k4 =>
    split
    · next hc =>
      obtain ⟨c1, c2⟩ := hc
      obtain ⟨q1, q2⟩ := hm.k4 k4
      rw [c1, hff] at q2
      obtain ⟨l1, l2, l3, l4, l5⟩ := hpi.lead c2
      rw [c1, l2] at q1
      have hnx : p.Next[f]? = some (atI p.Next m.From) := by rw [hf]; exact atI_get (by rw [l3.1]; exact hfn)
      have hmt : p.Match[f]? = some (atI p.Match m.From) := by rw [hf]; exact atI_get (by rw [l4]; exact hfn)
      have bnx := l3.2 _ (List.mem_of_getElem? hnx)
      have bmt := l5 f _ hmt
      have bml := hpi.match_ac h.gi c2 hmt
      split
      · next ho =>
        have b := q2 ho
        have hx := (hpi.nextSet (f := f) (x := if (m.A + 1) > atI p.Next m.From then (m.A + 1) else atI p.Next m.From) c2 (by split <;> omega) (by split <;> omega)).matSet (f := f) (x := if m.A > atI p.Match m.From then m.A else atI p.Match m.From) c2 (by split <;> omega) (by show _ ≤ (g.ac p.Term f : Int); split <;> omega)
        have he : mAcked m p (atI p.Next m.From) (atI p.Match m.From) = { p with Next := p.Next.set f (if (m.A + 1) > atI p.Next m.From then (m.A + 1) else atI p.Next m.From), Match := p.Match.set f (if m.A > atI p.Match m.From then m.A else atI p.Match m.From) } := by
          unfold mAcked; rw [hff]
        rw [he]
        exact ⟨g, (h.same hp hx).commit hp c2⟩
      · split
        · next ho hlt =>
          have hx := hpi.nextSet (f := f) (x := if (m.A + 1) > (atI p.Match m.From + 1) then (m.A + 1) else (atI p.Match m.From + 1)) c2 (by split <;> omega) (by split <;> omega)
          have he : mNaked m p (atI p.Match m.From) = { p with Next := p.Next.set f (if (m.A + 1) > (atI p.Match m.From + 1) then (m.A + 1) else (atI p.Match m.From + 1)) } := by
            unfold mNaked; rw [hff]
          rw [he, hff]
          exact ⟨g, (h.same hp hx).records (gS hp) c2 (by show f < (c.Peers.set i _).length; rw [List.length_set]; exact hfn) (fun hh => hfi hh.symm)⟩
        · exact ⟨g, h⟩
    · exact ⟨g, h⟩
  · exact ⟨g, h⟩
theorem arrive_c {g : RGh} {c : GC} {m : GM} (h : CInv g c) (hm : MInv g c.Peers.length m) : ∃ g', CInv g' (mArrive c m) := by
  obtain ⟨i, ht, hi⟩ := hm.to
  have hti : m.To.toNat = i := by omega
  unfold mArrive
  rw [hti]
  cases hp : c.Peers[i]? with
  | none => exact ⟨g, h⟩
  | some p =>
    dsimp only
    split
    · have hn := (h.peers i p hp).newerM hm.term
      by_cases hlt : p.Term < m.Term
      · rw [if_pos hlt]
        refine arr_c (h.same hp hn) (gS hp) ht (by show MInv g (c.Peers.set i _).length m; rw [List.length_set]; exact hm) ?_
        unfold mNewer; rw [if_pos hlt]; exact Int.le_refl _
      · have e : mNewer m p = p := by unfold mNewer; rw [if_neg hlt]
        rw [if_neg hlt, e]
        exact arr_c h hp ht hm (by omega)
    · exact ⟨g, h⟩
theorem propose_c {g : RGh} {c : GC} {i : Nat} {p : GP} {d : List UInt8} (h : CInv g c) (hp : c.Peers[i]? = some p) (hr : p.Role = 2) (hl : p.Log.length < 100) : ∃ g', CInv g' (mPropose c i p d) := by
  have hi := (List.getElem?_eq_some_iff.1 hp).1
  have hpi := h.peers i p hp
  have h1 := h.step hp (grow_step h.gi hpi hr (r := { Term := p.Term, Index := (p.Log.length : Int) + 1, Data := d }) rfl) (grow_inv h.gi hpi hr rfl rfl hl) (grow_peer (dt := d) h.gi hi hpi hr hl)
  exact ⟨_, h1.commit hp hr⟩
theorem event_c {g : RGh} {c : GC} {e : GE} (h : CInv g c) : ∃ g', CInv g' (mEvent c e).1 := by
  unfold mEvent
  split
  · split
    · unfold mNetEv
      split
      · exact ⟨g, h⟩
      · next m hm =>
        have hmm := h.net m (List.mem_of_getElem? hm)
        have hcut : CInv g (mCut c e.N.toNat) := ⟨h.n1, h.n7, h.gi, h.peers, fun x hx => by
          rcases List.mem_append.1 hx with hx | hx
          · exact h.net x (List.mem_of_mem_take hx)
          · exact h.net x (List.mem_of_mem_drop hx), by show (c.Net.take _ ++ c.Net.drop _).length ≤ 200; have := h.netl; simp; omega, h.ch, h.conf⟩
        split
        · exact ⟨g, h.send hmm⟩
        · split
          · exact arrive_c hcut hmm
          · exact ⟨g, hcut⟩
    · exact ⟨g, h⟩
  · split
    · split
      · unfold mPeerEv
        split
        · exact ⟨g, h⟩
        · next p hp =>
          have hpi := h.peers _ p hp
          split
          · exact ⟨g, h⟩
          split
          · exact tick_c h hp
          split
          · exact ⟨g, h.same hp hpi.down⟩
          split
          · exact ⟨g, h.same hp hpi.up⟩
          split
          · next hr =>
            split
            · exact ⟨g, h⟩
            · next hb => exact propose_c h hp hr (by omega)
          · exact ⟨g, h⟩
      · exact ⟨g, h⟩
    · exact ⟨g, h⟩
end Go.Proofs.YtlpcdcpcfeaecaaAb
end
section
namespace Go.Proofs.YtlpcdcpcfeaecaaAb
open Go
theorem CInv.ok {g : RGh} {c : GC} (h : CInv g c) : ClOk c := by
  have hn := h.n7
  refine ⟨by omega, by have := h.netl; omega, ?_, fun p hp => ?_, fun m hm => ?_⟩
  · rcases h.ch with h1 | ⟨T, k, a, b, d⟩
    · rw [h1]; simp
    · have := d.2.1
      have := (h.gi.log T).len
      omega
  · obtain ⟨i, hi, rfl⟩ := List.getElem_of_mem hp
    have hpi := h.peers i _ (List.getElem?_eq_getElem hi)
    have hl := hpi.log.len
    refine ⟨hpi.com0, ?_, by omega, hpi.term.1, hpi.votes, hpi.mat, fun hr => (hpi.cand hr).2.2.1, fun hr => (hpi.lead hr).2.2.1, fun hr => (hpi.lead hr).2.2.2.1, fun hr x hx => ?_⟩
    · rcases hpi.com with h1 | ⟨T, k, a, b, d, e⟩
      · omega
      · have := e.1; have := hpi.com0; omega
    · obtain ⟨v, hv, rfl⟩ := List.getElem_of_mem hx
      exact hpi.match_ac h.gi hr (List.getElem?_eq_getElem hv)
  · have hmi := h.net m hm
    obtain ⟨f, hf, hfn⟩ := hmi.frm
    obtain ⟨t, ht, htn⟩ := hmi.to
    refine ⟨by omega, by omega, by have := hmi.a; omega, ?_, ?_⟩
    · by_cases k3 : m.Kind = 3
      · obtain ⟨_, _, _, ⟨e, e1, e2, e3⟩, _⟩ := hmi.k3 k3
        have := (h.gi.log m.Term).len
        rw [e3]; simp; omega
      · rw [hmi.k3n k3]; simp
    · intro r hr
      by_cases k3 : m.Kind = 3
      · obtain ⟨_, _, _, ⟨e, e1, e2, e3⟩, _⟩ := hmi.k3 k3
        rw [e3] at hr
        have hr2 := List.mem_of_mem_take (List.mem_of_mem_drop hr)
        obtain ⟨k, hk, rfl⟩ := List.getElem_of_mem hr2
        have hl := h.gi.log m.Term
        have := hl.len
        rw [hl.idx k _ (List.getElem?_eq_getElem hk)]
        omega
      · rw [hmi.k3n k3] at hr; cases hr
theorem CInv.ev {g : RGh} {c : GC} (h : CInv g c) (e : GE) : EvOk c e := by
  intro hk m hm p hp
  have hmi := h.net m (List.mem_of_getElem? hm)
  have hpi := (h.peers _ p hp).newerM (m := m) hmi.term
  refine ⟨fun h1 h2 h3 => ?_, fun k4 hr ht => ?_⟩
  · have hl := hpi.log.len
    by_cases k3 : m.Kind = 3
    · have hT : m.Term = (mNewer m p).Term := by
        unfold mNewer at h1 ⊢
        split
        · rfl
        · next hh => rw [if_neg hh] at h1; omega
      obtain ⟨e, e1, e2, e3, e4, e5⟩ := take_peer h.gi hpi hmi k3 hT h2 h3
      refine ⟨e4.com0, e5, ?_⟩
      have := e4.log.len
      show (takeL m.Log (mNewer m p).Log m.A).1.length ≤ 1000
      have h7 : (takeL m.Log (mNewer m p).Log m.A).1.length ≤ 100 := this
      omega
    · rw [hmi.k3n k3]
      have hcm : (mNewer m p).Commit ≤ ((mNewer m p).Log.length : Int) := by
        rcases hpi.com with h4 | ⟨T, k, a, b, d, e⟩
        · omega
        · have := e.1; have := hpi.com0; omega
      have h0 := hpi.com0
      show 0 ≤ mnx m.A m.C (mNewer m p).Commit ∧ mnx m.A m.C (mNewer m p).Commit ≤ ((mNewer m p).Log.length : Int) ∧ (mNewer m p).Log.length ≤ 1000
      rcases mnx_cases m.A m.C (mNewer m p).Commit with hq | ⟨q1, q2, q3⟩ <;> omega
  · obtain ⟨q1, q2⟩ := hmi.k4 k4
    obtain ⟨l1, l2, _⟩ := hpi.lead hr
    rw [ht, l2] at q1
    exact q1
def cN (n : Nat) : GC := { Peers := List.replicate n { Up := true, Term := 0, Vote := 0, Commit := 0, Role := 0, Log := [], Votes := [], Next := [], Match := [] }, Net := [], Chosen := [], Conflict := false }
def g0 : RGh := { vt := fun _ _ => 0, ld := fun _ => none, L := fun _ => [], cl := fun _ _ => [], ac := fun _ _ => 0, ev := fun _ _ => False }
theorem good_nil {g : RGh} {t : Int} : GoodLog g t [] := ⟨fun k h1 h2 => absurd h2 (by simp; omega), fun k r hr => by simp at hr, by simp⟩
theorem cN_inv {n : Nat} (h1 : 1 ≤ n) (h7 : n ≤ 7) : CInv g0 (cN n) := by
  have hl : (cN n).Peers.length = n := List.length_replicate
  refine ⟨by rw [hl]; exact h1, by rw [hl]; exact h7, ?_, fun i p hp => ?_, fun m hm => (nomatch hm), by show (0 : Nat) ≤ 200; omega, .inl rfl, rfl⟩
  · refine ⟨fun w U c _ hv => ?_, fun T => good_nil, fun _ _ => rfl, fun T c hT => (nomatch hT), fun U w _ he => he.elim, fun w U _ hv => absurd rfl hv, fun w U _ hv => absurd rfl hv, fun _ _ => Nat.zero_le _, fun U c hU => (nomatch hU), fun w U c _ hv => ?_, fun w U c T k _ he => he.elim⟩
    · have hv' : (0 : Int) = (c : Int) + 1 := hv
      omega
    · exact good_nil
  · have hp' : (List.replicate n ({ Up := true, Term := 0, Vote := 0, Commit := 0, Role := 0, Log := [], Votes := [], Next := [], Match := [] } : GP))[i]? = some p := hp
    rw [List.getElem?_replicate] at hp'
    split at hp'
    · obtain rfl := Option.some.inj hp'
      exact ⟨rfl, fun _ _ => rfl, good_nil, (fun hh => nomatch hh), (fun hh => nomatch hh), fun T k he => absurd he.2.1 (by have := he.1; show ¬ k ≤ 0; omega), fun _ _ => rfl, (fun T hT => nomatch hT), Int.le_refl _, .inl rfl, ⟨Int.le_refl _, by show (0 : Int) ≤ 1000000; omega⟩, Nat.zero_le _, Nat.zero_le _, Nat.zero_le _⟩
    · cases hp'
theorem cN_db {n : Nat} : DBc (cN n) := by
  refine ⟨fun p hp => ?_, fun m hm => (nomatch hm), DBl.nil⟩
  unfold cN at hp
  rw [List.eq_of_mem_replicate hp]; exact DBl.nil
def mRunE (c : GC) : List GE → GC
  | [] => c
  | e :: es => mRunE (mEvent c e).1 es
def mCodesE (c : GC) : List GE → List Int
  | [] => []
  | e :: es => (mEvent c e).2 :: mCodesE (mEvent c e).1 es
theorem runE_m {es : List GE} (hes : es.length ≤ 1000) : ∀ (m k j : Nat) (codes : List Int) (g : RGh) (c : GC), es.length - j = m → m + 1 ≤ k → j ≤ es.length → codes.length ≤ j → CInv g c → DBc c →
    v6z es k codes (j : Int) c.Peers c.Net c.Chosen c.Conflict = some (mRunE c (es.drop j), codes ++ mCodesE c (es.drop j), 0) := by
  intro m
  induction m with
  | zero =>
    intro k j codes g c hm hk hj hl hc hd
    obtain ⟨k, rfl⟩ : ∃ j, k = j + 1 := ⟨k - 1, by omega⟩
    rw [List.drop_of_length_le (by omega)]
    have h1 := hc.ok
    rw [v6z, if_neg (by omega)]
    have := told_m (c := c) h1.net h1.n hd (fun m hm => (h1.msgs m hm).logl) (fun p hp => ⟨(h1.peers p hp).logl, (h1.peers p hp).votes, by
      obtain ⟨i, hi, rfl⟩ := List.getElem_of_mem hp
      exact (hc.peers i _ (List.getElem?_eq_getElem hi)).next, (h1.peers p hp).mat⟩) h1.chosen
    refine (congrArg (fun o => Option.bind o (fun x : GC => some (x, codes, (0 : Int)))) this).trans ?_
    rw [obind_some]
    unfold mRunE mCodesE
    rw [List.append_nil]
  | succ m ih =>
    intro k j codes g c hm hk hj hl hc hd
    obtain ⟨k, rfl⟩ : ∃ j, k = j + 1 := ⟨k - 1, by omega⟩
    have hlt : j < es.length := by omega
    rw [List.drop_eq_getElem_cons hlt]
    rw [v6z, if_pos (by omega), xN hlt, obind_some]
    have := event_m hc.ok hd (hc.ev es[j])
    refine (congrArg (fun o => Option.bind o _) this).trans ?_
    rw [obind_some, cP (by simp; omega), cP (by omega), show ((j : Int) + 1) = ((j + 1 : Nat) : Int) by omega]
    obtain ⟨g1, h1⟩ := event_c (e := es[j]) hc
    rw [ih k (j + 1) _ g1 _ (by omega) (by omega) (by omega) (by simp; omega) h1 hd.event]
    conv => rhs; unfold mRunE mCodesE
    rw [List.append_assoc]; rfl
theorem new_1 : v1oz 1 = some (cN 1) := by kernel_rfl
theorem new_2 : v1oz 2 = some (cN 2) := by kernel_rfl
theorem new_3 : v1oz 3 = some (cN 3) := by kernel_rfl
theorem new_4 : v1oz 4 = some (cN 4) := by kernel_rfl
theorem new_5 : v1oz 5 = some (cN 5) := by kernel_rfl
theorem new_6 : v1oz 6 = some (cN 6) := by kernel_rfl
theorem new_7 : v1oz 7 = some (cN 7) := by kernel_rfl
theorem new_m {n : Nat} (h1 : 1 ≤ n) (h7 : n ≤ 7) : v1oz (n : Int) = some (cN n) := by
  have : n = 1 ∨ n = 2 ∨ n = 3 ∨ n = 4 ∨ n = 5 ∨ n = 6 ∨ n = 7 := by omega
  rcases this with rfl | rfl | rfl | rfl | rfl | rfl | rfl
  · exact new_1
  · exact new_2
  · exact new_3
  · exact new_4
  · exact new_5
  · exact new_6
  · exact new_7
theorem clusterRun_any {n : Nat} (h1 : 1 ≤ n) (h7 : n ≤ 7) {es : List GE} (hes : es.length ≤ 300) :
    v5z (n : Int) es = some (mRunE (cN n) es, mCodesE (cN n) es, 0) := by
  unfold v5z v1mz v1rz
  rw [if_pos (by rw [decide_eq_true (by omega)]), obind_some, obind_some, within_l, obind_some, if_pos (by rw [decide_eq_true ⟨by omega, by omega⟩]), obind_some, if_pos (by rw [decide_eq_true (by omega)]), obind_some]
  rw [show v1kz [0, 0, 0] = some 0 by kernel_rfl, obind_some, if_pos rfl, new_m h1 h7, obind_some]
  have := runE_m (es := es) (by omega) _ BIG 0 [] g0 (cN n) rfl (by rw [BIG_eq]; omega) (by omega) (by simp) (cN_inv h1 h7) cN_db
  rw [List.drop_zero, List.nil_append] at this
  exact this
end Go.Proofs.YtlpcdcpcfeaecaaAb
end
section
namespace Go.Proofs.YtlpcdcpcfeaecaaAb
open Go
theorem sArr_grant {m : GM} {c : GC} {p : GP} (hl : p.Log.length ≤ 1000) (hf : 0 ≤ m.From ∧ m.From ≤ 1000) :
    (v3hz p).bind (fun x220 =>
    if m.Term = p.Term then
      if p.Vote = 0 then
        if x220.2 < m.B then v47z m c.Net c.Chosen c.Conflict c.Peers p true
        else if m.B = x220.2 then v47z m c.Net c.Chosen c.Conflict c.Peers p (decide (x220.1 ≤ m.A)) else v47z m c.Net c.Chosen c.Conflict c.Peers p false
      else
        chk (-9223372036854775808 ≤ m.From + 1 ∧ m.From + 1 < 9223372036854775808) <|
        if p.Vote = (m.From + 1) then
          if x220.2 < m.B then v47z m c.Net c.Chosen c.Conflict c.Peers p true
          else if m.B = x220.2 then v47z m c.Net c.Chosen c.Conflict c.Peers p (decide (x220.1 ≤ m.A)) else v47z m c.Net c.Chosen c.Conflict c.Peers p false
        else v47z m c.Net c.Chosen c.Conflict c.Peers p false
    else v47z m c.Net c.Chosen c.Conflict c.Peers p false) = v47z m c.Net c.Chosen c.Conflict c.Peers p (mGrant m p) := by
  rw [sLast_m (by omega), obind_some, cP (by omega)]
  unfold mGrant
  by_cases h1 : m.Term = p.Term
  · by_cases h2 : p.Vote = 0
    · by_cases h3 : termAt p.Log p.Log.length < m.B
      · simp [h1, h2, h3]
      · by_cases h4 : m.B = termAt p.Log p.Log.length
        · simp [h1, h2, h4]
        · simp [h1, h2, h3, h4]
    · by_cases h5 : p.Vote = m.From + 1
      · by_cases h3 : termAt p.Log p.Log.length < m.B
        · simp [h1, h2, h3, h5]
        · by_cases h4 : m.B = termAt p.Log p.Log.length
          · simp [h1, h2, h4, h5]
          · simp [h1, h2, h3, h4, h5]
      · simp [h1, h2, h5]
  · simp [h1]
theorem sArr_J1 {m : GM} {c : GC} {p : GP} {i : Nat} (hp : c.Peers[i]? = some p) (ht : m.To = (i : Int)) (hf : 0 ≤ m.From ∧ m.From ≤ 1000) (b : Bool) :
    v47z m c.Net c.Chosen c.Conflict c.Peers p b = some (Wc (mSend { c with Peers := c.Peers.set i (if b = true then { p with Vote := m.From + 1 } else p) } { Kind := 2, From := m.To, To := m.From, Term := p.Term, A := 0, B := 0, C := 0, Ok := b, Log := [] })) := by
  unfold v47z v48z
  cases b
  · rw [if_neg (by decide), if_neg (by decide), ht, xS hp, obind_some]
    refine (congrArg (fun o => Option.bind o _) (sSend_m (c := c))).trans ?_
    rw [obind_some, set_self hp]
  · rw [if_pos rfl, if_pos rfl, cP (by omega), ht, setI_n, xS (gS hp), obind_some]
    refine (congrArg (fun o => Option.bind o _) (sSend_m (c := { c with Peers := c.Peers.set i { p with Vote := m.From + 1 } }))).trans ?_
    rw [obind_some]
theorem sArr_m {m : GM} {c : GC} {p : GP} {i : Nat} (hn : c.Peers.length ≤ 7) (hp : c.Peers[i]? = some p) (ht : m.To = (i : Int)) (hm : MsgOk c.Peers.length m) (hpo : PeerOk c.Peers.length p) (hk : TakeOk m p) (ha : AckOk m p)
    (hd : DBl p.Log) (hdm : DBl m.Log) (hc : c.Chosen.length ≤ 100000) (hix : m.Kind = 3 → ∀ (j : Nat) r, m.Log[j]? = some r → r.Index = m.A + (j : Int) + 1) (hle : m.Term ≤ p.Term) :
    v46z m c.Peers c.Net c.Chosen c.Conflict = some (Wc (mArr c m i p)) := by
  have hi : i < c.Peers.length := (List.getElem?_eq_some_iff.1 hp).1
  obtain ⟨f1, f2⟩ := hm.frm
  obtain ⟨a1, a2⟩ := hm.a
  have hl := hpo.logl
  obtain ⟨f, hf⟩ : ∃ f : Nat, m.From = (f : Int) := ⟨m.From.toNat, by omega⟩
  have hfn : m.From.toNat = f := by omega
  unfold v46z mArr
  by_cases k1 : m.Kind = 1
  · rw [if_pos k1, if_pos k1, ht, xS hp, obind_some, ← ht]
    refine (sArr_grant (c := c) hl ⟨f1, by omega⟩).trans ?_
    rw [sArr_J1 hp ht ⟨f1, by omega⟩]; rfl
  rw [if_neg k1, if_neg k1]
  by_cases k2 : m.Kind = 2
  · rw [if_pos k2, if_pos k2, ht, xS hp, obind_some]
    by_cases h1 : m.Term = p.Term
    · rw [if_pos h1]
      by_cases h2 : p.Role = 1
      · rw [if_pos h2]
        unfold v49z
        by_cases h3 : m.Ok = true
        · rw [if_pos h3, if_pos ⟨h1, h2, h3⟩, ht, xS hp, obind_some, hf, xN (by rw [hpo.cand h2]; omega), obind_some]
          have := sElected_m (c := { c with Peers := c.Peers.set i (mHeard m p) }) (i := i) (p := mHeard m p) (gS hp) (by simp; omega) (by unfold mHeard; simp; have := hpo.votes; omega) hpo.com0 hpo.com1 hl hd hc
          have e : mHeard m p = { p with Votes := setI p.Votes (f : Int) true } := by unfold mHeard setI; rw [hfn]; rfl
          rw [e] at this ⊢
          refine (congrArg (fun o => Option.bind o _) this).trans ?_
          rfl
        · rw [if_neg h3, if_neg (fun h => h3 h.2.2)]
      · rw [if_neg h2, if_neg (fun h => h2 h.2.1)]
        unfold v49z
        rw [if_neg (by decide)]
    · rw [if_neg h1, if_neg (fun h => h1 h.1)]
      unfold v49z
      rw [if_neg (by decide)]
  rw [if_neg k2, if_neg k2]
  by_cases k3 : m.Kind = 3
  · rw [if_pos k3, if_pos k3]
    have := sAppended_m (c := c) (m := m) (i := i) hp ht hm.a hl hm.logl hd hdm hc hk (hix k3) hle
    refine (congrArg (fun o => Option.bind o _) this).trans ?_
    rfl
  rw [if_neg k3, if_neg k3]
  by_cases k4 : m.Kind = 4
  · rw [if_pos k4, if_pos k4, ht, xS hp, obind_some]
    by_cases h1 : m.Term = p.Term
    · rw [if_pos h1]
      by_cases h2 : p.Role = 2
      · rw [if_pos ⟨h1, h2⟩]
        have hle := ha k4 h2 h1
        obtain ⟨n1, n2⟩ := hpo.lead h2
        have hnx : p.Next[f]? = some (atI p.Next m.From) := by rw [hf]; exact atI_get (by rw [n1]; omega)
        have hmt : p.Match[f]? = some (atI p.Match m.From) := by rw [hf]; exact atI_get (by rw [hpo.mlen h2]; omega)
        unfold v4az
        rw [if_neg (by rw [decide_eq_true h2]; decide)]
        have q1 : idx p.Match m.From = some (atI p.Match m.From) := by conv => lhs; rw [hf]
                                                                       exact xS hmt
        have q2 : idx p.Next m.From = some (atI p.Next m.From) := by conv => lhs; rw [hf]
                                                                     exact xS hnx
        by_cases h3 : m.Ok = true
        · rw [if_pos h3, if_pos h3, ht, xS hp, obind_some, q1, obind_some, obind_some, q2, obind_some, cP (by omega), obind_some]
          have := sCommit_m (c := { c with Peers := c.Peers.set i (mAcked m p (atI p.Next m.From) (atI p.Match m.From)) }) (i := i) (p := mAcked m p (atI p.Next m.From) (atI p.Match m.From)) (gS hp) hpo.com0 hpo.com1 hl (by unfold mAcked; simp; have := hpo.mat; omega) (by simp; omega) (by simp; omega) hd hc
          refine (congrArg (fun o => Option.bind o _) this).trans ?_
          rfl
        · rw [if_neg h3, if_neg h3, cP (by omega), ht, xS hp, obind_some, q2, obind_some]
          by_cases h5 : m.A + 1 < atI p.Next m.From
          · have hm5 := hpo.mall h2 _ (List.mem_of_getElem? hmt)
            rw [if_pos h5, if_pos h5, q1, obind_some, cP (by omega), cP (by omega), obind_some]
            have := sAppend_m (c := { c with Peers := c.Peers.set i (mNaked m p (atI p.Match m.From)) }) (i := i) (t := f) (p := mNaked m p (atI p.Match m.From)) (nx := (if (m.A + 1) > (atI p.Match m.From + 1) then (m.A + 1) else (atI p.Match m.From + 1))) (gS hp)
              (by unfold mNaked; dsimp only; rw [hfn]; exact List.getElem?_set_self (by rw [n1]; omega)) (by split <;> omega) (by show _ ≤ (p.Log.length : Int) + 1; split <;> omega) (by show p.Log.length ≤ _; omega) hd
            rw [hfn]
            rw [← hf] at this
            refine (congrArg (fun o => Option.bind o _) this).trans ?_
            rfl
          · rw [if_neg h5, if_neg h5]
      · rw [if_neg (fun h => h2 h.2)]
        unfold v4az
        rw [if_pos (by rw [decide_eq_false h2]; rfl)]
    · rw [if_neg h1, if_neg (fun h => h1 h.1)]
      unfold v4az
      rw [if_pos rfl]
  · rw [if_neg k4, if_neg k4]
theorem mNewer_ge {m : GM} {p : GP} : m.Term ≤ (mNewer m p).Term := by
  unfold mNewer
  split
  · exact Int.le_refl _
  · omega
theorem sDeliver_m {m : GM} {c : GC} {p : GP} (hn : c.Peers.length ≤ 7) (hp : c.Peers[m.To.toNat]? = some p) (hm : MsgOk c.Peers.length m) (hpo : PeerOk c.Peers.length p) (hk : TakeOk m (mNewer m p)) (ha : AckOk m (mNewer m p))
    (hd : DBl p.Log) (hdm : DBl m.Log) (hc : c.Chosen.length ≤ 100000) (hix : m.Kind = 3 → ∀ (j : Nat) r, m.Log[j]? = some r → r.Index = m.A + (j : Int) + 1) :
    v45z (Wc c) m = some (Wc (mArrive c m)) := by
  have ht : m.To = (m.To.toNat : Int) := by have := hm.to; omega
  have hi : m.To.toNat < c.Peers.length := (List.getElem?_eq_some_iff.1 hp).1
  unfold v45z mArrive
  rw [hp]
  dsimp only
  have hx : idx (Wc c).c.Peers m.To = some p := by rw [ht]; exact xS hp
  refine (congrArg (fun o => Option.bind o _) hx).trans ?_
  rw [obind_some]
  by_cases hu : p.Up = true
  · rw [if_neg (by rw [hu]; decide), if_pos hu]
    by_cases h1 : p.Term < m.Term
    · rw [if_pos h1, if_pos h1]
      have e : mFollow m p = mNewer m p := by unfold mFollow mFresh mNewer; rw [if_pos h1, if_pos h1]
      have hdn : v4bz (Wc c) m.To m.Term = some (Wc { c with Peers := c.Peers.set m.To.toNat (mNewer m p) }) := by
        conv => lhs; rw [ht]
        rw [← e]; exact sDown_m hp
      refine (congrArg (fun o => Option.bind o _) hdn).trans ?_
      rw [obind_some]
      exact sArr_m (c := { c with Peers := c.Peers.set m.To.toNat (mNewer m p) }) (by simp; exact hn) (gS hp) ht (by simpa using hm) (by simpa using mNewer_ok hpo) hk ha (by rw [mNewer_log]; exact hd) hdm hc hix mNewer_ge
    · rw [if_neg h1, if_neg h1]
      have e : mNewer m p = p := by unfold mNewer; rw [if_neg h1]
      rw [e] at hk ha ⊢
      exact sArr_m hn hp ht hm hpo hk ha hd hdm hc hix (by omega)
  · rw [if_pos (by rw [Bool.not_eq_true] at hu; rw [hu]; rfl), if_neg hu]
theorem sTake_m {c : GC} {i : Nat} {m : GM} (hi : c.Net[i]? = some m) (hn : c.Net.length ≤ 1000) : v4rz (Wc c) (i : Int) = some (Wc (mCut c i), m) := by
  have hlt : i < c.Net.length := (List.getElem?_eq_some_iff.1 hi).1
  unfold v4rz
  refine (congrArg (fun o => Option.bind o _) (xS hi)).trans ?_
  rw [obind_some]
  refine (congrArg (fun o => Option.bind o _) (slc_head (xs := c.Net) (h := (i : Int)) (by omega) (by omega))).trans ?_
  rw [obind_some, cP (by simp; omega), cP (by omega)]
  refine (congrArg (fun o => Option.bind o _) (slc_tail (xs := c.Net) (l := (i : Int) + 1) (by omega) (by omega))).trans ?_
  rw [obind_some, cP (by simp; omega), List.nil_append, show ((i : Int) + 1).toNat = i + 1 by omega, Int.toNat_natCast]
  rfl
end Go.Proofs.YtlpcdcpcfeaecaaAb
end
section
namespace Go.Proofs.YtlpcdcpcfeaecaaAb
open Go
def nmP (p : GP) : Prop := p.Role ≠ 2 → p.Next = [] ∧ p.Match = []
def NM (l : List GP) : Prop := ∀ p ∈ l, nmP p
theorem NM.set {l : List GP} {i : Nat} {p : GP} (h : NM l) (hp : nmP p) : NM (l.set i p) := fun q hq => by
  rcases List.mem_or_eq_of_mem_set hq with h1 | rfl
  · exact h q h1
  · exact hp
theorem nmP.commit {q : Int} {p : GP} (h : nmP p) : nmP (mCommitP q p) := by
  intro hr
  rw [mCommitP_next, mCommitP_match]
  refine h (fun e => hr ?_)
  unfold mCommitP
  split <;> exact e
theorem NM.mcommit {c : GC} {i : Nat} {p : GP} (h : NM c.Peers) (hp : nmP p) : NM (mCommit c i p).Peers := by
  unfold mCommit; rw [mChoose_peers]; exact h.set hp.commit
theorem NM.elect {c : GC} {i : Nat} {p : GP} (h : NM c.Peers) : NM (mElect c i p).Peers := by
  unfold mElect
  split
  · rw [mSendAll_peers]
    exact NM.mcommit (c := mLead c i p) (h.set (fun hr => absurd rfl hr)) (fun hr => absurd rfl hr)
  · exact h
theorem NM.tick {c : GC} {i : Nat} {p : GP} (h : NM c.Peers) : NM (mTick c i p).Peers := by
  unfold mTick
  split
  · rw [mSendAll_peers]; exact h
  · split
    · refine NM.elect ?_
      rw [mAskAll_peers]
      exact h.set (fun _ => ⟨rfl, rfl⟩)
    · exact h
theorem NM.mtake {c : GC} {m : GM} {i : Nat} {p : GP} (h : NM c.Peers) : NM (mTake c m i p).Peers := by
  unfold mTake
  split
  · rw [mSend_peers]; exact h
  · split
    · rw [mSend_peers]; exact h.set (fun _ => ⟨rfl, rfl⟩)
    · rw [mSend_peers, mChoose_peers]; exact h.set (fun _ => ⟨rfl, rfl⟩)
theorem NM.arr {c : GC} {m : GM} {i : Nat} {p : GP} (h : NM c.Peers) (hp : nmP p) : NM (mArr c m i p).Peers := by
  unfold mArr
  split
  · rw [mSend_peers]
    refine h.set ?_
    unfold mVoted
    split <;> exact hp
  split
  · split
    · exact NM.elect (h.set hp)
    · exact h
  split
  · exact h.mtake
  split
  · split
    · next h2 =>
      split
      · exact NM.mcommit (h.set (fun hr => absurd h2.2 hr)) (fun hr => absurd h2.2 hr)
      · split
        · rw [mRecords_peers]; exact h.set (fun hr => absurd h2.2 hr)
        · exact h
    · exact h
  · exact h
theorem nmP.newer {m : GM} {p : GP} (h : nmP p) : nmP (mNewer m p) := by
  unfold mNewer
  split
  · exact fun _ => ⟨rfl, rfl⟩
  · exact h
theorem NM.arrive {c : GC} {m : GM} (h : NM c.Peers) : NM (mArrive c m).Peers := by
  unfold mArrive
  split
  · exact h
  · next p hp =>
    have h1 := h p (List.mem_of_getElem? hp)
    split
    · refine NM.arr ?_ h1.newer
      split
      · exact h.set h1.newer
      · exact h
    · exact h
theorem NM.event {c : GC} {e : GE} (h : NM c.Peers) : NM (mEvent c e).1.Peers := by
  unfold mEvent
  split
  · split
    · unfold mNetEv
      split
      · exact h
      · split
        · rw [mSend_peers]; exact h
        · split
          · exact NM.arrive (c := mCut c e.N.toNat) h
          · exact h
    · exact h
  · split
    · split
      · unfold mPeerEv
        split
        · exact h
        · next p hp =>
          have h1 := h p (List.mem_of_getElem? hp)
          split
          · exact h
          split
          · exact h.tick
          split
          · exact h.set (fun _ => ⟨rfl, rfl⟩)
          split
          · exact h.set h1
          split
          · next hr2 =>
            split
            · exact h
            · exact NM.mcommit (h.set (fun hr => absurd hr2 hr)) (fun hr => absurd hr2 hr)
          · exact h
      · exact h
    · exact h
theorem cN_nm {n : Nat} : NM (cN n).Peers := fun p hp => by
  unfold cN at hp
  rw [List.eq_of_mem_replicate hp]; exact fun _ => ⟨rfl, rfl⟩
structure SpOk (c : GC) : Prop where
  n7 : c.Peers.length ≤ 7
  nm : NM c.Peers
  tm : ∀ p ∈ c.Peers, 0 ≤ p.Term ∧ p.Term ≤ 1000000
  ll : ∀ p ∈ c.Peers, p.Log.length ≤ 100
  ix : ∀ m ∈ c.Net, m.Kind = 3 → ∀ (j : Nat) r, m.Log[j]? = some r → r.Index = m.A + (j : Int) + 1
theorem CInv.sp {g : RGh} {c : GC} (h : CInv g c) (hn : NM c.Peers) : SpOk c := by
  refine ⟨h.n7, hn, fun p hp => ?_, fun p hp => ?_, fun m hm k3 j r hr => ?_⟩
  · obtain ⟨i, hi, rfl⟩ := List.getElem_of_mem hp
    exact (h.peers i _ (List.getElem?_eq_getElem hi)).term
  · obtain ⟨i, hi, rfl⟩ := List.getElem_of_mem hp
    exact (h.peers i _ (List.getElem?_eq_getElem hi)).log.len
  · have hmi := h.net m hm
    have ha := hmi.a
    obtain ⟨_, _, _, ⟨e, e1, e2, e3⟩, _⟩ := hmi.k3 k3
    rw [e3, List.getElem?_drop] at hr
    obtain ⟨hlt, hg⟩ := List.getElem?_eq_some_iff.1 hr
    rw [List.getElem_take] at hg
    rw [List.length_take] at hlt
    have := (h.gi.log m.Term).idx (m.A.toNat + j) r (by rw [← hg]; exact List.getElem?_eq_getElem _)
    rw [this]; omega
theorem sEvent_J1 {c : GC} {e : GE} (h : ClOk c) (hd : DBc c) (hk : EvOk c e) (hs : SpOk c) (hK : e.Kind = 2 ∨ e.Kind = 3 ∨ e.Kind = 4) :
    v4lz e (Wc c) true = some (Wc (mEvent c e).1, (mEvent c e).2) := by
  unfold v4lz mEvent
  rw [if_pos rfl, if_pos hK]
  unfold v4mz
  by_cases h0 : e.N < 0
  · rw [if_pos h0, if_pos rfl, if_neg (fun hh => by omega)]
  · rw [if_neg h0]
    by_cases h1 : (c.Net.length : Int) ≤ e.N
    · rw [if_pos (by rw [decide_eq_true (show ((Wc c).c.Net.length : Int) ≤ e.N from h1)]), if_neg (fun hh => by omega)]
    · rw [if_neg (by rw [decide_eq_false (show ¬ ((Wc c).c.Net.length : Int) ≤ e.N from h1)]; decide), if_pos (show 0 ≤ e.N ∧ e.N ≤ (c.Net.length : Int) - 1 from ⟨by omega, by omega⟩)]
      obtain ⟨i, hi⟩ : ∃ i : Nat, e.N = (i : Int) := ⟨e.N.toNat, by omega⟩
      have hin : e.N.toNat = i := by omega
      have hlt : i < c.Net.length := by omega
      have hm : c.Net[i]? = some c.Net[i] := List.getElem?_eq_getElem hlt
      have hmem := List.mem_of_getElem? hm
      have hmo := h.msgs _ hmem
      unfold mNetEv
      rw [hin, hm]
      dsimp only
      by_cases k4 : e.Kind = 4
      · rw [if_neg (by omega), if_neg (by omega), if_pos k4, hi]
        refine (congrArg (fun o => Option.bind o _) (xS hm)).trans ?_
        rw [obind_some]
        refine (congrArg (fun o => Option.bind o _) (sSend_m (c := c) (m := c.Net[i]))).trans ?_
        rfl
      · rw [if_neg k4]
        by_cases k2 : e.Kind = 2
        · rw [if_pos k2, if_pos k2, hi]
          refine (congrArg (fun o => Option.bind o _) (sTake_m hm h.net)).trans ?_
          rw [obind_some]
          have hto : (c.Net[i]).To.toNat < c.Peers.length := by have := hmo.to; omega
          have hp : c.Peers[(c.Net[i]).To.toNat]? = some (c.Peers[(c.Net[i]).To.toNat]'hto) := List.getElem?_eq_getElem hto
          obtain ⟨ek1, ek2⟩ := hk k2 _ (by rw [hin]; exact hm) _ hp
          have hpm := List.mem_of_getElem? hp
          have := sDeliver_m (m := c.Net[i]) (c := mCut c i) (p := c.Peers[(c.Net[i]).To.toNat]'hto) hs.n7 hp hmo (h.peers _ hpm) ek1 ek2 (hd.peers _ hpm) (hd.net _ hmem) h.chosen (hs.ix _ hmem)
          refine (congrArg (fun o => Option.bind o _) this).trans ?_
          rfl
        · rw [if_neg k2, if_neg k2, if_pos (by omega), hi]
          refine (congrArg (fun o => Option.bind o _) (sTake_m hm h.net)).trans ?_
          rfl
theorem sEvent_J2 {c : GC} {e : GE} (h : ClOk c) (hd : DBc c) (hs : SpOk c) (hK : e.Kind = 1 ∨ e.Kind = 5 ∨ e.Kind = 6 ∨ e.Kind = 7) :
    v4nz e (Wc c) true = some (Wc (mEvent c e).1, (mEvent c e).2) := by
  unfold v4nz mEvent
  rw [if_pos rfl, if_neg (show ¬ (e.Kind = 2 ∨ e.Kind = 3 ∨ e.Kind = 4) by omega), if_pos hK]
  unfold v4oz
  by_cases h0 : e.N < 0
  · rw [if_pos h0, if_pos rfl, if_neg (fun hh => by omega)]
  · rw [if_neg h0]
    by_cases h1 : (c.Peers.length : Int) ≤ e.N
    · rw [if_pos (by rw [decide_eq_true (show ((Wc c).c.Peers.length : Int) ≤ e.N from h1)]), if_neg (fun hh => by omega)]
    · rw [if_neg (by rw [decide_eq_false (show ¬ ((Wc c).c.Peers.length : Int) ≤ e.N from h1)]; decide), if_pos (show 0 ≤ e.N ∧ e.N ≤ (c.Peers.length : Int) - 1 from ⟨by omega, by omega⟩)]
      obtain ⟨i, hi⟩ : ∃ i : Nat, e.N = (i : Int) := ⟨e.N.toNat, by omega⟩
      have hin : e.N.toNat = i := by omega
      have hlt : i < c.Peers.length := by omega
      have hp : c.Peers[i]? = some c.Peers[i] := List.getElem?_eq_getElem hlt
      have hpm := List.mem_of_getElem? hp
      have hpo := h.peers _ hpm
      generalize hgp : c.Peers[i] = p at hp hpm hpo
      have hn7 := hs.n7
      unfold mPeerEv
      rw [hin, hp]
      dsimp only
      rw [hi]
      refine (congrArg (fun o => Option.bind o _) (xS hp)).trans ?_
      rw [obind_some]
      by_cases hu : p.Up = decide (e.Kind = 6)
      · rw [if_pos (by rw [hu]; exact beq_self_eq_true _), if_pos hu]
      · rw [if_neg (fun hh => hu (beq_iff_eq.1 hh)), if_neg hu]
        by_cases k1 : e.Kind = 1
        · rw [if_pos k1, if_pos k1]
          have := sTick_m (c := c) hp hn7 hpo.lead (hs.tm _ hpm) (hs.nm _ hpm) hpo.com0 hpo.com1 hpo.logl (hd.peers _ hpm) h.chosen
          refine (congrArg (fun o => Option.bind o _) this).trans ?_
          rfl
        · rw [if_neg k1, if_neg k1]
          by_cases k5 : e.Kind = 5
          · rw [if_pos k5, if_pos k5]; rfl
          · rw [if_neg k5, if_neg k5]
            by_cases k6 : e.Kind = 6
            · rw [if_pos k6, if_pos k6]; rfl
            · rw [if_neg k6, if_neg k6, if_pos (show e.Kind = 7 by omega)]
              by_cases hr : p.Role = 2
              · rw [if_pos hr, if_pos hr]
                have hl := hs.ll _ hpm
                unfold v4pz
                by_cases hb : (1000 : Int) < (e.Data.length : Int)
                · rw [if_pos hb, if_pos rfl, if_pos (show 1000 < (e.Data.length : Int) ∨ 100 ≤ (p.Log.length : Int) from .inl hb)]
                · rw [if_neg hb]
                  by_cases hf : (p.Log.length : Int) = 100
                  · rw [if_pos (by rw [decide_eq_true hf]), if_pos (show 1000 < (e.Data.length : Int) ∨ 100 ≤ (p.Log.length : Int) from .inr (by omega))]
                  · rw [if_neg (by rw [decide_eq_false hf]; decide), if_neg (show ¬ (1000 < (e.Data.length : Int) ∨ 100 ≤ (p.Log.length : Int)) by omega), cP (by simp; omega), cP (by omega), cP (by simp; omega), cP (by simp; omega), hi,
                      xN (by rw [hpo.mlen hr]; exact hlt), obind_some]
                    have eg : ({ Up := p.Up, Term := p.Term, Vote := p.Vote, Commit := p.Commit, Role := p.Role, Log := ((([] : List GR) ++ p.Log) ++ ([({ Term := p.Term, Index := ((p.Log.length : Int) + 1), Data := (([] : List UInt8) ++ e.Data) } : GR)] : List GR)), Votes := p.Votes, Next := p.Next, Match := (setI p.Match (i : Int) (((([] : List GR) ++ p.Log) ++ ([({ Term := p.Term, Index := ((p.Log.length : Int) + 1), Data := (([] : List UInt8) ++ e.Data) } : GR)] : List GR)).length : Int)) } : GP) = mGrown i p e.Data := by
                      unfold mGrown
                      rw [List.nil_append, List.nil_append, setI_n, show ((p.Log ++ [({ Term := p.Term, Index := ((p.Log.length : Int) + 1), Data := e.Data } : GR)]).length : Int) = (p.Log.length : Int) + 1 by simp]
                    rw [eg]
                    have hdg : DBl (mGrown i p e.Data).Log := fun r hr2 => by
                      rcases List.mem_append.1 hr2 with h3 | h3
                      · exact hd.peers _ hpm r h3
                      · rw [List.mem_singleton.1 h3]; show e.Data.length ≤ 1000; omega
                    have := sCommit_m (c := { c with Peers := c.Peers.set i (mGrown i p e.Data) }) (i := i) (p := mGrown i p e.Data) (gS hp) hpo.com0 (by have := hpo.com1; unfold mGrown; simp; omega) (by unfold mGrown; simp; omega) (by unfold mGrown; simp; exact hpo.mat) (by simp; omega) (by simp; omega) hdg h.chosen
                    refine (congrArg (fun o => Option.bind o _) this).trans ?_
                    rfl
              · rw [if_neg hr, if_neg hr]
theorem sEvent_m {c : GC} {e : GE} (h : ClOk c) (hd : DBc c) (hk : EvOk c e) (hs : SpOk c) : v4kz (Wc c) e = some (Wc (mEvent c e).1, (mEvent c e).2) := by
  unfold v4kz
  by_cases k2 : e.Kind = 2
  · rw [if_pos k2, decide_eq_true k2]; exact sEvent_J1 h hd hk hs (by omega)
  rw [if_neg k2]
  by_cases k3 : e.Kind = 3
  · rw [if_pos k3, decide_eq_true k3]; exact sEvent_J1 h hd hk hs (by omega)
  rw [if_neg k3]
  by_cases k4 : e.Kind = 4
  · rw [decide_eq_true k4]; exact sEvent_J1 h hd hk hs (by omega)
  rw [decide_eq_false k4]
  unfold v4lz
  rw [if_neg (by decide)]
  by_cases k1 : e.Kind = 1
  · rw [if_pos k1, decide_eq_true k1]; exact sEvent_J2 h hd hs (by omega)
  rw [if_neg k1]
  by_cases k5 : e.Kind = 5
  · rw [if_pos k5, decide_eq_true k5]; exact sEvent_J2 h hd hs (by omega)
  rw [if_neg k5]
  by_cases k6 : e.Kind = 6
  · rw [if_pos k6, decide_eq_true k6]; exact sEvent_J2 h hd hs (by omega)
  rw [if_neg k6]
  by_cases k7 : e.Kind = 7
  · rw [decide_eq_true k7]; exact sEvent_J2 h hd hs (by omega)
  rw [decide_eq_false k7]
  unfold v4nz mEvent
  rw [if_neg (by decide), if_neg (by omega), if_neg (by omega)]
end Go.Proofs.YtlpcdcpcfeaecaaAb
end
section
namespace Go.Proofs.YtlpcdcpcfeaecaaAb
open Go
theorem sLog_m {xs : List GR} (hl : xs.length ≤ 1000000000) (hd : DBl xs) : v3iz xs = some xs := by
  unfold v3iz
  refine copy_loop (P := DBr) hl hd (fun k acc i h hr ha => ?_) (fun k acc i h => ?_)
  · rw [v3jz, if_pos (by omega), xN h, obind_some]
    refine (congrArg (fun o => Option.bind o _) (sCopy_m hr)).trans ?_
    rw [obind_some, cP (by simp; omega), cP (by omega)]
    have e : ((i : Int) + 1) = ((i + 1 : Nat) : Int) := by omega
    rw [e]
  · rw [v3jz, if_neg (by omega)]
theorem sOwn_L1 {c : GC} {ps : List GP} {ch : List GR} (hn : c.Net.length ≤ 1000) (hd : ∀ m ∈ c.Net, DBl m.Log) (hl : ∀ m ∈ c.Net, m.Log.length ≤ 1000) :
    v3mz c ps ch BIG 0 [] = some { c with Peers := ps, Chosen := ch } := by
  have key : ∀ (m k i : Nat) (acc : List GM), c.Net.length - i = m → m + 1 ≤ k → i ≤ c.Net.length → acc = c.Net.take i → v3mz c ps ch k (i : Int) acc = some { c with Peers := ps, Chosen := ch } := by
    intro m
    induction m with
    | zero =>
      intro k i acc hm hk hi ha
      obtain ⟨k, rfl⟩ : ∃ j, k = j + 1 := ⟨k - 1, by omega⟩
      rw [v3mz, if_neg (by omega), ha, List.take_of_length_le (by omega)]
    | succ m ih =>
      intro k i acc hm hk hi ha
      obtain ⟨k, rfl⟩ : ∃ j, k = j + 1 := ⟨k - 1, by omega⟩
      have hlt : i < c.Net.length := by omega
      have hmm := List.getElem_mem hlt
      have h1 := hl _ hmm
      have hlen : acc.length = i := by rw [ha, List.length_take]; omega
      rw [v3mz, if_pos (by omega), xN hlt, obind_some, sLog_m (by omega) (hd _ hmm), obind_some, cP (by simp; omega), cP (by omega), show ((i : Int) + 1) = ((i + 1 : Nat) : Int) by omega]
      exact ih k (i + 1) _ (by omega) (by omega) (by omega) (by rw [ha, List.take_succ_eq_append_getElem hlt])
  exact key c.Net.length BIG 0 [] (by omega) (by rw [BIG_eq]; omega) (by omega) (by simp)
theorem sOwn_m {c : GC} (hn : c.Net.length ≤ 1000) (hpn : c.Peers.length ≤ 1000) (hd : DBc c) (hl : ∀ m ∈ c.Net, m.Log.length ≤ 1000) (hp : ∀ p ∈ c.Peers, p.Log.length ≤ 1000 ∧ p.Votes.length ≤ 1000 ∧ p.Next.length ≤ 1000 ∧ p.Match.length ≤ 1000) (hc : c.Chosen.length ≤ 100000) :
    v3kz c = some c := by
  unfold v3kz
  rw [sLog_m (by omega) hd.chosen, obind_some]
  have key : ∀ (m k i : Nat) (acc : List GP), c.Peers.length - i = m → m + 1 ≤ k → i ≤ c.Peers.length → acc = c.Peers.take i → v3lz c c.Chosen k (i : Int) acc = some c := by
    intro m
    induction m with
    | zero =>
      intro k i acc hm hk hi ha
      obtain ⟨k, rfl⟩ : ∃ j, k = j + 1 := ⟨k - 1, by omega⟩
      rw [v3lz, if_neg (by omega), ha, List.take_of_length_le (by omega)]
      exact sOwn_L1 hn hd.net hl
    | succ m ih =>
      intro k i acc hm hk hi ha
      obtain ⟨k, rfl⟩ : ∃ j, k = j + 1 := ⟨k - 1, by omega⟩
      have hlt : i < c.Peers.length := by omega
      have hmm := List.getElem_mem hlt
      obtain ⟨h1, h2, h3, h4⟩ := hp _ hmm
      have hlen : acc.length = i := by rw [ha, List.length_take]; omega
      rw [v3lz, if_pos (by omega), xN hlt, obind_some, sLog_m (by omega) (hd.peers _ hmm), obind_some, cP (by simp; omega), cP (by simp; omega), cP (by simp; omega), cP (by simp; omega), cP (by omega), show ((i : Int) + 1) = ((i + 1 : Nat) : Int) by omega]
      exact ih k (i + 1) _ (by omega) (by omega) (by omega) (by rw [ha, List.take_succ_eq_append_getElem hlt]; rfl)
  exact key c.Peers.length BIG 0 [] (by omega) (by rw [BIG_eq]; omega) (by omega) (by simp)
theorem sRun_m {es : List GE} (hes : es.length ≤ 1000) : ∀ (m k j : Nat) (codes : List Int) (g : RGh) (c : GC), es.length - j = m → m + 1 ≤ k → j ≤ es.length → codes.length ≤ j → CInv g c → DBc c → NM c.Peers →
    v2jz es k codes (j : Int) c.Peers c.Net c.Chosen c.Conflict = some (mRunE c (es.drop j), codes ++ mCodesE c (es.drop j), 0) := by
  intro m
  induction m with
  | zero =>
    intro k j codes g c hm hk hj hl hc hd hn
    obtain ⟨k, rfl⟩ : ∃ j, k = j + 1 := ⟨k - 1, by omega⟩
    rw [List.drop_of_length_le (by omega)]
    have h1 := hc.ok
    rw [v2jz, if_neg (by omega)]
    have := sOwn_m (c := c) h1.net h1.n hd (fun m hm => (h1.msgs m hm).logl) (fun p hp => ⟨(h1.peers p hp).logl, (h1.peers p hp).votes, by
      obtain ⟨i, hi, rfl⟩ := List.getElem_of_mem hp
      exact (hc.peers i _ (List.getElem?_eq_getElem hi)).next, (h1.peers p hp).mat⟩) h1.chosen
    refine (congrArg (fun o => Option.bind o _) this).trans ?_
    rw [obind_some]
    unfold mRunE mCodesE
    rw [List.append_nil]
  | succ m ih =>
    intro k j codes g c hm hk hj hl hc hd hn
    obtain ⟨k, rfl⟩ : ∃ j, k = j + 1 := ⟨k - 1, by omega⟩
    have hlt : j < es.length := by omega
    rw [List.drop_eq_getElem_cons hlt]
    rw [v2jz, if_pos (by omega), xN hlt, obind_some]
    have := sEvent_m hc.ok hd (hc.ev es[j]) (hc.sp hn)
    refine (congrArg (fun o => Option.bind o _) this).trans ?_
    rw [obind_some, cP (by simp; omega), cP (by omega), show ((j : Int) + 1) = ((j + 1 : Nat) : Int) by omega]
    obtain ⟨g1, h1⟩ := event_c (e := es[j]) hc
    refine (ih k (j + 1) _ g1 (mEvent c es[j]).1 (by omega) (by omega) (by omega) (by simp; omega) h1 hd.event hn.event).trans ?_
    conv => rhs; unfold mRunE mCodesE
    rw [List.append_assoc]; rfl
theorem sNew_1 : v3ez 1 = some (Wc (cN 1)) := by kernel_rfl
theorem sNew_2 : v3ez 2 = some (Wc (cN 2)) := by kernel_rfl
theorem sNew_3 : v3ez 3 = some (Wc (cN 3)) := by kernel_rfl
theorem sNew_4 : v3ez 4 = some (Wc (cN 4)) := by kernel_rfl
theorem sNew_5 : v3ez 5 = some (Wc (cN 5)) := by kernel_rfl
theorem sNew_6 : v3ez 6 = some (Wc (cN 6)) := by kernel_rfl
theorem sNew_7 : v3ez 7 = some (Wc (cN 7)) := by kernel_rfl
theorem sNew_m {n : Nat} (h1 : 1 ≤ n) (h7 : n ≤ 7) : v3ez (n : Int) = some (Wc (cN n)) := by
  have : n = 1 ∨ n = 2 ∨ n = 3 ∨ n = 4 ∨ n = 5 ∨ n = 6 ∨ n = 7 := by omega
  rcases this with rfl | rfl | rfl | rfl | rfl | rfl | rfl
  · exact sNew_1
  · exact sNew_2
  · exact sNew_3
  · exact sNew_4
  · exact sNew_5
  · exact sNew_6
  · exact sNew_7
theorem sClusterRun_any {n : Nat} (h1 : 1 ≤ n) (h7 : n ≤ 7) {es : List GE} (hes : es.length ≤ 300) :
    v2hz (n : Int) es = some (mRunE (cN n) es, mCodesE (cN n) es, 0) := by
  unfold v2hz v2iz
  rw [if_neg (by omega), if_neg (by omega), if_neg (by rw [decide_eq_false (by omega)]; decide), if_neg (by omega), sNew_m h1 h7, obind_some]
  have := sRun_m (es := es) (by omega) _ BIG 0 [] g0 (cN n) rfl (by rw [BIG_eq]; omega) (by omega) (by simp) (cN_inv h1 h7) cN_db cN_nm
  rw [List.drop_zero, List.nil_append] at this
  exact this
end Go.Proofs.YtlpcdcpcfeaecaaAb
end
section
namespace Go.Proofs.YtlpcdcpcfeaecaaAb
open Go
structure SrcOk (s : GS) (b : Int) : Prop where
  at0 : 0 ≤ s.at_
  at1 : s.at_ ≤ b
  seed0 : 0 ≤ s.seed
  seed1 : s.seed < 2147483648
  code : s.code.length ≤ 1048576
theorem SrcOk.mono {s : GS} {b b' : Int} (h : SrcOk s b) (hb : b ≤ b') : SrcOk s b' := ⟨h.at0, Int.le_trans h.at1 hb, h.seed0, h.seed1, h.code⟩
theorem byte_ok {s : GS} {b : Int} (h : SrcOk s b) (hb : b ≤ 1000000000) : ∃ s' x, v2qz s = some (s', x) ∧ SrcOk s' (b + 1) ∧ 0 ≤ x ∧ x < 256 := by
  obtain ⟨a0, a1, s0, s1, c⟩ := h
  unfold v2qz
  rw [cP (by omega)]
  by_cases h1 : (s.at_ + 1) ≤ (s.code.length : Int)
  · rw [if_pos h1, cP (by omega), cP (by omega), idx_pos (by omega) (by omega), obind_some]
    have hx := (s.code[((s.at_ + 1) - 1).toNat]'(by omega)).toNat_lt
    rw [cP (by omega), cP (by omega), cP (by omega), cP (by omega), obind_some]
    exact ⟨_, _, rfl, ⟨by show 0 ≤ s.at_ + 1; omega, by show s.at_ + 1 ≤ b + 1; omega, by show 0 ≤ _ % _; omega, by show _ % _ < _; omega, c⟩, by omega, by omega⟩
  · rw [if_neg h1]
    by_cases h2 : (3000 : Int) < s.at_ + 1
    · rw [if_pos h2]
      exact ⟨_, _, rfl, ⟨by show 0 ≤ s.at_ + 1; omega, by show s.at_ + 1 ≤ b + 1; omega, s0, s1, c⟩, by omega, by omega⟩
    · rw [if_neg h2, cP (by omega), cP (by omega), cP (by omega), cP (by omega), cP (by omega)]
      exact ⟨_, _, rfl, ⟨by show 0 ≤ s.at_ + 1; omega, by show s.at_ + 1 ≤ b + 1; omega, by show 0 ≤ _ % _; omega, by show _ % _ < _; omega, c⟩, by omega, by omega⟩
theorem next_ok {s : GS} {b n : Int} (h : SrcOk s b) (hb : b ≤ 1000000000 - 3) (hn : n ≤ 1000000) : ∃ s' x, v36z s n = some (s', x) ∧ SrcOk s' (b + 3) ∧ 0 ≤ x ∧ (x < n ∨ (n ≤ 1 ∧ x = 0)) := by
  unfold v36z
  by_cases h1 : n ≤ 1
  · rw [if_pos h1]; exact ⟨_, _, rfl, h.mono (by omega), by omega, .inr ⟨h1, rfl⟩⟩
  · rw [if_neg h1]
    by_cases h2 : n ≤ 256
    · rw [if_pos h2]
      obtain ⟨s1, x1, e1, k1, l1, m1⟩ := byte_ok h (by omega)
      rw [show v2qz _ = _ from e1, obind_some]
      dsimp only
      rw [cP (by omega)]
      exact ⟨_, _, rfl, k1.mono (by omega), Int.emod_nonneg _ (by omega), .inl (Int.emod_lt_of_pos _ (by omega))⟩
    · rw [if_neg h2]
      obtain ⟨s1, x1, e1, k1, l1, m1⟩ := byte_ok h (by omega)
      obtain ⟨s2, x2, e2, k2, l2, m2⟩ := byte_ok k1 (by omega)
      obtain ⟨s3, x3, e3, k3, l3, m3⟩ := byte_ok k2 (by omega)
      rw [show v2qz _ = _ from e1, obind_some]
      dsimp only
      rw [show v2qz _ = _ from e2, obind_some]
      dsimp only
      rw [show v2qz _ = _ from e3, obind_some]
      dsimp only
      rw [cP (by omega), cP (by omega), cP (by omega), cP (by omega), cP (by omega)]
      exact ⟨_, _, rfl, k3.mono (by omega), Int.emod_nonneg _ (by omega), .inl (Int.emod_lt_of_pos _ (by omega))⟩
theorem chance_ok {s : GS} {b n : Int} (h : SrcOk s b) (hb : b ≤ 1000000000 - 3) (hn : n ≤ 1000000) (hn0 : 0 ≤ n) : ∃ s' x, v2wz s n = some (s', x) ∧ SrcOk s' (b + 3) := by
  unfold v2wz
  obtain ⟨s1, x1, e1, k1, l1, m1⟩ := next_ok h hb hn
  rw [show v36z _ _ = _ from e1, obind_some, cP (by omega)]
  exact ⟨_, _, rfl, k1⟩
theorem bytes_ok {s : GS} {b : Int} (h : SrcOk s b) (hb : b ≤ 900000000) : ∃ s' x, v2rz s 3 = some (s', x) ∧ SrcOk s' (b + 15) ∧ x.length ≤ 4 := by
  unfold v2rz
  rw [cP (by omega)]
  obtain ⟨s1, x1, e1, k1, l1, m1⟩ := next_ok (n := 3 + 1) h (by omega) (by omega)
  rw [show v36z _ _ = _ from e1, obind_some]
  dsimp only
  have key : ∀ (m : Nat) (k : Nat) (xs : List UInt8) (s : GS) (b : Int), m + 1 ≤ k → xs.length + m ≤ 4 → SrcOk s b → b + 3 * m ≤ 950000000 → ∃ s' x, v2sz k xs (m : Int) s.code s.at_ s.seed = some (s', x) ∧ SrcOk s' (b + 3 * m) ∧ x.length ≤ 4 := by
    intro m
    induction m with
    | zero =>
      intro k xs s b hk hx hs hb
      obtain ⟨k, rfl⟩ : ∃ j, k = j + 1 := ⟨k - 1, by omega⟩
      rw [v2sz, if_neg (by omega)]
      exact ⟨_, _, rfl, hs.mono (by omega), by omega⟩
    | succ m ih =>
      intro k xs s b hk hx hs hb
      obtain ⟨k, rfl⟩ : ∃ j, k = j + 1 := ⟨k - 1, by omega⟩
      obtain ⟨s1, x1, e1, k1, l1, m1⟩ := next_ok (n := 256) hs (by omega) (by omega)
      rw [v2sz, if_pos (by omega), show v36z _ _ = _ from e1, obind_some, cP (by simp; omega), cP (by omega), show (((m + 1 : Nat) : Int) - 1) = (m : Int) by omega]
      obtain ⟨s', x, q1, q2, q3⟩ := ih k (xs ++ [byteOf x1]) s1 (b + 3) (by omega) (by simp; omega) k1 (by omega)
      exact ⟨s', x, q1, q2.mono (by omega), q3⟩
  have hx1 : ((x1.toNat : Nat) : Int) = x1 := by omega
  have := key x1.toNat BIG [] s1 (b + 3) (by rw [BIG_eq]; omega) (by simp; omega) k1 (by omega)
  rw [hx1] at this
  obtain ⟨s', x, q1, q2, q3⟩ := this
  exact ⟨s', x, q1, q2.mono (by omega), q3⟩
end Go.Proofs.YtlpcdcpcfeaecaaAb
end
section
namespace Go.Proofs.YtlpcdcpcfeaecaaAb
open Go
theorem calm_L1 {code : List UInt8} {at_ seed : Int} {x9 : GS × Int} {i : Int} {rc0 : List GE → Int → List UInt8 → Int → Int → Option (GS × List GE)} : ∀ (j k : Nat) (acc : List GE), j + 1 ≤ k → acc.length + j ≤ 100000 →
    ∃ acc' k', acc'.length = acc.length + j ∧ v2vz code at_ seed x9 i rc0 k acc (j : Int) = v2vz code at_ seed x9 i rc0 (k' + 1) acc' 0
  | 0, k, acc, hk, hl => by
    obtain ⟨k, rfl⟩ : ∃ j, k = j + 1 := ⟨k - 1, by omega⟩
    exact ⟨acc, k, rfl, rfl⟩
  | j + 1, k, acc, hk, hl => by
    obtain ⟨k, rfl⟩ : ∃ j, k = j + 1 := ⟨k - 1, by omega⟩
    obtain ⟨acc', k', h1, h2⟩ := calm_L1 (code := code) (at_ := at_) (seed := seed) (x9 := x9) (i := i) (rc0 := rc0) j k (acc ++ [{ Kind := 2, N := 0, Data := [] }]) (by omega) (by simp; omega)
    refine ⟨acc', k', by rw [h1]; simp; omega, ?_⟩
    rw [v2vz, if_pos (by omega), cP (by simp; omega), cP (by omega), show (((j + 1 : Nat) : Int) - 1) = (j : Int) by omega]
    exact h2
theorem calm_L0 {n : Nat} (hn : n ≤ 7) {x9 : GS × Int} : ∀ (i k : Nat) (acc : List GE) (s : GS) (b : Int), i + 1 ≤ k → acc.length + 30 * i ≤ 1000 → SrcOk s b → b + 15 * i ≤ 800000000 →
    ∃ s' out, v2uz (n : Int) x9 k acc (i : Int) s.code s.at_ s.seed = some (s', out) ∧ SrcOk s' (b + 15 * i) ∧ out.length ≤ acc.length + 30 * i
  | 0, k, acc, s, b, hk, hl, hs, hb => by
    obtain ⟨k, rfl⟩ : ∃ j, k = j + 1 := ⟨k - 1, by omega⟩
    rw [v2uz, if_neg (by omega)]
    exact ⟨_, _, rfl, hs.mono (by omega), by omega⟩
  | i + 1, k, acc, s, b, hk, hl, hs, hb => by
    obtain ⟨k, rfl⟩ : ∃ j, k = j + 1 := ⟨k - 1, by omega⟩
    rw [v2uz, if_pos (by omega), cP (by omega), show (3 : Int) * (n : Int) = ((3 * n : Nat) : Int) by omega]
    obtain ⟨acc', k', h1, h2⟩ := calm_L1 (code := s.code) (at_ := s.at_) (seed := s.seed) (x9 := x9) (i := ((i + 1 : Nat) : Int)) (rc0 := v2uz (n : Int) x9 k) (3 * n) BIG acc (by rw [BIG_eq]; omega) (by omega)
    rw [h2, v2vz, if_neg (by omega)]
    obtain ⟨s1, x1, e1, k1, l1⟩ := bytes_ok hs (by omega)
    rw [show v2rz _ _ = _ from e1, obind_some, cP (by simp; omega), cP (by omega), show (((i + 1 : Nat) : Int) - 1) = (i : Int) by omega]
    obtain ⟨s', out, q1, q2, q3⟩ := calm_L0 (n := n) hn (x9 := x9) i k (acc' ++ [{ Kind := 7, N := x9.2, Data := x1 }, { Kind := 1, N := x9.2, Data := [] }]) s1 (b + 15) (by omega) (by simp; omega) k1 (by omega)
    exact ⟨s', out, q1, q2.mono (by omega), by simp at q3; omega⟩
theorem calm_ok {s : GS} {b : Int} {n : Nat} (hn : n ≤ 7) (h : SrcOk s b) (hb : b ≤ 700000000) : ∃ s' out, v2tz s (n : Int) = some (s', out) ∧ SrcOk s' (b + 100) ∧ out.length ≤ 200 := by
  unfold v2tz
  obtain ⟨s1, x1, e1, k1, l1, m1⟩ := next_ok (n := (n : Int)) h (by omega) (by omega)
  rw [show v36z _ _ = _ from e1, obind_some]
  obtain ⟨s2, x2, e2, k2, l2, m2⟩ := next_ok (n := 4) k1 (by omega) (by omega)
  rw [show v36z _ _ = _ from e2, obind_some]
  dsimp only
  rw [cP (by omega)]
  obtain ⟨i, hi⟩ : ∃ i : Nat, (2 : Int) + x2 = (i : Int) := ⟨((2 : Int) + x2).toNat, by omega⟩
  rw [hi]
  obtain ⟨s', out, q1, q2, q3⟩ := calm_L0 hn (x9 := (s1, x1)) i BIG [{ Kind := 1, N := x1, Data := [] }] s2 (b + 3 + 3) (by rw [BIG_eq]; omega) (by simp; omega) k2 (by omega)
  exact ⟨s', out, q1, q2.mono (by omega), by simp at q3; omega⟩
theorem two_ok {x : Int} {a c : Int} (h0 : 0 ≤ x) (h1 : x < 2 ∨ ((2 : Int) ≤ 1 ∧ x = 0)) : ∃ y, idx ([a, c] : List Int) x = some y := by
  have : x = 0 ∨ x = 1 := by omega
  rcases this with rfl | rfl
  · exact ⟨a, rfl⟩
  · exact ⟨c, rfl⟩
theorem events_L0 {n : Nat} (hn : n ≤ 7) : ∀ (i k : Nat) (acc : List GE) (s : GS) (b : Int), i + 1 ≤ k → acc.length + i ≤ 1000 → SrcOk s b → b + 40 * i ≤ 800000000 →
    ∃ s' out, v2zz (n : Int) k acc (i : Int) s.code s.at_ s.seed = some (s', out) ∧ SrcOk s' (b + 40 * i) ∧ out.length ≤ acc.length + i
  | 0, k, acc, s, b, hk, hl, hs, hb => by
    obtain ⟨k, rfl⟩ : ∃ j, k = j + 1 := ⟨k - 1, by omega⟩
    rw [v2zz, if_neg (by omega)]
    exact ⟨_, _, rfl, hs.mono (by omega), by omega⟩
  | i + 1, k, acc, s, b, hk, hl, hs, hb => by
    obtain ⟨k, rfl⟩ : ∃ j, k = j + 1 := ⟨k - 1, by omega⟩
    have step : ∀ (acc' : List GE) (s1 : GS), acc'.length ≤ acc.length + 1 → SrcOk s1 (b + 40) → ∃ s' out, v2yz ((i + 1 : Nat) : Int) (v2zz (n : Int) k) acc' s1.code s1.at_ s1.seed = some (s', out) ∧ SrcOk s' (b + 40 * ((i + 1 : Nat) : Int)) ∧ out.length ≤ acc.length + (i + 1) := by
      intro acc' s1 h1 h2
      unfold v2yz
      rw [cP (by omega), show (((i + 1 : Nat) : Int) - 1) = (i : Int) by omega]
      obtain ⟨s', out, q1, q2, q3⟩ := events_L0 (n := n) hn i k acc' s1 (b + 40) (by omega) (by omega) h2 (by omega)
      exact ⟨s', out, q1, q2.mono (by omega), by omega⟩
    obtain ⟨s1, x1, e1, k1, l1, m1⟩ := next_ok (n := 12) hs (by omega) (by omega)
    rw [v2zz, if_pos (by omega), show v36z _ _ = _ from e1, obind_some]
    dsimp only
    by_cases c0 : x1 = 0
    · rw [if_pos c0]
      obtain ⟨s2, x2, e2, k2, l2, m2⟩ := next_ok (n := (n : Int)) k1 (by omega) (by omega)
      rw [show v36z _ _ = _ from e2, obind_some, cP (by simp; omega)]
      exact step _ s2 (by simp) (k2.mono (by omega))
    rw [if_neg c0]
    by_cases c1 : x1 = 1
    · rw [if_pos c1]
      obtain ⟨s2, x2, e2, k2, l2, m2⟩ := next_ok (n := (n : Int)) k1 (by omega) (by omega)
      rw [show v36z _ _ = _ from e2, obind_some]
      obtain ⟨s3, x3, e3, k3, l3⟩ := bytes_ok k2 (by omega)
      rw [show v2rz _ _ = _ from e3, obind_some, cP (by simp; omega)]
      exact step _ s3 (by simp) (k3.mono (by omega))
    rw [if_neg c1]
    by_cases c2 : x1 = 2
    · rw [if_pos c2]
      obtain ⟨s2, x2, e2, k2, l2, m2⟩ := next_ok (n := 2) k1 (by omega) (by omega)
      rw [show v36z _ _ = _ from e2, obind_some]
      obtain ⟨y, hy⟩ := two_ok (a := 3) (c := 4) l2 m2
      dsimp only
      rw [hy, obind_some]
      obtain ⟨s3, x3, e3, k3, l3, m3⟩ := next_ok (n := 5) k2 (by omega) (by omega)
      rw [show v36z _ _ = _ from e3, obind_some, cP (by simp; omega)]
      exact step _ s3 (by simp) (k3.mono (by omega))
    rw [if_neg c2]
    by_cases c3 : x1 = 3
    · rw [if_pos c3]
      obtain ⟨s2, x2, e2, k2⟩ := chance_ok (n := 2) k1 (by omega) (by omega) (by omega)
      rw [show v2wz _ _ = _ from e2, obind_some]
      dsimp only
      by_cases c4 : x2 = true
      · rw [if_pos c4]
        obtain ⟨s3, x3, e3, k3, l3, m3⟩ := next_ok (n := 2) k2 (by omega) (by omega)
        rw [show v36z _ _ = _ from e3, obind_some]
        obtain ⟨y, hy⟩ := two_ok (a := 5) (c := 6) l3 m3
        dsimp only
        rw [hy, obind_some]
        obtain ⟨s4, x4, e4, k4, l4, m4⟩ := next_ok (n := (n : Int)) k3 (by omega) (by omega)
        rw [show v36z _ _ = _ from e4, obind_some, cP (by simp; omega)]
        exact step _ s4 (by simp) (k4.mono (by omega))
      · rw [if_neg c4]
        exact step _ s2 (by omega) (k2.mono (by omega))
    rw [if_neg c3]
    obtain ⟨s2, x2, e2, k2, l2, m2⟩ := next_ok (n := 4) k1 (by omega) (by omega)
    rw [show v36z _ _ = _ from e2, obind_some, cP (by simp; omega)]
    exact step _ s2 (by simp) (k2.mono (by omega))
theorem events_ok {s : GS} {b : Int} {n : Nat} (hn : n ≤ 7) (h : SrcOk s b) (hb : b ≤ 600000000) : ∃ s' out, v2xz s (n : Int) = some (s', out) ∧ SrcOk s' (b + 3000) ∧ out.length ≤ 100 := by
  unfold v2xz v38z
  have hc := h.code
  rw [cP ⟨by omega, by show (s.code.length : Int) < _; omega, by omega⟩, cP (by show _ ≤ (1 : Int) + (s.code.length : Int) / 12 ∧ _; constructor <;> omega), obind_some]
  have hsz : ∃ z : Nat, (if (60 : Int) < (1 : Int) + (s.code.length : Int) / 12 then (60 : Int) else (1 : Int) + (s.code.length : Int) / 12) = (z : Int) ∧ z ≤ 60 := by
    split
    · exact ⟨60, rfl, by omega⟩
    · exact ⟨((1 : Int) + (s.code.length : Int) / 12).toNat, by omega, by omega⟩
  obtain ⟨z, hz, hz2⟩ := hsz
  rw [hz, cP (by omega)]
  obtain ⟨s1, x1, e1, k1, l1, m1⟩ := next_ok (n := (z : Int) + 10) h (by omega) (by omega)
  rw [show v36z _ _ = _ from e1, obind_some]
  dsimp only
  obtain ⟨i, hi⟩ : ∃ i : Nat, x1 = (i : Int) := ⟨x1.toNat, by omega⟩
  rw [hi]
  obtain ⟨s', out, q1, q2, q3⟩ := events_L0 hn i BIG [] s1 (b + 3) (by rw [BIG_eq]; omega) (by simp; omega) k1 (by omega)
  exact ⟨s', out, q1, q2.mono (by omega), by simp at q3; omega⟩
theorem anyEvents_ok {s : GS} {b : Int} {n : Nat} (hn : n ≤ 7) (h : SrcOk s b) (hb : b ≤ 500000000) : ∃ s' out, v2oz s (n : Int) = some (s', out) ∧ SrcOk s' (b + 10000) ∧ out.length ≤ 300 := by
  have fin : ∀ (xs : List GE) (s1 : GS), SrcOk s1 (b + 10000) → ∃ s' out, v2pz xs s1.code s1.at_ s1.seed = some (s', out) ∧ SrcOk s' (b + 10000) ∧ out.length ≤ 300 := by
    intro xs s1 h1
    unfold v2pz
    rw [slc_head (by split <;> omega) (by split <;> omega), obind_some]
    refine ⟨_, _, rfl, h1, ?_⟩
    rw [List.length_take]
    split <;> omega
  unfold v2oz
  obtain ⟨s1, x1, e1, k1, l1⟩ := calm_ok hn h (by omega)
  rw [show v2tz _ _ = _ from e1, obind_some]
  obtain ⟨s2, x2, e2, k2, l2⟩ := events_ok hn k1 (by omega)
  rw [show v2xz _ _ = _ from e2, obind_some]
  dsimp only
  rw [cP (by omega)]
  obtain ⟨s3, x3, e3, k3⟩ := chance_ok (n := 2) k2 (by omega) (by omega) (by omega)
  rw [show v2wz _ _ = _ from e3, obind_some]
  dsimp only
  by_cases c : x3 = true
  · rw [if_pos c]
    obtain ⟨s4, x4, e4, k4, l4⟩ := calm_ok hn k3 (by omega)
    rw [show v2tz _ _ = _ from e4, obind_some]
    dsimp only
    rw [cP (by simp; omega)]
    exact fin _ s4 (k4.mono (by omega))
  · rw [if_neg c]
    exact fin _ s3 (k3.mono (by omega))
end Go.Proofs.YtlpcdcpcfeaecaaAb
end
section
namespace Go.Proofs.YtlpcdcpcfeaecaaAb
open Go
theorem pick_ok {s : GS} {b : Int} {xs : List Str} (h : SrcOk s b) (hb : b ≤ 900000000) (hl : xs.length ≤ 100) {m : Nat} (hx : ∀ x ∈ xs, x.length ≤ m) : ∃ s' x, v37z s xs = some (s', x) ∧ SrcOk s' (b + 3) ∧ x.length ≤ m := by
  unfold v37z
  by_cases h0 : (xs.length : Int) = 0
  · rw [if_pos h0]; exact ⟨_, _, rfl, h.mono (by omega), Nat.zero_le _⟩
  · rw [if_neg h0]
    obtain ⟨s1, x1, e1, k1, l1, m1⟩ := next_ok (n := (xs.length : Int)) h (by omega) (by omega)
    rw [show v36z _ _ = _ from e1, obind_some]
    dsimp only
    rw [idx_pos l1 (by omega), obind_some]
    exact ⟨_, _, rfl, k1, hx _ (List.getElem_mem _)⟩
theorem put_ok : ∀ (m : Nat) (k : Nat) (x : Int) (acc : List UInt8), 0 ≤ x → x < (128 : Int) ^ (m + 1) → x < 1000000000000 → m + 1 ≤ k → acc.length + m ≤ 1000 → ∃ out, v3az k x acc = some out ∧ out.length ≤ acc.length + m + 1
  | 0, k, x, acc, h0, h1, h2, hk, hl => by
    obtain ⟨k, rfl⟩ : ∃ j, k = j + 1 := ⟨k - 1, by omega⟩
    have h3 : x < 128 := by simpa using h1
    rw [v3az, if_neg (by omega), cP (by simp; omega)]
    exact ⟨_, rfl, by simp⟩
  | m + 1, k, x, acc, h0, h1, h2, hk, hl => by
    obtain ⟨k, rfl⟩ : ∃ j, k = j + 1 := ⟨k - 1, by omega⟩
    rw [v3az]
    by_cases hx : (128 : Int) ≤ x
    · rw [if_pos hx, cP (by omega), cP (by simp; omega), cP (by omega)]
      have h4 : x / 128 < (128 : Int) ^ (m + 1) := by
        rw [Int.pow_succ] at h1
        exact Int.ediv_lt_of_lt_mul (by omega) h1
      obtain ⟨out, e1, e2⟩ := put_ok m k (x / 128) (acc ++ [byteOf (x % 128) ||| 128]) (by omega) h4 (by omega) (by omega) (by simp; omega)
      exact ⟨out, e1, by simp at e2; omega⟩
    · rw [if_neg hx, cP (by simp; omega)]
      exact ⟨_, rfl, by simp⟩
theorem put1 {x : Int} (h0 : 0 ≤ x) (h1 : x ≤ 1000000) : ∃ out, v39z x = some out ∧ out.length ≤ 3 := by
  unfold v39z
  obtain ⟨out, e1, e2⟩ := put_ok 2 BIG x [] h0 (by omega) (by omega) (Nat.le_of_ble_eq_true rfl) (by simp)
  exact ⟨out, e1, by simpa using e2⟩
theorem text_ok {x : Str} (h : x.length ≤ 1000) : ∃ out, v3dz x = some out ∧ out.length ≤ 1003 := by
  unfold v3dz
  obtain ⟨out, e1, e2⟩ := put1 (x := (x.length : Int)) (by omega) (by omega)
  have hl : (lst x).length = x.length := rfl
  rw [e1, obind_some, cP (by rw [hl]; omega)]
  exact ⟨_, rfl, by rw [List.length_append, hl]; omega⟩
structure JobOk (j : GJob) : Prop where
  c : 0 ≤ j.Client ∧ j.Client ≤ 1000000
  s : 0 ≤ j.Seq ∧ j.Seq ≤ 1000000
  v : 0 ≤ j.Version ∧ j.Version ≤ 1000000
  f : j.File.length ≤ 1000
  sc : j.Script.length ≤ 1000
  t : j.Text.length ≤ 1000
theorem jobBytes_ok {j : GJob} (h : JobOk j) : ∃ out, v3bz j = some out := by
  unfold v3bz v3cz
  obtain ⟨o1, e1, l1⟩ := put1 h.c.1 h.c.2
  obtain ⟨o2, e2, l2⟩ := put1 h.s.1 h.s.2
  obtain ⟨o3, e3, l3⟩ := text_ok h.f
  obtain ⟨o4, e4, l4⟩ := put1 h.v.1 h.v.2
  obtain ⟨o5, e5, l5⟩ := text_ok h.sc
  obtain ⟨o6, e6, l6⟩ := text_ok h.t
  rw [e1, obind_some, e2, obind_some, cP (by omega), e3, obind_some, cP (by simp; omega), e4, obind_some, cP (by simp; omega), e5, obind_some, cP (by simp; omega), e6, obind_some, cP (by simp; omega)]
  cases j.Ere <;> cases j.Quiet
  · rw [if_neg (by decide), obind_some, obind_some, cP (by omega), cP (by omega), cP (by simp; omega)]; exact ⟨_, rfl⟩
  · rw [if_neg (by decide), obind_some, if_pos rfl, obind_some, cP (by omega), cP (by omega), cP (by simp; omega)]; exact ⟨_, rfl⟩
  · rw [if_pos rfl, obind_some, if_neg (by decide), obind_some, cP (by omega), cP (by omega), cP (by simp; omega)]; exact ⟨_, rfl⟩
  · rw [if_pos rfl, obind_some, obind_some, cP (by omega), cP (by omega), cP (by simp; omega)]; exact ⟨_, rfl⟩
theorem all_len {xs : List Str} {m : Nat} (h : xs.all (fun x => decide (x.length ≤ m)) = true) : ∀ x ∈ xs, x.length ≤ m := fun x hx => of_decide_eq_true (List.all_eq_true.1 h x hx)
theorem pick_bind {β : Type} {s : GS} {b : Int} {xs : List Str} {K : GS × Str → Option β} {R : β → Prop} (h : SrcOk s b) (hb : b ≤ 900000000) (hl : xs.length ≤ 100) (hx : xs.all (fun x => decide (x.length ≤ 100)) = true)
    (k : ∀ s' x, SrcOk s' (b + 3) → x.length ≤ 100 → ∃ r, K (s', x) = some r ∧ R r) : ∃ r, (v37z s xs).bind K = some r ∧ R r := by
  obtain ⟨s', x, e, k1, l1⟩ := pick_ok (m := 100) h hb hl (all_len hx)
  obtain ⟨r, e2, e3⟩ := k s' x k1 l1
  exact ⟨r, by rw [e]; exact e2, e3⟩
theorem job_ok {s : GS} {b : Int} (h : SrcOk s b) (hb : b ≤ 400000000) : ∃ s' j, v30z s = some (s', j) ∧ SrcOk s' (b + 100) ∧ JobOk j := by
  have fin : ∀ (x15 x41 : GS × Int) (x85 : GS × Str) (x110 : GS × Int) (x153 : GS × Str) (t : Str) (s1 : GS), SrcOk s1 (b + 50) → 0 ≤ x15.2 ∧ x15.2 ≤ 100 → 0 ≤ x41.2 ∧ x41.2 ≤ 100 → 0 ≤ x110.2 ∧ x110.2 ≤ 100 → x85.2.length ≤ 100 → x153.2.length ≤ 100 → t.length ≤ 100 →
      ∃ s' j, v35z x15 x41 x85 x110 x153 t s1.code s1.at_ s1.seed = some (s', j) ∧ SrcOk s' (b + 100) ∧ JobOk j := by
    intro x15 x41 x85 x110 x153 t s1 hs h1 h2 h3 h4 h5 h6
    unfold v35z
    obtain ⟨s2, x2, e2, k2⟩ := chance_ok (n := 5) hs (by omega) (by omega) (by omega)
    rw [show v2wz _ _ = _ from e2, obind_some]
    obtain ⟨s3, x3, e3, k3⟩ := chance_ok (n := 5) k2 (by omega) (by omega) (by omega)
    rw [show v2wz _ _ = _ from e3, obind_some]
    exact ⟨_, _, rfl, k3.mono (by omega), ⟨⟨by show 0 ≤ 1 + x15.2; omega, by show 1 + x15.2 ≤ _; omega⟩, ⟨by show 0 ≤ 1 + x41.2; omega, by show 1 + x41.2 ≤ _; omega⟩, ⟨h3.1, by show x110.2 ≤ _; omega⟩, by show x85.2.length ≤ _; omega, by show x153.2.length ≤ _; omega, by show t.length ≤ _; omega⟩⟩
  suffices hh : ∃ r : GS × GJob, v30z s = some r ∧ (SrcOk r.1 (b + 100) ∧ JobOk r.2) by
    obtain ⟨⟨a, c⟩, h1, h2, h3⟩ := hh
    exact ⟨a, c, h1, h2, h3⟩
  unfold v30z
  obtain ⟨s1, x1, e1, k1, l1, m1⟩ := next_ok (n := 3) h (by omega) (by omega)
  rw [show v36z _ _ = _ from e1, obind_some, cP (by dsimp only; omega)]
  obtain ⟨s2, x2, e2, k2, l2, m2⟩ := next_ok (n := 4) k1 (by omega) (by omega)
  rw [show v36z _ _ = _ from e2, obind_some, cP (by dsimp only; omega)]
  refine pick_bind (s := s2) k2 (by omega) (by decide) (by decide) (fun s3 x3 k3 l3 => ?_)
  obtain ⟨s4, x4, e4, k4, l4, m4⟩ := next_ok (n := 3) k3 (by omega) (by omega)
  rw [show v36z _ _ = _ from e4, obind_some]
  refine pick_bind (s := s4) k4 (by omega) (by decide) (by decide) (fun s5 x5 k5 l5 => ?_)
  dsimp only
  by_cases c : x4 = 0
  · rw [if_pos c]
    refine pick_bind (s := s5) k5 (by omega) (by decide) (by decide) (fun s6 x6 k6 l6 => ?_)
    obtain ⟨a, d, h1, h2, h3⟩ := fin (s1, x1) (s2, x2) (s3, x3) (s4, x4) (s5, x5) x6 s6 (k6.mono (by omega)) ⟨l1, by show x1 ≤ 100; omega⟩ ⟨l2, by show x2 ≤ 100; omega⟩ ⟨l4, by show x4 ≤ 100; omega⟩ l3 l5 l6
    exact ⟨(a, d), h1, h2, h3⟩
  · rw [if_neg c]
    obtain ⟨a, d, h1, h2, h3⟩ := fin (s1, x1) (s2, x2) (s3, x3) (s4, x4) (s5, x5) [] s5 (k5.mono (by omega)) ⟨l1, by show x1 ≤ 100; omega⟩ ⟨l2, by show x2 ≤ 100; omega⟩ ⟨l4, by show x4 ≤ 100; omega⟩ l3 l5 (Nat.zero_le _)
    exact ⟨(a, d), h1, h2, h3⟩
end Go.Proofs.YtlpcdcpcfeaecaaAb
end
section
namespace Go.Proofs.YtlpcdcpcfeaecaaAb
open Go
theorem jobEvents_L0 {x9 : GS × List GE} (hx9 : x9.2.length ≤ 300) : ∀ (m k j : Nat) (xs : List GE) (s : GS) (b : Int), x9.2.length - j = m → m + 1 ≤ k → xs.length = x9.2.length → SrcOk s b → b + 200 * m ≤ 300000000 →
    ∃ s' out, v34z x9 k xs (j : Int) s.code s.at_ s.seed = some (s', out) ∧ out.length = x9.2.length := by
  intro m
  induction m with
  | zero =>
    intro k j xs s b hm hk hl hs hb
    obtain ⟨k, rfl⟩ : ∃ j, k = j + 1 := ⟨k - 1, by omega⟩
    rw [v34z, if_neg (by omega)]
    exact ⟨_, _, rfl, hl⟩
  | succ m ih =>
    intro k j xs s b hm hk hl hs hb
    obtain ⟨k, rfl⟩ : ∃ j, k = j + 1 := ⟨k - 1, by omega⟩
    have hlt : j < xs.length := by omega
    have step : ∀ (xs' : List GE) (s1 : GS), xs'.length = x9.2.length → SrcOk s1 (b + 200) → ∃ s' out, v32z (j : Int) (v34z x9 k) xs' s1.code s1.at_ s1.seed = some (s', out) ∧ out.length = x9.2.length := by
      intro xs' s1 h1 h2
      unfold v32z
      rw [cP (by omega), show ((j : Int) + 1) = ((j + 1 : Nat) : Int) by omega]
      exact ih k (j + 1) xs' s1 (b + 200) (by omega) (by omega) h1 h2 (by omega)
    have step2 : ∀ (bb : Bool) (s1 : GS), SrcOk s1 (b + 3) → ∃ s' out, v33z xs (j : Int) (v34z x9 k) bb s1.code s1.at_ s1.seed = some (s', out) ∧ out.length = x9.2.length := by
      intro bb s1 h1
      unfold v33z
      by_cases hbb : bb = true
      · rw [if_pos hbb]
        obtain ⟨s2, jb, e2, k2, hj⟩ := job_ok h1 (by omega)
        rw [show v30z _ = _ from e2, obind_some]
        obtain ⟨bs, e3⟩ := jobBytes_ok hj
        rw [show v3bz _ = _ from e3, obind_some, xN hlt, obind_some]
        exact step _ s2 (by rw [sIL]; exact hl) (k2.mono (by omega))
      · rw [if_neg hbb]
        exact step _ s1 hl (h1.mono (by omega))
    rw [v34z, if_pos (by omega), xN hlt, obind_some]
    by_cases c : xs[j].Kind = 7
    · rw [if_pos c]
      obtain ⟨s1, x1, e1, k1⟩ := chance_ok (n := 6) hs (by omega) (by omega) (by omega)
      rw [show v2wz _ _ = _ from e1, obind_some]
      exact step2 _ s1 k1
    · rw [if_neg c]
      exact step2 _ s (hs.mono (by omega))
theorem eventsOf_ok {xs : List UInt8} {n : Nat} (hn : n ≤ 7) (hl : xs.length ≤ 1048576) : ∃ es, v2kz xs (n : Int) = some es ∧ es.length ≤ 300 := by
  unfold v2kz v2nz v31z
  rw [cP (by omega), obind_some]
  have h0 : SrcOk { code := xs, at_ := 0, seed := ((xs.length : Int) % 1000) } 0 := ⟨Int.le_refl _, Int.le_refl _, by show 0 ≤ (xs.length : Int) % 1000; omega, by show (xs.length : Int) % 1000 < _; omega, hl⟩
  obtain ⟨s1, es1, e1, k1, l1⟩ := anyEvents_ok hn h0 (by omega)
  rw [show v2oz _ _ = _ from e1, obind_some]
  obtain ⟨s2, es2, e2, l2⟩ := jobEvents_L0 (x9 := (s1, es1)) l1 _ BIG 0 es1 s1 10000 rfl (by rw [BIG_eq]; show es1.length - 0 + 1 ≤ _; omega) rfl (k1.mono (by omega)) (by show (10000 : Int) + 200 * ((es1.length - 0 : Nat) : Int) ≤ _; omega)
  exact ⟨es2, (congrArg (fun o => Option.bind o (fun x25 : GS × List GE => some x25.2)) e2).trans rfl, by rw [l2]; exact l1⟩
theorem at_ok {xs : List UInt8} {k n : Int} (hk : 0 ≤ k) (hk2 : k ≤ 1000) (hn : 2 ≤ n) (hn2 : n ≤ 1000) (hl : xs.length ≤ 1048576) : ∃ x, v1yz xs k n = some x ∧ 0 ≤ x ∧ x < n := by
  unfold v1yz
  rw [if_neg (by omega)]
  by_cases h0 : (xs.length : Int) = 0
  · rw [if_pos h0, cP (by omega), cP (by omega)]
    exact ⟨_, rfl, Int.emod_nonneg _ (by omega), Int.emod_lt_of_pos _ (by omega)⟩
  · rw [if_neg h0, cP (by omega)]
    have a0 := Int.emod_nonneg k (show (xs.length : Int) ≠ 0 from h0)
    have a1 := Int.emod_lt_of_pos k (show (0 : Int) < (xs.length : Int) by omega)
    have b0 := Int.emod_nonneg (k + 1) (show (xs.length : Int) ≠ 0 from h0)
    have b1 := Int.emod_lt_of_pos (k + 1) (show (0 : Int) < (xs.length : Int) by omega)
    have c0 := Int.ediv_nonneg hk (show (0 : Int) ≤ (xs.length : Int) by omega)
    have c1 : k / (xs.length : Int) ≤ k := Int.ediv_le_self _ hk
    rw [idx_pos a0 a1, obind_some]
    have d0 := (xs[(k % (xs.length : Int)).toNat]'(by omega)).toNat_lt
    have d1 := (xs[((k + 1) % (xs.length : Int)).toNat]'(by omega)).toNat_lt
    rw [cP (by omega), cP (by omega), cP (by omega), idx_pos b0 b1, obind_some, cP (by omega), cP (by omega), cP (by omega), cP (by omega)]
    exact ⟨_, rfl, Int.emod_nonneg _ (by omega), Int.emod_lt_of_pos _ (by omega)⟩
theorem peers_ok {xs : List UInt8} (hl : xs.length ≤ 1048576) : ∃ n : Nat, v1zz xs = some (n : Int) ∧ 1 ≤ n ∧ n ≤ 7 := by
  unfold v1zz
  obtain ⟨x, e, h0, h1⟩ := at_ok (k := 0) (n := 7) (by omega) (by omega) (by omega) (by omega) hl
  rw [e, obind_some]
  have : x = 0 ∨ x = 1 ∨ x = 2 ∨ x = 3 ∨ x = 4 ∨ x = 5 ∨ x = 6 := by omega
  rcases this with rfl | rfl | rfl | rfl | rfl | rfl | rfl
  · exact ⟨1, rfl, by omega, by omega⟩
  · exact ⟨3, rfl, by omega, by omega⟩
  · exact ⟨5, rfl, by omega, by omega⟩
  · exact ⟨3, rfl, by omega, by omega⟩
  · exact ⟨2, rfl, by omega, by omega⟩
  · exact ⟨4, rfl, by omega, by omega⟩
  · exact ⟨7, rfl, by omega, by omega⟩
theorem sameRecs_self {xs ys : List GR} (h : xs = ys) (hl : xs.length ≤ 1000000) : v22z xs ys = some true := by
  subst h
  unfold v22z
  rw [if_pos rfl]
  have key : ∀ (m k i : Nat), xs.length - i = m → m + 1 ≤ k → v24z xs xs k (i : Int) = some true := by
    intro m
    induction m with
    | zero =>
      intro k i hm hk
      obtain ⟨k, rfl⟩ : ∃ j, k = j + 1 := ⟨k - 1, by omega⟩
      rw [v24z, if_neg (by omega)]
    | succ m ih =>
      intro k i hm hk
      obtain ⟨k, rfl⟩ : ∃ j, k = j + 1 := ⟨k - 1, by omega⟩
      have hlt : i < xs.length := by omega
      rw [v24z, if_pos (by omega), xN hlt]
      simp only [obind_some]
      rw [if_pos trivial, if_pos trivial]
      unfold v23z
      rw [if_neg (by simp), cP (by omega), show ((i : Int) + 1) = ((i + 1 : Nat) : Int) by omega]
      exact ih k (i + 1) (by omega) (by omega)
  exact key xs.length BIG 0 rfl (by rw [BIG_eq]; omega)
end Go.Proofs.YtlpcdcpcfeaecaaAb
end
section
namespace Go.Proofs.YtlpcdcpcfeaecaaAb
open Go
theorem len_commit {c : GC} {i : Nat} {p : GP} : (mCommit c i p).Peers.length = c.Peers.length := by unfold mCommit; rw [mChoose_peers]; simp
theorem len_elect {c : GC} {i : Nat} {p : GP} : (mElect c i p).Peers.length = c.Peers.length := by
  unfold mElect
  split
  · rw [mSendAll_peers, len_commit]; unfold mLead; simp
  · rfl
theorem len_tick {c : GC} {i : Nat} {p : GP} : (mTick c i p).Peers.length = c.Peers.length := by
  unfold mTick
  split
  · rw [mSendAll_peers]
  · split
    · rw [len_elect, mAskAll_peers]; unfold mStand; simp
    · rfl
theorem len_take {c : GC} {m : GM} {i : Nat} {p : GP} : (mTake c m i p).Peers.length = c.Peers.length := by
  unfold mTake
  split
  · rw [mSend_peers]
  · split
    · rw [mSend_peers]; simp
    · rw [mSend_peers, mChoose_peers]; simp
theorem len_arr {c : GC} {m : GM} {i : Nat} {p : GP} : (mArr c m i p).Peers.length = c.Peers.length := by
  unfold mArr
  repeat' split
  · rw [mSend_peers]; simp
  · rw [len_elect]; simp
  · rfl
  · exact len_take
  · rw [len_commit]; simp
  · rw [mRecords_peers]; simp
  · rfl
  · rfl
  · rfl
theorem len_arrive {c : GC} {m : GM} : (mArrive c m).Peers.length = c.Peers.length := by
  unfold mArrive
  split
  · rfl
  · split
    · rw [len_arr]; split <;> simp
    · rfl
theorem len_event {c : GC} {e : GE} : (mEvent c e).1.Peers.length = c.Peers.length := by
  unfold mEvent
  split
  · split
    · unfold mNetEv
      split
      · rfl
      · split
        · show (mSend _ _).Peers.length = _; rw [mSend_peers]
        · split
          · show (mArrive _ _).Peers.length = _; rw [len_arrive]; rfl
          · rfl
    · rfl
  · split
    · split
      · unfold mPeerEv
        split
        · rfl
        · repeat' split
          · rfl
          · exact len_tick
          · show (List.set _ _ _).length = _; simp
          · show (List.set _ _ _).length = _; simp
          · rfl
          · show (mPropose _ _ _ _).Peers.length = _; unfold mPropose; rw [len_commit]; simp
          · rfl
      · rfl
    · rfl
theorem len_run : ∀ (es : List GE) (c : GC), (mRunE c es).Peers.length = c.Peers.length
  | [], c => rfl
  | e :: es, c => (len_run es _).trans len_event
end Go.Proofs.YtlpcdcpcfeaecaaAb
end
section
namespace Go.Proofs.YtlpcdcpcfeaecaaAb
open Go
theorem chooseL_ext : ∀ (l : List GR) (i : Nat) (ch : List GR) (cf : Bool), ∃ t, (chooseL l i ch cf).1 = ch ++ t
  | [], i, ch, cf => ⟨[], (List.append_nil _).symm⟩
  | r :: rs, i, ch, cf => by
    unfold chooseL
    split
    · obtain ⟨t, h⟩ := chooseL_ext rs (i + 1) (ch ++ [r]) cf
      exact ⟨r :: t, by rw [h, List.append_assoc]; rfl⟩
    · exact chooseL_ext rs (i + 1) ch _
theorem chooseL_len : ∀ (l : List GR) (i : Nat) (ch : List GR) (cf : Bool), i ≤ ch.length → i + l.length ≤ (chooseL l i ch cf).1.length
  | [], i, ch, cf, h => h
  | r :: rs, i, ch, cf, h => by
    unfold chooseL
    split
    · have := chooseL_len rs (i + 1) (ch ++ [r]) cf (by simp; omega)
      simp only [List.length_cons]; omega
    · have := chooseL_len rs (i + 1) ch (cf || !((ch[i]?.map (sameR r)).getD false)) (by omega)
      simp only [List.length_cons]; omega
def ChX (c d : GC) : Prop := ∃ t, d.Chosen = c.Chosen ++ t
theorem ChX.refl {c : GC} : ChX c c := ⟨[], (List.append_nil _).symm⟩
theorem ChX.of {c d : GC} (h : d.Chosen = c.Chosen) : ChX c d := ⟨[], by rw [h, List.append_nil]⟩
theorem ChX.trans {c d e : GC} (h : ChX c d) (h2 : ChX d e) : ChX c e := by
  obtain ⟨t, ht⟩ := h
  obtain ⟨u, hu⟩ := h2
  exact ⟨t ++ u, by rw [hu, ht, List.append_assoc]⟩
theorem ChX.choose {c : GC} {p : GP} : ChX c (mChoose c p) := chooseL_ext _ _ _ _
theorem ChX.commit {c : GC} {i : Nat} {p : GP} : ChX c (mCommit c i p) := chooseL_ext _ _ _ _
theorem mSendAll_chosen {c : GC} {i : Nat} {p : GP} : (mSendAll c i p).Chosen = c.Chosen :=
  mFrom_inv (I := fun d => d.Chosen = c.Chosen) (fun d j h => by rw [← h]; exact mSend_chosen) _ _ _ rfl
theorem ChX.elect {c : GC} {i : Nat} {p : GP} : ChX c (mElect c i p) := by
  unfold mElect
  split
  · exact ChX.trans (ChX.commit (c := mLead c i p)) (ChX.of mSendAll_chosen)
  · exact .refl
theorem ChX.tick {c : GC} {i : Nat} {p : GP} : ChX c (mTick c i p) := by
  unfold mTick
  split
  · exact .of mSendAll_chosen
  · split
    · exact ChX.trans (.of (d := mAskAll (mStand c i p) i (mCand c.Peers.length i p)) mAskAll_chosen) .elect
    · exact .refl
theorem ChX.mtake {c : GC} {m : GM} {i : Nat} {p : GP} : ChX c (mTake c m i p) := by
  unfold mTake
  split
  · exact .of mSend_chosen
  · split
    · exact .of mSend_chosen
    · exact ChX.trans (ChX.choose (c := { c with Peers := c.Peers.set i (mTaken m p) })) (.of mSend_chosen)
theorem ChX.arr {c : GC} {m : GM} {i : Nat} {p : GP} : ChX c (mArr c m i p) := by
  unfold mArr
  split
  · exact .of mSend_chosen
  split
  · split
    · exact ChX.elect (c := { c with Peers := c.Peers.set i (mHeard m p) })
    · exact .refl
  split
  · exact .mtake
  split
  · split
    · split
      · exact ChX.commit (c := { c with Peers := c.Peers.set i (mAcked m p (atI p.Next m.From) (atI p.Match m.From)) })
      · split
        · exact .of (by unfold mRecords; rw [mSend_chosen])
        · exact .refl
    · exact .refl
  · exact .refl
theorem ChX.arrive {c : GC} {m : GM} : ChX c (mArrive c m) := by
  unfold mArrive
  split
  · exact .refl
  · split
    · split
      · exact ChX.trans (d := { c with Peers := c.Peers.set m.To.toNat _ }) (.of rfl) .arr
      · exact .arr
    · exact .refl
theorem ChX.event {c : GC} {e : GE} : ChX c (mEvent c e).1 := by
  unfold mEvent
  split
  · split
    · unfold mNetEv
      split
      · exact .refl
      · split
        · exact .of mSend_chosen
        · split
          · exact ChX.trans (d := mCut c e.N.toNat) (.of rfl) .arrive
          · exact .of rfl
    · exact .refl
  · split
    · split
      · unfold mPeerEv
        split
        · exact .refl
        · next p hp =>
          split
          · exact .refl
          split
          · exact .tick
          split
          · exact .of rfl
          split
          · exact .of rfl
          split
          · split
            · exact .refl
            · exact ChX.commit (c := { c with Peers := c.Peers.set e.N.toNat (mGrown e.N.toNat p e.Data) })
          · exact .refl
      · exact .refl
    · exact .refl
theorem chosen_len {g : RGh} {c : GC} (h : CInv g c) : c.Chosen.length ≤ 100 := by
  rcases h.ch with h1 | ⟨T, k, a, b, d⟩
  · rw [h1]; simp
  · have := d.2.1
    have := (h.gi.log T).len
    omega
end Go.Proofs.YtlpcdcpcfeaecaaAb
end
section
namespace Go.Proofs.YtlpcdcpcfeaecaaAb
open Go
def CC (c : GC) : Prop := ∀ p ∈ c.Peers, p.Commit ≤ (c.Chosen.length : Int)
theorem CC.set {c : GC} {i : Nat} {p : GP} (h : CC c) (hp : p.Commit ≤ (c.Chosen.length : Int)) : CC { c with Peers := c.Peers.set i p } := fun q hq => by
  rcases List.mem_or_eq_of_mem_set hq with h1 | rfl
  · exact h q h1
  · exact hp
theorem CC.send {c : GC} {m : GM} (h : CC c) : CC (mSend c m) := by
  unfold mSend
  split
  · exact h
  · exact h
theorem CC.choose {c : GC} {p : GP} (h : ∀ q ∈ c.Peers, q.Commit ≤ (c.Chosen.length : Int) ∨ q = p) (h1 : p.Commit ≤ (p.Log.length : Int)) : CC (mChoose c p) := fun q hq => by
  have hl : c.Chosen.length ≤ (mChoose c p).Chosen.length := by
    obtain ⟨t, ht⟩ := ChX.choose (c := c) (p := p)
    rw [ht]; simp
  rcases h q hq with h2 | rfl
  · omega
  · have := chooseL_len (q.Log.take q.Commit.toNat) 0 c.Chosen c.Conflict (Nat.zero_le _)
    have h3 : 0 + (q.Log.take q.Commit.toNat).length ≤ (mChoose c q).Chosen.length := this
    rw [List.length_take] at h3
    omega
theorem CC.commit {c : GC} {i : Nat} {p : GP} (h : CC c) (h0 : 0 ≤ p.Commit) (h1 : p.Commit ≤ (p.Log.length : Int)) : CC (mCommit c i p) := by
  unfold mCommit
  refine CC.choose (fun q hq => ?_) (by rw [mCommitP_log]; exact (mCommitP_ge h0 h1).2)
  rcases List.mem_or_eq_of_mem_set hq with h2 | rfl
  · exact .inl (h q h2)
  · exact .inr rfl
theorem CC.sendAll {c : GC} {i : Nat} {p : GP} (h : CC c) : CC (mSendAll c i p) := mFrom_inv (I := CC) (fun d j hd => CC.send hd) _ _ _ h
theorem CC.askAll {c : GC} {i : Nat} {p : GP} (h : CC c) : CC (mAskAll c i p) := mFrom_inv (I := CC) (fun d j hd => CC.send hd) _ _ _ h
theorem CC.elect {c : GC} {i : Nat} {p : GP} (h : CC c) (hp : p.Commit ≤ (c.Chosen.length : Int)) (h0 : 0 ≤ p.Commit) (h1 : p.Commit ≤ (p.Log.length : Int)) : CC (mElect c i p) := by
  unfold mElect
  split
  · exact CC.sendAll (CC.commit (c := mLead c i p) (p := mLeader c.Peers.length i p) (h.set (p := mLeader c.Peers.length i p) hp) h0 h1)
  · exact h
theorem CC.tick {c : GC} {i : Nat} {p : GP} (h : CC c) (hp : p.Commit ≤ (c.Chosen.length : Int)) (h0 : 0 ≤ p.Commit) (h1 : p.Commit ≤ (p.Log.length : Int)) : CC (mTick c i p) := by
  unfold mTick
  split
  · exact h.sendAll
  · split
    · exact CC.elect (CC.askAll (c := mStand c i p) (h.set (p := mCand c.Peers.length i p) hp)) (by rw [mAskAll_chosen]; exact hp) h0 h1
    · exact h
theorem CC.mtake {c : GC} {m : GM} {i : Nat} {p : GP} (h : CC c) (hp : p.Commit ≤ (c.Chosen.length : Int)) (hk : TakeOk m p) : CC (mTake c m i p) := by
  have hf : (mFollow m p).Commit = p.Commit := by unfold mFollow; dsimp only; exact mFresh_commit
  unfold mTake
  split
  · exact h.send
  · next h1 =>
    split
    · exact CC.send (c := { c with Peers := c.Peers.set i (mFollow m p) }) (h.set (by rw [hf]; exact hp))
    · next h2 =>
      obtain ⟨k1, k2, k3⟩ := hk (by omega) (by omega) (Classical.not_not.1 (fun h3 => h2 (.inr h3)))
      refine CC.send (CC.choose (fun q hq => ?_) k2)
      rcases List.mem_or_eq_of_mem_set hq with h3 | rfl
      · exact .inl (h q h3)
      · exact .inr rfl
theorem CC.arr {c : GC} {m : GM} {i n : Nat} {p : GP} (h : CC c) (hp : p.Commit ≤ (c.Chosen.length : Int)) (ok : PeerOk n p) (hk : TakeOk m p) : CC (mArr c m i p) := by
  have h0 := ok.com0
  have h1 := ok.com1
  unfold mArr
  split
  · refine CC.send (c := { c with Peers := c.Peers.set i (mVoted m p) }) (h.set ?_)
    unfold mVoted
    split <;> exact hp
  split
  · split
    · exact CC.elect (c := { c with Peers := c.Peers.set i (mHeard m p) }) (p := mHeard m p) (h.set (p := mHeard m p) hp) hp h0 h1
    · exact h
  split
  · exact h.mtake hp hk
  split
  · split
    · split
      · exact CC.commit (c := { c with Peers := c.Peers.set i (mAcked m p (atI p.Next m.From) (atI p.Match m.From)) }) (p := mAcked m p (atI p.Next m.From) (atI p.Match m.From)) (h.set (p := mAcked m p (atI p.Next m.From) (atI p.Match m.From)) hp) h0 h1
      · split
        · exact CC.send (c := { c with Peers := c.Peers.set i (mNaked m p (atI p.Match m.From)) }) (h.set (p := mNaked m p (atI p.Match m.From)) hp)
        · exact h
    · exact h
  · exact h
theorem mNewer_commit {m : GM} {p : GP} : (mNewer m p).Commit = p.Commit := by unfold mNewer; split <;> rfl
theorem CC.event {c : GC} {e : GE} (h : CC c) (ok : ClOk c) (hk : EvOk c e) : CC (mEvent c e).1 := by
  unfold mEvent
  split
  · split
    · unfold mNetEv
      split
      · exact h
      · next m hm =>
        split
        · exact h.send
        · split
          · next k2 =>
            show CC (mArrive (mCut c e.N.toNat) m)
            have hcut : CC (mCut c e.N.toNat) := h
            unfold mArrive
            split
            · exact hcut
            · next p hp =>
              have hp' : c.Peers[m.To.toNat]? = some p := hp
              obtain ⟨e1, e2⟩ := hk k2 m hm p hp'
              have hpm := List.mem_of_getElem? hp'
              have hcm : (mNewer m p).Commit ≤ (c.Chosen.length : Int) := by rw [mNewer_commit]; exact h p hpm
              split
              · refine CC.arr (n := c.Peers.length) ?_ ?_ (mNewer_ok (ok.peers p hpm)) e1
                · split
                  · exact hcut.set hcm
                  · exact hcut
                · split <;> exact hcm
              · exact hcut
          · exact h
    · exact h
  · split
    · split
      · unfold mPeerEv
        split
        · exact h
        · next p hp =>
          have hpm := List.mem_of_getElem? hp
          have hpo := ok.peers p hpm
          split
          · exact h
          split
          · exact h.tick (h p hpm) hpo.com0 hpo.com1
          split
          · exact h.set (p := mDown p) (by show (0 : Int) ≤ _; omega)
          split
          · exact h.set (p := { p with Up := true }) (h p hpm)
          split
          · split
            · exact h
            · exact CC.commit (c := { c with Peers := c.Peers.set e.N.toNat (mGrown e.N.toNat p e.Data) }) (p := mGrown e.N.toNat p e.Data) (h.set (p := mGrown e.N.toNat p e.Data) (h p hpm)) hpo.com0 (by have := hpo.com1; unfold mGrown; simp; omega)
          · exact h
      · exact h
    · exact h
theorem runE_cc : ∀ (es : List GE) {g : RGh} {c : GC}, CInv g c → CC c → ∃ g', CInv g' (mRunE c es) ∧ CC (mRunE c es)
  | [], g, c, h, hc => ⟨g, h, hc⟩
  | e :: es, g, c, h, hc => by
    obtain ⟨g1, h1⟩ := event_c (e := e) h
    exact runE_cc es h1 (hc.event h.ok (h.ev e))
theorem cN_cc {n : Nat} : CC (cN n) := fun p hp => by
  unfold cN at hp
  rw [List.eq_of_mem_replicate hp]
  exact Int.le_refl _
theorem CInv.committed {g : RGh} {c : GC} (h : CInv g c) (hc : CC c) {i : Nat} {p : GP} (hp : c.Peers[i]? = some p) : p.Log.take p.Commit.toNat = c.Chosen.take p.Commit.toNat := by
  have hpi := h.peers i p hp
  have h1 := hc p (List.mem_of_getElem? hp)
  have h0 := hpi.com0
  rcases hpi.com with h2 | ⟨T, k, a, b, d, e⟩
  · rw [h2]; rfl
  · rcases h.ch with h3 | ⟨T2, k2, a2, b2, d2⟩
    · have : p.Commit.toNat = 0 := by rw [h3] at h1; simp at h1; omega
      rw [this]; rfl
    · have hcc := com_com h.gi a a2 (m := p.Commit.toNat) (by omega) (by omega)
      have hx := (e.trans hcc).trans ((d2.mono (j := p.Commit.toNat) (by omega)).symm)
      exact hx.2.2
theorem equalFunc_self {xs ys : List GR} (h : xs = ys) (hl : xs.length ≤ 1000000) (hd : DBl xs) : v2bz xs ys = some true := by
  subst h
  unfold v2bz
  rw [if_pos rfl]
  have key : ∀ (m k i : Nat), xs.length - i = m → m + 1 ≤ k → v2cz xs xs k (i : Int) = some true := by
    intro m
    induction m with
    | zero =>
      intro k i hm hk
      obtain ⟨k, rfl⟩ : ∃ j, k = j + 1 := ⟨k - 1, by omega⟩
      rw [v2cz, if_neg (by omega)]
    | succ m ih =>
      intro k i hm hk
      obtain ⟨k, rfl⟩ : ∃ j, k = j + 1 := ⟨k - 1, by omega⟩
      have hlt : i < xs.length := by omega
      rw [v2cz, if_pos (by omega), xN hlt, obind_some, obind_some]
      refine (congrArg (fun o => Option.bind o _) (sameRec_m (a := xs[i]) (b := xs[i]) (hd _ (List.getElem_mem hlt)))).trans ?_
      rw [obind_some, sameR_self, if_neg (by decide), cP (by omega), show ((i : Int) + 1) = ((i + 1 : Nat) : Int) by omega]
      exact ih k (i + 1) (by omega) (by omega)
  exact key _ BIG 0 rfl (by rw [BIG_eq]; omega)
theorem agree_m {g : RGh} {c : GC} (h : CInv g c) (hc : CC c) (hd : DBc c) : v2z c = some true := by
  unfold v2z
  have hn := h.n7
  have key : ∀ (m k i : Nat), c.Peers.length - i = m → m + 1 ≤ k → v4z c k (i : Int) = some true := by
    intro m
    induction m with
    | zero =>
      intro k i hm hk
      obtain ⟨k, rfl⟩ : ∃ j, k = j + 1 := ⟨k - 1, by omega⟩
      rw [v4z, if_neg (by omega), h.conf]; rfl
    | succ m ih =>
      intro k i hm hk
      obtain ⟨k, rfl⟩ : ∃ j, k = j + 1 := ⟨k - 1, by omega⟩
      have hlt : i < c.Peers.length := by omega
      have hp : c.Peers[i]? = some c.Peers[i] := List.getElem?_eq_getElem hlt
      have hpm := List.getElem_mem hlt
      have hpo := h.ok.peers _ hpm
      have h0 := hpo.com0
      have h1 := hpo.com1
      have h2 := hc _ hpm
      have hl := hpo.logl
      have heq := h.committed hc hp
      rw [v4z, if_pos (by omega), xN hlt, obind_some, within_l, obind_some, if_neg (by rw [decide_eq_true (show (0 : Int) ≤ c.Peers[i].Commit ∧ c.Peers[i].Commit ≤ (if (c.Chosen.length : Int) < (c.Peers[i].Log.length : Int) then (c.Chosen.length : Int) else (c.Peers[i].Log.length : Int)) from ⟨h0, by split <;> omega⟩)]; decide),
        slc_head h0 h1, obind_some, slc_head h0 h2, obind_some, equalFunc_self heq (by rw [List.length_take]; omega) ((hd.peers _ hpm).take _), obind_some]
      unfold v3z
      rw [if_neg (by decide), cP (by omega), show ((i : Int) + 1) = ((i + 1 : Nat) : Int) by omega]
      exact ih k (i + 1) (by omega) (by omega)
  exact key _ BIG 0 rfl (by rw [BIG_eq]; omega)
theorem sameInts_self {xs : List Int} (hl : xs.length ≤ 1000000) : v20z xs xs = some true := by
  unfold v20z
  rw [if_pos rfl]
  have key : ∀ (m k i : Nat), xs.length - i = m → m + 1 ≤ k → v21z xs xs k (i : Int) = some true := by
    intro m
    induction m with
    | zero =>
      intro k i hm hk
      obtain ⟨k, rfl⟩ : ∃ j, k = j + 1 := ⟨k - 1, by omega⟩
      rw [v21z, if_neg (by omega)]
    | succ m ih =>
      intro k i hm hk
      obtain ⟨k, rfl⟩ : ∃ j, k = j + 1 := ⟨k - 1, by omega⟩
      have hlt : i < xs.length := by omega
      rw [v21z, if_pos (by omega), xN hlt, obind_some, obind_some, if_pos rfl, cP (by omega), show ((i : Int) + 1) = ((i + 1 : Nat) : Int) by omega]
      exact ih k (i + 1) (by omega) (by omega)
  exact key _ BIG 0 rfl (by rw [BIG_eq]; omega)
theorem codes_len : ∀ (es : List GE) (c : GC), (mCodesE c es).length = es.length
  | [], c => rfl
  | e :: es, c => by unfold mCodesE; simp [codes_len es]
theorem runE_db : ∀ (es : List GE) (c : GC), DBc c → DBc (mRunE c es)
  | [], c, h => h
  | e :: es, c, h => runE_db es _ h.event
theorem safe_L2 {c : GC} {cs cs2 : List Int} {z z2 : Int} (hn : c.Peers.length ≤ 1000) (hl : ∀ p ∈ c.Peers, p.Log.length ≤ 1000) : ∀ (m k i : Nat), c.Peers.length - i = m → m + 1 ≤ k → v1xz (c.Peers.length : Int) (c, cs, z) (c, cs2, z2) k (i : Int) = some true := by
  intro m
  induction m with
  | zero =>
    intro k i hm hk
    obtain ⟨k, rfl⟩ : ∃ j, k = j + 1 := ⟨k - 1, by omega⟩
    rw [v1xz, if_neg (by omega)]
  | succ m ih =>
    intro k i hm hk
    obtain ⟨k, rfl⟩ : ∃ j, k = j + 1 := ⟨k - 1, by omega⟩
    have hlt : i < c.Peers.length := by omega
    have hx : idx c.Peers (i : Int) = some c.Peers[i] := xN hlt
    rw [v1xz, if_pos (by omega)]
    dsimp only
    rw [hx, obind_some, obind_some, if_pos rfl, obind_some, if_pos rfl, obind_some, if_pos rfl, obind_some, sameRecs_self rfl (by have := hl _ (List.getElem_mem hlt); omega), obind_some]
    unfold v1wz
    rw [if_neg (by decide), cP (by omega), show ((i : Int) + 1) = ((i + 1 : Nat) : Int) by omega]
    exact ih k (i + 1) (by omega) (by omega)
theorem safe_m (xs ys : List UInt8) : v1tz xs ys = some true := by
  unfold v1tz
  by_cases h1 : (1048576 : Int) < (xs.length : Int)
  · rw [if_pos h1]; unfold v1uz; rw [if_pos rfl]
  · rw [if_neg h1]
    unfold v1uz
    by_cases h2 : (1048576 : Int) < (ys.length : Int)
    · rw [if_pos (by rw [decide_eq_true h2])]
    · rw [if_neg (by rw [decide_eq_false h2]; decide)]
      obtain ⟨n, e1, n1, n7⟩ := peers_ok (xs := ys) (by omega)
      obtain ⟨es, e2, l2⟩ := eventsOf_ok (xs := xs) n7 (by omega)
      obtain ⟨g, hg, hcc⟩ := runE_cc es (cN_inv n1 n7) cN_cc
      have hch := chosen_len hg
      have hlen : (mRunE (cN n) es).Peers.length = n := by
        rw [len_run]; exact List.length_replicate
      have hcl := codes_len es (cN n)
      rw [e1, obind_some, e2, obind_some, clusterRun_any n1 n7 l2, obind_some, sClusterRun_any n1 n7 l2, obind_some]
      dsimp only
      rw [if_pos rfl, sameInts_self (by omega), obind_some, if_neg (by decide), if_neg (by rw [hg.conf]; decide), agree_m hg hcc (runE_db es _ cN_db), obind_some, if_neg (by decide), if_pos (by rw [hlen]), sameRecs_self rfl (by omega), obind_some]
      unfold v1vz
      rw [if_neg (by decide)]
      have := safe_L2 (c := mRunE (cN n) es) (cs := mCodesE (cN n) es) (cs2 := mCodesE (cN n) es) (z := 0) (z2 := 0) (by omega) (fun p hp => (hg.ok.peers p hp).logl) _ BIG 0 rfl (by rw [BIG_eq]; omega)
      rw [hlen] at this
      exact this
end Go.Proofs.YtlpcdcpcfeaecaaAb
end
