import Derived.Test.YtlpcdcpcfeaecaaG01
import Derived.Test.YtlpcdcpcfeaecaaProg
import Derived.KernelRfl
set_option linter.all false
section
set_option maxRecDepth 20000
namespace Go.Proofs.YtlpcdcpcfeaecaaAb
open Go
structure GEvent where
  Kind : Int
  N : Int
  Data : (List UInt8)
deriving DecidableEq, Inhabited
instance : Rp GEvent where
  sz := 3
  R F cs x := ∃ (a1 : Option Addr) (c1 : Nat), cs = [.int .i64 x.Kind, .int .i64 x.N, .slice a1 x.Data.length c1] ∧ SR F (.slice a1 x.Data.length c1) x.Data
  len h := by obtain ⟨a1, c1, rfl, _⟩ := h; rfl
  one h := by obtain ⟨a1, c1, rfl, _⟩ := h; repeat' (first | exact List.forall_mem_nil _ | refine List.forall_mem_cons.2 ⟨?_, ?_⟩ | rfl)
  mono h hle := by obtain ⟨a1, c1, rfl, h1⟩ := h; exact ⟨a1, c1, rfl, h1.mono hle⟩
instance : Bd GEvent := ⟨fun B x => Bd.bd B x.Data⟩
theorem GEvent.ofR {F : Heap} {cs : List Value} {x : GEvent} (h : Rp.R F cs x) : ∃ (a1 : Option Addr) (c1 : Nat), cs = [.int .i64 x.Kind, .int .i64 x.N, .slice a1 x.Data.length c1] ∧ SR F (.slice a1 x.Data.length c1) x.Data := h
theorem GEvent.toR {F : Heap} {x : GEvent} {a1 : Option Addr} {c1 : Nat} (h1 : SR F (.slice a1 x.Data.length c1) x.Data) : Rp.R F [.int .i64 x.Kind, .int .i64 x.N, .slice a1 x.Data.length c1] x := ⟨a1, c1, rfl, h1⟩
structure Gl00Src where
  code : (List UInt8)
  at_ : Int
  seed : Int
deriving DecidableEq, Inhabited
instance : Rp Gl00Src where
  sz := 3
  R F cs x := ∃ (a1 : Option Addr) (c1 : Nat), cs = [.slice a1 x.code.length c1, .int .i64 x.at_, .int .i64 x.seed] ∧ SR F (.slice a1 x.code.length c1) x.code
  len h := by obtain ⟨a1, c1, rfl, _⟩ := h; rfl
  one h := by obtain ⟨a1, c1, rfl, _⟩ := h; repeat' (first | exact List.forall_mem_nil _ | refine List.forall_mem_cons.2 ⟨?_, ?_⟩ | rfl)
  mono h hle := by obtain ⟨a1, c1, rfl, h1⟩ := h; exact ⟨a1, c1, rfl, h1.mono hle⟩
instance : Bd Gl00Src := ⟨fun B x => Bd.bd B x.code⟩
theorem Gl00Src.ofR {F : Heap} {cs : List Value} {x : Gl00Src} (h : Rp.R F cs x) : ∃ (a1 : Option Addr) (c1 : Nat), cs = [.slice a1 x.code.length c1, .int .i64 x.at_, .int .i64 x.seed] ∧ SR F (.slice a1 x.code.length c1) x.code := h
structure GJob where
  Client : Int
  Seq : Int
  File : Str
  Version : Int
  Script : Str
  Text : Str
  Ere : Bool
  Quiet : Bool
deriving DecidableEq, Inhabited
instance : Rp GJob where
  sz := 8
  R F cs x := cs = [.int .i64 x.Client, .int .i64 x.Seq, str x.File, .int .i64 x.Version, str x.Script, str x.Text, .bool x.Ere, .bool x.Quiet]
  len h := by obtain rfl := h; rfl
  one h := by obtain rfl := h; repeat' (first | exact List.forall_mem_nil _ | refine List.forall_mem_cons.2 ⟨?_, ?_⟩ | rfl)
  mono h hle := by obtain rfl := h; exact rfl
instance : Fl GJob := ⟨fun h => h⟩
instance : Bd GJob := ⟨fun B x => Bd.bd B x.File ∧ Bd.bd B x.Script ∧ Bd.bd B x.Text⟩
theorem GJob.ofR {F : Heap} {cs : List Value} {x : GJob} (h : Rp.R F cs x) : cs = [.int .i64 x.Client, .int .i64 x.Seq, str x.File, .int .i64 x.Version, str x.Script, str x.Text, .bool x.Ere, .bool x.Quiet] := h
structure GRec where
  Term : Int
  Index : Int
  Data : (List UInt8)
deriving DecidableEq, Inhabited
instance : Rp GRec where
  sz := 3
  R F cs x := ∃ (a1 : Option Addr) (c1 : Nat), cs = [.int .i64 x.Term, .int .i64 x.Index, .slice a1 x.Data.length c1] ∧ SR F (.slice a1 x.Data.length c1) x.Data
  len h := by obtain ⟨a1, c1, rfl, _⟩ := h; rfl
  one h := by obtain ⟨a1, c1, rfl, _⟩ := h; repeat' (first | exact List.forall_mem_nil _ | refine List.forall_mem_cons.2 ⟨?_, ?_⟩ | rfl)
  mono h hle := by obtain ⟨a1, c1, rfl, h1⟩ := h; exact ⟨a1, c1, rfl, h1.mono hle⟩
instance : Bd GRec := ⟨fun B x => Bd.bd B x.Data⟩
theorem GRec.ofR {F : Heap} {cs : List Value} {x : GRec} (h : Rp.R F cs x) : ∃ (a1 : Option Addr) (c1 : Nat), cs = [.int .i64 x.Term, .int .i64 x.Index, .slice a1 x.Data.length c1] ∧ SR F (.slice a1 x.Data.length c1) x.Data := h
theorem GRec.toR {F : Heap} {x : GRec} {a1 : Option Addr} {c1 : Nat} (h1 : SR F (.slice a1 x.Data.length c1) x.Data) : Rp.R F [.int .i64 x.Term, .int .i64 x.Index, .slice a1 x.Data.length c1] x := ⟨a1, c1, rfl, h1⟩
structure GPeer where
  Up : Bool
  Term : Int
  Vote : Int
  Commit : Int
  Role : Int
  Log : (List GRec)
  Votes : (List Bool)
  Next : (List Int)
  Match : (List Int)
deriving DecidableEq, Inhabited
instance : Rp GPeer where
  sz := 9
  R F cs x := ∃ (a1 : Option Addr) (c1 : Nat) (a2 : Option Addr) (c2 : Nat) (a3 : Option Addr) (c3 : Nat) (a4 : Option Addr) (c4 : Nat), cs = [.bool x.Up, .int .i64 x.Term, .int .i64 x.Vote, .int .i64 x.Commit, .int .i64 x.Role, .slice a1 x.Log.length c1, .slice a2 x.Votes.length c2, .slice a3 x.Next.length c3, .slice a4 x.Match.length c4] ∧ SR F (.slice a1 x.Log.length c1) x.Log ∧ SR F (.slice a2 x.Votes.length c2) x.Votes ∧ SR F (.slice a3 x.Next.length c3) x.Next ∧ SR F (.slice a4 x.Match.length c4) x.Match
  len h := by obtain ⟨a1, c1, a2, c2, a3, c3, a4, c4, rfl, _, _, _, _⟩ := h; rfl
  one h := by obtain ⟨a1, c1, a2, c2, a3, c3, a4, c4, rfl, _, _, _, _⟩ := h; repeat' (first | exact List.forall_mem_nil _ | refine List.forall_mem_cons.2 ⟨?_, ?_⟩ | rfl)
  mono h hle := by obtain ⟨a1, c1, a2, c2, a3, c3, a4, c4, rfl, h1, h2, h3, h4⟩ := h; exact ⟨a1, c1, a2, c2, a3, c3, a4, c4, rfl, h1.mono hle, h2.mono hle, h3.mono hle, h4.mono hle⟩
instance : Bd GPeer := ⟨fun B x => Bd.bd B x.Log ∧ Bd.bd B x.Votes ∧ Bd.bd B x.Next ∧ Bd.bd B x.Match⟩
theorem GPeer.ofR {F : Heap} {cs : List Value} {x : GPeer} (h : Rp.R F cs x) : ∃ (a1 : Option Addr) (c1 : Nat) (a2 : Option Addr) (c2 : Nat) (a3 : Option Addr) (c3 : Nat) (a4 : Option Addr) (c4 : Nat), cs = [.bool x.Up, .int .i64 x.Term, .int .i64 x.Vote, .int .i64 x.Commit, .int .i64 x.Role, .slice a1 x.Log.length c1, .slice a2 x.Votes.length c2, .slice a3 x.Next.length c3, .slice a4 x.Match.length c4] ∧ SR F (.slice a1 x.Log.length c1) x.Log ∧ SR F (.slice a2 x.Votes.length c2) x.Votes ∧ SR F (.slice a3 x.Next.length c3) x.Next ∧ SR F (.slice a4 x.Match.length c4) x.Match := h
theorem GPeer.toR {F : Heap} {x : GPeer} {a1 : Option Addr} {c1 : Nat} {a2 : Option Addr} {c2 : Nat} {a3 : Option Addr} {c3 : Nat} {a4 : Option Addr} {c4 : Nat} (h1 : SR F (.slice a1 x.Log.length c1) x.Log) (h2 : SR F (.slice a2 x.Votes.length c2) x.Votes) (h3 : SR F (.slice a3 x.Next.length c3) x.Next) (h4 : SR F (.slice a4 x.Match.length c4) x.Match) : Rp.R F [.bool x.Up, .int .i64 x.Term, .int .i64 x.Vote, .int .i64 x.Commit, .int .i64 x.Role, .slice a1 x.Log.length c1, .slice a2 x.Votes.length c2, .slice a3 x.Next.length c3, .slice a4 x.Match.length c4] x := ⟨a1, c1, a2, c2, a3, c3, a4, c4, rfl, h1, h2, h3, h4⟩
instance : Dp GPeer where
  offs := [5, 6, 7, 8]
  base F cs x := ∃ (a1 : Option Addr) (c1 : Nat) (a2 : Option Addr) (c2 : Nat) (a3 : Option Addr) (c3 : Nat) (a4 : Option Addr) (c4 : Nat), cs = [.bool x.Up, .int .i64 x.Term, .int .i64 x.Vote, .int .i64 x.Commit, .int .i64 x.Role, .slice a1 x.Log.length c1, .slice a2 x.Votes.length c2, .slice a3 x.Next.length c3, .slice a4 x.Match.length c4]
  own f G F hv x := (f = 5 → OX G F hv x.Log) ∧ (f = 6 → OX G F hv x.Votes) ∧ (f = 7 → OX G F hv x.Next) ∧ (f = 8 → OX G F hv x.Match)
  blen h := by obtain ⟨a1, c1, a2, c2, a3, c3, a4, c4, rfl⟩ := h; rfl
  bone h := by obtain ⟨a1, c1, a2, c2, a3, c3, a4, c4, rfl⟩ := h; repeat' (first | exact List.forall_mem_nil _ | refine List.forall_mem_cons.2 ⟨?_, ?_⟩ | rfl)
  bmono h _ := h
  omono h hle := ⟨fun e => (h.1 e).mono hle, fun e => (h.2.1 e).mono hle, fun e => (h.2.2.1 e).mono hle, fun e => (h.2.2.2 e).mono hle⟩
  ocongr h hk := ⟨fun e => (h.1 e).congr hk, fun e => (h.2.1 e).congr hk, fun e => (h.2.2.1 e).congr hk, fun e => (h.2.2.2 e).congr hk⟩
  toR h hle ho _ := by
    obtain ⟨a1, c1, a2, c2, a3, c3, a4, c4, rfl⟩ := h
    exact ⟨a1, c1, a2, c2, a3, c3, a4, c4, rfl, ((ho 5 (by decide) _ rfl).1 rfl).sr (Heap.Le.refl _) (fun _ _ => rfl), ((ho 6 (by decide) _ rfl).2.1 rfl).sr (Heap.Le.refl _) (fun _ _ => rfl), ((ho 7 (by decide) _ rfl).2.2.1 rfl).sr (Heap.Le.refl _) (fun _ _ => rfl), ((ho 8 (by decide) _ rfl).2.2.2 rfl).sr (Heap.Le.refl _) (fun _ _ => rfl)⟩
theorem GPeer.ofB {F : Heap} {cs : List Value} {x : GPeer} (h : Dp.base F cs x) : ∃ (a1 : Option Addr) (c1 : Nat) (a2 : Option Addr) (c2 : Nat) (a3 : Option Addr) (c3 : Nat) (a4 : Option Addr) (c4 : Nat), cs = [.bool x.Up, .int .i64 x.Term, .int .i64 x.Vote, .int .i64 x.Commit, .int .i64 x.Role, .slice a1 x.Log.length c1, .slice a2 x.Votes.length c2, .slice a3 x.Next.length c3, .slice a4 x.Match.length c4] := h
theorem GPeer.nilP {w0 : Bool} {w1 : Int} {w2 : Int} {w3 : Int} {w4 : Int} {F : Heap} : ∀ f, f ∈ Dp.offs GPeer → ∀ hv, ([.bool w0, .int .i64 w1, .int .i64 w2, .int .i64 w3, .int .i64 w4, .slice none 0 0, .slice none 0 0, .slice none 0 0, .slice none 0 0] : List Value)[f]? = some hv → idOf hv = none ∧ ∀ G, Dp.own f G F hv (⟨w0, w1, w2, w3, w4, [], [], [], []⟩ : GPeer) := by
  intro f hf hv hh
  have hf2 : f = 5 ∨ f = 6 ∨ f = 7 ∨ f = 8 := by simpa [Dp.offs] using hf
  rcases hf2 with rfl | rfl | rfl | rfl
  · cases hh; exact ⟨rfl, fun G => ⟨fun _ => OX.nil, fun e => absurd e (by decide), fun e => absurd e (by decide), fun e => absurd e (by decide)⟩⟩
  · cases hh; exact ⟨rfl, fun G => ⟨fun e => absurd e (by decide), fun _ => OX.nil, fun e => absurd e (by decide), fun e => absurd e (by decide)⟩⟩
  · cases hh; exact ⟨rfl, fun G => ⟨fun e => absurd e (by decide), fun e => absurd e (by decide), fun _ => OX.nil, fun e => absurd e (by decide)⟩⟩
  · cases hh; exact ⟨rfl, fun G => ⟨fun e => absurd e (by decide), fun e => absurd e (by decide), fun e => absurd e (by decide), fun _ => OX.nil⟩⟩
theorem GPeer.put_Up {lo n : Nat} {H H' F : Heap} {S : Nat → Prop} {Z : List Hole} {a : Option Addr} {m cap b e : Nat} {j : Int} {xs : List GPeer} {x : GPeer} {c : List Value} {a1 : Option Addr} {c1 : Nat} {a2 : Option Addr} {c2 : Nat} {a3 : Option Addr} {c3 : Nat} {a4 : Option Addr} {c4 : Nat} (h : OD lo n H F S Z (.slice a m cap) xs) (hp : DPt a j (Rp.sz GPeer) b e) (hi : idx xs j = some x) (hrow : H b = some (.row (Rp.sz GPeer) c)) (hwin : (c.drop e).take (Rp.sz GPeer) = [.bool x.Up, .int .i64 x.Term, .int .i64 x.Vote, .int .i64 x.Commit, .int .i64 x.Role, .slice a1 x.Log.length c1, .slice a2 x.Votes.length c2, .slice a3 x.Next.length c3, .slice a4 x.Match.length c4]) {w : Bool} (hH : H' b = some (.row (Rp.sz GPeer) (splice c (e + 0) [.bool w]))) (hk : ∀ i, i ≠ b → H' i = H i) : OD lo n H' F S Z (.slice a m cap) (setI xs j (⟨w, x.Term, x.Vote, x.Commit, x.Role, x.Log, x.Votes, x.Next, x.Match⟩ : GPeer)) := by
  refine OD.S0 (OD.upd (o := 0) (f0 := 0) (hv0 := .slice none 0 0) (Z' := Z) (vc := [.bool w]) [] h hp hi hrow hwin (Nat.le_of_ble_eq_true rfl) ⟨a1, c1, a2, c2, a3, c3, a4, c4, rfl⟩ (fun i hi => by cases hi) ?_ (fun q hq => .inl hq) (fun q hq => ⟨hq, fun h => by cases h.2⟩) hH hk)
  intro f hf hv hh
  have hf2 : f = 5 ∨ f = 6 ∨ f = 7 ∨ f = 8 := by simpa [Dp.offs] using hf
  rcases hf2 with rfl | rfl | rfl | rfl
  all_goals exact .inl ⟨hh, by simp, fun G h => h⟩
theorem GPeer.put_Term {lo n : Nat} {H H' F : Heap} {S : Nat → Prop} {Z : List Hole} {a : Option Addr} {m cap b e : Nat} {j : Int} {xs : List GPeer} {x : GPeer} {c : List Value} {a1 : Option Addr} {c1 : Nat} {a2 : Option Addr} {c2 : Nat} {a3 : Option Addr} {c3 : Nat} {a4 : Option Addr} {c4 : Nat} (h : OD lo n H F S Z (.slice a m cap) xs) (hp : DPt a j (Rp.sz GPeer) b e) (hi : idx xs j = some x) (hrow : H b = some (.row (Rp.sz GPeer) c)) (hwin : (c.drop e).take (Rp.sz GPeer) = [.bool x.Up, .int .i64 x.Term, .int .i64 x.Vote, .int .i64 x.Commit, .int .i64 x.Role, .slice a1 x.Log.length c1, .slice a2 x.Votes.length c2, .slice a3 x.Next.length c3, .slice a4 x.Match.length c4]) {w : Int} (hH : H' b = some (.row (Rp.sz GPeer) (splice c (e + 1) [.int .i64 w]))) (hk : ∀ i, i ≠ b → H' i = H i) : OD lo n H' F S Z (.slice a m cap) (setI xs j (⟨x.Up, w, x.Vote, x.Commit, x.Role, x.Log, x.Votes, x.Next, x.Match⟩ : GPeer)) := by
  refine OD.S0 (OD.upd (o := 1) (f0 := 0) (hv0 := .slice none 0 0) (Z' := Z) (vc := [.int .i64 w]) [] h hp hi hrow hwin (Nat.le_of_ble_eq_true rfl) ⟨a1, c1, a2, c2, a3, c3, a4, c4, rfl⟩ (fun i hi => by cases hi) ?_ (fun q hq => .inl hq) (fun q hq => ⟨hq, fun h => by cases h.2⟩) hH hk)
  intro f hf hv hh
  have hf2 : f = 5 ∨ f = 6 ∨ f = 7 ∨ f = 8 := by simpa [Dp.offs] using hf
  rcases hf2 with rfl | rfl | rfl | rfl
  all_goals exact .inl ⟨hh, by simp, fun G h => h⟩
theorem GPeer.put_Vote {lo n : Nat} {H H' F : Heap} {S : Nat → Prop} {Z : List Hole} {a : Option Addr} {m cap b e : Nat} {j : Int} {xs : List GPeer} {x : GPeer} {c : List Value} {a1 : Option Addr} {c1 : Nat} {a2 : Option Addr} {c2 : Nat} {a3 : Option Addr} {c3 : Nat} {a4 : Option Addr} {c4 : Nat} (h : OD lo n H F S Z (.slice a m cap) xs) (hp : DPt a j (Rp.sz GPeer) b e) (hi : idx xs j = some x) (hrow : H b = some (.row (Rp.sz GPeer) c)) (hwin : (c.drop e).take (Rp.sz GPeer) = [.bool x.Up, .int .i64 x.Term, .int .i64 x.Vote, .int .i64 x.Commit, .int .i64 x.Role, .slice a1 x.Log.length c1, .slice a2 x.Votes.length c2, .slice a3 x.Next.length c3, .slice a4 x.Match.length c4]) {w : Int} (hH : H' b = some (.row (Rp.sz GPeer) (splice c (e + 2) [.int .i64 w]))) (hk : ∀ i, i ≠ b → H' i = H i) : OD lo n H' F S Z (.slice a m cap) (setI xs j (⟨x.Up, x.Term, w, x.Commit, x.Role, x.Log, x.Votes, x.Next, x.Match⟩ : GPeer)) := by
  refine OD.S0 (OD.upd (o := 2) (f0 := 0) (hv0 := .slice none 0 0) (Z' := Z) (vc := [.int .i64 w]) [] h hp hi hrow hwin (Nat.le_of_ble_eq_true rfl) ⟨a1, c1, a2, c2, a3, c3, a4, c4, rfl⟩ (fun i hi => by cases hi) ?_ (fun q hq => .inl hq) (fun q hq => ⟨hq, fun h => by cases h.2⟩) hH hk)
  intro f hf hv hh
  have hf2 : f = 5 ∨ f = 6 ∨ f = 7 ∨ f = 8 := by simpa [Dp.offs] using hf
  rcases hf2 with rfl | rfl | rfl | rfl
  all_goals exact .inl ⟨hh, by simp, fun G h => h⟩
theorem GPeer.put_Commit {lo n : Nat} {H H' F : Heap} {S : Nat → Prop} {Z : List Hole} {a : Option Addr} {m cap b e : Nat} {j : Int} {xs : List GPeer} {x : GPeer} {c : List Value} {a1 : Option Addr} {c1 : Nat} {a2 : Option Addr} {c2 : Nat} {a3 : Option Addr} {c3 : Nat} {a4 : Option Addr} {c4 : Nat} (h : OD lo n H F S Z (.slice a m cap) xs) (hp : DPt a j (Rp.sz GPeer) b e) (hi : idx xs j = some x) (hrow : H b = some (.row (Rp.sz GPeer) c)) (hwin : (c.drop e).take (Rp.sz GPeer) = [.bool x.Up, .int .i64 x.Term, .int .i64 x.Vote, .int .i64 x.Commit, .int .i64 x.Role, .slice a1 x.Log.length c1, .slice a2 x.Votes.length c2, .slice a3 x.Next.length c3, .slice a4 x.Match.length c4]) {w : Int} (hH : H' b = some (.row (Rp.sz GPeer) (splice c (e + 3) [.int .i64 w]))) (hk : ∀ i, i ≠ b → H' i = H i) : OD lo n H' F S Z (.slice a m cap) (setI xs j (⟨x.Up, x.Term, x.Vote, w, x.Role, x.Log, x.Votes, x.Next, x.Match⟩ : GPeer)) := by
  refine OD.S0 (OD.upd (o := 3) (f0 := 0) (hv0 := .slice none 0 0) (Z' := Z) (vc := [.int .i64 w]) [] h hp hi hrow hwin (Nat.le_of_ble_eq_true rfl) ⟨a1, c1, a2, c2, a3, c3, a4, c4, rfl⟩ (fun i hi => by cases hi) ?_ (fun q hq => .inl hq) (fun q hq => ⟨hq, fun h => by cases h.2⟩) hH hk)
  intro f hf hv hh
  have hf2 : f = 5 ∨ f = 6 ∨ f = 7 ∨ f = 8 := by simpa [Dp.offs] using hf
  rcases hf2 with rfl | rfl | rfl | rfl
  all_goals exact .inl ⟨hh, by simp, fun G h => h⟩
theorem GPeer.put_Role {lo n : Nat} {H H' F : Heap} {S : Nat → Prop} {Z : List Hole} {a : Option Addr} {m cap b e : Nat} {j : Int} {xs : List GPeer} {x : GPeer} {c : List Value} {a1 : Option Addr} {c1 : Nat} {a2 : Option Addr} {c2 : Nat} {a3 : Option Addr} {c3 : Nat} {a4 : Option Addr} {c4 : Nat} (h : OD lo n H F S Z (.slice a m cap) xs) (hp : DPt a j (Rp.sz GPeer) b e) (hi : idx xs j = some x) (hrow : H b = some (.row (Rp.sz GPeer) c)) (hwin : (c.drop e).take (Rp.sz GPeer) = [.bool x.Up, .int .i64 x.Term, .int .i64 x.Vote, .int .i64 x.Commit, .int .i64 x.Role, .slice a1 x.Log.length c1, .slice a2 x.Votes.length c2, .slice a3 x.Next.length c3, .slice a4 x.Match.length c4]) {w : Int} (hH : H' b = some (.row (Rp.sz GPeer) (splice c (e + 4) [.int .i64 w]))) (hk : ∀ i, i ≠ b → H' i = H i) : OD lo n H' F S Z (.slice a m cap) (setI xs j (⟨x.Up, x.Term, x.Vote, x.Commit, w, x.Log, x.Votes, x.Next, x.Match⟩ : GPeer)) := by
  refine OD.S0 (OD.upd (o := 4) (f0 := 0) (hv0 := .slice none 0 0) (Z' := Z) (vc := [.int .i64 w]) [] h hp hi hrow hwin (Nat.le_of_ble_eq_true rfl) ⟨a1, c1, a2, c2, a3, c3, a4, c4, rfl⟩ (fun i hi => by cases hi) ?_ (fun q hq => .inl hq) (fun q hq => ⟨hq, fun h => by cases h.2⟩) hH hk)
  intro f hf hv hh
  have hf2 : f = 5 ∨ f = 6 ∨ f = 7 ∨ f = 8 := by simpa [Dp.offs] using hf
  rcases hf2 with rfl | rfl | rfl | rfl
  all_goals exact .inl ⟨hh, by simp, fun G h => h⟩
theorem GPeer.set_Log {lo n : Nat} {H H' F : Heap} {S : Nat → Prop} {Z : List Hole} {a : Option Addr} {m cap b e : Nat} {j : Int} {xs : List GPeer} {x : GPeer} {c : List Value} {a1 : Option Addr} {c1 : Nat} {a2 : Option Addr} {c2 : Nat} {a3 : Option Addr} {c3 : Nat} {a4 : Option Addr} {c4 : Nat} (h : OD lo n H F S Z (.slice a m cap) xs) (hp : DPt a j (Rp.sz GPeer) b e) (hi : idx xs j = some x) (hrow : H b = some (.row (Rp.sz GPeer) c)) (hwin : (c.drop e).take (Rp.sz GPeer) = [.bool x.Up, .int .i64 x.Term, .int .i64 x.Vote, .int .i64 x.Commit, .int .i64 x.Role, .slice a1 x.Log.length c1, .slice a2 x.Votes.length c2, .slice a3 x.Next.length c3, .slice a4 x.Match.length c4]) {a' : Option Addr} {cap' : Nat} {ws : (List GRec)} (hn : OW lo n H F (.slice a' ws.length cap') ws) (hap : ∀ i, idOf (.slice a' ws.length cap') = some i → ¬ S i) (hZ : ∀ q, q ∈ Z → q ∈ ([] : List Hole) ∨ (q.1 = j.toNat ∧ q.2.1 = 5)) (hZ' : ∀ q, q ∈ ([] : List Hole) → q ∈ Z ∧ ¬ (q.1 = j.toNat ∧ q.2.1 = 5)) (hH : H' b = some (.row (Rp.sz GPeer) (splice c (e + 5) [.slice a' ws.length cap']))) (hk : ∀ i, i ≠ b → H' i = H i) : ∃ S', (∀ i, S' i → S i ∨ idOf (.slice a' ws.length cap') = some i) ∧ OD lo n H' F S' [] (.slice a m cap) (setI xs j (⟨x.Up, x.Term, x.Vote, x.Commit, x.Role, ws, x.Votes, x.Next, x.Match⟩ : GPeer)) := by
  refine ⟨_, fun _ h => h, OD.upd (o := 5) (f0 := 5) (hv0 := .slice a' ws.length cap') (Z' := []) (vc := [.slice a' ws.length cap']) [5] h hp hi hrow hwin (Nat.le_of_ble_eq_true rfl) ⟨a', cap', a2, c2, a3, c3, a4, c4, rfl⟩ (fun i hi => ⟨by simp, (hn.id_lt hi).1, (hn.id_lt hi).2, hn.fnone hi, hn.alive hi, hap i hi, fun q hq => by cases hq⟩) ?_ (fun q hq => (hZ q hq).imp id (fun h => ⟨h.1, by rw [h.2]; simp⟩)) (fun q hq => by cases hq) hH hk⟩
  intro f hf hv hh
  have hf2 : f = 5 ∨ f = 6 ∨ f = 7 ∨ f = 8 := by simpa [Dp.offs] using hf
  rcases hf2 with rfl | rfl | rfl | rfl
  · cases hh; exact .inr ⟨by simp, ⟨fun _ => hn.ox, fun e => absurd e (by decide), fun e => absurd e (by decide), fun e => absurd e (by decide)⟩, fun i hi => ⟨rfl, hi⟩⟩
  · exact .inl ⟨hh, by decide, fun G h => ⟨fun e => absurd e (by decide), fun e => h.2.1 e, fun e => h.2.2.1 e, fun e => h.2.2.2 e⟩⟩
  · exact .inl ⟨hh, by decide, fun G h => ⟨fun e => absurd e (by decide), fun e => h.2.1 e, fun e => h.2.2.1 e, fun e => h.2.2.2 e⟩⟩
  · exact .inl ⟨hh, by decide, fun G h => ⟨fun e => absurd e (by decide), fun e => h.2.1 e, fun e => h.2.2.1 e, fun e => h.2.2.2 e⟩⟩
theorem GPeer.open_Log {lo n : Nat} {H F : Heap} {S : Nat → Prop} {Z : List Hole} {a : Option Addr} {m cap b e : Nat} {j : Int} {xs : List GPeer} {x : GPeer} {c : List Value} {a1 : Option Addr} {c1 : Nat} {a2 : Option Addr} {c2 : Nat} {a3 : Option Addr} {c3 : Nat} {a4 : Option Addr} {c4 : Nat} (h : OD lo n H F S Z (.slice a m cap) xs) (hp : DPt a j (Rp.sz GPeer) b e) (hi : idx xs j = some x) (hrow : H b = some (.row (Rp.sz GPeer) c)) (hwin : (c.drop e).take (Rp.sz GPeer) = [.bool x.Up, .int .i64 x.Term, .int .i64 x.Vote, .int .i64 x.Commit, .int .i64 x.Role, .slice a1 x.Log.length c1, .slice a2 x.Votes.length c2, .slice a3 x.Next.length c3, .slice a4 x.Match.length c4]) (hz : ∀ q, q ∈ Z → ¬ (q.1 = j.toNat ∧ q.2.1 = 5)) : ∃ S', (∀ i, S' i → S i) ∧ (∀ i, idOf (.slice a1 x.Log.length c1) = some i → S i) ∧ (∀ i, idOf (.slice a1 x.Log.length c1) = some i → ¬ S' i) ∧ OW lo n H F (.slice a1 x.Log.length c1) x.Log ∧ OD lo n H F S' ((j.toNat, 5, (.slice a1 x.Log.length c1)) :: Z) (.slice a m cap) xs := by
  obtain ⟨h1, h2, h3⟩ := OD.open (f := 5) h hp hi hrow hwin (by decide) rfl hz
  exact ⟨_, fun i h => h.1, fun i h => (h2 i h).1, fun i h hs => hs.2 h, (h1.1 rfl).ow (fun i h => (h2 i h).2), h3⟩
theorem GPeer.close0_Log {lo n : Nat} {H F : Heap} {S : Nat → Prop} {Z : List Hole} {v : Value} {M : Nat} {a1 : Option Addr} {c1 : Nat} {j : Int} {xs : List GPeer} {x : GPeer} (h : OD lo n H F S ((j.toNat, 5, .slice a1 M c1) :: Z) v xs) (hi : idx xs j = some x) (hn : OW lo n H F (.slice a1 M c1) x.Log) : ∃ S', (∀ i, S' i → S i ∨ idOf (.slice a1 M c1) = some i) ∧ OD lo n H F S' Z v xs :=
  ⟨_, fun _ h => h, OD.close0 h hi ⟨fun _ => hn.ox, fun e => absurd e (by decide), fun e => absurd e (by decide), fun e => absurd e (by decide)⟩ (fun i h => ⟨(hn.id_lt h).1, (hn.id_lt h).2, hn.fnone h, hn.alive h⟩)⟩
theorem GPeer.whole_Log {lo n : Nat} {H H' F : Heap} {S : Nat → Prop} {a : Option Addr} {m cap b e : Nat} {j : Int} {xs : List GPeer} {x : GPeer} {c : List Value} {a1 : Option Addr} {c1 : Nat} {a2 : Option Addr} {c2 : Nat} {a3 : Option Addr} {c3 : Nat} {a4 : Option Addr} {c4 : Nat} {hv0 : Value} {w0 : Bool} {w1 : Int} {w2 : Int} {w3 : Int} {w4 : Int} (h : OD lo n H F S [(j.toNat, 5, hv0)] (.slice a m cap) xs) (hp : DPt a j (Rp.sz GPeer) b e) (hi : idx xs j = some x) (hrow : H b = some (.row (Rp.sz GPeer) c)) (hwin : (c.drop e).take (Rp.sz GPeer) = [.bool x.Up, .int .i64 x.Term, .int .i64 x.Vote, .int .i64 x.Commit, .int .i64 x.Role, .slice a1 x.Log.length c1, .slice a2 x.Votes.length c2, .slice a3 x.Next.length c3, .slice a4 x.Match.length c4]) {a' : Option Addr} {cap' : Nat} {ws : (List GRec)} (hn : OW lo n H F (.slice a' ws.length cap') ws) (hap : ∀ i, idOf (.slice a' ws.length cap') = some i → ¬ S i) (hH : H' b = some (.row (Rp.sz GPeer) (splice c e [.bool w0, .int .i64 w1, .int .i64 w2, .int .i64 w3, .int .i64 w4, .slice a' ws.length cap', .slice none 0 0, .slice none 0 0, .slice none 0 0]))) (hk : ∀ i, i ≠ b → H' i = H i) : ∃ S', (∀ i, S' i → S i ∨ idOf (.slice a' ws.length cap') = some i) ∧ OD lo n H' F S' [] (.slice a m cap) (setI xs j (⟨w0, w1, w2, w3, w4, ws, [], [], []⟩ : GPeer)) := by
  refine ⟨_, fun _ h => h, OD.upd (o := 0) (f0 := 5) (hv0 := .slice a' ws.length cap') (Z' := []) (vc := [.bool w0, .int .i64 w1, .int .i64 w2, .int .i64 w3, .int .i64 w4, .slice a' ws.length cap', .slice none 0 0, .slice none 0 0, .slice none 0 0]) [5, 6, 7, 8] h hp hi hrow hwin (Nat.le_of_ble_eq_true rfl) ⟨a', cap', none, 0, none, 0, none, 0, rfl⟩ (fun i hi => ⟨by simp, (hn.id_lt hi).1, (hn.id_lt hi).2, hn.fnone hi, hn.alive hi, hap i hi, fun q hq => by cases hq⟩) ?_ (fun q hq => .inr (by rcases List.mem_singleton.1 hq with rfl; exact ⟨rfl, by simp⟩)) (fun q hq => by cases hq) hH hk⟩
  intro f hf hv hh
  have hf2 : f = 5 ∨ f = 6 ∨ f = 7 ∨ f = 8 := by simpa [Dp.offs] using hf
  rcases hf2 with rfl | rfl | rfl | rfl
  · cases hh; exact .inr ⟨by simp, ⟨fun _ => hn.ox, fun e => absurd e (by decide), fun e => absurd e (by decide), fun e => absurd e (by decide)⟩, fun i hi => ⟨rfl, hi⟩⟩
  · cases hh; exact .inr ⟨by simp, ⟨fun e => absurd e (by decide), fun _ => OX.nil, fun e => absurd e (by decide), fun e => absurd e (by decide)⟩, fun i hi => by cases hi⟩
  · cases hh; exact .inr ⟨by simp, ⟨fun e => absurd e (by decide), fun e => absurd e (by decide), fun _ => OX.nil, fun e => absurd e (by decide)⟩, fun i hi => by cases hi⟩
  · cases hh; exact .inr ⟨by simp, ⟨fun e => absurd e (by decide), fun e => absurd e (by decide), fun e => absurd e (by decide), fun _ => OX.nil⟩, fun i hi => by cases hi⟩
theorem GPeer.set_Votes {lo n : Nat} {H H' F : Heap} {S : Nat → Prop} {Z : List Hole} {a : Option Addr} {m cap b e : Nat} {j : Int} {xs : List GPeer} {x : GPeer} {c : List Value} {a1 : Option Addr} {c1 : Nat} {a2 : Option Addr} {c2 : Nat} {a3 : Option Addr} {c3 : Nat} {a4 : Option Addr} {c4 : Nat} (h : OD lo n H F S Z (.slice a m cap) xs) (hp : DPt a j (Rp.sz GPeer) b e) (hi : idx xs j = some x) (hrow : H b = some (.row (Rp.sz GPeer) c)) (hwin : (c.drop e).take (Rp.sz GPeer) = [.bool x.Up, .int .i64 x.Term, .int .i64 x.Vote, .int .i64 x.Commit, .int .i64 x.Role, .slice a1 x.Log.length c1, .slice a2 x.Votes.length c2, .slice a3 x.Next.length c3, .slice a4 x.Match.length c4]) {a' : Option Addr} {cap' : Nat} {ws : (List Bool)} (hn : OW lo n H F (.slice a' ws.length cap') ws) (hap : ∀ i, idOf (.slice a' ws.length cap') = some i → ¬ S i) (hZ : ∀ q, q ∈ Z → q ∈ ([] : List Hole) ∨ (q.1 = j.toNat ∧ q.2.1 = 6)) (hZ' : ∀ q, q ∈ ([] : List Hole) → q ∈ Z ∧ ¬ (q.1 = j.toNat ∧ q.2.1 = 6)) (hH : H' b = some (.row (Rp.sz GPeer) (splice c (e + 6) [.slice a' ws.length cap']))) (hk : ∀ i, i ≠ b → H' i = H i) : ∃ S', (∀ i, S' i → S i ∨ idOf (.slice a' ws.length cap') = some i) ∧ OD lo n H' F S' [] (.slice a m cap) (setI xs j (⟨x.Up, x.Term, x.Vote, x.Commit, x.Role, x.Log, ws, x.Next, x.Match⟩ : GPeer)) := by
  refine ⟨_, fun _ h => h, OD.upd (o := 6) (f0 := 6) (hv0 := .slice a' ws.length cap') (Z' := []) (vc := [.slice a' ws.length cap']) [6] h hp hi hrow hwin (Nat.le_of_ble_eq_true rfl) ⟨a1, c1, a', cap', a3, c3, a4, c4, rfl⟩ (fun i hi => ⟨by simp, (hn.id_lt hi).1, (hn.id_lt hi).2, hn.fnone hi, hn.alive hi, hap i hi, fun q hq => by cases hq⟩) ?_ (fun q hq => (hZ q hq).imp id (fun h => ⟨h.1, by rw [h.2]; simp⟩)) (fun q hq => by cases hq) hH hk⟩
  intro f hf hv hh
  have hf2 : f = 5 ∨ f = 6 ∨ f = 7 ∨ f = 8 := by simpa [Dp.offs] using hf
  rcases hf2 with rfl | rfl | rfl | rfl
  · exact .inl ⟨hh, by decide, fun G h => ⟨fun e => h.1 e, fun e => absurd e (by decide), fun e => h.2.2.1 e, fun e => h.2.2.2 e⟩⟩
  · cases hh; exact .inr ⟨by simp, ⟨fun e => absurd e (by decide), fun _ => hn.ox, fun e => absurd e (by decide), fun e => absurd e (by decide)⟩, fun i hi => ⟨rfl, hi⟩⟩
  · exact .inl ⟨hh, by decide, fun G h => ⟨fun e => h.1 e, fun e => absurd e (by decide), fun e => h.2.2.1 e, fun e => h.2.2.2 e⟩⟩
  · exact .inl ⟨hh, by decide, fun G h => ⟨fun e => h.1 e, fun e => absurd e (by decide), fun e => h.2.2.1 e, fun e => h.2.2.2 e⟩⟩
theorem GPeer.nil_Votes {lo n : Nat} {H H' F : Heap} {S : Nat → Prop} {Z : List Hole} {a : Option Addr} {m cap b e : Nat} {j : Int} {xs : List GPeer} {x : GPeer} {c : List Value} {a1 : Option Addr} {c1 : Nat} {a2 : Option Addr} {c2 : Nat} {a3 : Option Addr} {c3 : Nat} {a4 : Option Addr} {c4 : Nat} (h : OD lo n H F S Z (.slice a m cap) xs) (hp : DPt a j (Rp.sz GPeer) b e) (hi : idx xs j = some x) (hrow : H b = some (.row (Rp.sz GPeer) c)) (hwin : (c.drop e).take (Rp.sz GPeer) = [.bool x.Up, .int .i64 x.Term, .int .i64 x.Vote, .int .i64 x.Commit, .int .i64 x.Role, .slice a1 x.Log.length c1, .slice a2 x.Votes.length c2, .slice a3 x.Next.length c3, .slice a4 x.Match.length c4]) (hZ : ∀ q, q ∈ Z → q ∈ ([] : List Hole) ∨ (q.1 = j.toNat ∧ q.2.1 = 6)) (hZ' : ∀ q, q ∈ ([] : List Hole) → q ∈ Z ∧ ¬ (q.1 = j.toNat ∧ q.2.1 = 6)) (hH : H' b = some (.row (Rp.sz GPeer) (splice c (e + 6) [.slice none 0 0]))) (hk : ∀ i, i ≠ b → H' i = H i) : OD lo n H' F S [] (.slice a m cap) (setI xs j (⟨x.Up, x.Term, x.Vote, x.Commit, x.Role, x.Log, [], x.Next, x.Match⟩ : GPeer)) := by
  refine OD.S0 (OD.upd (o := 6) (f0 := 6) (hv0 := .slice none 0 0) (Z' := []) (vc := [.slice none 0 0]) [6] h hp hi hrow hwin (Nat.le_of_ble_eq_true rfl) ⟨a1, c1, none, 0, a3, c3, a4, c4, rfl⟩ (fun i hi => by cases hi) ?_ (fun q hq => (hZ q hq).imp id (fun h => ⟨h.1, by rw [h.2]; simp⟩)) (fun q hq => by cases hq) hH hk)
  intro f hf hv hh
  have hf2 : f = 5 ∨ f = 6 ∨ f = 7 ∨ f = 8 := by simpa [Dp.offs] using hf
  rcases hf2 with rfl | rfl | rfl | rfl
  · exact .inl ⟨hh, by decide, fun G h => ⟨fun e => h.1 e, fun e => absurd e (by decide), fun e => h.2.2.1 e, fun e => h.2.2.2 e⟩⟩
  · cases hh; exact .inr ⟨by simp, ⟨fun e => absurd e (by decide), fun _ => OX.nil, fun e => absurd e (by decide), fun e => absurd e (by decide)⟩, fun i hi => by cases hi⟩
  · exact .inl ⟨hh, by decide, fun G h => ⟨fun e => h.1 e, fun e => absurd e (by decide), fun e => h.2.2.1 e, fun e => h.2.2.2 e⟩⟩
  · exact .inl ⟨hh, by decide, fun G h => ⟨fun e => h.1 e, fun e => absurd e (by decide), fun e => h.2.2.1 e, fun e => h.2.2.2 e⟩⟩
theorem GPeer.open_Votes {lo n : Nat} {H F : Heap} {S : Nat → Prop} {Z : List Hole} {a : Option Addr} {m cap b e : Nat} {j : Int} {xs : List GPeer} {x : GPeer} {c : List Value} {a1 : Option Addr} {c1 : Nat} {a2 : Option Addr} {c2 : Nat} {a3 : Option Addr} {c3 : Nat} {a4 : Option Addr} {c4 : Nat} (h : OD lo n H F S Z (.slice a m cap) xs) (hp : DPt a j (Rp.sz GPeer) b e) (hi : idx xs j = some x) (hrow : H b = some (.row (Rp.sz GPeer) c)) (hwin : (c.drop e).take (Rp.sz GPeer) = [.bool x.Up, .int .i64 x.Term, .int .i64 x.Vote, .int .i64 x.Commit, .int .i64 x.Role, .slice a1 x.Log.length c1, .slice a2 x.Votes.length c2, .slice a3 x.Next.length c3, .slice a4 x.Match.length c4]) (hz : ∀ q, q ∈ Z → ¬ (q.1 = j.toNat ∧ q.2.1 = 6)) : ∃ S', (∀ i, S' i → S i) ∧ (∀ i, idOf (.slice a2 x.Votes.length c2) = some i → S i) ∧ (∀ i, idOf (.slice a2 x.Votes.length c2) = some i → ¬ S' i) ∧ OW lo n H F (.slice a2 x.Votes.length c2) x.Votes ∧ OD lo n H F S' ((j.toNat, 6, (.slice a2 x.Votes.length c2)) :: Z) (.slice a m cap) xs := by
  obtain ⟨h1, h2, h3⟩ := OD.open (f := 6) h hp hi hrow hwin (by decide) rfl hz
  exact ⟨_, fun i h => h.1, fun i h => (h2 i h).1, fun i h hs => hs.2 h, (h1.2.1 rfl).ow (fun i h => (h2 i h).2), h3⟩
theorem GPeer.close0_Votes {lo n : Nat} {H F : Heap} {S : Nat → Prop} {Z : List Hole} {v : Value} {M : Nat} {a1 : Option Addr} {c1 : Nat} {j : Int} {xs : List GPeer} {x : GPeer} (h : OD lo n H F S ((j.toNat, 6, .slice a1 M c1) :: Z) v xs) (hi : idx xs j = some x) (hn : OW lo n H F (.slice a1 M c1) x.Votes) : ∃ S', (∀ i, S' i → S i ∨ idOf (.slice a1 M c1) = some i) ∧ OD lo n H F S' Z v xs :=
  ⟨_, fun _ h => h, OD.close0 h hi ⟨fun e => absurd e (by decide), fun _ => hn.ox, fun e => absurd e (by decide), fun e => absurd e (by decide)⟩ (fun i h => ⟨(hn.id_lt h).1, (hn.id_lt h).2, hn.fnone h, hn.alive h⟩)⟩
theorem GPeer.close_Votes {lo n : Nat} {H F : Heap} {S : Nat → Prop} {Z : List Hole} {v : Value} {M : Nat} {a1 : Option Addr} {c1 : Nat} {j : Int} {xs : List GPeer} {x : GPeer} {ws : (List Bool)} (h : OD lo n H F S ((j.toNat, 6, .slice a1 M c1) :: Z) v xs) (hi : idx xs j = some x) (hl : x.Votes.length = ws.length) (hn : OW lo n H F (.slice a1 M c1) ws) : ∃ S', (∀ i, S' i → S i ∨ idOf (.slice a1 M c1) = some i) ∧ OD lo n H F S' Z v (setI xs j (⟨x.Up, x.Term, x.Vote, x.Commit, x.Role, x.Log, ws, x.Next, x.Match⟩ : GPeer)) :=
  ⟨_, fun _ h => h, OD.close h hi ⟨fun e => absurd e (by decide), fun _ => hn.ox, fun e => absurd e (by decide), fun e => absurd e (by decide)⟩ (fun i h => ⟨(hn.id_lt h).1, (hn.id_lt h).2, hn.fnone h, hn.alive h⟩) (fun cs hb => by obtain ⟨a1, c1, a2, c2, a3, c3, a4, c4, rfl⟩ := hb; exact ⟨a1, c1, a2, c2, a3, c3, a4, c4, by simp only [hl]⟩) (fun f' hf hne G hv' ho => ⟨fun e => ho.1 e, fun e => absurd e hne, fun e => ho.2.2.1 e, fun e => ho.2.2.2 e⟩)⟩
theorem GPeer.set_Next {lo n : Nat} {H H' F : Heap} {S : Nat → Prop} {Z : List Hole} {a : Option Addr} {m cap b e : Nat} {j : Int} {xs : List GPeer} {x : GPeer} {c : List Value} {a1 : Option Addr} {c1 : Nat} {a2 : Option Addr} {c2 : Nat} {a3 : Option Addr} {c3 : Nat} {a4 : Option Addr} {c4 : Nat} (h : OD lo n H F S Z (.slice a m cap) xs) (hp : DPt a j (Rp.sz GPeer) b e) (hi : idx xs j = some x) (hrow : H b = some (.row (Rp.sz GPeer) c)) (hwin : (c.drop e).take (Rp.sz GPeer) = [.bool x.Up, .int .i64 x.Term, .int .i64 x.Vote, .int .i64 x.Commit, .int .i64 x.Role, .slice a1 x.Log.length c1, .slice a2 x.Votes.length c2, .slice a3 x.Next.length c3, .slice a4 x.Match.length c4]) {a' : Option Addr} {cap' : Nat} {ws : (List Int)} (hn : OW lo n H F (.slice a' ws.length cap') ws) (hap : ∀ i, idOf (.slice a' ws.length cap') = some i → ¬ S i) (hZ : ∀ q, q ∈ Z → q ∈ ([] : List Hole) ∨ (q.1 = j.toNat ∧ q.2.1 = 7)) (hZ' : ∀ q, q ∈ ([] : List Hole) → q ∈ Z ∧ ¬ (q.1 = j.toNat ∧ q.2.1 = 7)) (hH : H' b = some (.row (Rp.sz GPeer) (splice c (e + 7) [.slice a' ws.length cap']))) (hk : ∀ i, i ≠ b → H' i = H i) : ∃ S', (∀ i, S' i → S i ∨ idOf (.slice a' ws.length cap') = some i) ∧ OD lo n H' F S' [] (.slice a m cap) (setI xs j (⟨x.Up, x.Term, x.Vote, x.Commit, x.Role, x.Log, x.Votes, ws, x.Match⟩ : GPeer)) := by
  refine ⟨_, fun _ h => h, OD.upd (o := 7) (f0 := 7) (hv0 := .slice a' ws.length cap') (Z' := []) (vc := [.slice a' ws.length cap']) [7] h hp hi hrow hwin (Nat.le_of_ble_eq_true rfl) ⟨a1, c1, a2, c2, a', cap', a4, c4, rfl⟩ (fun i hi => ⟨by simp, (hn.id_lt hi).1, (hn.id_lt hi).2, hn.fnone hi, hn.alive hi, hap i hi, fun q hq => by cases hq⟩) ?_ (fun q hq => (hZ q hq).imp id (fun h => ⟨h.1, by rw [h.2]; simp⟩)) (fun q hq => by cases hq) hH hk⟩
  intro f hf hv hh
  have hf2 : f = 5 ∨ f = 6 ∨ f = 7 ∨ f = 8 := by simpa [Dp.offs] using hf
  rcases hf2 with rfl | rfl | rfl | rfl
  · exact .inl ⟨hh, by decide, fun G h => ⟨fun e => h.1 e, fun e => h.2.1 e, fun e => absurd e (by decide), fun e => h.2.2.2 e⟩⟩
  · exact .inl ⟨hh, by decide, fun G h => ⟨fun e => h.1 e, fun e => h.2.1 e, fun e => absurd e (by decide), fun e => h.2.2.2 e⟩⟩
  · cases hh; exact .inr ⟨by simp, ⟨fun e => absurd e (by decide), fun e => absurd e (by decide), fun _ => hn.ox, fun e => absurd e (by decide)⟩, fun i hi => ⟨rfl, hi⟩⟩
  · exact .inl ⟨hh, by decide, fun G h => ⟨fun e => h.1 e, fun e => h.2.1 e, fun e => absurd e (by decide), fun e => h.2.2.2 e⟩⟩
theorem GPeer.nil_Next {lo n : Nat} {H H' F : Heap} {S : Nat → Prop} {Z : List Hole} {a : Option Addr} {m cap b e : Nat} {j : Int} {xs : List GPeer} {x : GPeer} {c : List Value} {a1 : Option Addr} {c1 : Nat} {a2 : Option Addr} {c2 : Nat} {a3 : Option Addr} {c3 : Nat} {a4 : Option Addr} {c4 : Nat} (h : OD lo n H F S Z (.slice a m cap) xs) (hp : DPt a j (Rp.sz GPeer) b e) (hi : idx xs j = some x) (hrow : H b = some (.row (Rp.sz GPeer) c)) (hwin : (c.drop e).take (Rp.sz GPeer) = [.bool x.Up, .int .i64 x.Term, .int .i64 x.Vote, .int .i64 x.Commit, .int .i64 x.Role, .slice a1 x.Log.length c1, .slice a2 x.Votes.length c2, .slice a3 x.Next.length c3, .slice a4 x.Match.length c4]) (hZ : ∀ q, q ∈ Z → q ∈ ([] : List Hole) ∨ (q.1 = j.toNat ∧ q.2.1 = 7)) (hZ' : ∀ q, q ∈ ([] : List Hole) → q ∈ Z ∧ ¬ (q.1 = j.toNat ∧ q.2.1 = 7)) (hH : H' b = some (.row (Rp.sz GPeer) (splice c (e + 7) [.slice none 0 0]))) (hk : ∀ i, i ≠ b → H' i = H i) : OD lo n H' F S [] (.slice a m cap) (setI xs j (⟨x.Up, x.Term, x.Vote, x.Commit, x.Role, x.Log, x.Votes, [], x.Match⟩ : GPeer)) := by
  refine OD.S0 (OD.upd (o := 7) (f0 := 7) (hv0 := .slice none 0 0) (Z' := []) (vc := [.slice none 0 0]) [7] h hp hi hrow hwin (Nat.le_of_ble_eq_true rfl) ⟨a1, c1, a2, c2, none, 0, a4, c4, rfl⟩ (fun i hi => by cases hi) ?_ (fun q hq => (hZ q hq).imp id (fun h => ⟨h.1, by rw [h.2]; simp⟩)) (fun q hq => by cases hq) hH hk)
  intro f hf hv hh
  have hf2 : f = 5 ∨ f = 6 ∨ f = 7 ∨ f = 8 := by simpa [Dp.offs] using hf
  rcases hf2 with rfl | rfl | rfl | rfl
  · exact .inl ⟨hh, by decide, fun G h => ⟨fun e => h.1 e, fun e => h.2.1 e, fun e => absurd e (by decide), fun e => h.2.2.2 e⟩⟩
  · exact .inl ⟨hh, by decide, fun G h => ⟨fun e => h.1 e, fun e => h.2.1 e, fun e => absurd e (by decide), fun e => h.2.2.2 e⟩⟩
  · cases hh; exact .inr ⟨by simp, ⟨fun e => absurd e (by decide), fun e => absurd e (by decide), fun _ => OX.nil, fun e => absurd e (by decide)⟩, fun i hi => by cases hi⟩
  · exact .inl ⟨hh, by decide, fun G h => ⟨fun e => h.1 e, fun e => h.2.1 e, fun e => absurd e (by decide), fun e => h.2.2.2 e⟩⟩
theorem GPeer.open_Next {lo n : Nat} {H F : Heap} {S : Nat → Prop} {Z : List Hole} {a : Option Addr} {m cap b e : Nat} {j : Int} {xs : List GPeer} {x : GPeer} {c : List Value} {a1 : Option Addr} {c1 : Nat} {a2 : Option Addr} {c2 : Nat} {a3 : Option Addr} {c3 : Nat} {a4 : Option Addr} {c4 : Nat} (h : OD lo n H F S Z (.slice a m cap) xs) (hp : DPt a j (Rp.sz GPeer) b e) (hi : idx xs j = some x) (hrow : H b = some (.row (Rp.sz GPeer) c)) (hwin : (c.drop e).take (Rp.sz GPeer) = [.bool x.Up, .int .i64 x.Term, .int .i64 x.Vote, .int .i64 x.Commit, .int .i64 x.Role, .slice a1 x.Log.length c1, .slice a2 x.Votes.length c2, .slice a3 x.Next.length c3, .slice a4 x.Match.length c4]) (hz : ∀ q, q ∈ Z → ¬ (q.1 = j.toNat ∧ q.2.1 = 7)) : ∃ S', (∀ i, S' i → S i) ∧ (∀ i, idOf (.slice a3 x.Next.length c3) = some i → S i) ∧ (∀ i, idOf (.slice a3 x.Next.length c3) = some i → ¬ S' i) ∧ OW lo n H F (.slice a3 x.Next.length c3) x.Next ∧ OD lo n H F S' ((j.toNat, 7, (.slice a3 x.Next.length c3)) :: Z) (.slice a m cap) xs := by
  obtain ⟨h1, h2, h3⟩ := OD.open (f := 7) h hp hi hrow hwin (by decide) rfl hz
  exact ⟨_, fun i h => h.1, fun i h => (h2 i h).1, fun i h hs => hs.2 h, (h1.2.2.1 rfl).ow (fun i h => (h2 i h).2), h3⟩
theorem GPeer.close0_Next {lo n : Nat} {H F : Heap} {S : Nat → Prop} {Z : List Hole} {v : Value} {M : Nat} {a1 : Option Addr} {c1 : Nat} {j : Int} {xs : List GPeer} {x : GPeer} (h : OD lo n H F S ((j.toNat, 7, .slice a1 M c1) :: Z) v xs) (hi : idx xs j = some x) (hn : OW lo n H F (.slice a1 M c1) x.Next) : ∃ S', (∀ i, S' i → S i ∨ idOf (.slice a1 M c1) = some i) ∧ OD lo n H F S' Z v xs :=
  ⟨_, fun _ h => h, OD.close0 h hi ⟨fun e => absurd e (by decide), fun e => absurd e (by decide), fun _ => hn.ox, fun e => absurd e (by decide)⟩ (fun i h => ⟨(hn.id_lt h).1, (hn.id_lt h).2, hn.fnone h, hn.alive h⟩)⟩
theorem GPeer.close_Next {lo n : Nat} {H F : Heap} {S : Nat → Prop} {Z : List Hole} {v : Value} {M : Nat} {a1 : Option Addr} {c1 : Nat} {j : Int} {xs : List GPeer} {x : GPeer} {ws : (List Int)} (h : OD lo n H F S ((j.toNat, 7, .slice a1 M c1) :: Z) v xs) (hi : idx xs j = some x) (hl : x.Next.length = ws.length) (hn : OW lo n H F (.slice a1 M c1) ws) : ∃ S', (∀ i, S' i → S i ∨ idOf (.slice a1 M c1) = some i) ∧ OD lo n H F S' Z v (setI xs j (⟨x.Up, x.Term, x.Vote, x.Commit, x.Role, x.Log, x.Votes, ws, x.Match⟩ : GPeer)) :=
  ⟨_, fun _ h => h, OD.close h hi ⟨fun e => absurd e (by decide), fun e => absurd e (by decide), fun _ => hn.ox, fun e => absurd e (by decide)⟩ (fun i h => ⟨(hn.id_lt h).1, (hn.id_lt h).2, hn.fnone h, hn.alive h⟩) (fun cs hb => by obtain ⟨a1, c1, a2, c2, a3, c3, a4, c4, rfl⟩ := hb; exact ⟨a1, c1, a2, c2, a3, c3, a4, c4, by simp only [hl]⟩) (fun f' hf hne G hv' ho => ⟨fun e => ho.1 e, fun e => ho.2.1 e, fun e => absurd e hne, fun e => ho.2.2.2 e⟩)⟩
theorem GPeer.set_Match {lo n : Nat} {H H' F : Heap} {S : Nat → Prop} {Z : List Hole} {a : Option Addr} {m cap b e : Nat} {j : Int} {xs : List GPeer} {x : GPeer} {c : List Value} {a1 : Option Addr} {c1 : Nat} {a2 : Option Addr} {c2 : Nat} {a3 : Option Addr} {c3 : Nat} {a4 : Option Addr} {c4 : Nat} (h : OD lo n H F S Z (.slice a m cap) xs) (hp : DPt a j (Rp.sz GPeer) b e) (hi : idx xs j = some x) (hrow : H b = some (.row (Rp.sz GPeer) c)) (hwin : (c.drop e).take (Rp.sz GPeer) = [.bool x.Up, .int .i64 x.Term, .int .i64 x.Vote, .int .i64 x.Commit, .int .i64 x.Role, .slice a1 x.Log.length c1, .slice a2 x.Votes.length c2, .slice a3 x.Next.length c3, .slice a4 x.Match.length c4]) {a' : Option Addr} {cap' : Nat} {ws : (List Int)} (hn : OW lo n H F (.slice a' ws.length cap') ws) (hap : ∀ i, idOf (.slice a' ws.length cap') = some i → ¬ S i) (hZ : ∀ q, q ∈ Z → q ∈ ([] : List Hole) ∨ (q.1 = j.toNat ∧ q.2.1 = 8)) (hZ' : ∀ q, q ∈ ([] : List Hole) → q ∈ Z ∧ ¬ (q.1 = j.toNat ∧ q.2.1 = 8)) (hH : H' b = some (.row (Rp.sz GPeer) (splice c (e + 8) [.slice a' ws.length cap']))) (hk : ∀ i, i ≠ b → H' i = H i) : ∃ S', (∀ i, S' i → S i ∨ idOf (.slice a' ws.length cap') = some i) ∧ OD lo n H' F S' [] (.slice a m cap) (setI xs j (⟨x.Up, x.Term, x.Vote, x.Commit, x.Role, x.Log, x.Votes, x.Next, ws⟩ : GPeer)) := by
  refine ⟨_, fun _ h => h, OD.upd (o := 8) (f0 := 8) (hv0 := .slice a' ws.length cap') (Z' := []) (vc := [.slice a' ws.length cap']) [8] h hp hi hrow hwin (Nat.le_of_ble_eq_true rfl) ⟨a1, c1, a2, c2, a3, c3, a', cap', rfl⟩ (fun i hi => ⟨by simp, (hn.id_lt hi).1, (hn.id_lt hi).2, hn.fnone hi, hn.alive hi, hap i hi, fun q hq => by cases hq⟩) ?_ (fun q hq => (hZ q hq).imp id (fun h => ⟨h.1, by rw [h.2]; simp⟩)) (fun q hq => by cases hq) hH hk⟩
  intro f hf hv hh
  have hf2 : f = 5 ∨ f = 6 ∨ f = 7 ∨ f = 8 := by simpa [Dp.offs] using hf
  rcases hf2 with rfl | rfl | rfl | rfl
  · exact .inl ⟨hh, by decide, fun G h => ⟨fun e => h.1 e, fun e => h.2.1 e, fun e => h.2.2.1 e, fun e => absurd e (by decide)⟩⟩
  · exact .inl ⟨hh, by decide, fun G h => ⟨fun e => h.1 e, fun e => h.2.1 e, fun e => h.2.2.1 e, fun e => absurd e (by decide)⟩⟩
  · exact .inl ⟨hh, by decide, fun G h => ⟨fun e => h.1 e, fun e => h.2.1 e, fun e => h.2.2.1 e, fun e => absurd e (by decide)⟩⟩
  · cases hh; exact .inr ⟨by simp, ⟨fun e => absurd e (by decide), fun e => absurd e (by decide), fun e => absurd e (by decide), fun _ => hn.ox⟩, fun i hi => ⟨rfl, hi⟩⟩
theorem GPeer.nil_Match {lo n : Nat} {H H' F : Heap} {S : Nat → Prop} {Z : List Hole} {a : Option Addr} {m cap b e : Nat} {j : Int} {xs : List GPeer} {x : GPeer} {c : List Value} {a1 : Option Addr} {c1 : Nat} {a2 : Option Addr} {c2 : Nat} {a3 : Option Addr} {c3 : Nat} {a4 : Option Addr} {c4 : Nat} (h : OD lo n H F S Z (.slice a m cap) xs) (hp : DPt a j (Rp.sz GPeer) b e) (hi : idx xs j = some x) (hrow : H b = some (.row (Rp.sz GPeer) c)) (hwin : (c.drop e).take (Rp.sz GPeer) = [.bool x.Up, .int .i64 x.Term, .int .i64 x.Vote, .int .i64 x.Commit, .int .i64 x.Role, .slice a1 x.Log.length c1, .slice a2 x.Votes.length c2, .slice a3 x.Next.length c3, .slice a4 x.Match.length c4]) (hZ : ∀ q, q ∈ Z → q ∈ ([] : List Hole) ∨ (q.1 = j.toNat ∧ q.2.1 = 8)) (hZ' : ∀ q, q ∈ ([] : List Hole) → q ∈ Z ∧ ¬ (q.1 = j.toNat ∧ q.2.1 = 8)) (hH : H' b = some (.row (Rp.sz GPeer) (splice c (e + 8) [.slice none 0 0]))) (hk : ∀ i, i ≠ b → H' i = H i) : OD lo n H' F S [] (.slice a m cap) (setI xs j (⟨x.Up, x.Term, x.Vote, x.Commit, x.Role, x.Log, x.Votes, x.Next, []⟩ : GPeer)) := by
  refine OD.S0 (OD.upd (o := 8) (f0 := 8) (hv0 := .slice none 0 0) (Z' := []) (vc := [.slice none 0 0]) [8] h hp hi hrow hwin (Nat.le_of_ble_eq_true rfl) ⟨a1, c1, a2, c2, a3, c3, none, 0, rfl⟩ (fun i hi => by cases hi) ?_ (fun q hq => (hZ q hq).imp id (fun h => ⟨h.1, by rw [h.2]; simp⟩)) (fun q hq => by cases hq) hH hk)
  intro f hf hv hh
  have hf2 : f = 5 ∨ f = 6 ∨ f = 7 ∨ f = 8 := by simpa [Dp.offs] using hf
  rcases hf2 with rfl | rfl | rfl | rfl
  · exact .inl ⟨hh, by decide, fun G h => ⟨fun e => h.1 e, fun e => h.2.1 e, fun e => h.2.2.1 e, fun e => absurd e (by decide)⟩⟩
  · exact .inl ⟨hh, by decide, fun G h => ⟨fun e => h.1 e, fun e => h.2.1 e, fun e => h.2.2.1 e, fun e => absurd e (by decide)⟩⟩
  · exact .inl ⟨hh, by decide, fun G h => ⟨fun e => h.1 e, fun e => h.2.1 e, fun e => h.2.2.1 e, fun e => absurd e (by decide)⟩⟩
  · cases hh; exact .inr ⟨by simp, ⟨fun e => absurd e (by decide), fun e => absurd e (by decide), fun e => absurd e (by decide), fun _ => OX.nil⟩, fun i hi => by cases hi⟩
theorem GPeer.open_Match {lo n : Nat} {H F : Heap} {S : Nat → Prop} {Z : List Hole} {a : Option Addr} {m cap b e : Nat} {j : Int} {xs : List GPeer} {x : GPeer} {c : List Value} {a1 : Option Addr} {c1 : Nat} {a2 : Option Addr} {c2 : Nat} {a3 : Option Addr} {c3 : Nat} {a4 : Option Addr} {c4 : Nat} (h : OD lo n H F S Z (.slice a m cap) xs) (hp : DPt a j (Rp.sz GPeer) b e) (hi : idx xs j = some x) (hrow : H b = some (.row (Rp.sz GPeer) c)) (hwin : (c.drop e).take (Rp.sz GPeer) = [.bool x.Up, .int .i64 x.Term, .int .i64 x.Vote, .int .i64 x.Commit, .int .i64 x.Role, .slice a1 x.Log.length c1, .slice a2 x.Votes.length c2, .slice a3 x.Next.length c3, .slice a4 x.Match.length c4]) (hz : ∀ q, q ∈ Z → ¬ (q.1 = j.toNat ∧ q.2.1 = 8)) : ∃ S', (∀ i, S' i → S i) ∧ (∀ i, idOf (.slice a4 x.Match.length c4) = some i → S i) ∧ (∀ i, idOf (.slice a4 x.Match.length c4) = some i → ¬ S' i) ∧ OW lo n H F (.slice a4 x.Match.length c4) x.Match ∧ OD lo n H F S' ((j.toNat, 8, (.slice a4 x.Match.length c4)) :: Z) (.slice a m cap) xs := by
  obtain ⟨h1, h2, h3⟩ := OD.open (f := 8) h hp hi hrow hwin (by decide) rfl hz
  exact ⟨_, fun i h => h.1, fun i h => (h2 i h).1, fun i h hs => hs.2 h, (h1.2.2.2 rfl).ow (fun i h => (h2 i h).2), h3⟩
theorem GPeer.close0_Match {lo n : Nat} {H F : Heap} {S : Nat → Prop} {Z : List Hole} {v : Value} {M : Nat} {a1 : Option Addr} {c1 : Nat} {j : Int} {xs : List GPeer} {x : GPeer} (h : OD lo n H F S ((j.toNat, 8, .slice a1 M c1) :: Z) v xs) (hi : idx xs j = some x) (hn : OW lo n H F (.slice a1 M c1) x.Match) : ∃ S', (∀ i, S' i → S i ∨ idOf (.slice a1 M c1) = some i) ∧ OD lo n H F S' Z v xs :=
  ⟨_, fun _ h => h, OD.close0 h hi ⟨fun e => absurd e (by decide), fun e => absurd e (by decide), fun e => absurd e (by decide), fun _ => hn.ox⟩ (fun i h => ⟨(hn.id_lt h).1, (hn.id_lt h).2, hn.fnone h, hn.alive h⟩)⟩
theorem GPeer.close_Match {lo n : Nat} {H F : Heap} {S : Nat → Prop} {Z : List Hole} {v : Value} {M : Nat} {a1 : Option Addr} {c1 : Nat} {j : Int} {xs : List GPeer} {x : GPeer} {ws : (List Int)} (h : OD lo n H F S ((j.toNat, 8, .slice a1 M c1) :: Z) v xs) (hi : idx xs j = some x) (hl : x.Match.length = ws.length) (hn : OW lo n H F (.slice a1 M c1) ws) : ∃ S', (∀ i, S' i → S i ∨ idOf (.slice a1 M c1) = some i) ∧ OD lo n H F S' Z v (setI xs j (⟨x.Up, x.Term, x.Vote, x.Commit, x.Role, x.Log, x.Votes, x.Next, ws⟩ : GPeer)) :=
  ⟨_, fun _ h => h, OD.close h hi ⟨fun e => absurd e (by decide), fun e => absurd e (by decide), fun e => absurd e (by decide), fun _ => hn.ox⟩ (fun i h => ⟨(hn.id_lt h).1, (hn.id_lt h).2, hn.fnone h, hn.alive h⟩) (fun cs hb => by obtain ⟨a1, c1, a2, c2, a3, c3, a4, c4, rfl⟩ := hb; exact ⟨a1, c1, a2, c2, a3, c3, a4, c4, by simp only [hl]⟩) (fun f' hf hne G hv' ho => ⟨fun e => ho.1 e, fun e => ho.2.1 e, fun e => ho.2.2.1 e, fun e => absurd e hne⟩)⟩
structure GMsg where
  Kind : Int
  From : Int
  To : Int
  Term : Int
  A : Int
  B : Int
  C : Int
  Ok : Bool
  Log : (List GRec)
deriving DecidableEq, Inhabited
instance : Rp GMsg where
  sz := 9
  R F cs x := ∃ (a1 : Option Addr) (c1 : Nat), cs = [.int .i64 x.Kind, .int .i64 x.From, .int .i64 x.To, .int .i64 x.Term, .int .i64 x.A, .int .i64 x.B, .int .i64 x.C, .bool x.Ok, .slice a1 x.Log.length c1] ∧ SR F (.slice a1 x.Log.length c1) x.Log
  len h := by obtain ⟨a1, c1, rfl, _⟩ := h; rfl
  one h := by obtain ⟨a1, c1, rfl, _⟩ := h; repeat' (first | exact List.forall_mem_nil _ | refine List.forall_mem_cons.2 ⟨?_, ?_⟩ | rfl)
  mono h hle := by obtain ⟨a1, c1, rfl, h1⟩ := h; exact ⟨a1, c1, rfl, h1.mono hle⟩
instance : Bd GMsg := ⟨fun B x => Bd.bd B x.Log⟩
theorem GMsg.ofR {F : Heap} {cs : List Value} {x : GMsg} (h : Rp.R F cs x) : ∃ (a1 : Option Addr) (c1 : Nat), cs = [.int .i64 x.Kind, .int .i64 x.From, .int .i64 x.To, .int .i64 x.Term, .int .i64 x.A, .int .i64 x.B, .int .i64 x.C, .bool x.Ok, .slice a1 x.Log.length c1] ∧ SR F (.slice a1 x.Log.length c1) x.Log := h
theorem GMsg.toR {F : Heap} {x : GMsg} {a1 : Option Addr} {c1 : Nat} (h1 : SR F (.slice a1 x.Log.length c1) x.Log) : Rp.R F [.int .i64 x.Kind, .int .i64 x.From, .int .i64 x.To, .int .i64 x.Term, .int .i64 x.A, .int .i64 x.B, .int .i64 x.C, .bool x.Ok, .slice a1 x.Log.length c1] x := ⟨a1, c1, rfl, h1⟩
structure GCluster where
  Peers : (List GPeer)
  Net : (List GMsg)
  Chosen : (List GRec)
  Conflict : Bool
deriving DecidableEq, Inhabited
instance : Rp GCluster where
  sz := 4
  R F cs x := ∃ (a1 : Option Addr) (c1 : Nat) (a2 : Option Addr) (c2 : Nat) (a3 : Option Addr) (c3 : Nat), cs = [.slice a1 x.Peers.length c1, .slice a2 x.Net.length c2, .slice a3 x.Chosen.length c3, .bool x.Conflict] ∧ SR F (.slice a1 x.Peers.length c1) x.Peers ∧ SR F (.slice a2 x.Net.length c2) x.Net ∧ SR F (.slice a3 x.Chosen.length c3) x.Chosen
  len h := by obtain ⟨a1, c1, a2, c2, a3, c3, rfl, _, _, _⟩ := h; rfl
  one h := by obtain ⟨a1, c1, a2, c2, a3, c3, rfl, _, _, _⟩ := h; repeat' (first | exact List.forall_mem_nil _ | refine List.forall_mem_cons.2 ⟨?_, ?_⟩ | rfl)
  mono h hle := by obtain ⟨a1, c1, a2, c2, a3, c3, rfl, h1, h2, h3⟩ := h; exact ⟨a1, c1, a2, c2, a3, c3, rfl, h1.mono hle, h2.mono hle, h3.mono hle⟩
instance : Bd GCluster := ⟨fun B x => Bd.bd B x.Peers ∧ Bd.bd B x.Net ∧ Bd.bd B x.Chosen⟩
theorem GCluster.ofR {F : Heap} {cs : List Value} {x : GCluster} (h : Rp.R F cs x) : ∃ (a1 : Option Addr) (c1 : Nat) (a2 : Option Addr) (c2 : Nat) (a3 : Option Addr) (c3 : Nat), cs = [.slice a1 x.Peers.length c1, .slice a2 x.Net.length c2, .slice a3 x.Chosen.length c3, .bool x.Conflict] ∧ SR F (.slice a1 x.Peers.length c1) x.Peers ∧ SR F (.slice a2 x.Net.length c2) x.Net ∧ SR F (.slice a3 x.Chosen.length c3) x.Chosen := h
def f_laws_at (xs1 : (List UInt8)) (x5 : Int) (x6 : Int) : Option (Int) :=
  if x6 ≤ 1 then
    some 0
  else
    if (xs1.length : Int) = 0 then
      chk (-9223372036854775808 ≤ x5 * 7 ∧ x5 * 7 < 9223372036854775808) <|
      chk ((0 : Int) ≤ (x5 * 7) ∧ (0 : Int) < x6) <|
      some ((x5 * 7) % x6)
    else
      chk ((0 : Int) ≤ x5 ∧ (0 : Int) < (xs1.length : Int)) <|
      (idx xs1 (x5 % (xs1.length : Int))).bind fun x16 =>
      chk (-9223372036854775808 ≤ (x16.toNat : Int) * 31 ∧ (x16.toNat : Int) * 31 < 9223372036854775808) <|
      chk (-9223372036854775808 ≤ x5 + 1 ∧ x5 + 1 < 9223372036854775808) <|
      chk ((0 : Int) ≤ (x5 + 1) ∧ (0 : Int) < (xs1.length : Int)) <|
      (idx xs1 ((x5 + 1) % (xs1.length : Int))).bind fun x27 =>
      chk (-9223372036854775808 ≤ ((x16.toNat : Int) * 31) + (x27.toNat : Int) ∧ ((x16.toNat : Int) * 31) + (x27.toNat : Int) < 9223372036854775808) <|
      chk ((0 : Int) ≤ x5 ∧ x5 < 9223372036854775808 ∧ (0 : Int) < (xs1.length : Int)) <|
      chk (-9223372036854775808 ≤ (((x16.toNat : Int) * 31) + (x27.toNat : Int)) + (x5 / (xs1.length : Int)) ∧ (((x16.toNat : Int) * 31) + (x27.toNat : Int)) + (x5 / (xs1.length : Int)) < 9223372036854775808) <|
      chk ((0 : Int) ≤ ((((x16.toNat : Int) * 31) + (x27.toNat : Int)) + (x5 / (xs1.length : Int))) ∧ (0 : Int) < x6) <|
      some (((((x16.toNat : Int) * 31) + (x27.toNat : Int)) + (x5 / (xs1.length : Int))) % x6)
def f_laws_peers (xs1 : (List UInt8)) : Option (Int) :=
  (f_laws_at xs1 0 7).bind fun x11 =>
  (idx ([1, 3, 5, 3, 2, 4, 7] : List Int) x11).bind fun x20 =>
  some x20
def f_spec_l00Source (xs1 : (List UInt8)) : Option (Gl00Src) :=
  chk ((0 : Int) ≤ (xs1.length : Int) ∧ (0 : Int) < 1000) <|
  some (⟨xs1, 0, ((xs1.length : Int) % 1000)⟩ : Gl00Src)
def f_spec_l00Src_byte (x1 : Gl00Src) : Option (Gl00Src × Int) :=
  chk (-9223372036854775808 ≤ x1.at_ + 1 ∧ x1.at_ + 1 < 9223372036854775808) <|
  if (x1.at_ + 1) ≤ (x1.code.length : Int) then
    chk (-9223372036854775808 ≤ x1.seed * 31 ∧ x1.seed * 31 < 9223372036854775808) <|
    chk (-9223372036854775808 ≤ (x1.at_ + 1) - 1 ∧ (x1.at_ + 1) - 1 < 9223372036854775808) <|
    (idx x1.code ((x1.at_ + 1) - 1)).bind fun x43 =>
    chk (-9223372036854775808 ≤ (x1.seed * 31) + (x43.toNat : Int) ∧ (x1.seed * 31) + (x43.toNat : Int) < 9223372036854775808) <|
    chk (-9223372036854775808 ≤ ((x1.seed * 31) + (x43.toNat : Int)) + 7 ∧ ((x1.seed * 31) + (x43.toNat : Int)) + 7 < 9223372036854775808) <|
    chk ((0 : Int) ≤ (((x1.seed * 31) + (x43.toNat : Int)) + 7) ∧ (0 : Int) < 2147483648) <|
    chk (-9223372036854775808 ≤ (x1.at_ + 1) - 1 ∧ (x1.at_ + 1) - 1 < 9223372036854775808) <|
    (idx x1.code ((x1.at_ + 1) - 1)).bind fun x59 =>
    some ((⟨x1.code, (x1.at_ + 1), ((((x1.seed * 31) + (x43.toNat : Int)) + 7) % 2147483648)⟩ : Gl00Src), (x59.toNat : Int))
  else
    if (3000 : Int) < (x1.at_ + 1) then
      some ((⟨x1.code, (x1.at_ + 1), x1.seed⟩ : Gl00Src), 0)
    else
      chk (-9223372036854775808 ≤ x1.seed * 1103515245 ∧ x1.seed * 1103515245 < 9223372036854775808) <|
      chk (-9223372036854775808 ≤ (x1.seed * 1103515245) + 12345 ∧ (x1.seed * 1103515245) + 12345 < 9223372036854775808) <|
      chk ((0 : Int) ≤ ((x1.seed * 1103515245) + 12345) ∧ (0 : Int) < 2147483648) <|
      chk ((0 : Int) ≤ (((x1.seed * 1103515245) + 12345) % 2147483648) ∧ (((x1.seed * 1103515245) + 12345) % 2147483648) < 9223372036854775808 ∧ (0 : Int) < 65536) <|
      chk ((0 : Int) ≤ ((((x1.seed * 1103515245) + 12345) % 2147483648) / 65536) ∧ (0 : Int) < 256) <|
      some ((⟨x1.code, (x1.at_ + 1), (((x1.seed * 1103515245) + 12345) % 2147483648)⟩ : Gl00Src), (((((x1.seed * 1103515245) + 12345) % 2147483648) / 65536) % 256))
def f_spec_l00Src_next (x1 : Gl00Src) (x8 : Int) : Option (Gl00Src × Int) :=
  if x8 ≤ 1 then
    some ((x1 : Gl00Src), 0)
  else
    if x8 ≤ 256 then
      (f_spec_l00Src_byte (x1 : Gl00Src)).bind fun x36 =>
      chk ((0 : Int) ≤ x36.2 ∧ (0 : Int) < x8) <|
      some ((x36.1 : Gl00Src), (x36.2 % x8))
    else
      (f_spec_l00Src_byte (x1 : Gl00Src)).bind fun x59 =>
      (f_spec_l00Src_byte (x59.1 : Gl00Src)).bind fun x81 =>
      (f_spec_l00Src_byte (x81.1 : Gl00Src)).bind fun x0 =>
      chk (-9223372036854775808 ≤ x59.2 * 65536 ∧ x59.2 * 65536 < 9223372036854775808) <|
      chk (-9223372036854775808 ≤ x81.2 * 256 ∧ x81.2 * 256 < 9223372036854775808) <|
      chk (-9223372036854775808 ≤ (x59.2 * 65536) + (x81.2 * 256) ∧ (x59.2 * 65536) + (x81.2 * 256) < 9223372036854775808) <|
      chk (-9223372036854775808 ≤ ((x59.2 * 65536) + (x81.2 * 256)) + x0.2 ∧ ((x59.2 * 65536) + (x81.2 * 256)) + x0.2 < 9223372036854775808) <|
      chk ((0 : Int) ≤ (((x59.2 * 65536) + (x81.2 * 256)) + x0.2) ∧ (0 : Int) < x8) <|
      some ((x0.1 : Gl00Src), ((((x59.2 * 65536) + (x81.2 * 256)) + x0.2) % x8))
def f_spec_l00Src_bytes_L0 : Nat → (List UInt8) → Int → (List UInt8) → Int → Int → Option (Gl00Src × (List UInt8))
  | 0, _, _, _, _, _ => none
  | k + 1, xs0, x0, xs1, x1, x2 =>
    if (0 : Int) < x0 then
      (f_spec_l00Src_next (⟨xs1, x1, x2⟩ : Gl00Src) 256).bind fun x3 =>
      chk ((xs0.length : Int) + ([(byteOf x3.2)] : List UInt8).length ≤ 68719476736) <|
      chk (-9223372036854775808 ≤ x0 - 1 ∧ x0 - 1 < 9223372036854775808) <|
      (f_spec_l00Src_bytes_L0 k) (xs0 ++ ([(byteOf x3.2)] : List UInt8)) (x0 - 1) x3.1.code x3.1.at_ x3.1.seed
    else
      some ((⟨xs1, x1, x2⟩ : Gl00Src), xs0)
def f_spec_l00Src_bytes (x1 : Gl00Src) (x8 : Int) : Option (Gl00Src × (List UInt8)) :=
  chk (-9223372036854775808 ≤ x8 + 1 ∧ x8 + 1 < 9223372036854775808) <|
  (f_spec_l00Src_next (x1 : Gl00Src) (x8 + 1)).bind fun x18 =>
  f_spec_l00Src_bytes_L0 BIG ([] : List UInt8) x18.2 x18.1.code x18.1.at_ x18.1.seed
def f_spec_l00Src_calm_L1 (xs0 : (List UInt8)) (x0 : Int) (x1 : Int) (x9 : (Gl00Src × Int)) (x2 : Int) (rc0 : (List GEvent) → Int → (List UInt8) → Int → Int → Option (Gl00Src × (List GEvent))) : Nat → (List GEvent) → Int → Option (Gl00Src × (List GEvent))
  | 0, _, _ => none
  | k + 1, xs1, x3 =>
    if (0 : Int) < x3 then
      chk ((xs1.length : Int) + ([(⟨2, 0, []⟩ : GEvent)] : List GEvent).length ≤ 68719476736) <|
      chk (-9223372036854775808 ≤ x3 - 1 ∧ x3 - 1 < 9223372036854775808) <|
      (f_spec_l00Src_calm_L1 xs0 x0 x1 x9 x2 rc0 k) (xs1 ++ ([(⟨2, 0, []⟩ : GEvent)] : List GEvent)) (x3 - 1)
    else
      (f_spec_l00Src_bytes (⟨xs0, x0, x1⟩ : Gl00Src) 3).bind fun x4 =>
      chk ((xs1.length : Int) + ([(⟨7, x9.2, x4.2⟩ : GEvent), (⟨1, x9.2, []⟩ : GEvent)] : List GEvent).length ≤ 68719476736) <|
      chk (-9223372036854775808 ≤ x2 - 1 ∧ x2 - 1 < 9223372036854775808) <|
      rc0 (xs1 ++ ([(⟨7, x9.2, x4.2⟩ : GEvent), (⟨1, x9.2, []⟩ : GEvent)] : List GEvent)) (x2 - 1) x4.1.code x4.1.at_ x4.1.seed
def f_spec_l00Src_calm_L0 (x8 : Int) (x9 : (Gl00Src × Int)) : Nat → (List GEvent) → Int → (List UInt8) → Int → Int → Option (Gl00Src × (List GEvent))
  | 0, _, _, _, _, _ => none
  | k + 1, xs0, x0, xs1, x1, x2 =>
    if (0 : Int) < x0 then
      chk (-9223372036854775808 ≤ (3 : Int) * x8 ∧ (3 : Int) * x8 < 9223372036854775808) <|
      f_spec_l00Src_calm_L1 xs1 x1 x2 x9 x0 (f_spec_l00Src_calm_L0 x8 x9 k) BIG xs0 ((3 : Int) * x8)
    else
      some ((⟨xs1, x1, x2⟩ : Gl00Src), xs0)
def f_spec_l00Src_calm (x1 : Gl00Src) (x8 : Int) : Option (Gl00Src × (List GEvent)) :=
  (f_spec_l00Src_next (x1 : Gl00Src) x8).bind fun x9 =>
  (f_spec_l00Src_next (x9.1 : Gl00Src) 4).bind fun x39 =>
  chk (-9223372036854775808 ≤ (2 : Int) + x39.2 ∧ (2 : Int) + x39.2 < 9223372036854775808) <|
  f_spec_l00Src_calm_L0 x8 x9 BIG ([(⟨1, x9.2, []⟩ : GEvent)] : List GEvent) ((2 : Int) + x39.2) x39.1.code x39.1.at_ x39.1.seed
def f_spec_l00Src_size (x1 : Gl00Src) (x8 : Int) : Option (Int) :=
  chk ((0 : Int) ≤ (x1.code.length : Int) ∧ (x1.code.length : Int) < 9223372036854775808 ∧ (0 : Int) < 12) <|
  chk (-9223372036854775808 ≤ (1 : Int) + ((x1.code.length : Int) / 12) ∧ (1 : Int) + ((x1.code.length : Int) / 12) < 9223372036854775808) <|
  some (if x8 < ((1 : Int) + ((x1.code.length : Int) / 12)) then x8 else ((1 : Int) + ((x1.code.length : Int) / 12)))
def f_spec_l00Src_chance (x1 : Gl00Src) (x8 : Int) : Option (Gl00Src × Bool) :=
  (f_spec_l00Src_next (x1 : Gl00Src) x8).bind fun x9 =>
  chk (-9223372036854775808 ≤ x8 - 1 ∧ x8 - 1 < 9223372036854775808) <|
  some ((x9.1 : Gl00Src), (decide (x9.2 = (x8 - 1))))
def f_spec_l00Src_events_J1 (x0 : Int) (rc0 : (List GEvent) → Int → (List UInt8) → Int → Int → Option (Gl00Src × (List GEvent))) (xs0 : (List GEvent)) (xs1 : (List UInt8)) (x1 : Int) (x2 : Int) : Option (Gl00Src × (List GEvent)) :=
  chk (-9223372036854775808 ≤ x0 - 1 ∧ x0 - 1 < 9223372036854775808) <|
  rc0 xs0 (x0 - 1) xs1 x1 x2
def f_spec_l00Src_events_L0 (x8 : Int) : Nat → (List GEvent) → Int → (List UInt8) → Int → Int → Option (Gl00Src × (List GEvent))
  | 0, _, _, _, _, _ => none
  | k + 1, xs0, x0, xs1, x1, x2 =>
    if (0 : Int) < x0 then
      (f_spec_l00Src_next (⟨xs1, x1, x2⟩ : Gl00Src) 12).bind fun x3 =>
      if x3.2 = 0 then
        (f_spec_l00Src_next (x3.1 : Gl00Src) x8).bind fun x4 =>
        chk ((xs0.length : Int) + ([(⟨1, x4.2, []⟩ : GEvent)] : List GEvent).length ≤ 68719476736) <|
        f_spec_l00Src_events_J1 x0 (f_spec_l00Src_events_L0 x8 k) (xs0 ++ ([(⟨1, x4.2, []⟩ : GEvent)] : List GEvent)) x4.1.code x4.1.at_ x4.1.seed
      else
        if x3.2 = 1 then
          (f_spec_l00Src_next (x3.1 : Gl00Src) x8).bind fun x5 =>
          (f_spec_l00Src_bytes (x5.1 : Gl00Src) 3).bind fun x6 =>
          chk ((xs0.length : Int) + ([(⟨7, x5.2, x6.2⟩ : GEvent)] : List GEvent).length ≤ 68719476736) <|
          f_spec_l00Src_events_J1 x0 (f_spec_l00Src_events_L0 x8 k) (xs0 ++ ([(⟨7, x5.2, x6.2⟩ : GEvent)] : List GEvent)) x6.1.code x6.1.at_ x6.1.seed
        else
          if x3.2 = 2 then
            (f_spec_l00Src_next (x3.1 : Gl00Src) 2).bind fun x7 =>
            (idx ([3, 4] : List Int) x7.2).bind fun x9 =>
            (f_spec_l00Src_next (x7.1 : Gl00Src) 5).bind fun x10 =>
            chk ((xs0.length : Int) + ([(⟨x9, x10.2, []⟩ : GEvent)] : List GEvent).length ≤ 68719476736) <|
            f_spec_l00Src_events_J1 x0 (f_spec_l00Src_events_L0 x8 k) (xs0 ++ ([(⟨x9, x10.2, []⟩ : GEvent)] : List GEvent)) x10.1.code x10.1.at_ x10.1.seed
          else
            if x3.2 = 3 then
              (f_spec_l00Src_chance (x3.1 : Gl00Src) 2).bind fun x11 =>
              if x11.2 = true then
                (f_spec_l00Src_next (x11.1 : Gl00Src) 2).bind fun x12 =>
                (idx ([5, 6] : List Int) x12.2).bind fun x13 =>
                (f_spec_l00Src_next (x12.1 : Gl00Src) x8).bind fun x14 =>
                chk ((xs0.length : Int) + ([(⟨x13, x14.2, []⟩ : GEvent)] : List GEvent).length ≤ 68719476736) <|
                f_spec_l00Src_events_J1 x0 (f_spec_l00Src_events_L0 x8 k) (xs0 ++ ([(⟨x13, x14.2, []⟩ : GEvent)] : List GEvent)) x14.1.code x14.1.at_ x14.1.seed
              else
                f_spec_l00Src_events_J1 x0 (f_spec_l00Src_events_L0 x8 k) xs0 x11.1.code x11.1.at_ x11.1.seed
            else
              (f_spec_l00Src_next (x3.1 : Gl00Src) 4).bind fun x15 =>
              chk ((xs0.length : Int) + ([(⟨2, x15.2, []⟩ : GEvent)] : List GEvent).length ≤ 68719476736) <|
              f_spec_l00Src_events_J1 x0 (f_spec_l00Src_events_L0 x8 k) (xs0 ++ ([(⟨2, x15.2, []⟩ : GEvent)] : List GEvent)) x15.1.code x15.1.at_ x15.1.seed
    else
      some ((⟨xs1, x1, x2⟩ : Gl00Src), xs0)
def f_spec_l00Src_events (x1 : Gl00Src) (x8 : Int) : Option (Gl00Src × (List GEvent)) :=
  (f_spec_l00Src_size (x1 : Gl00Src) 60).bind fun x17 =>
  chk (-9223372036854775808 ≤ x17 + 10 ∧ x17 + 10 < 9223372036854775808) <|
  (f_spec_l00Src_next (x1 : Gl00Src) (x17 + 10)).bind fun x28 =>
  f_spec_l00Src_events_L0 x8 BIG ([] : List GEvent) x28.2 x28.1.code x28.1.at_ x28.1.seed
def f_spec_l00Src_anyEvents_J0 (xs0 : (List GEvent)) (xs1 : (List UInt8)) (x0 : Int) (x1 : Int) : Option (Gl00Src × (List GEvent)) :=
  (slc xs0 0 (if 300 < (xs0.length : Int) then 300 else (xs0.length : Int))).bind fun xs2 =>
  some ((⟨xs1, x0, x1⟩ : Gl00Src), xs2)
def f_spec_l00Src_anyEvents (x1 : Gl00Src) (x8 : Int) : Option (Gl00Src × (List GEvent)) :=
  (f_spec_l00Src_calm (x1 : Gl00Src) x8).bind fun x9 =>
  (f_spec_l00Src_events (x9.1 : Gl00Src) x8).bind fun x37 =>
  chk ((x9.2.length : Int) + x37.2.length ≤ 68719476736) <|
  (f_spec_l00Src_chance (x37.1 : Gl00Src) 2).bind fun x83 =>
  if x83.2 = true then
    (f_spec_l00Src_calm (x83.1 : Gl00Src) x8).bind fun x0 =>
    chk (((x9.2 ++ x37.2).length : Int) + x0.2.length ≤ 68719476736) <|
    f_spec_l00Src_anyEvents_J0 ((x9.2 ++ x37.2) ++ x0.2) x0.1.code x0.1.at_ x0.1.seed
  else
    f_spec_l00Src_anyEvents_J0 (x9.2 ++ x37.2) x83.1.code x83.1.at_ x83.1.seed
def f_spec_l00Src_pick (x1 : Gl00Src) (xs8 : (List Str)) : Option (Gl00Src × Str) :=
  if (xs8.length : Int) = 0 then
    some ((x1 : Gl00Src), ([] : List UInt8))
  else
    (f_spec_l00Src_next (x1 : Gl00Src) (xs8.length : Int)).bind fun x14 =>
    (idx xs8 x14.2).bind fun x36 =>
    some ((x14.1 : Gl00Src), x36)
def f_spec_l00Src_job_J0 (x15 : (Gl00Src × Int)) (x41 : (Gl00Src × Int)) (x85 : (Gl00Src × Str)) (x0 : (Gl00Src × Int)) (x1 : (Gl00Src × Str)) (x2 : Str) (xs0 : (List UInt8)) (x3 : Int) (x4 : Int) : Option (Gl00Src × GJob) :=
  (f_spec_l00Src_chance (⟨xs0, x3, x4⟩ : Gl00Src) 5).bind fun x5 =>
  (f_spec_l00Src_chance (x5.1 : Gl00Src) 5).bind fun x6 =>
  some ((x6.1 : Gl00Src), (⟨((1 : Int) + x15.2), ((1 : Int) + x41.2), x85.2, x0.2, x1.2, x2, x5.2, x6.2⟩ : GJob))
def f_spec_l00Src_job (x1 : Gl00Src) : Option (Gl00Src × GJob) :=
  (f_spec_l00Src_next (x1 : Gl00Src) 3).bind fun x15 =>
  chk (-9223372036854775808 ≤ (1 : Int) + x15.2 ∧ (1 : Int) + x15.2 < 9223372036854775808) <|
  (f_spec_l00Src_next (x15.1 : Gl00Src) 4).bind fun x41 =>
  chk (-9223372036854775808 ≤ (1 : Int) + x41.2 ∧ (1 : Int) + x41.2 < 9223372036854775808) <|
  (f_spec_l00Src_pick (x41.1 : Gl00Src) ([([97] : List UInt8), ([98] : List UInt8), ([100, 101, 115, 107] : List UInt8)] : List Str)).bind fun x85 =>
  (f_spec_l00Src_next (x85.1 : Gl00Src) 3).bind fun x0 =>
  (f_spec_l00Src_pick (x0.1 : Gl00Src) ([([115, 47, 97, 47, 98, 47, 103] : List UInt8), ([112] : List UInt8), ([36, 100] : List UInt8), ([49, 33, 71, 59, 104, 59, 36, 33, 100] : List UInt8), ([115, 47] : List UInt8), ([119, 32, 120] : List UInt8), ([121, 47, 97, 98, 47, 98, 97, 47] : List UInt8), ([58, 97, 10, 98, 32, 97] : List UInt8), ([105, 32, 116, 111, 112] : List UInt8)] : List Str)).bind fun x2 =>
  if x0.2 = 0 then
    (f_spec_l00Src_pick (x2.1 : Gl00Src) ([([] : List UInt8), ([97, 10, 98, 10] : List UInt8), ([97, 98, 97, 98, 10] : List UInt8)] : List Str)).bind fun x3 =>
    f_spec_l00Src_job_J0 x15 x41 x85 x0 x2 x3.2 x3.1.code x3.1.at_ x3.1.seed
  else
    f_spec_l00Src_job_J0 x15 x41 x85 x0 x2 ([] : List UInt8) x2.1.code x2.1.at_ x2.1.seed
def f_spec_l01Put_L0 : Nat → Int → (List UInt8) → Option ((List UInt8))
  | 0, _, _ => none
  | k + 1, x0, xs0 =>
    if (128 : Int) ≤ x0 then
      chk ((0 : Int) ≤ x0 ∧ (0 : Int) < 128) <|
      chk ((xs0.length : Int) + ([((byteOf (x0 % 128)) ||| (128 : UInt8))] : List UInt8).length ≤ 68719476736) <|
      chk ((0 : Int) ≤ x0 ∧ x0 < 9223372036854775808 ∧ (0 : Int) < 128) <|
      (f_spec_l01Put_L0 k) (x0 / 128) (xs0 ++ ([((byteOf (x0 % 128)) ||| (128 : UInt8))] : List UInt8))
    else
      chk ((xs0.length : Int) + ([(byteOf x0)] : List UInt8).length ≤ 68719476736) <|
      some (xs0 ++ ([(byteOf x0)] : List UInt8))
def f_spec_l01Put (x1 : Int) : Option ((List UInt8)) :=
  f_spec_l01Put_L0 BIG x1 ([] : List UInt8)
def f_spec_l09Text (x1 : Str) : Option ((List UInt8)) :=
  (f_spec_l01Put (x1.length : Int)).bind fun x2 =>
  chk ((x2.length : Int) + (lst x1).length ≤ 68719476736) <|
  some (x2 ++ (lst x1))
def f_spec_l09Flag (x1 : Bool) : Option (Int) :=
  if x1 = true then
    some 1
  else
    some 0
def f_spec_l09Bytes (x1 : GJob) : Option ((List UInt8)) :=
  (f_spec_l01Put x1.Client).bind fun x8 =>
  (f_spec_l01Put x1.Seq).bind fun x23 =>
  chk ((x8.length : Int) + x23.length ≤ 68719476736) <|
  (f_spec_l09Text x1.File).bind fun x55 =>
  chk (((x8 ++ x23).length : Int) + x55.length ≤ 68719476736) <|
  (f_spec_l01Put x1.Version).bind fun x92 =>
  chk ((((x8 ++ x23) ++ x55).length : Int) + x92.length ≤ 68719476736) <|
  (f_spec_l09Text x1.Script).bind fun x0 =>
  chk (((((x8 ++ x23) ++ x55) ++ x92).length : Int) + x0.length ≤ 68719476736) <|
  (f_spec_l09Text x1.Text).bind fun x2 =>
  chk ((((((x8 ++ x23) ++ x55) ++ x92) ++ x0).length : Int) + x2.length ≤ 68719476736) <|
  (f_spec_l09Flag x1.Ere).bind fun x3 =>
  (f_spec_l09Flag x1.Quiet).bind fun x4 =>
  chk (-9223372036854775808 ≤ (2 : Int) * x4 ∧ (2 : Int) * x4 < 9223372036854775808) <|
  chk (-9223372036854775808 ≤ x3 + ((2 : Int) * x4) ∧ x3 + ((2 : Int) * x4) < 9223372036854775808) <|
  chk (((((((x8 ++ x23) ++ x55) ++ x92) ++ x0) ++ x2).length : Int) + ([(byteOf (x3 + ((2 : Int) * x4)))] : List UInt8).length ≤ 68719476736) <|
  some ((((((x8 ++ x23) ++ x55) ++ x92) ++ x0) ++ x2) ++ ([(byteOf (x3 + ((2 : Int) * x4)))] : List UInt8))
def f_spec_l00Src_jobEvents_J1 (x0 : Int) (rc0 : (List GEvent) → Int → (List UInt8) → Int → Int → Option (Gl00Src × (List GEvent))) (xs0 : (List GEvent)) (xs1 : (List UInt8)) (x1 : Int) (x2 : Int) : Option (Gl00Src × (List GEvent)) :=
  chk (-9223372036854775808 ≤ x0 + 1 ∧ x0 + 1 < 9223372036854775808) <|
  rc0 xs0 (x0 + 1) xs1 x1 x2
def f_spec_l00Src_jobEvents_J2 (xs0 : (List GEvent)) (x0 : Int) (rc0 : (List GEvent) → Int → (List UInt8) → Int → Int → Option (Gl00Src × (List GEvent))) (x1 : Bool) (xs1 : (List UInt8)) (x2 : Int) (x3 : Int) : Option (Gl00Src × (List GEvent)) :=
  if x1 = true then
    (f_spec_l00Src_job (⟨xs1, x2, x3⟩ : Gl00Src)).bind fun x4 =>
    (f_spec_l09Bytes (x4.2 : GJob)).bind fun x5 =>
    (idx xs0 x0).bind fun x6 =>
    f_spec_l00Src_jobEvents_J1 x0 rc0 (setI xs0 x0 (⟨x6.Kind, x6.N, x5⟩ : GEvent)) x4.1.code x4.1.at_ x4.1.seed
  else
    f_spec_l00Src_jobEvents_J1 x0 rc0 xs0 xs1 x2 x3
def f_spec_l00Src_jobEvents_L0 (x9 : (Gl00Src × (List GEvent))) : Nat → (List GEvent) → Int → (List UInt8) → Int → Int → Option (Gl00Src × (List GEvent))
  | 0, _, _, _, _, _ => none
  | k + 1, xs0, x0, xs1, x1, x2 =>
    if x0 < (x9.2.length : Int) then
      (idx xs0 x0).bind fun x3 =>
      if x3.Kind = 7 then
        (f_spec_l00Src_chance (⟨xs1, x1, x2⟩ : Gl00Src) 6).bind fun x4 =>
        f_spec_l00Src_jobEvents_J2 xs0 x0 (f_spec_l00Src_jobEvents_L0 x9 k) (!x4.2) x4.1.code x4.1.at_ x4.1.seed
      else
        f_spec_l00Src_jobEvents_J2 xs0 x0 (f_spec_l00Src_jobEvents_L0 x9 k) false xs1 x1 x2
    else
      some ((⟨xs1, x1, x2⟩ : Gl00Src), xs0)
def f_spec_l00Src_jobEvents (x1 : Gl00Src) (x8 : Int) : Option (Gl00Src × (List GEvent)) :=
  (f_spec_l00Src_anyEvents (x1 : Gl00Src) x8).bind fun x9 =>
  f_spec_l00Src_jobEvents_L0 x9 BIG x9.2 0 x9.1.code x9.1.at_ x9.1.seed
def f_spec_EventsOf (xs1 : (List UInt8)) (x5 : Int) : Option ((List GEvent)) :=
  (f_spec_l00Source xs1).bind fun x6 =>
  (f_spec_l00Src_jobEvents (x6 : Gl00Src) x5).bind fun x25 =>
  some x25.2
def f_impl_unless (x1 : Bool) (x2 : Int) : Option (Int) :=
  if x1 = true then
    some 0
  else
    some x2
def f_impl_longList (x1 : Int) : Option (Int) :=
  (f_impl_unless (decide (x1 ≤ 4096)) 2).bind fun x2 =>
  some x2
def f_impl_within (x1 : Int) (x2 : Int) (x3 : Int) : Option (Bool) :=
  if x2 ≤ x1 then
    some (decide (x1 ≤ x3))
  else
    some false
def f_impl_first_L0 (xs1 : (List Int)) : Nat → Int → Option (Int)
  | 0, _ => none
  | k + 1, x66 =>
    if x66 < (xs1.length : Int) then
      (idx xs1 x66).bind fun x78 =>
      if x78 = 0 then
        chk (-9223372036854775808 ≤ x66 + 1 ∧ x66 + 1 < 9223372036854775808) <|
        (f_impl_first_L0 xs1 k) (x66 + 1)
      else
        some x78
    else
      some 0
def f_impl_first (xs1 : (List Int)) : Option (Int) :=
  f_impl_first_L0 xs1 BIG 0
def f_impl_newCluster_L0 (x1 : Int) : Nat → Int → (List GPeer) → Option (GCluster)
  | 0, _, _ => none
  | k + 1, x0, xs0 =>
    if x0 < x1 then
      chk ((xs0.length : Int) + ([(⟨true, 0, 0, 0, 0, [], [], [], []⟩ : GPeer)] : List GPeer).length ≤ 68719476736) <|
      chk (-9223372036854775808 ≤ x0 + 1 ∧ x0 + 1 < 9223372036854775808) <|
      (f_impl_newCluster_L0 x1 k) (x0 + 1) (xs0 ++ [(⟨true, 0, 0, 0, 0, [], [], [], []⟩ : GPeer)])
    else
      some (⟨xs0, [], [], false⟩ : GCluster)
def f_impl_newCluster (x1 : Int) : Option (GCluster) :=
  f_impl_newCluster_L0 x1 BIG 0 ([])
def f_slices_Clone_byte (xs1 : List UInt8) : Option (List UInt8) := chk ((xs1.length : Int) ≤ 68719476736) (some xs1)
def f_impl_copyRecs_L0 (xs1 : (List GRec)) : Nat → (List GRec) → Int → Option ((List GRec))
  | 0, _, _ => none
  | k + 1, xs0, x0 =>
    if x0 < (xs1.length : Int) then
      (idx xs1 x0).bind fun x1 =>
      (f_slices_Clone_byte x1.Data).bind fun x2 =>
      chk ((xs0.length : Int) + ([(⟨x1.Term, x1.Index, x2⟩ : GRec)] : List GRec).length ≤ 68719476736) <|
      chk (-9223372036854775808 ≤ x0 + 1 ∧ x0 + 1 < 9223372036854775808) <|
      (f_impl_copyRecs_L0 xs1 k) (xs0 ++ ([(⟨x1.Term, x1.Index, x2⟩ : GRec)] : List GRec)) (x0 + 1)
    else
      some xs0
def f_impl_copyRecs (xs1 : (List GRec)) : Option ((List GRec)) :=
  f_impl_copyRecs_L0 xs1 BIG ([] : List GRec) 0
def f__impl_Msg_copied (x1 : GMsg) : Option (GMsg) :=
  (f_impl_copyRecs x1.Log).bind fun x18 =>
  some (⟨x1.Kind, x1.From, x1.To, x1.Term, x1.A, x1.B, x1.C, x1.Ok, x18⟩ : GMsg)
def f_impl_Cluster_send (x1 : GCluster) (x18 : GMsg) : Option (GCluster) :=
  if (x1.Net.length : Int) < 200 then
    (f__impl_Msg_copied (x18 : GMsg)).bind fun x40 =>
    chk ((x1.Net.length : Int) + ([(x40 : GMsg)] : List GMsg).length ≤ 68719476736) <|
    some (⟨x1.Peers, (x1.Net ++ ([(x40 : GMsg)] : List GMsg)), x1.Chosen, x1.Conflict⟩ : GCluster)
  else
    some (x1 : GCluster)
def f_slices_Delete_implMsg (xs1 : List GMsg) (x2 x3 : Int) : Option (List GMsg) := chk (0 ≤ x2 ∧ x3 = x2 + 1 ∧ x3 ≤ (xs1.length : Int)) (some (xs1.take x2.toNat ++ xs1.drop (x2.toNat + 1)))
def f_impl_Peer_term (x1 : GPeer) (x17 : Int) : Option (Int) :=
  if x17 = 0 then
    some 0
  else
    chk (-9223372036854775808 ≤ x17 - 1 ∧ x17 - 1 < 9223372036854775808) <|
    (idx x1.Log (x17 - 1)).bind fun x21 =>
    some x21.Term
def f_impl_Peer_term_elem0 (x1 : GPeer) (x14 : Int) : Option (Int) :=
  if x14 = 0 then
    some 0
  else
    chk (-9223372036854775808 ≤ x14 - 1 ∧ x14 - 1 < 9223372036854775808) <|
    (idx x1.Log (x14 - 1)).bind fun x18 =>
    some x18.Term
def f_impl_Peer_last_elem0 (x1 : GPeer) : Option (Int × Int) :=
  (f_impl_Peer_term_elem0 x1 (x1.Log.length : Int)).bind fun x14 =>
  some ((x1.Log.length : Int), x14)
def f_impl_most (x1 : Int) : Option (Int) :=
  chk ((0 : Int) ≤ x1 ∧ x1 < 9223372036854775808 ∧ (0 : Int) < 2) <|
  chk (-9223372036854775808 ≤ (x1 / 2) + 1 ∧ (x1 / 2) + 1 < 9223372036854775808) <|
  some ((x1 / 2) + 1)
def f_slices_Repeat_int (xs1 : List Int) (x2 : Int) : Option (List Int) := chk (xs1.length = 1 ∧ 1 ≤ x2 ∧ x2 < 100000) (some (List.replicate x2.toNat (xs1.headD 0)))
def f_slices_Equal_byte_L0 (xs1 : (List UInt8)) (xs5 : (List UInt8)) : Nat → Int → Option (Bool)
  | 0, _ => none
  | k + 1, x0 =>
    if x0 < (xs1.length : Int) then
      (idx xs1 x0).bind fun x1 =>
      (idx xs5 x0).bind fun x2 =>
      if (x1.toNat : Int) = (x2.toNat : Int) then
        chk (-9223372036854775808 ≤ x0 + 1 ∧ x0 + 1 < 9223372036854775808) <|
        (f_slices_Equal_byte_L0 xs1 xs5 k) (x0 + 1)
      else
        some false
    else
      some true
def f_slices_Equal_byte (xs1 : (List UInt8)) (xs5 : (List UInt8)) : Option (Bool) :=
  if (xs1.length : Int) = (xs5.length : Int) then
    f_slices_Equal_byte_L0 xs1 xs5 BIG 0
  else
    some false
def f_impl_sameRec (x1 : GRec) (x5 : GRec) : Option (Bool) :=
  if x1.Term = x5.Term then
    if x1.Index = x5.Index then
      (f_slices_Equal_byte x1.Data x5.Data).bind fun x24 =>
      some x24
    else
      some false
  else
    some false
def f_impl_Cluster_choose_J1 (x0 : Int) (rc0 : Int → (List GRec) → Bool → Option (GCluster)) (xs0 : (List GRec)) (x1 : Bool) : Option (GCluster) :=
  chk (-9223372036854775808 ≤ x0 + 1 ∧ x0 + 1 < 9223372036854775808) <|
  rc0 (x0 + 1) xs0 x1
def f_impl_Cluster_choose_L0 (xs49 : (List GRec)) (x1 : GCluster) : Nat → Int → (List GRec) → Bool → Option (GCluster)
  | 0, _, _, _ => none
  | k + 1, x0, xs0, x2 =>
    if x0 < (xs49.length : Int) then
      (idx xs49 x0).bind fun x3 =>
      if x0 = (xs0.length : Int) then
        chk ((xs0.length : Int) + ([(x3 : GRec)] : List GRec).length ≤ 68719476736) <|
        f_impl_Cluster_choose_J1 x0 (f_impl_Cluster_choose_L0 xs49 x1 k) (xs0 ++ ([(x3 : GRec)] : List GRec)) x2
      else
        (idx xs0 x0).bind fun x4 =>
        (f_impl_sameRec (x3 : GRec) (x4 : GRec)).bind fun x5 =>
        if (!x5) = true then
          f_impl_Cluster_choose_J1 x0 (f_impl_Cluster_choose_L0 xs49 x1 k) xs0 true
        else
          f_impl_Cluster_choose_J1 x0 (f_impl_Cluster_choose_L0 xs49 x1 k) xs0 x2
    else
      some (⟨x1.Peers, x1.Net, xs0, x2⟩ : GCluster)
def f_impl_Cluster_choose (x1 : GCluster) (x18 : Int) : Option (GCluster) :=
  (idx x1.Peers x18).bind fun x25 =>
  (slc x25.Log 0 x25.Commit).bind fun xs49 =>
  f_impl_Cluster_choose_L0 xs49 x1 BIG 0 x1.Chosen x1.Conflict
def f_impl_Cluster_commit_J0 (x1 : GCluster) (x18 : Int) (xs0 : (List GPeer)) : Option (GCluster) :=
  (f_impl_Cluster_choose (⟨xs0, x1.Net, x1.Chosen, x1.Conflict⟩ : GCluster) x18).bind fun x0 =>
  some (x0 : GCluster)
def f_impl_Cluster_commit_J3 (x0 : Int) (rc2 : Int → Int → Option (GCluster)) (x1 : Int) : Option (GCluster) :=
  chk (-9223372036854775808 ≤ x0 + 1 ∧ x0 + 1 < 9223372036854775808) <|
  rc2 x1 (x0 + 1)
def f_impl_Cluster_commit_J4 (x1 : GCluster) (x18 : Int) (x25 : GPeer) (x0 : Int) (rc1 : Int → Option (GCluster)) (x2 : Bool) : Option (GCluster) :=
  if x2 = true then
    f_impl_Cluster_commit_J0 x1 x18 (setI x1.Peers x18 (⟨x25.Up, x25.Term, x25.Vote, x0, x25.Role, x25.Log, x25.Votes, x25.Next, x25.Match⟩ : GPeer))
  else
    chk (-9223372036854775808 ≤ x0 - 1 ∧ x0 - 1 < 9223372036854775808) <|
    rc1 (x0 - 1)
def f_impl_Cluster_commit_L2 (x25 : GPeer) (x0 : Int) (x1 : GCluster) (x18 : Int) (rc1 : Int → Option (GCluster)) : Nat → Int → Int → Option (GCluster)
  | 0, _, _ => none
  | k + 1, x2, x3 =>
    if x3 < (x25.Match.length : Int) then
      (idx x25.Match x3).bind fun x4 =>
      if x0 ≤ x4 then
        chk (-9223372036854775808 ≤ x2 + 1 ∧ x2 + 1 < 9223372036854775808) <|
        f_impl_Cluster_commit_J3 x3 (f_impl_Cluster_commit_L2 x25 x0 x1 x18 rc1 k) (x2 + 1)
      else
        f_impl_Cluster_commit_J3 x3 (f_impl_Cluster_commit_L2 x25 x0 x1 x18 rc1 k) x2
    else
      (f_impl_most (x1.Peers.length : Int)).bind fun x5 =>
      if x5 ≤ x2 then
        (f_impl_Peer_term_elem0 x25 x0).bind fun x6 =>
        f_impl_Cluster_commit_J4 x1 x18 x25 x0 rc1 (decide (x6 = x25.Term))
      else
        f_impl_Cluster_commit_J4 x1 x18 x25 x0 rc1 false
def f_impl_Cluster_commit_L1 (x25 : GPeer) (x1 : GCluster) (x18 : Int) : Nat → Int → Option (GCluster)
  | 0, _ => none
  | k + 1, x0 =>
    if x25.Commit < x0 then
      f_impl_Cluster_commit_L2 x25 x0 x1 x18 (f_impl_Cluster_commit_L1 x25 x1 x18 k) BIG 0 0
    else
      f_impl_Cluster_commit_J0 x1 x18 x1.Peers
def f_impl_Cluster_commit (x1 : GCluster) (x18 : Int) : Option (GCluster) :=
  (idx x1.Peers x18).bind fun x25 =>
  f_impl_Cluster_commit_L1 x25 x1 x18 BIG (x25.Log.length : Int)
def f_impl_copyRecs_own0_L0 (xs1 : (List GRec)) : Nat → (List GRec) → Int → Option ((List GRec))
  | 0, _, _ => none
  | k + 1, xs0, x0 =>
    if x0 < (xs1.length : Int) then
      (idx xs1 x0).bind fun x1 =>
      (f_slices_Clone_byte x1.Data).bind fun x2 =>
      chk ((xs0.length : Int) + ([(⟨x1.Term, x1.Index, x2⟩ : GRec)] : List GRec).length ≤ 68719476736) <|
      chk (-9223372036854775808 ≤ x0 + 1 ∧ x0 + 1 < 9223372036854775808) <|
      (f_impl_copyRecs_own0_L0 xs1 k) (xs0 ++ ([(⟨x1.Term, x1.Index, x2⟩ : GRec)] : List GRec)) (x0 + 1)
    else
      some xs0
def f_impl_copyRecs_own0 (xs1 : (List GRec)) : Option ((List GRec)) :=
  f_impl_copyRecs_own0_L0 xs1 BIG ([] : List GRec) 0
def f__impl_Msg_copied_own0 (x1 : GMsg) : Option (GMsg) :=
  (f_impl_copyRecs_own0 x1.Log).bind fun x21 =>
  some (⟨x1.Kind, x1.From, x1.To, x1.Term, x1.A, x1.B, x1.C, x1.Ok, x21⟩ : GMsg)
def f_impl_Cluster_records (x1 : GCluster) (x18 : Int) (x19 : Int) : Option (GCluster) :=
  (idx x1.Peers x18).bind fun x26 =>
  (idx x26.Next x19).bind fun x50 =>
  chk (-9223372036854775808 ≤ x50 - 1 ∧ x50 - 1 < 9223372036854775808) <|
  (f_impl_Peer_term_elem0 x26 (x50 - 1)).bind fun x68 =>
  (slc x26.Log (x50 - 1) x26.Log.length).bind fun xs97 =>
  if (x1.Net.length : Int) < 200 then
    (f__impl_Msg_copied_own0 (⟨3, x18, x19, x26.Term, (x50 - 1), x68, x26.Commit, false, xs97⟩ : GMsg)).bind fun x0 =>
    chk ((x1.Net.length : Int) + ([(x0 : GMsg)] : List GMsg).length ≤ 68719476736) <|
    some (⟨x1.Peers, (x1.Net ++ ([(x0 : GMsg)] : List GMsg)), x1.Chosen, x1.Conflict⟩ : GCluster)
  else
    some (x1 : GCluster)
def f_impl_Cluster_elect_J1 (x0 : Int) (rc0 : Int → Int → Option (GCluster)) (x1 : Int) : Option (GCluster) :=
  chk (-9223372036854775808 ≤ x0 + 1 ∧ x0 + 1 < 9223372036854775808) <|
  rc0 x1 (x0 + 1)
def f_impl_Cluster_elect_J4 (x0 : Int) (rc3 : Int → (List GPeer) → (List GMsg) → (List GRec) → Bool → Option (GCluster)) (xs0 : (List GPeer)) (xs1 : (List GMsg)) (xs2 : (List GRec)) (x1 : Bool) : Option (GCluster) :=
  chk (-9223372036854775808 ≤ x0 + 1 ∧ x0 + 1 < 9223372036854775808) <|
  rc3 (x0 + 1) xs0 xs1 xs2 x1
def f_impl_Cluster_elect_L3 (x1 : GCluster) (x18 : Int) : Nat → Int → (List GPeer) → (List GMsg) → (List GRec) → Bool → Option (GCluster)
  | 0, _, _, _, _, _ => none
  | k + 1, x0, xs0, xs1, xs2, x2 =>
    if x0 < (x1.Peers.length : Int) then
      if x0 = x18 then
        f_impl_Cluster_elect_J4 x0 (f_impl_Cluster_elect_L3 x1 x18 k) xs0 xs1 xs2 x2
      else
        (f_impl_Cluster_records (⟨xs0, xs1, xs2, x2⟩ : GCluster) x18 x0).bind fun x3 =>
        f_impl_Cluster_elect_J4 x0 (f_impl_Cluster_elect_L3 x1 x18 k) x3.Peers x3.Net x3.Chosen x3.Conflict
    else
      some (⟨xs0, xs1, xs2, x2⟩ : GCluster)
def f_impl_Cluster_elect_J2 (x1 : GCluster) (x46 : GPeer) (x18 : Int) (x0 : Bool) : Option (GCluster) :=
  if x0 = true then
    some (x1 : GCluster)
  else
    chk (-9223372036854775808 ≤ (x46.Log.length : Int) + 1 ∧ (x46.Log.length : Int) + 1 < 9223372036854775808) <|
    chk ((0 : Int) ≤ (x1.Peers.length : Int) ∧ (x1.Peers.length : Int) ≤ 68719476736) <|
    (f_slices_Repeat_int ([((x46.Log.length : Int) + 1)] : List Int) (x1.Peers.length : Int)).bind fun x2 =>
    (idx (List.replicate (x1.Peers.length : Int).toNat (0 : Int)) x18).bind fun x3 =>
    (f_impl_Cluster_commit (⟨(setI x1.Peers x18 (⟨x46.Up, x46.Term, x46.Vote, x46.Commit, 2, x46.Log, [], x2, (setI (List.replicate (x1.Peers.length : Int).toNat (0 : Int)) x18 (x46.Log.length : Int))⟩ : GPeer)), x1.Net, x1.Chosen, x1.Conflict⟩ : GCluster) x18).bind fun x4 =>
    f_impl_Cluster_elect_L3 x1 x18 BIG 0 x4.Peers x4.Net x4.Chosen x4.Conflict
def f_impl_Cluster_elect_L0 (x46 : GPeer) (x1 : GCluster) (x18 : Int) : Nat → Int → Int → Option (GCluster)
  | 0, _, _ => none
  | k + 1, x0, x2 =>
    if x2 < (x46.Votes.length : Int) then
      (idx x46.Votes x2).bind fun x3 =>
      if x3 = true then
        chk (-9223372036854775808 ≤ x0 + 1 ∧ x0 + 1 < 9223372036854775808) <|
        f_impl_Cluster_elect_J1 x2 (f_impl_Cluster_elect_L0 x46 x1 x18 k) (x0 + 1)
      else
        f_impl_Cluster_elect_J1 x2 (f_impl_Cluster_elect_L0 x46 x1 x18 k) x0
    else
      if x46.Role = 1 then
        (f_impl_most (x1.Peers.length : Int)).bind fun x4 =>
        f_impl_Cluster_elect_J2 x1 x46 x18 (decide (x0 < x4))
      else
        f_impl_Cluster_elect_J2 x1 x46 x18 true
def f_impl_Cluster_elect (x1 : GCluster) (x18 : Int) : Option (GCluster) :=
  (idx x1.Peers x18).bind fun x46 =>
  f_impl_Cluster_elect_L0 x46 x1 x18 BIG 0 0
def f_slices_Clone_implRec (xs1 : List GRec) : Option (List GRec) := chk ((xs1.length : Int) ≤ 68719476736) (some xs1)
def f_impl_Cluster_take_J3 (x0 : Int) (rc2 : Int → Int → (List GPeer) → Option (GCluster)) (x1 : Int) (xs0 : (List GPeer)) : Option (GCluster) :=
  chk (-9223372036854775808 ≤ x0 + 1 ∧ x0 + 1 < 9223372036854775808) <|
  rc2 x1 (x0 + 1) xs0
def f_impl_Cluster_take_J5 (x18 : GMsg) (x0 : GRec) (x1 : Int) (rc2 : Int → Int → (List GPeer) → Option (GCluster)) (xs0 : (List GPeer)) : Option (GCluster) :=
  (idx xs0 x18.To).bind fun x2 =>
  if (x2.Log.length : Int) < x0.Index then
    chk ((x2.Log.length : Int) + ([(x0 : GRec)] : List GRec).length ≤ 68719476736) <|
    f_impl_Cluster_take_J3 x1 rc2 x0.Index (setI xs0 x18.To (⟨x2.Up, x2.Term, x2.Vote, x2.Commit, x2.Role, (x2.Log ++ ([(x0 : GRec)] : List GRec)), x2.Votes, x2.Next, x2.Match⟩ : GPeer))
  else
    f_impl_Cluster_take_J3 x1 rc2 x0.Index xs0
def f_impl_Cluster_take_J4 (xs0 : (List GPeer)) (x18 : GMsg) (x0 : GRec) (x1 : Int) (rc2 : Int → Int → (List GPeer) → Option (GCluster)) (x2 : Bool) : Option (GCluster) :=
  if x2 = true then
    (idx xs0 x18.To).bind fun x3 =>
    chk (-9223372036854775808 ≤ x0.Index - 1 ∧ x0.Index - 1 < 9223372036854775808) <|
    (slc x3.Log 0 (x0.Index - 1)).bind fun xs1 =>
    (f_slices_Clone_implRec xs1).bind fun x4 =>
    f_impl_Cluster_take_J5 x18 x0 x1 rc2 (setI xs0 x18.To (⟨x3.Up, x3.Term, x3.Vote, x3.Commit, x3.Role, x4, x3.Votes, x3.Next, x3.Match⟩ : GPeer))
  else
    f_impl_Cluster_take_J5 x18 x0 x1 rc2 xs0
def f_impl_Cluster_take_L2 (x18 : GMsg) (x1 : GCluster) (x22 : GMsg) (x0 : GPeer) : Nat → Int → Int → (List GPeer) → Option (GCluster)
  | 0, _, _, _ => none
  | k + 1, x2, x3, xs0 =>
    if x3 < (x18.Log.length : Int) then
      (idx x18.Log x3).bind fun x4 =>
      (idx xs0 x18.To).bind fun x5 =>
      if x4.Index ≤ (x5.Log.length : Int) then
        (f_impl_Peer_term_elem0 x5 x4.Index).bind fun x6 =>
        f_impl_Cluster_take_J4 xs0 x18 x4 x3 (f_impl_Cluster_take_L2 x18 x1 x22 x0 k) (!decide (x6 = x4.Term))
      else
        f_impl_Cluster_take_J4 xs0 x18 x4 x3 (f_impl_Cluster_take_L2 x18 x1 x22 x0 k) false
    else
      (idx xs0 x18.To).bind fun x7 =>
      (f_impl_Cluster_choose (⟨(setI xs0 x18.To (⟨x7.Up, x7.Term, x7.Vote, (if (if x2 < x18.C then x2 else x18.C) > x7.Commit then (if x2 < x18.C then x2 else x18.C) else x7.Commit), x7.Role, x7.Log, x7.Votes, x7.Next, x7.Match⟩ : GPeer)), x1.Net, x1.Chosen, x1.Conflict⟩ : GCluster) x18.To).bind fun x8 =>
      (f_impl_Cluster_send (x8 : GCluster) (⟨4, x22.From, x22.To, x0.Term, x2, x22.B, x22.C, true, x22.Log⟩ : GMsg)).bind fun x9 =>
      some (x9 : GCluster)
def f_impl_Cluster_take_J1 (x18 : GMsg) (xs0 : (List GPeer)) (x0 : GPeer) (x1 : GCluster) (x22 : GMsg) (x2 : Bool) : Option (GCluster) :=
  if x2 = true then
    chk (-9223372036854775808 ≤ x18.A - 1 ∧ x18.A - 1 < 9223372036854775808) <|
    (f_impl_Cluster_send (⟨(setI xs0 x18.To (⟨x0.Up, x0.Term, x0.Vote, x0.Commit, 0, x0.Log, [], [], []⟩ : GPeer)), x1.Net, x1.Chosen, x1.Conflict⟩ : GCluster) (⟨4, x22.From, x22.To, x0.Term, (if (x0.Log.length : Int) < (x18.A - 1) then (x0.Log.length : Int) else (x18.A - 1)), x22.B, x22.C, x22.Ok, x22.Log⟩ : GMsg)).bind fun x3 =>
    some (x3 : GCluster)
  else
    f_impl_Cluster_take_L2 x18 x1 x22 x0 BIG x18.A 0 (setI xs0 x18.To (⟨x0.Up, x0.Term, x0.Vote, x0.Commit, 0, x0.Log, [], [], []⟩ : GPeer))
def f_impl_Cluster_take_J0 (x18 : GMsg) (x1 : GCluster) (x22 : GMsg) (xs0 : (List GPeer)) : Option (GCluster) :=
  (idx xs0 x18.To).bind fun x0 =>
  if (x0.Log.length : Int) < x18.A then
    f_impl_Cluster_take_J1 x18 xs0 x0 x1 x22 true
  else
    (f_impl_Peer_term_elem0 (⟨x0.Up, x0.Term, x0.Vote, x0.Commit, 0, x0.Log, [], [], []⟩ : GPeer) x18.A).bind fun x2 =>
    f_impl_Cluster_take_J1 x18 xs0 x0 x1 x22 (!decide (x2 = x18.B))
def f_impl_Cluster_take (x1 : GCluster) (x18 : GMsg) (x22 : GMsg) : Option (GCluster) :=
  (idx x1.Peers x18.To).bind fun x53 =>
  if x18.Term < x53.Term then
    (f_impl_Cluster_send (x1 : GCluster) (⟨4, x22.From, x22.To, x53.Term, x22.A, x22.B, x22.C, x22.Ok, x22.Log⟩ : GMsg)).bind fun x0 =>
    some (x0 : GCluster)
  else
    if x53.Term < x18.Term then
      f_impl_Cluster_take_J0 x18 x1 x22 (setI x1.Peers x18.To (⟨x53.Up, x18.Term, 0, x53.Commit, x53.Role, x53.Log, x53.Votes, x53.Next, x53.Match⟩ : GPeer))
    else
      f_impl_Cluster_take_J0 x18 x1 x22 x1.Peers
def f_impl_Cluster_arrive_J2 (x1 : GCluster) (x18 : GMsg) (x0 : GPeer) (x2 : Bool) (xs0 : (List GPeer)) : Option (GCluster) :=
  (f_impl_Cluster_send (⟨xs0, x1.Net, x1.Chosen, x1.Conflict⟩ : GCluster) (⟨2, x18.To, x18.From, x0.Term, 0, 0, 0, x2, []⟩ : GMsg)).bind fun x3 =>
  some (x3 : GCluster)
def f_impl_Cluster_arrive_J1 (x18 : GMsg) (x1 : GCluster) (x0 : GPeer) (xs0 : (List GPeer)) (x2 : Bool) : Option (GCluster) :=
  if x2 = true then
    chk (-9223372036854775808 ≤ x18.From + 1 ∧ x18.From + 1 < 9223372036854775808) <|
    f_impl_Cluster_arrive_J2 x1 x18 x0 true (setI xs0 x18.To (⟨x0.Up, x0.Term, (x18.From + 1), x0.Commit, x0.Role, x0.Log, x0.Votes, x0.Next, x0.Match⟩ : GPeer))
  else
    f_impl_Cluster_arrive_J2 x1 x18 x0 false xs0
def f_impl_Cluster_arrive_J3 (xs0 : (List GPeer)) (x18 : GMsg) (x1 : GCluster) (x0 : Bool) : Option (GCluster) :=
  if x0 = true then
    (idx xs0 x18.To).bind fun x2 =>
    (idx x2.Votes x18.From).bind fun x3 =>
    (f_impl_Cluster_elect (⟨(setI xs0 x18.To (⟨x2.Up, x2.Term, x2.Vote, x2.Commit, x2.Role, x2.Log, (setI x2.Votes x18.From true), x2.Next, x2.Match⟩ : GPeer)), x1.Net, x1.Chosen, x1.Conflict⟩ : GCluster) x18.To).bind fun x4 =>
    some (x4 : GCluster)
  else
    some (⟨xs0, x1.Net, x1.Chosen, x1.Conflict⟩ : GCluster)
def f_impl_Cluster_arrive_J4 (xs0 : (List GPeer)) (x1 : GCluster) (x18 : GMsg) (x0 : Bool) : Option (GCluster) :=
  if x0 = true then
    some (⟨xs0, x1.Net, x1.Chosen, x1.Conflict⟩ : GCluster)
  else
    if x18.Ok = true then
      (idx xs0 x18.To).bind fun x2 =>
      (idx x2.Match x18.From).bind fun x3 =>
      (idx x2.Next x18.From).bind fun x4 =>
      chk (-9223372036854775808 ≤ x18.A + 1 ∧ x18.A + 1 < 9223372036854775808) <|
      (idx x2.Match x18.From).bind fun x5 =>
      (idx x2.Next x18.From).bind fun x6 =>
      (f_impl_Cluster_commit (⟨(setI xs0 x18.To (⟨x2.Up, x2.Term, x2.Vote, x2.Commit, x2.Role, x2.Log, x2.Votes, (setI x2.Next x18.From (if (x18.A + 1) > x4 then (x18.A + 1) else x4)), (setI x2.Match x18.From (if x18.A > x3 then x18.A else x3))⟩ : GPeer)), x1.Net, x1.Chosen, x1.Conflict⟩ : GCluster) x18.To).bind fun x7 =>
      some (x7 : GCluster)
    else
      chk (-9223372036854775808 ≤ x18.A + 1 ∧ x18.A + 1 < 9223372036854775808) <|
      (idx xs0 x18.To).bind fun x8 =>
      (idx x8.Next x18.From).bind fun x9 =>
      if (x18.A + 1) < x9 then
        (idx x8.Match x18.From).bind fun x10 =>
        chk (-9223372036854775808 ≤ x10 + 1 ∧ x10 + 1 < 9223372036854775808) <|
        chk (-9223372036854775808 ≤ x18.A + 1 ∧ x18.A + 1 < 9223372036854775808) <|
        (idx x8.Next x18.From).bind fun x11 =>
        (f_impl_Cluster_records (⟨(setI xs0 x18.To (⟨x8.Up, x8.Term, x8.Vote, x8.Commit, x8.Role, x8.Log, x8.Votes, (setI x8.Next x18.From (if (x18.A + 1) > (x10 + 1) then (x18.A + 1) else (x10 + 1))), x8.Match⟩ : GPeer)), x1.Net, x1.Chosen, x1.Conflict⟩ : GCluster) x18.To x18.From).bind fun x12 =>
        some (x12 : GCluster)
      else
        some (⟨xs0, x1.Net, x1.Chosen, x1.Conflict⟩ : GCluster)
def f_impl_Cluster_arrive_J0 (x18 : GMsg) (x1 : GCluster) (xs0 : (List GPeer)) : Option (GCluster) :=
  if x18.Kind = 1 then
    (idx xs0 x18.To).bind fun x0 =>
    (f_impl_Peer_last_elem0 x0).bind fun x2 =>
    if x18.Term = x0.Term then
      if x0.Vote = 0 then
        if x2.2 < x18.B then
          f_impl_Cluster_arrive_J1 x18 x1 x0 xs0 true
        else
          if x18.B = x2.2 then
            f_impl_Cluster_arrive_J1 x18 x1 x0 xs0 (decide (x2.1 ≤ x18.A))
          else
            f_impl_Cluster_arrive_J1 x18 x1 x0 xs0 false
      else
        chk (-9223372036854775808 ≤ x18.From + 1 ∧ x18.From + 1 < 9223372036854775808) <|
        if x0.Vote = (x18.From + 1) then
          if x2.2 < x18.B then
            f_impl_Cluster_arrive_J1 x18 x1 x0 xs0 true
          else
            if x18.B = x2.2 then
              f_impl_Cluster_arrive_J1 x18 x1 x0 xs0 (decide (x2.1 ≤ x18.A))
            else
              f_impl_Cluster_arrive_J1 x18 x1 x0 xs0 false
        else
          f_impl_Cluster_arrive_J1 x18 x1 x0 xs0 false
    else
      f_impl_Cluster_arrive_J1 x18 x1 x0 xs0 false
  else
    if x18.Kind = 2 then
      (idx xs0 x18.To).bind fun x3 =>
      if x18.Term = x3.Term then
        if x3.Role = 1 then
          f_impl_Cluster_arrive_J3 xs0 x18 x1 x18.Ok
        else
          f_impl_Cluster_arrive_J3 xs0 x18 x1 false
      else
        f_impl_Cluster_arrive_J3 xs0 x18 x1 false
    else
      if x18.Kind = 3 then
        (f_impl_Cluster_take (⟨xs0, x1.Net, x1.Chosen, x1.Conflict⟩ : GCluster) (x18 : GMsg) (⟨0, x18.To, x18.From, 0, 0, 0, 0, false, []⟩ : GMsg)).bind fun x4 =>
        some (x4 : GCluster)
      else
        if x18.Kind = 4 then
          (idx xs0 x18.To).bind fun x5 =>
          if x18.Term = x5.Term then
            f_impl_Cluster_arrive_J4 xs0 x1 x18 (!decide (x5.Role = 2))
          else
            f_impl_Cluster_arrive_J4 xs0 x1 x18 true
        else
          some (⟨xs0, x1.Net, x1.Chosen, x1.Conflict⟩ : GCluster)
def f_impl_Cluster_arrive_J5 (x18 : GMsg) (x1 : GCluster) (xs0 : (List GPeer)) : Option (GCluster) :=
  (idx xs0 x18.To).bind fun x0 =>
  f_impl_Cluster_arrive_J0 x18 x1 (setI xs0 x18.To (⟨x0.Up, x0.Term, x0.Vote, x0.Commit, 0, x0.Log, [], [], []⟩ : GPeer))
def f_impl_Cluster_arrive (x1 : GCluster) (x18 : GMsg) : Option (GCluster) :=
  (idx x1.Peers x18.To).bind fun x38 =>
  if (!x38.Up) = true then
    some (x1 : GCluster)
  else
    if x38.Term < x18.Term then
      if x38.Term < x18.Term then
        f_impl_Cluster_arrive_J5 x18 x1 (setI x1.Peers x18.To (⟨x38.Up, x18.Term, 0, x38.Commit, x38.Role, x38.Log, x38.Votes, x38.Next, x38.Match⟩ : GPeer))
      else
        f_impl_Cluster_arrive_J5 x18 x1 x1.Peers
    else
      f_impl_Cluster_arrive_J0 x18 x1 x1.Peers
def f_impl_Cluster_tick_J1 (x0 : Int) (rc0 : Int → (List GPeer) → (List GMsg) → (List GRec) → Bool → Option (GCluster)) (xs0 : (List GPeer)) (xs1 : (List GMsg)) (xs2 : (List GRec)) (x1 : Bool) : Option (GCluster) :=
  chk (-9223372036854775808 ≤ x0 + 1 ∧ x0 + 1 < 9223372036854775808) <|
  rc0 (x0 + 1) xs0 xs1 xs2 x1
def f_impl_Cluster_tick_L0 (x1 : GCluster) (x18 : Int) : Nat → Int → (List GPeer) → (List GMsg) → (List GRec) → Bool → Option (GCluster)
  | 0, _, _, _, _, _ => none
  | k + 1, x0, xs0, xs1, xs2, x2 =>
    if x0 < (x1.Peers.length : Int) then
      if x0 = x18 then
        f_impl_Cluster_tick_J1 x0 (f_impl_Cluster_tick_L0 x1 x18 k) xs0 xs1 xs2 x2
      else
        (f_impl_Cluster_records (⟨xs0, xs1, xs2, x2⟩ : GCluster) x18 x0).bind fun x3 =>
        f_impl_Cluster_tick_J1 x0 (f_impl_Cluster_tick_L0 x1 x18 k) x3.Peers x3.Net x3.Chosen x3.Conflict
    else
      some (⟨xs0, xs1, xs2, x2⟩ : GCluster)
def f_impl_Cluster_tick_J3 (x0 : Int) (rc2 : Int → (List GPeer) → (List GMsg) → (List GRec) → Bool → Option (GCluster)) (xs0 : (List GPeer)) (xs1 : (List GMsg)) (xs2 : (List GRec)) (x1 : Bool) : Option (GCluster) :=
  chk (-9223372036854775808 ≤ x0 + 1 ∧ x0 + 1 < 9223372036854775808) <|
  rc2 (x0 + 1) xs0 xs1 xs2 x1
def f_impl_Cluster_tick_L2 (x1 : GCluster) (x18 : Int) (x0 : (Int × Int)) : Nat → Int → (List GPeer) → (List GMsg) → (List GRec) → Bool → Option (GCluster)
  | 0, _, _, _, _, _ => none
  | k + 1, x2, xs0, xs1, xs2, x3 =>
    if x2 < (x1.Peers.length : Int) then
      if x2 = x18 then
        f_impl_Cluster_tick_J3 x2 (f_impl_Cluster_tick_L2 x1 x18 x0 k) xs0 xs1 xs2 x3
      else
        (idx xs0 x18).bind fun x4 =>
        (f_impl_Cluster_send (⟨xs0, xs1, xs2, x3⟩ : GCluster) (⟨1, x18, x2, x4.Term, x0.1, x0.2, 0, false, []⟩ : GMsg)).bind fun x5 =>
        f_impl_Cluster_tick_J3 x2 (f_impl_Cluster_tick_L2 x1 x18 x0 k) x5.Peers x5.Net x5.Chosen x5.Conflict
    else
      (f_impl_Cluster_elect (⟨xs0, xs1, xs2, x3⟩ : GCluster) x18).bind fun x6 =>
      some (x6 : GCluster)
def f_impl_Cluster_tick (x1 : GCluster) (x18 : Int) : Option (GCluster) :=
  (idx x1.Peers x18).bind fun x46 =>
  if x46.Role = 2 then
    f_impl_Cluster_tick_L0 x1 x18 BIG 0 x1.Peers x1.Net x1.Chosen x1.Conflict
  else
    if x46.Term < 1000000 then
      chk (-9223372036854775808 ≤ x46.Term + 1 ∧ x46.Term + 1 < 9223372036854775808) <|
      chk (-9223372036854775808 ≤ x18 + 1 ∧ x18 + 1 < 9223372036854775808) <|
      chk ((0 : Int) ≤ (x1.Peers.length : Int) ∧ (x1.Peers.length : Int) ≤ 68719476736) <|
      (idx (List.replicate (x1.Peers.length : Int).toNat (false : Bool)) x18).bind fun x0 =>
      (f_impl_Peer_last_elem0 (⟨x46.Up, (x46.Term + 1), (x18 + 1), x46.Commit, 1, x46.Log, (List.replicate (x1.Peers.length : Int).toNat (false : Bool)), [], []⟩ : GPeer)).bind fun x2 =>
      f_impl_Cluster_tick_L2 x1 x18 x2 BIG 0 (setI x1.Peers x18 (⟨x46.Up, (x46.Term + 1), (x18 + 1), x46.Commit, 1, x46.Log, (setI (List.replicate (x1.Peers.length : Int).toNat (false : Bool)) x18 true), [], []⟩ : GPeer)) x1.Net x1.Chosen x1.Conflict
    else
      some (x1 : GCluster)
def f_impl_Cluster_event_J2 (x1 : GCluster) (x0 : GPeer) (x18 : GEvent) (x2 : Bool) : Option (GCluster × Int) :=
  if x2 = true then
    some ((x1 : GCluster), 14)
  else
    chk (-9223372036854775808 ≤ (x0.Log.length : Int) + 1 ∧ (x0.Log.length : Int) + 1 < 9223372036854775808) <|
    (f_slices_Clone_byte x18.Data).bind fun x3 =>
    chk ((x0.Log.length : Int) + ([(⟨x0.Term, ((x0.Log.length : Int) + 1), x3⟩ : GRec)] : List GRec).length ≤ 68719476736) <|
    (idx x0.Match x18.N).bind fun x4 =>
    (f_impl_Cluster_commit (⟨(setI x1.Peers x18.N (⟨x0.Up, x0.Term, x0.Vote, x0.Commit, x0.Role, (x0.Log ++ ([(⟨x0.Term, ((x0.Log.length : Int) + 1), x3⟩ : GRec)] : List GRec)), x0.Votes, x0.Next, (setI x0.Match x18.N ((x0.Log ++ ([(⟨x0.Term, ((x0.Log.length : Int) + 1), x3⟩ : GRec)] : List GRec)).length : Int))⟩ : GPeer)), x1.Net, x1.Chosen, x1.Conflict⟩ : GCluster) x18.N).bind fun x5 =>
    some ((x5 : GCluster), 0)
def f_impl_Cluster_event_J1 (x1 : GCluster) (x18 : GEvent) (x0 : Bool) : Option (GCluster × Int) :=
  if x0 = true then
    chk (-9223372036854775808 ≤ (x1.Peers.length : Int) - 1 ∧ (x1.Peers.length : Int) - 1 < 9223372036854775808) <|
    (f_impl_within x18.N 0 ((x1.Peers.length : Int) - 1)).bind fun x2 =>
    if (!x2) = true then
      some ((x1 : GCluster), 6)
    else
      (idx x1.Peers x18.N).bind fun x3 =>
      if (x3.Up == (decide (x18.Kind = 6))) = true then
        some ((x1 : GCluster), 15)
      else
        if x18.Kind = 1 then
          (f_impl_Cluster_tick (x1 : GCluster) x18.N).bind fun x4 =>
          some ((x4 : GCluster), 0)
        else
          if x18.Kind = 5 then
            some ((⟨(setI x1.Peers x18.N (⟨false, x3.Term, x3.Vote, 0, 0, x3.Log, [], [], []⟩ : GPeer)), x1.Net, x1.Chosen, x1.Conflict⟩ : GCluster), 0)
          else
            if x18.Kind = 6 then
              some ((⟨(setI x1.Peers x18.N (⟨true, x3.Term, x3.Vote, x3.Commit, x3.Role, x3.Log, x3.Votes, x3.Next, x3.Match⟩ : GPeer)), x1.Net, x1.Chosen, x1.Conflict⟩ : GCluster), 0)
            else
              if x18.Kind = 7 then
                if x3.Role = 2 then
                  if (1000 : Int) < (x18.Data.length : Int) then
                    f_impl_Cluster_event_J2 x1 x3 x18 true
                  else
                    f_impl_Cluster_event_J2 x1 x3 x18 (decide ((100 : Int) ≤ (x3.Log.length : Int)))
                else
                  some ((x1 : GCluster), 15)
              else
                some ((x1 : GCluster), 0)
  else
    some ((x1 : GCluster), 3)
def f_impl_Cluster_event_J0 (x1 : GCluster) (x18 : GEvent) (x0 : Bool) : Option (GCluster × Int) :=
  if x0 = true then
    chk (-9223372036854775808 ≤ (x1.Net.length : Int) - 1 ∧ (x1.Net.length : Int) - 1 < 9223372036854775808) <|
    (f_impl_within x18.N 0 ((x1.Net.length : Int) - 1)).bind fun x2 =>
    if (!x2) = true then
      some ((x1 : GCluster), 6)
    else
      (idx x1.Net x18.N).bind fun x3 =>
      if x18.Kind = 4 then
        (f_impl_Cluster_send (x1 : GCluster) (x3 : GMsg)).bind fun x4 =>
        some ((x4 : GCluster), 0)
      else
        chk (-9223372036854775808 ≤ x18.N + 1 ∧ x18.N + 1 < 9223372036854775808) <|
        (f_slices_Delete_implMsg x1.Net x18.N (x18.N + 1)).bind fun xs0 =>
        if x18.Kind = 2 then
          (f_impl_Cluster_arrive (⟨x1.Peers, xs0, x1.Chosen, x1.Conflict⟩ : GCluster) (x3 : GMsg)).bind fun x5 =>
          some ((x5 : GCluster), 0)
        else
          some ((⟨x1.Peers, xs0, x1.Chosen, x1.Conflict⟩ : GCluster), 0)
  else
    if x18.Kind = 1 then
      f_impl_Cluster_event_J1 x1 x18 (decide (x18.Kind = 1))
    else
      if x18.Kind = 5 then
        f_impl_Cluster_event_J1 x1 x18 (decide (x18.Kind = 5))
      else
        if x18.Kind = 6 then
          f_impl_Cluster_event_J1 x1 x18 (decide (x18.Kind = 6))
        else
          f_impl_Cluster_event_J1 x1 x18 (decide (x18.Kind = 7))
def f_impl_Cluster_event (x1 : GCluster) (x18 : GEvent) : Option (GCluster × Int) :=
  if x18.Kind = 2 then
    f_impl_Cluster_event_J0 x1 x18 (decide (x18.Kind = 2))
  else
    if x18.Kind = 3 then
      f_impl_Cluster_event_J0 x1 x18 (decide (x18.Kind = 3))
    else
      f_impl_Cluster_event_J0 x1 x18 (decide (x18.Kind = 4))
def f_slices_Clone_bool (xs1 : List Bool) : Option (List Bool) := chk ((xs1.length : Int) ≤ 68719476736) (some xs1)
def f_slices_Clone_int (xs1 : List Int) : Option (List Int) := chk ((xs1.length : Int) ≤ 68719476736) (some xs1)
def f_impl_Cluster_told_L1 (x1 : GCluster) (xs0 : (List GPeer)) (x34 : ((List GRec))) : Nat → Int → (List GMsg) → Option (GCluster)
  | 0, _, _ => none
  | k + 1, x0, xs1 =>
    if x0 < (x1.Net.length : Int) then
      (idx x1.Net x0).bind fun x2 =>
      (f__impl_Msg_copied (x2 : GMsg)).bind fun x3 =>
      chk ((xs1.length : Int) + ([(x3 : GMsg)] : List GMsg).length ≤ 68719476736) <|
      chk (-9223372036854775808 ≤ x0 + 1 ∧ x0 + 1 < 9223372036854775808) <|
      (f_impl_Cluster_told_L1 x1 xs0 x34 k) (x0 + 1) (xs1 ++ ([(x3 : GMsg)] : List GMsg))
    else
      some (⟨xs0, xs1, x34, x1.Conflict⟩ : GCluster)
def f_impl_Cluster_told_L0 (x1 : GCluster) (x34 : ((List GRec))) : Nat → Int → (List GPeer) → Option (GCluster)
  | 0, _, _ => none
  | k + 1, x0, xs0 =>
    if x0 < (x1.Peers.length : Int) then
      (idx x1.Peers x0).bind fun x2 =>
      (f_impl_copyRecs_own0 x2.Log).bind fun x3 =>
      (f_slices_Clone_bool x2.Votes).bind fun x4 =>
      (f_slices_Clone_int x2.Next).bind fun x5 =>
      (f_slices_Clone_int x2.Match).bind fun x6 =>
      chk ((xs0.length : Int) + ([(⟨x2.Up, x2.Term, x2.Vote, x2.Commit, x2.Role, x3, x4, x5, x6⟩ : GPeer)] : List GPeer).length ≤ 68719476736) <|
      chk (-9223372036854775808 ≤ x0 + 1 ∧ x0 + 1 < 9223372036854775808) <|
      (f_impl_Cluster_told_L0 x1 x34 k) (x0 + 1) (xs0 ++ ([(⟨x2.Up, x2.Term, x2.Vote, x2.Commit, x2.Role, x3, x4, x5, x6⟩ : GPeer)] : List GPeer))
    else
      f_impl_Cluster_told_L1 x1 xs0 x34 BIG 0 ([])
def f_impl_Cluster_told (x1 : GCluster) : Option (GCluster) :=
  (f_impl_copyRecs_own0 x1.Chosen).bind fun x34 =>
  f_impl_Cluster_told_L0 x1 x34 BIG 0 ([])
def f_impl_ClusterRun_L0 (xs2 : (List GEvent)) : Nat → (List Int) → Int → (List GPeer) → (List GMsg) → (List GRec) → Bool → Option (GCluster × (List Int) × Int)
  | 0, _, _, _, _, _, _ => none
  | k + 1, xs0, x0, xs1, xs3, xs4, x1 =>
    if x0 < (xs2.length : Int) then
      (idx xs2 x0).bind fun x2 =>
      (f_impl_Cluster_event (⟨xs1, xs3, xs4, x1⟩ : GCluster) (x2 : GEvent)).bind fun x3 =>
      chk ((xs0.length : Int) + ([x3.2] : List Int).length ≤ 68719476736) <|
      chk (-9223372036854775808 ≤ x0 + 1 ∧ x0 + 1 < 9223372036854775808) <|
      (f_impl_ClusterRun_L0 xs2 k) (xs0 ++ ([x3.2] : List Int)) (x0 + 1) x3.1.Peers x3.1.Net x3.1.Chosen x3.1.Conflict
    else
      (f_impl_Cluster_told (⟨xs1, xs3, xs4, x1⟩ : GCluster)).bind fun x4 =>
      some ((x4 : GCluster), xs0, 0)
def f_impl_ClusterRun (x1 : Int) (xs2 : (List GEvent)) : Option (GCluster × (List Int) × Int) :=
  (f_impl_longList (xs2.length : Int)).bind fun x12 =>
  (f_impl_within x1 1 7).bind fun x21 =>
  (f_impl_unless x21 5).bind fun x30 =>
  (f_impl_unless (decide ((xs2.length : Int) ≤ 300)) 7).bind fun x39 =>
  (f_impl_first ([x12, x30, x39] : List Int)).bind fun x63 =>
  if x63 = 0 then
    (f_impl_newCluster x1).bind fun x85 =>
    f_impl_ClusterRun_L0 xs2 BIG ([] : List Int) 0 x85.Peers x85.Net x85.Chosen x85.Conflict
  else
    some ((⟨[], [], [], false⟩ : GCluster), [], x63)
def f_laws_sameRecs_J1 (x0 : Int) (rc0 : Int → Option (Bool)) (x1 : Bool) : Option (Bool) :=
  if x1 = true then
    some false
  else
    chk (-9223372036854775808 ≤ x0 + 1 ∧ x0 + 1 < 9223372036854775808) <|
    rc0 (x0 + 1)
def f_laws_sameRecs_L0 (xs1 : (List GRec)) (xs5 : (List GRec)) : Nat → Int → Option (Bool)
  | 0, _ => none
  | k + 1, x0 =>
    if x0 < (xs1.length : Int) then
      (idx xs1 x0).bind fun x1 =>
      (idx xs5 x0).bind fun x2 =>
      if x1.Term = x2.Term then
        (idx xs1 x0).bind fun x3 =>
        (idx xs5 x0).bind fun x4 =>
        if x3.Index = x4.Index then
          (idx xs1 x0).bind fun x5 =>
          (idx xs5 x0).bind fun x6 =>
          f_laws_sameRecs_J1 x0 (f_laws_sameRecs_L0 xs1 xs5 k) (!decide (lst x5.Data = lst x6.Data))
        else
          f_laws_sameRecs_J1 x0 (f_laws_sameRecs_L0 xs1 xs5 k) true
      else
        f_laws_sameRecs_J1 x0 (f_laws_sameRecs_L0 xs1 xs5 k) true
    else
      some true
def f_laws_sameRecs (xs1 : (List GRec)) (xs5 : (List GRec)) : Option (Bool) :=
  if (xs1.length : Int) = (xs5.length : Int) then
    f_laws_sameRecs_L0 xs1 xs5 BIG 0
  else
    some false
def f_laws_FnLogs_J4 (x0 : Int) (rc3 : Int → Option (Bool)) : Option (Bool) :=
  chk (-9223372036854775808 ≤ x0 + 1 ∧ x0 + 1 < 9223372036854775808) <|
  rc3 (x0 + 1)
def f_laws_FnLogs_L6 (x0 : GPeer) (x1 : GPeer) (x2 : Int) (rc3 : Int → Option (Bool)) : Nat → Int → Option (Bool)
  | 0, _ => none
  | k + 1, x3 =>
    if (0 : Int) < x3 then
      chk (-9223372036854775808 ≤ x3 - 1 ∧ x3 - 1 < 9223372036854775808) <|
      (idx x0.Log (x3 - 1)).bind fun x4 =>
      chk (-9223372036854775808 ≤ x3 - 1 ∧ x3 - 1 < 9223372036854775808) <|
      (idx x1.Log (x3 - 1)).bind fun x5 =>
      if x4.Term = x5.Term then
        (slc x0.Log 0 x3).bind fun xs0 =>
        (slc x1.Log 0 x3).bind fun xs1 =>
        (f_laws_sameRecs xs0 xs1).bind fun x6 =>
        if (!x6) = true then
          some false
        else
          f_laws_FnLogs_J4 x2 rc3
      else
        chk (-9223372036854775808 ≤ x3 - 1 ∧ x3 - 1 < 9223372036854775808) <|
        (f_laws_FnLogs_L6 x0 x1 x2 rc3 k) (x3 - 1)
    else
      f_laws_FnLogs_J4 x2 rc3
def f_laws_FnLogs_J5 (x0 : GPeer) (x1 : GPeer) (x2 : Int) (rc3 : Int → Option (Bool)) (x3 : Bool) : Option (Bool) :=
  if x3 = true then
    some false
  else
    f_laws_FnLogs_L6 x0 x1 x2 rc3 BIG (if (x1.Log.length : Int) < (x0.Log.length : Int) then (x1.Log.length : Int) else (x0.Log.length : Int))
def f_laws_FnLogs_L3 (x0 : Int) (x50 : (GCluster × (List Int) × Int)) (rc2 : Int → Option (Bool)) : Nat → Int → Option (Bool)
  | 0, _ => none
  | k + 1, x1 =>
    if x1 < x0 then
      (idx x50.1.Peers x0).bind fun x2 =>
      (idx x50.1.Peers x1).bind fun x3 =>
      if x2.Role = 2 then
        if x3.Role = 2 then
          f_laws_FnLogs_J5 x2 x3 x1 (f_laws_FnLogs_L3 x0 x50 rc2 k) (decide (x2.Term = x3.Term))
        else
          f_laws_FnLogs_J5 x2 x3 x1 (f_laws_FnLogs_L3 x0 x50 rc2 k) false
      else
        f_laws_FnLogs_J5 x2 x3 x1 (f_laws_FnLogs_L3 x0 x50 rc2 k) false
    else
      chk (-9223372036854775808 ≤ x0 + 1 ∧ x0 + 1 < 9223372036854775808) <|
      rc2 (x0 + 1)
def f_laws_FnLogs_L2 (x20 : (Int)) (x50 : (GCluster × (List Int) × Int)) : Nat → Int → Option (Bool)
  | 0, _ => none
  | k + 1, x0 =>
    if x0 < x20 then
      f_laws_FnLogs_L3 x0 x50 (f_laws_FnLogs_L2 x20 x50 k) BIG 0
    else
      some true
def f_laws_FnLogs_J1 (x20 : (Int)) (x50 : (GCluster × (List Int) × Int)) (x93 : Bool) : Option (Bool) :=
  if x93 = true then
    some false
  else
    f_laws_FnLogs_L2 x20 x50 BIG 0
def f_laws_FnLogs_J0 (xs5 : (List UInt8)) (xs1 : (List UInt8)) (x17 : Bool) : Option (Bool) :=
  if x17 = true then
    some true
  else
    (f_laws_peers xs5).bind fun x20 =>
    (f_spec_EventsOf xs1 x20).bind fun x28 =>
    (f_impl_ClusterRun x20 x28).bind fun x50 =>
    if x50.2.2 = 0 then
      f_laws_FnLogs_J1 x20 x50 (!decide ((x50.1.Peers.length : Int) = x20))
    else
      f_laws_FnLogs_J1 x20 x50 true
def f_laws_FnLogs (xs1 : (List UInt8)) (xs5 : (List UInt8)) : Option (Bool) :=
  if (1048576 : Int) < (xs1.length : Int) then
    f_laws_FnLogs_J0 xs5 xs1 true
  else
    f_laws_FnLogs_J0 xs5 xs1 (decide ((1048576 : Int) < (xs5.length : Int)))
end Go.Proofs.YtlpcdcpcfeaecaaAb
end
section
namespace Go.Proofs.YtlpcdcpcfeaecaaAb
open Go Go.Proofs
theorem info3 : Try.prog.info? 3 = some Try.t3 := by kernel_rfl
theorem info4 : Try.prog.info? 4 = some Try.t4 := by kernel_rfl
theorem info5 : Try.prog.info? 5 = some Try.t5 := by kernel_rfl
theorem info9 : Try.prog.info? 9 = some Try.t9 := by kernel_rfl
theorem info22 : Try.prog.info? 22 = some Try.t22 := by kernel_rfl
theorem info24 : Try.prog.info? 24 = some Try.t24 := by kernel_rfl
theorem info26 : Try.prog.info? 26 = some Try.t26 := by kernel_rfl
theorem info27 : Try.prog.info? 27 = some Try.t27 := by kernel_rfl
theorem info28 : Try.prog.info? 28 = some Try.t28 := by kernel_rfl
theorem info30 : Try.prog.info? 30 = some Try.t30 := by kernel_rfl
theorem info31 : Try.prog.info? 31 = some Try.t31 := by kernel_rfl
theorem info35 : Try.prog.info? 35 = some Try.t35 := by kernel_rfl
theorem info40 : Try.prog.info? 40 = some Try.t40 := by kernel_rfl
theorem info42 : Try.prog.info? 42 = some Try.t42 := by kernel_rfl
theorem info85 : Try.prog.info? 85 = some Try.t85 := by kernel_rfl
theorem info88 : Try.prog.info? 88 = some Try.t88 := by kernel_rfl
theorem info96 : Try.prog.info? 96 = some Try.t96 := by kernel_rfl
theorem info100 : Try.prog.info? 100 = some Try.t100 := by kernel_rfl
end Go.Proofs.YtlpcdcpcfeaecaaAb
end
section
set_option maxRecDepth 20000
namespace Go.Proofs.YtlpcdcpcfeaecaaAb
open Go Go.Proofs
theorem f_slices_Delete_implMsg_k {Δ : Prims} (g : Env Try.prog Δ) {lo lo2 n0 : Nat} {H0 F0 : Heap} (hS : St lo n0 H0 F0) {a : Option Addr} {m cap : Nat} {xs1 : List GMsg} {x2 x3 : Int} (h : OW lo2 n0 H0 F0 (.slice a m cap) xs1) (hlo : lo ≤ lo2) {res : List GMsg} (hr : f_slices_Delete_implMsg xs1 x2 x3 = some res) :
    C Try.prog Δ lo 56 [.slice a m cap, .int .i64 x2, .int .i64 x3] n0 H0 (fun v n H => ∃ (a' : Option Addr) (cap' : Nat), n = n0 ∧ St lo n0 H F0 ∧ v = .slice a' res.length cap' ∧ OW lo2 n0 H F0 (.slice a' res.length cap') res ∧ (∀ j, idOf (.slice a m cap) ≠ some j → H j = H0 j) ∧ (∀ j, idOf (.slice a' res.length cap') = some j → idOf (.slice a m cap) = some j)) := by
  obtain ⟨⟨h0, h1, h2⟩, hr2⟩ := chk_some hr
  clear hr
  subst h1
  obtain rfl := Option.some.inj hr2
  obtain ⟨hlt, hfn, cs, hs, hra⟩ := h
  obtain ⟨i, rfl⟩ := Int.eq_ofNat_of_zero_le h0
  have hiL : i < xs1.length := by omega
  have e1 : ((i : Int) + 1) = ((i + 1 : Nat) : Int) := by omega
  rw [e1]
  have hit : ((i : Int)).toNat = i := Int.toNat_natCast i
  rw [hit]
  rcases hs with ⟨hv, hl, _⟩ | ⟨b, k, cap', c, hv, hb, hc, hcl, g1, g2, g3, g4⟩
  · omega
  obtain ⟨rfl, rfl, rfl⟩ : a = some ⟨b, k, none⟩ ∧ m = xs1.length ∧ cap = cap' := by cases hv; exact ⟨rfl, rfl, rfl⟩
  have hsz : Rp.sz GMsg = 9 := rfl
  rw [hsz] at hcl hc hb
  have hfit : k + xs1.length * 9 ≤ c.length := row_fit hc hcl (by omega)
  have hL : xs1.length ≤ lb xs1.length cap := le_lb
  have hel : (xs1.take i ++ xs1.drop (i + 1)).length = xs1.length - 1 := by simp; omega
  have hra2 := (hra.take i).append (hra.drop (i + 1))
  rw [hsz] at hra2
  have hnl : (cs.drop ((i + 1) * 9)).length = (xs1.length - (i + 1)) * 9 := by rw [List.length_drop, hcl, Nat.sub_mul]
  have hn2 : (c.drop (k + (i + 1) * 9)).take ((xs1.length - (i + 1)) * 9) = cs.drop ((i + 1) * 9) := by
    rw [← hc, List.drop_take, List.drop_drop, Nat.sub_mul]
  have hnone : ∀ v ∈ cs.drop ((i + 1) * 9), v.oneCell' = true := fun v hv => hra.one v (List.mem_of_mem_drop hv)
  refine C.body Try.func56 rfl rfl ?_
  with_reducible refine W.seq ?_
  with_reducible refine W.region ?_
  refine WL.assign .nil rfl rfl rfl rfl ?_
  with_reducible refine WL.nil ?_
  with_reducible refine Ex.thn_norm ?_
  with_reducible refine W.seq ?_
  with_reducible refine W.region ?_
  refine WL.move .nil rfl rfl rfl rfl ?_
  refine WL.move .nil rfl rfl rfl rfl ?_
  refine WL.move .nil rfl rfl rfl rfl ?_
  refine WL.move .nil rfl rfl rfl rfl ?_
  refine WL.len .nil rfl rfl rfl Try.underlying27 rfl ?_
  refine WL.slice (h := i + 1) (m := xs1.length) .nil rfl rfl rfl Try.underlying27 info85 rfl hb rfl ⟨_, rfl⟩ ⟨_, rfl⟩ ⟨_, rfl⟩ hL (fun _ => rfl) (by omega) (by omega) ?_
  with_reducible refine WL.nil ?_
  with_reducible refine Ex.thn_norm ?_
  with_reducible refine W.seq ?_
  with_reducible refine W.seq ?_
  with_reducible refine W.region ?_
  refine WL.move .nil rfl rfl rfl rfl ?_
  refine WL.move .nil rfl rfl rfl rfl ?_
  refine WL.bin .nil rfl rfl rfl rfl rfl rfl ?_
  with_reducible refine WL.nil ?_
  with_reducible refine Ex.thn_norm ?_
  refine W.condD (p := (i : Int) = ((i + 1 : Nat) : Int)) rfl (fun hc => absurd hc (by omega)) (fun _ => ?_)
  with_reducible refine W.skip ?_
  with_reducible refine Ex.thn_norm ?_
  with_reducible refine W.seq ?_
  with_reducible refine W.region ?_
  refine WL.move .nil rfl rfl rfl rfl ?_
  refine WL.len .nil rfl rfl rfl Try.underlying27 rfl ?_
  refine WL.assign .nil rfl rfl rfl rfl ?_
  with_reducible refine WL.nil ?_
  with_reducible refine Ex.thn_norm ?_
  with_reducible refine W.seq ?_
  refine W.regionD [0, 1, 2, 3, 4, 5, 6, 7] [false, false, false, false, false, false, true, false] rfl rfl (by kernel_rfl) (by kernel_rfl) (by (conv => lhs; simp only [List.map_cons, List.map_nil, List.getD_cons_zero, List.getD_cons_succ]) <;> rfl) ?_
  refine WL.move .r rfl rfl rfl rfl ?_
  refine WL.move .r rfl rfl rfl rfl ?_
  refine WL.slice (h := i) (m := lb xs1.length cap) .r rfl rfl rfl Try.underlying27 info85 rfl hb rfl rfl rfl ⟨_, rfl⟩ (Nat.le_refl _) (fun h => by cases h) (by omega) (by omega) ?_
  refine WL.move .r rfl rfl rfl rfl ?_
  refine WL.move .r rfl rfl rfl rfl ?_
  refine WL.slice (h := xs1.length) (m := lb xs1.length cap) .r rfl rfl rfl Try.underlying27 info85 rfl hb rfl rfl ⟨_, rfl⟩ rfl (Nat.le_refl _) (fun h => by cases h) (by omega) (by omega) ?_
  have ei : i - 0 = i := Nat.sub_zero i
  have ek : k + 0 * Try.t85.size = k := by omega
  have ec : lb xs1.length cap - 0 = lb xs1.length cap := Nat.sub_zero _
  rw [ei, ek, ec]
  have key : ∀ (c2 : List Value), c2.length = c.length → (c2.drop k).take ((xs1.length - 1) * 9) = cs.take (i * 9) ++ cs.drop ((i + 1) * 9) → ∀ (H1 : Heap), St lo n0 H1 F0 → H1 b = some (.row 9 c2) → (∀ j, j ≠ b → H1 j = H0 j) →
      ∃ (a' : Option Addr) (cap' : Nat), n0 = n0 ∧ St lo n0 H1 F0 ∧ Value.slice (some ⟨b, k, none⟩) (xs1.length - 1) (UNK + lb xs1.length cap) = .slice a' (xs1.take i ++ xs1.drop (i + 1)).length cap' ∧ OW lo2 n0 H1 F0 (.slice a' (xs1.take i ++ xs1.drop (i + 1)).length cap') (xs1.take i ++ xs1.drop (i + 1)) ∧ (∀ j, idOf (.slice (some ⟨b, k, none⟩) xs1.length cap) ≠ some j → H1 j = H0 j) ∧ (∀ j, idOf (.slice a' (xs1.take i ++ xs1.drop (i + 1)).length cap') = some j → idOf (.slice (some ⟨b, k, none⟩) xs1.length cap) = some j) := fun c2 hl hw H1 hS1 hb1 hk1 => by
    refine ⟨some ⟨b, k, none⟩, UNK + lb xs1.length cap, rfl, hS1, by rw [hel], ⟨by rw [hel]; omega, fun j hj => hfn j (by simpa [idOf] using hj), _, .inr ⟨b, k, _, c2, rfl, hb1, ?_, ?_, g1, g2, by omega, .inr (by omega)⟩, hra2⟩, fun j hj => hk1 j (fun e => hj (by simp [idOf, e])), fun j hj => by simpa [idOf] using hj⟩
    · rw [hel]; exact hw
    · rw [hel, hsz, List.length_append, List.length_take, hnl, hcl]; omega
  have eL : xs1.length - (xs1.length - 1) = 1 := by omega
  have hct : cs.take (i * 9) = (c.drop k).take (i * 9) := by rw [← hc, List.take_take, Nat.min_eq_left (by omega)]
  by_cases hlast : i + 1 = xs1.length
  · have e0 : xs1.length - (i + 1) = 0 := by omega
    have eI : i = xs1.length - 1 := by omega
    rw [e0]
    have hw1 : (c.drop k).take ((xs1.length - 1) * 9) = cs.take (i * 9) ++ cs.drop ((i + 1) * 9) := by
      have h9 : cs.drop ((i + 1) * 9) = [] := by rw [hlast, ← hcl, List.drop_length]
      rw [h9, List.append_nil, hct, ← eI]
    refine WL.append0 .w rfl rfl rfl Try.underlying27 info85 rfl (.slice Try.underlying27 rfl rfl hb (by simp) (by simp)) ?_
    refine WL.assign .r rfl rfl rfl rfl ?_
    rw [show Value.slice (some ⟨b, k, none⟩) i (UNK + lb xs1.length cap) = Value.slice (some ⟨b, k, none⟩) (xs1.length - 1) (UNK + lb xs1.length cap) from by rw [← eI]]
    with_reducible refine WL.nil ?_
    with_reducible refine Ex.thn_norm ?_
    with_reducible refine W.seq ?_
    with_reducible refine W.region ?_
    refine WL.move .nil rfl rfl rfl rfl ?_
    refine WL.move .nil rfl rfl rfl rfl ?_
    refine WL.len .nil rfl rfl rfl Try.underlying27 rfl ?_
    refine WL.move .nil rfl rfl rfl rfl ?_
    refine WL.slice (h := xs1.length) (m := lb (xs1.length - 1) (UNK + lb xs1.length cap)) .nil rfl rfl rfl Try.underlying27 info85 rfl hb rfl rfl ⟨_, rfl⟩ ⟨_, rfl⟩ (Nat.le_refl _) (fun h => by cases h) (by omega) (by rw [lb_unk]; omega) ?_
    refine WL.clear .nil rfl rfl rfl Try.underlying27 info85 rfl rfl rfl rfl hb (by show k + (xs1.length - 1) * 9 + (xs1.length - (xs1.length - 1)) * 9 ≤ c.length; omega) (by omega) g2 (by omega) ?_
    with_reducible refine WL.nil ?_
    with_reducible refine Ex.thn_norm ?_
    with_reducible refine W.seq ?_
    with_reducible refine W.region ?_
    refine WL.move .nil rfl rfl rfl rfl ?_
    refine WL.assign .nil rfl rfl rfl rfl ?_
    with_reducible refine WL.nil ?_
    with_reducible refine Ex.thn_norm ?_
    with_reducible refine W.ret ?_
    repeat (with_reducible refine Ex.thn_ret ?_)
    refine ⟨.inr rfl, _, resl1 rfl, key _ (by rw [length_splice (by rw [eL]; show k + (xs1.length - 1) * 9 + 9 ≤ c.length; omega)]) ((win_behind (by rw [eL]; show k + (xs1.length - 1) * 9 + 9 ≤ c.length; omega)).trans hw1) _ (hS.set g2 (hfn b rfl) _) (Heap.set_same _ _ _) (fun j hj => Heap.set_ne _ _ hj)⟩
  · have hl1 : (splice c (k + i * Try.t85.size) (cs.drop ((i + 1) * 9))).length = c.length := length_splice (by rw [hnl]; show k + i * 9 + (xs1.length - (i + 1)) * 9 ≤ c.length; omega)
    have hw2 : ((splice c (k + i * Try.t85.size) (cs.drop ((i + 1) * 9))).drop k).take ((xs1.length - 1) * 9) = cs.take (i * 9) ++ cs.drop ((i + 1) * 9) := by
      have h8 : ((splice c (k + i * 9) (cs.drop ((i + 1) * 9))).drop k).take ((xs1.length - 1) * 9) = splice ((c.drop k).take ((xs1.length - 1) * 9)) (i * 9) (cs.drop ((i + 1) * 9)) := take_drop_splice (by omega) (by rw [hnl]; omega)
      refine Eq.trans h8 ?_
      unfold splice
      rw [List.take_take, Nat.min_eq_left (by omega), ← hct, List.drop_of_length_le (l := List.take ((xs1.length - 1) * 9) (List.drop k c)) (by rw [List.length_take, hnl]; omega), List.append_nil]
    refine WL.appendI (m := xs1.length - (i + 1)) (news := cs.drop ((i + 1) * 9)) .w rfl rfl rfl Try.underlying27 info85 rfl (.slice Try.underlying27 rfl rfl hb hn2 hnl) hb (by rw [lb_unk]; omega) (by show k + (i + (xs1.length - (i + 1))) * 9 ≤ c.length; omega) (by omega) g2 hnone (by omega) ?_
    refine WL.assign .r rfl rfl rfl rfl ?_
    rw [show i + (xs1.length - (i + 1)) = xs1.length - 1 by omega]
    with_reducible refine WL.nil ?_
    with_reducible refine Ex.thn_norm ?_
    with_reducible refine W.seq ?_
    with_reducible refine W.region ?_
    refine WL.move .nil rfl rfl rfl rfl ?_
    refine WL.move .nil rfl rfl rfl rfl ?_
    refine WL.len .nil rfl rfl rfl Try.underlying27 rfl ?_
    refine WL.move .nil rfl rfl rfl rfl ?_
    refine WL.slice (h := xs1.length) (m := lb (xs1.length - 1) (UNK + lb xs1.length cap)) .nil rfl rfl rfl Try.underlying27 info85 rfl (Heap.set_same _ _ _) rfl rfl ⟨_, rfl⟩ ⟨_, rfl⟩ (Nat.le_refl _) (fun h => by cases h) (by omega) (by rw [lb_unk]; omega) ?_
    refine WL.clear .nil rfl rfl rfl Try.underlying27 info85 rfl rfl rfl rfl (Heap.set_same _ _ _) (by rw [hl1]; show k + (xs1.length - 1) * 9 + (xs1.length - (xs1.length - 1)) * 9 ≤ c.length; omega) (by omega) g2 (by omega) ?_
    with_reducible refine WL.nil ?_
    with_reducible refine Ex.thn_norm ?_
    with_reducible refine W.seq ?_
    with_reducible refine W.region ?_
    refine WL.move .nil rfl rfl rfl rfl ?_
    refine WL.assign .nil rfl rfl rfl rfl ?_
    with_reducible refine WL.nil ?_
    with_reducible refine Ex.thn_norm ?_
    with_reducible refine W.ret ?_
    repeat (with_reducible refine Ex.thn_ret ?_)
    refine ⟨.inr rfl, _, resl1 rfl, key _ ((length_splice (by rw [hl1, eL]; show k + (xs1.length - 1) * 9 + 9 ≤ c.length; omega)).trans hl1) ((win_behind (by rw [hl1, eL]; show k + (xs1.length - 1) * 9 + 9 ≤ c.length; omega)).trans hw2) _ ((hS.set g2 (hfn b rfl) _).set g2 (hfn b rfl) _) (Heap.set_same _ _ _) (fun j hj => (Heap.set_ne _ _ hj).trans (Heap.set_ne _ _ hj))⟩
end Go.Proofs.YtlpcdcpcfeaecaaAb
end
section
set_option maxRecDepth 20000
namespace Go.Proofs.YtlpcdcpcfeaecaaAb
open Go Go.Proofs
section
variable {P : Program} {Δ : Prims} {lo : Nat} {fr : Fr} {n : Nat} {H : Heap} {Q : Post} {all : Array Oper} {l : List Oper} {o : Oper} {d : Nat}
theorem WL.addU {fl fl2 : List Bool} {lw : Nat} (hfl : IsFl fl lo n lw fl2) {t t' : TypeId} {x y : Operand} {a b r : Int} (ho : o.op = .binOp .add t x y t') (hd : o.dst = some d) (hw : wantedA all o fr = some true) (hx : fr.eval x = some (.int .u64 a)) (hy : fr.eval y = some (.int .u64 b)) (hr : a + b = r)
    (h1 : 0 ≤ r) (h2 : r < 18446744073709551616) (kk : WL P Δ lo fl2 all l ((d, .int .u64 r) :: fr) n H Q) : WL P Δ lo fl all (o :: l) fr n H Q :=
  WL.bin hfl ho hd hw hx hy (by simp only [binI, if_true]; rw [hr, wrap_in (k := .u64) h1 (by rw [topU64]; exact h2)]) kk
theorem WL.mulU {fl fl2 : List Bool} {lw : Nat} (hfl : IsFl fl lo n lw fl2) {t t' : TypeId} {x y : Operand} {a b r : Int} (ho : o.op = .binOp .mul t x y t') (hd : o.dst = some d) (hw : wantedA all o fr = some true) (hx : fr.eval x = some (.int .u64 a)) (hy : fr.eval y = some (.int .u64 b)) (hr : a * b = r)
    (h1 : 0 ≤ r) (h2 : r < 18446744073709551616) (kk : WL P Δ lo fl2 all l ((d, .int .u64 r) :: fr) n H Q) : WL P Δ lo fl all (o :: l) fr n H Q :=
  WL.bin hfl ho hd hw hx hy (by simp only [binI, if_true]; rw [hr, wrap_in (k := .u64) h1 (by rw [topU64]; exact h2)]) kk
theorem WL.andU {fl fl2 : List Bool} {lw : Nat} (hfl : IsFl fl lo n lw fl2) {t t' : TypeId} {x y : Operand} {a b r : Nat} (ho : o.op = .binOp .and t x y t') (hd : o.dst = some d) (hw : wantedA all o fr = some true) (hx : fr.eval x = some (.int .u64 (a : Int))) (hy : fr.eval y = some (.int .u64 (b : Int))) (hr : a &&& b = r)
    (ha : a < 18446744073709551616) (hb : b < 18446744073709551616) (kk : WL P Δ lo fl2 all l ((d, .int .u64 (r : Int)) :: fr) n H Q) : WL P Δ lo fl all (o :: l) fr n H Q :=
  WL.andN hfl ho hd hw hx hy topU64 (Int.toNat_natCast a) (Int.toNat_natCast b) (by omega) (by omega) (by omega) (by omega) (fun _ => by rw [hr]; exact kk)
theorem WL.shrU {fl fl2 : List Bool} {lw : Nat} (hfl : IsFl fl lo n lw fl2) {t t' : TypeId} {x y : Operand} {k' : IntKind} {a r : Nat} (ho : o.op = .binOp .shr t x y t') (hd : o.dst = some d) (hw : wantedA all o fr = some true) (hx : fr.eval x = some (.int .u64 (a : Int))) (hy : fr.eval y = some (.int k' 32)) (hr : a / 4294967296 = r)
    (kk : WL P Δ lo fl2 all l ((d, .int .u64 (r : Int)) :: fr) n H Q) : WL P Δ lo fl all (o :: l) fr n H Q :=
  WL.shrN (bn := 4294967296) hfl ho hd hw hx hy (Int.toNat_natCast a) rfl (by omega) (by decide) (by decide) (fun _ => by rw [hr]; exact kk)
end
theorem and_low {c : Nat} (h : c < 4294967296) : c &&& 4294967295 = c := by
  have := Nat.and_two_pow_sub_one_eq_mod c 32
  rw [Nat.mod_eq_of_lt (by omega)] at this
  exact this
theorem mul64_k {Δ : Prims} {lo n0 : Nat} {H0 : Heap} {c : Nat} (hc : c < 100000) : C Try.prog Δ lo 122 [.int .u64 ((1 : Nat) : Int), .int .u64 (c : Int)] n0 H0 (fun v n H => n = n0 ∧ H = H0 ∧ v = .tuple #[.int .u64 ((0 : Nat) : Int), .int .u64 (c : Int)]) := by
  refine C.body Try.func122 rfl rfl ?_
  repeat (with_reducible refine W.seq ?_)
  with_reducible refine W.region ?_
  refine WL.assign .nil rfl rfl rfl rfl ?_
  refine WL.assign .nil rfl rfl rfl rfl ?_
  with_reducible refine WL.nil ?_
  repeat (with_reducible refine Ex.thn_norm ?_)
  repeat (with_reducible refine W.seq ?_)
  with_reducible refine W.region ?_
  refine WL.move .nil rfl rfl rfl rfl ?_
  refine WL.andU (a := 1) (b := 4294967295) (r := 1) .nil rfl rfl rfl rfl rfl rfl (by omega) (by omega) ?_
  refine WL.assign .nil rfl rfl rfl rfl ?_
  with_reducible refine WL.nil ?_
  repeat (with_reducible refine Ex.thn_norm ?_)
  repeat (with_reducible refine W.seq ?_)
  with_reducible refine W.region ?_
  refine WL.move .nil rfl rfl rfl rfl ?_
  refine WL.shrU (a := 1) (r := 0) .nil rfl rfl rfl rfl rfl rfl ?_
  refine WL.assign .nil rfl rfl rfl rfl ?_
  with_reducible refine WL.nil ?_
  repeat (with_reducible refine Ex.thn_norm ?_)
  repeat (with_reducible refine W.seq ?_)
  with_reducible refine W.region ?_
  refine WL.move .nil rfl rfl rfl rfl ?_
  refine WL.andU (a := c) (b := 4294967295) (r := c) .nil rfl rfl rfl rfl rfl (and_low (by omega)) (by omega) (by omega) ?_
  refine WL.assign .nil rfl rfl rfl rfl ?_
  with_reducible refine WL.nil ?_
  repeat (with_reducible refine Ex.thn_norm ?_)
  repeat (with_reducible refine W.seq ?_)
  with_reducible refine W.region ?_
  refine WL.move .nil rfl rfl rfl rfl ?_
  refine WL.shrU (a := c) (r := 0) .nil rfl rfl rfl rfl rfl (by omega) ?_
  refine WL.assign .nil rfl rfl rfl rfl ?_
  with_reducible refine WL.nil ?_
  repeat (with_reducible refine Ex.thn_norm ?_)
  repeat (with_reducible refine W.seq ?_)
  with_reducible refine W.region ?_
  refine WL.move .nil rfl rfl rfl rfl ?_
  refine WL.move .nil rfl rfl rfl rfl ?_
  refine WL.mulU (r := (c : Int)) .nil rfl rfl rfl rfl rfl (by omega) (by omega) (by omega) ?_
  refine WL.assign .nil rfl rfl rfl rfl ?_
  with_reducible refine WL.nil ?_
  repeat (with_reducible refine Ex.thn_norm ?_)
  repeat (with_reducible refine W.seq ?_)
  with_reducible refine W.region ?_
  refine WL.move .nil rfl rfl rfl rfl ?_
  refine WL.move .nil rfl rfl rfl rfl ?_
  refine WL.mulU (r := ((0 : Nat) : Int)) .nil rfl rfl rfl rfl rfl (by omega) (by omega) (by omega) ?_
  refine WL.move .nil rfl rfl rfl rfl ?_
  refine WL.shrU (a := c) (r := 0) .nil rfl rfl rfl rfl rfl (by omega) ?_
  refine WL.addU (r := ((0 : Nat) : Int)) .nil rfl rfl rfl rfl rfl (by omega) (by omega) (by omega) ?_
  refine WL.assign .nil rfl rfl rfl rfl ?_
  with_reducible refine WL.nil ?_
  repeat (with_reducible refine Ex.thn_norm ?_)
  repeat (with_reducible refine W.seq ?_)
  with_reducible refine W.region ?_
  refine WL.move .nil rfl rfl rfl rfl ?_
  refine WL.andU (a := 0) (b := 4294967295) (r := 0) .nil rfl rfl rfl rfl rfl rfl (by omega) (by omega) ?_
  refine WL.assign .nil rfl rfl rfl rfl ?_
  with_reducible refine WL.nil ?_
  repeat (with_reducible refine Ex.thn_norm ?_)
  repeat (with_reducible refine W.seq ?_)
  with_reducible refine W.region ?_
  refine WL.move .nil rfl rfl rfl rfl ?_
  refine WL.shrU (a := 0) (r := 0) .nil rfl rfl rfl rfl rfl rfl ?_
  refine WL.assign .nil rfl rfl rfl rfl ?_
  with_reducible refine WL.nil ?_
  repeat (with_reducible refine Ex.thn_norm ?_)
  repeat (with_reducible refine W.seq ?_)
  with_reducible refine W.region ?_
  refine WL.move .nil rfl rfl rfl rfl ?_
  refine WL.move .nil rfl rfl rfl rfl ?_
  refine WL.move .nil rfl rfl rfl rfl ?_
  refine WL.mulU (r := ((0 : Nat) : Int)) .nil rfl rfl rfl rfl rfl (by omega) (by omega) (by omega) ?_
  refine WL.addU (r := ((0 : Nat) : Int)) .nil rfl rfl rfl rfl rfl (by omega) (by omega) (by omega) ?_
  refine WL.assign .nil rfl rfl rfl rfl ?_
  with_reducible refine WL.nil ?_
  repeat (with_reducible refine Ex.thn_norm ?_)
  repeat (with_reducible refine W.seq ?_)
  with_reducible refine W.region ?_
  refine WL.move .nil rfl rfl rfl rfl ?_
  refine WL.move .nil rfl rfl rfl rfl ?_
  refine WL.mulU (r := ((0 : Nat) : Int)) .nil rfl rfl rfl rfl rfl (by omega) (by omega) (by omega) ?_
  refine WL.move .nil rfl rfl rfl rfl ?_
  refine WL.addU (r := ((0 : Nat) : Int)) .nil rfl rfl rfl rfl rfl (by omega) (by omega) (by omega) ?_
  refine WL.move .nil rfl rfl rfl rfl ?_
  refine WL.shrU (a := 0) (r := 0) .nil rfl rfl rfl rfl rfl rfl ?_
  refine WL.addU (r := ((0 : Nat) : Int)) .nil rfl rfl rfl rfl rfl (by omega) (by omega) (by omega) ?_
  refine WL.assign .nil rfl rfl rfl rfl ?_
  with_reducible refine WL.nil ?_
  repeat (with_reducible refine Ex.thn_norm ?_)
  repeat (with_reducible refine W.seq ?_)
  with_reducible refine W.region ?_
  refine WL.move .nil rfl rfl rfl rfl ?_
  refine WL.move .nil rfl rfl rfl rfl ?_
  refine WL.mulU (r := (c : Int)) .nil rfl rfl rfl rfl rfl (by omega) (by omega) (by omega) ?_
  refine WL.assign .nil rfl rfl rfl rfl ?_
  with_reducible refine WL.nil ?_
  repeat (with_reducible refine Ex.thn_norm ?_)
  with_reducible refine W.ret ?_
  repeat (with_reducible refine Ex.thn_ret ?_)
  exact ⟨.inr rfl, _, (.cons (.tmp rfl) (.cons (.tmp rfl) .nil)), rfl, rfl, rfl⟩
theorem mul_k {Δ : Prims} (g : Env Try.prog Δ) {lo n0 : Nat} {H0 : Heap} (hlo : lo ≤ n0) {c : Nat} (hc : c < 100000) : C Try.prog Δ lo 120 [.int .u64 ((1 : Nat) : Int), .int .u64 (c : Int)] n0 H0 (fun v n H => n = n0 ∧ H = H0 ∧ v = .tuple #[.int .u64 ((0 : Nat) : Int), .int .u64 (c : Int)]) := by
  refine C.body Try.func120 rfl rfl ?_
  repeat (with_reducible refine W.seq ?_)
  with_reducible refine W.region ?_
  refine WL.assign .nil rfl rfl rfl rfl ?_
  refine WL.assign .nil rfl rfl rfl rfl ?_
  with_reducible refine WL.nil ?_
  repeat (with_reducible refine Ex.thn_norm ?_)
  repeat (with_reducible refine W.seq ?_)
  refine W.condF rfl ?_
  with_reducible refine W.skip ?_
  repeat (with_reducible refine Ex.thn_norm ?_)
  repeat (with_reducible refine W.seq ?_)
  with_reducible refine W.region ?_
  refine WL.move .nil rfl rfl rfl rfl ?_
  refine WL.move .nil rfl rfl rfl rfl ?_
  refine GL.callIn (args := [.int .u64 ((1 : Nat) : Int), .int .u64 (c : Int)]) .nil lo rfl rfl rfl rfl rfl rfl Try.func122 rfl rfl (Nat.le_refl _) hlo ((mul64_k hc).mono fun v n H h => ?_)
  obtain ⟨rfl, rfl, rfl⟩ := h
  refine WL.move .nil rfl rfl rfl rfl ?_
  refine WL.extract .nil rfl rfl rfl rfl rfl ?_
  refine WL.extract .nil rfl rfl rfl rfl rfl ?_
  refine WL.assign .nil rfl rfl rfl rfl ?_
  refine WL.assign .nil rfl rfl rfl rfl ?_
  with_reducible refine WL.nil ?_
  repeat (with_reducible refine Ex.thn_norm ?_)
  repeat (with_reducible refine W.seq ?_)
  with_reducible refine W.region ?_
  refine WL.move .nil rfl rfl rfl rfl ?_
  refine WL.move .nil rfl rfl rfl rfl ?_
  refine WL.assign .nil rfl rfl rfl rfl ?_
  refine WL.assign .nil rfl rfl rfl rfl ?_
  with_reducible refine WL.nil ?_
  repeat (with_reducible refine Ex.thn_norm ?_)
  with_reducible refine W.ret ?_
  repeat (with_reducible refine Ex.thn_ret ?_)
  exact ⟨.inr rfl, _, (.cons (.tmp rfl) (.cons (.tmp rfl) .nil)), rfl, rfl, rfl⟩
end Go.Proofs.YtlpcdcpcfeaecaaAb
end
section
set_option maxRecDepth 20000
namespace Go.Proofs.YtlpcdcpcfeaecaaAb
open Go Go.Proofs
theorem set_set (H : Heap) (i : Nat) (a b : Ob) : (H.set i a).set i b = H.set i b := by
  funext j
  by_cases h : j = i
  · subst h; rw [Heap.set_same, Heap.set_same]
  · rw [Heap.set_ne _ _ h, Heap.set_ne _ _ h, Heap.set_ne _ _ h]
def repRow (w : Int) (m c : Nat) : List Value := List.replicate m (.int .i64 w) ++ List.replicate (c - m) (.int .i64 0)
theorem repRow_len {w : Int} {m c : Nat} (h : m ≤ c) : (repRow w m c).length = c := by simp [repRow]; omega
theorem repRow_step {w : Int} {m c j : Nat} (h : m ≤ c) (hj : j ≤ m) (hc : m + j ≤ c) : splice (repRow w m c) m ((repRow w m c).take j) = repRow w (m + j) c := by
  have e1 : (repRow w m c).take j = List.replicate j (.int .i64 w) := by
    unfold repRow
    rw [List.take_append_of_le_length (by rw [List.length_replicate]; exact hj), List.take_replicate, Nat.min_eq_left hj]
  rw [e1]
  unfold splice repRow
  rw [List.take_left' (by simp), List.length_replicate, List.drop_append, List.drop_of_length_le (by rw [List.length_replicate]; omega), List.length_replicate, List.nil_append, List.drop_replicate, ← List.replicate_append_replicate (n := m) (m := j)]
  congr 2
  omega
theorem flat_one (c : Nat) : (List.replicate c [Value.int .i64 0]).flatten = List.replicate c (Value.int .i64 0) := by
  induction c with
  | zero => rfl
  | succ c ih => rw [List.replicate_succ, List.flatten_cons, ih, List.replicate_succ]; rfl
theorem f_slices_Repeat_int_k {Δ : Prims} (g : Env Try.prog Δ) {lo n0 : Nat} {H0 F0 : Heap} (hS : St lo n0 H0 F0) {a : Option Addr} {cap : Nat} {xs1 : List Int} {x2 : Int} (h4 : SrcX H0 F0 (.slice a xs1.length cap) xs1) {res : List Int} (hr : f_slices_Repeat_int xs1 x2 = some res) :
    C Try.prog Δ n0 112 [.slice a xs1.length cap, .int .i64 x2] n0 H0 (fun v n H => ∃ (ra : Option Addr) (rcap : Nat), St n0 n H F0 ∧ v = .slice ra res.length rcap ∧ OW n0 n H F0 (.slice ra res.length rcap) res) := by
  obtain ⟨⟨h1, h2, h3⟩, hr2⟩ := chk_some hr
  clear hr
  obtain rfl := Option.some.inj hr2
  obtain ⟨w, rfl⟩ : ∃ w, xs1 = [w] := by
    match xs1, h1 with
    | [w], _ => exact ⟨w, rfl⟩
  obtain ⟨c, rfl⟩ := Int.eq_ofNat_of_zero_le (show 0 ≤ x2 by omega)
  have hc1 : 1 ≤ c := by omega
  have hc2 : c < 100000 := by omega
  obtain ⟨cs, hsl, hra⟩ := h4
  have hcs : cs = [.int .i64 w] := hra.sc
  subst hcs
  have hN0 : n0 ≤ n0 := Nat.le_refl _
  refine C.body Try.func112 rfl rfl ?_
  repeat (with_reducible refine W.seq ?_)
  with_reducible refine W.region ?_
  refine WL.assign .nil rfl rfl rfl rfl ?_
  with_reducible refine WL.nil ?_
  repeat (with_reducible refine Ex.thn_norm ?_)
  repeat (with_reducible refine W.seq ?_)
  with_reducible refine W.region ?_
  refine WL.move .nil rfl rfl rfl rfl ?_
  refine WL.bin .nil rfl rfl rfl rfl rfl rfl ?_
  with_reducible refine WL.nil ?_
  repeat (with_reducible refine Ex.thn_norm ?_)
  refine W.condD (p := (c : Int) < 0) rfl (fun hc => absurd hc (by omega)) (fun _ => ?_)
  with_reducible refine W.skip ?_
  repeat (with_reducible refine Ex.thn_norm ?_)
  repeat (with_reducible refine W.seq ?_)
  with_reducible refine W.region ?_
  refine WL.move .nil rfl rfl rfl rfl ?_
  refine WL.len .nil rfl rfl rfl Try.underlying31 rfl ?_
  refine WL.convN .nil rfl rfl rfl Try.underlying3 Try.underlying122 rfl topU64 (by simp) (by simp) ?_
  refine WL.move .nil rfl rfl rfl rfl ?_
  refine WL.convN .nil rfl rfl rfl Try.underlying3 Try.underlying122 rfl topU64 (by omega) (by omega) ?_
  refine GL.callIn (args := [.int .u64 ((1 : Nat) : Int), .int .u64 (c : Int)]) .nil n0 rfl rfl rfl rfl rfl rfl Try.func120 rfl rfl (Nat.le_refl _) (Nat.le_refl _) ((mul_k g (Nat.le_refl _) hc2).mono fun v n H h => ?_)
  obtain ⟨hn, hH, rfl⟩ := h
  obtain rfl : n0 = n := hn.symm
  obtain rfl : H0 = H := hH.symm
  refine WL.move .nil rfl rfl rfl rfl ?_
  refine WL.extract .nil rfl rfl rfl rfl rfl ?_
  refine WL.extract .nil rfl rfl rfl rfl rfl ?_
  refine WL.assign .nil rfl rfl rfl rfl ?_
  refine WL.assign .nil rfl rfl rfl rfl ?_
  with_reducible refine WL.nil ?_
  repeat (with_reducible refine Ex.thn_norm ?_)
  repeat (with_reducible refine W.seq ?_)
  with_reducible refine W.region ?_
  refine WL.move .nil rfl rfl rfl rfl ?_
  refine WL.bin .nil rfl rfl rfl rfl rfl rfl ?_
  refine WL.move .nil rfl rfl rfl rfl ?_
  refine WL.guardD (p := (0 : Int) < ((0 : Nat) : Int)) rfl rfl rfl (fun hg => absurd hg (by omega)) (fun hg => ?_)
  refine WL.move .nil rfl rfl rfl rfl ?_
  refine WL.bin .nil rfl rfl rfl rfl rfl rfl ?_
  refine WL.pick .nil rfl rfl rfl rfl rfl ?_
  with_reducible refine WL.nil ?_
  repeat (with_reducible refine Ex.thn_norm ?_)
  refine W.condD (p := (9223372036854775807 : Int) < (c : Int)) rfl (fun hc => absurd hc (by omega)) (fun _ => ?_)
  with_reducible refine W.skip ?_
  repeat (with_reducible refine Ex.thn_norm ?_)
  repeat (with_reducible refine W.seq ?_)
  with_reducible refine W.region ?_
  refine WL.move .nil rfl rfl rfl rfl ?_
  refine WL.convN .nil rfl rfl rfl Try.underlying122 Try.underlying3 rfl topI64 (by omega) (by omega) ?_
  refine WL.make (l' := c) (c := c) .nil rfl rfl rfl Try.underlying31 info3 rfl rfl (by decide) rfl rfl rfl (Nat.le_refl _) (by show 8 * c ≤ 281474976710656; omega) (by unfold UNK; omega) ?_
  refine WL.assign .nil rfl rfl rfl rfl ?_
  with_reducible refine WL.nil ?_
  repeat (with_reducible refine Ex.thn_norm ?_)
  repeat (with_reducible refine W.seq ?_)
  with_reducible refine W.region ?_
  refine WL.move .nil rfl rfl rfl rfl ?_
  refine WL.move .nil rfl rfl rfl rfl ?_
  have hzr : ∀ z' : Value, Cells z' = [.int .i64 0] → (List.replicate c (Cells z')).flatten = repRow w 0 c := fun z' hz => by
    rw [hz]; unfold repRow
    rw [List.replicate_zero, List.nil_append, Nat.sub_zero]
    exact flat_one c
  rw [hzr _ rfl]
  rcases hsl with ⟨_, hl0, _⟩ | ⟨b, k, cap', c0, hv, hb, hcw, hcl⟩
  · simp at hl0
  obtain ⟨rfl, rfl⟩ : a = some ⟨b, k, none⟩ ∧ cap = cap' := by cases hv; exact ⟨rfl, rfl⟩
  have hbn : b < n0 := hS.lt hb
  refine WL.copy (m := 1) (news := [.int .i64 w]) .nil rfl rfl rfl Try.underlying31 info3 rfl (.slice Try.underlying31 rfl rfl ((Heap.set_ne _ _ (by omega)).trans hb) hcw rfl) (Heap.set_same _ _ _) (by rw [repRow_len (by omega)]; show 0 + min 1 c * 1 ≤ c; omega) (Nat.le_refl _) (Nat.lt_succ_self _) (fun v hv => by rcases List.mem_singleton.1 hv with rfl; rfl) ?_
  have e1 : min 1 c = 1 := by omega
  rw [e1, set_set]
  have e2 : splice (repRow w 0 c) 0 ([Value.int .i64 w].take (1 * Try.t3.size)) = repRow w 1 c := by
    unfold splice repRow
    show [] ++ [Value.int .i64 w] ++ List.drop 1 (List.replicate 0 _ ++ List.replicate (c - 0) (Value.int .i64 0)) = _
    simp
  rw [e2]
  refine WL.assign .nil rfl rfl rfl rfl ?_
  with_reducible refine WL.nil ?_
  repeat (with_reducible refine Ex.thn_norm ?_)
  repeat (with_reducible refine W.seq ?_)
  with_reducible refine W.block ?_
  refine W.loopF (fun k fr n H => ∃ m, fr = [(7, .slice (some ⟨n0, 0, none⟩) c c), (8, .int .i64 ((m : Nat) : Int))] ∧ n = n0 + 1 ∧ H = H0.set n0 (.row 1 (repRow w m c)) ∧ 1 ≤ m ∧ m ≤ c ∧ c - m < k) (c + 1) (fr0 := [(7, .slice (some ⟨n0, 0, none⟩) c c), (8, .int .i64 ((1 : Nat) : Int))]) (Fr.le_cons rfl (Fr.le_cons rfl Fr.le_nil)) ?_ ?_ ?_
  · exact ⟨1, rfl, rfl, rfl, Nat.le_refl _, hc1, by omega⟩
  · rintro fr n H ⟨m, _, _, _, _, _, h⟩; omega
  intro kk _ n1 H1 hI
  obtain ⟨m, rfl, rfl, rfl, hm1, hm2, hk⟩ := hI
  repeat (with_reducible refine W.seq ?_)
  with_reducible refine W.region ?_
  refine WL.move .nil rfl rfl rfl rfl ?_
  refine WL.move .nil rfl rfl rfl rfl ?_
  refine WL.len .nil rfl rfl rfl Try.underlying31 rfl ?_
  refine WL.bin .nil rfl rfl rfl rfl rfl rfl ?_
  with_reducible refine WL.nil ?_
  repeat (with_reducible refine Ex.thn_norm ?_)
  repeat (with_reducible refine W.seq ?_)
  refine W.condD (p := ((m : Int)) < (c : Int)) rfl (fun hlt => ?_) (fun hge => ?_)
  · with_reducible refine W.skip ?_
    repeat (with_reducible refine Ex.thn_norm ?_)
    repeat (with_reducible refine W.seq ?_)
    with_reducible refine W.block ?_
    repeat (with_reducible refine W.seq ?_)
    refine W.regionI (fun H => True) [0, 1, 2, 3, 4, 5, 6, 7, 8, 9] [(false, true, false), (false, false, false), (false, false, false), (false, false, false), (false, false, false), (false, false, false), (false, false, false), (true, false, false), (false, false, false), (false, false, false)] true rfl (by kernel_rfl) (by kernel_rfl) (by (conv => lhs; simp only [List.map_cons, List.map_nil, List.getD_cons_zero, List.getD_cons_succ]) <;> rfl) ?_
    refine WLI.late (v := .int .i64 ((m : Nat) : Int)) (fun h => by cases h) rfl rfl (fun H2 hI2 => .move (.inl rfl) rfl) ?_
    refine WLI.op (fun h => by cases h) ?_
    refine WL.move .r rfl rfl rfl rfl ?_
    with_reducible refine WL.nil ⟨rfl, ?_⟩
    refine WLI.op (fun h => by cases h) ?_
    refine WL.move .r rfl rfl rfl rfl ?_
    with_reducible refine WL.nil ⟨rfl, ?_⟩
    refine WLI.op (fun h => by cases h) ?_
    refine WL.slice (h := c) (m := lb c c) .r rfl rfl rfl Try.underlying31 info3 rfl (Heap.set_same _ _ _) rfl rfl ⟨_, rfl⟩ rfl (Nat.le_refl _) (fun h => by cases h) (by omega) le_lb ?_
    with_reducible refine WL.nil ⟨rfl, ?_⟩
    refine WLI.op (fun h => by cases h) ?_
    refine WL.move .r rfl rfl rfl rfl ?_
    with_reducible refine WL.nil ⟨rfl, ?_⟩
    refine WLI.op (fun h => by cases h) ?_
    refine WL.move .r rfl rfl rfl rfl ?_
    with_reducible refine WL.nil ⟨rfl, ?_⟩
    refine WLI.op (fun h => by cases h) ?_
    refine WL.slice (h := m) (m := lb c c) .r rfl rfl rfl Try.underlying31 info3 rfl (Heap.set_same _ _ _) rfl rfl rfl ⟨_, rfl⟩ (Nat.le_refl _) (fun h => by cases h) (by omega) (Nat.le_trans hm2 le_lb) ?_
    with_reducible refine WL.nil ⟨rfl, ?_⟩
    refine WLI.op (fun h => by cases h) ?_
    have hj : min m (c - m) ≤ m := Nat.min_le_left _ _
    have hsm : (repRow w m c).take m = List.replicate m (.int .i64 w) := by
      unfold repRow
      rw [List.take_append_of_le_length (by simp), List.take_replicate, Nat.min_self]
    refine WL.copy (m := m) (news := (repRow w m c).take m) .w rfl rfl rfl Try.underlying31 info3 rfl (.slice Try.underlying31 rfl rfl (Heap.set_same _ _ _) (by show ((repRow w m c).drop (0 + 0 * 1)).take (m * 1) = _; simp) (by rw [hsm, List.length_replicate]; show m = m * 1; omega)) (Heap.set_same _ _ _) (by rw [repRow_len hm2]; show 0 + m * 1 + min m (c - m) * 1 ≤ c; omega) (Nat.le_refl _) (Nat.lt_succ_self _) (fun v hv => by rw [hsm] at hv; rw [List.eq_of_mem_replicate hv]; rfl) ?_
    with_reducible refine WL.nil ⟨rfl, ?_⟩
    refine WLI.op (fun h => by cases h) ?_
    refine WL.addI .r rfl rfl rfl rfl rfl (by omega) (by omega) ?_
    with_reducible refine WL.nil ⟨rfl, ?_⟩
    refine WLI.op (fun h => by cases h) ?_
    refine WL.assign .r rfl rfl rfl rfl ?_
    with_reducible refine WL.nil ⟨rfl, ?_⟩
    refine WLI.nil (fun _ => trivial) ?_
    repeat (first | with_reducible refine Ex.thn_norm ?_ | with_reducible refine Ex.blk_norm ?_)
    have e3 : splice (repRow w m c) (0 + m * Try.t3.size) (((repRow w m c).take m).take (min m (c - m) * Try.t3.size)) = repRow w (m + min m (c - m)) c := by
      have e4 : 0 + m * Try.t3.size = m := by show 0 + m * 1 = m; omega
      have e5 : min m (c - m) * Try.t3.size = min m (c - m) := by show min m (c - m) * 1 = _; omega
      rw [e4, e5, List.take_take, Nat.min_eq_left hj]
      exact repRow_step hm2 hj (by omega)
    rw [set_set, e3]
    exact ⟨_, Fr.le_cons rfl (Fr.le_cons rfl Fr.le_nil), m + min m (c - m), by rw [Int.natCast_add], rfl, rfl, by omega, by omega, by omega⟩
  · with_reducible refine W.exit ?_
    repeat (first | with_reducible refine Ex.thn_ex ?_ | with_reducible refine Ex.blk_here ?_ | with_reducible refine Ex.thn_norm ?_)
    repeat (with_reducible refine W.seq ?_)
    have em : m = c := by omega
    subst em
    with_reducible refine W.region ?_
    refine WL.move .nil rfl rfl rfl rfl ?_
    refine WL.assign .nil rfl rfl rfl rfl ?_
    with_reducible refine WL.nil ?_
    repeat (with_reducible refine Ex.thn_norm ?_)
    with_reducible refine W.ret ?_
    repeat (with_reducible refine Ex.thn_ret ?_)
    have er : repRow w m m = List.replicate m (.int .i64 w) := by unfold repRow; rw [Nat.sub_self]; simp
    have el : (List.replicate ((m : Int)).toNat (([w] : List Int).headD 0)).length = m := by simp
    refine ⟨.inr rfl, _, resl1 rfl, some ⟨n0, 0, none⟩, m, (hS.low (Nat.le_refl n0)).new _, by rw [el]; rfl, ?_⟩
    have hra2 : RA F0 (List.replicate m (.int .i64 w)) (List.replicate ((m : Int)).toNat (([w] : List Int).headD 0)) := by
      have := RA.ofSc F0 (List.replicate m w)
      rw [List.map_replicate] at this
      exact this
    rw [el]
    refine ⟨by rw [el]; unfold UNK; omega, fun i hi => ?_, _, .inr ⟨n0, 0, m, repRow w m m, by rw [el], Heap.set_same _ _ _, ?_, hra2.length, Nat.le_refl _, Nat.lt_succ_self _, Nat.zero_le _, .inl ⟨by rw [el], by unfold UNK; omega⟩⟩, hra2⟩
    · have hin : n0 = i := by simpa [idOf] using hi
      subst hin; exact hS.fnone (Nat.le_refl _)
    · rw [el, er, List.drop_zero]
      show List.take (m * 1) _ = _
      rw [Nat.mul_one, List.take_of_length_le (by simp)]
end Go.Proofs.YtlpcdcpcfeaecaaAb
end
