import Derived.Test.YtmodhnkjimpkbaaPuS6
set_option linter.all false
namespace Go.Proofs.YtmodhnkjimpkbaaAb
open Go
theorem numBytes_len1 : ∀ m : Nat, (numBytes m).length ≤ m + 1 := by
  intro m
  induction m using Nat.strongRecOn with
  | _ m ih =>
    by_cases h : 127 < m
    · rw [numBytes_gt h, List.length_cons]; have := ih (m / 128) (by omega); omega
    · rw [numBytes_le (by omega)]; simp
def textB (t : List UInt8) : List UInt8 := numBytes t.length ++ t
def fileB (f : GFile) : List UInt8 := textB f.Name ++ (numBytes f.Version.toNat ++ textB f.Text)
def sessB (x : GSession) : List UInt8 := numBytes x.Client.toNat ++ (numBytes x.Seq.toNat ++ (numBytes x.Reply.Code.toNat ++ (numBytes x.Reply.Version.toNat ++ textB x.Reply.Sha)))
theorem textB_len (t : List UInt8) : (textB t).length ≤ 2 * t.length + 1 := by
  unfold textB; rw [List.length_append]; have := numBytes_len1 t.length; omega
theorem fileB_len {f : GFile} (h : FOk f) : (fileB f).length ≤ 2000000 := by
  unfold fileB
  rw [List.length_append, List.length_append]
  have h1 := textB_len f.Name
  have h2 := textB_len f.Text
  have h3 := numBytes_len1 f.Version.toNat
  have a1 : f.Name.length ≤ 40 := h.name
  have a2 : f.Text.length ≤ 8000 := h.text
  have a3 := h.v1
  have a4 := h.v0
  have b1 : (lst f.Name).length ≤ 40 := a1
  have b2 : (lst f.Text).length ≤ 8000 := a2
  have h1' : (textB f.Name).length ≤ 2 * (lst f.Name).length + 1 := h1
  have h2' : (textB f.Text).length ≤ 2 * (lst f.Text).length + 1 := h2
  omega
theorem sessB_len {x : GSession} (h : SOk x) : (sessB x).length ≤ 5000000 := by
  unfold sessB
  rw [List.length_append, List.length_append, List.length_append, List.length_append]
  have h1 : (textB x.Reply.Sha).length ≤ 2 * (lst x.Reply.Sha).length + 1 := textB_len x.Reply.Sha
  have b1 : (lst x.Reply.Sha).length ≤ 64 := h.sha
  have h2 := numBytes_len1 x.Client.toNat
  have h3 := numBytes_len1 x.Seq.toNat
  have h4 := numBytes_len1 x.Reply.Code.toNat
  have h5 := numBytes_len1 x.Reply.Version.toNat
  obtain ⟨a1, a2, a3, a4, a5, a6, a7, a8, a9⟩ := h
  omega
theorem textBytes_i {t : Str} (h : t.length ≤ 1000000) : f_impl_textBytes t = some (textB t) := by
  unfold f_impl_textBytes
  have hl := numBytes_len1 t.length
  have e : (numBytes t.length).length + (lst t).length ≤ 68719476736 := by
    have : (lst t).length = t.length := rfl
    omega
  rw [number_m (by omega), obind_some, chk_pos (by omega)]
  rfl
theorem text_s {t : Str} (h : t.length ≤ 1000000) : f_spec_l09Text t = some (textB t) := by
  unfold f_spec_l09Text
  have hl := numBytes_len1 t.length
  have e : (numBytes t.length).length + (lst t).length ≤ 68719476736 := by
    have : (lst t).length = t.length := rfl
    omega
  rw [put_i (by omega) (by omega), obind_some, Int.toNat_natCast, chk_pos (by omega)]
  rfl
theorem flat_lenB {α : Type} {g : α → List UInt8} {B : Nat} : ∀ {xs : List α}, (∀ x ∈ xs, (g x).length ≤ B) → ((xs.map g).flatten).length ≤ xs.length * B
  | [], _ => by simp
  | x :: xs, h => by
    rw [List.map_cons, List.flatten_cons, List.length_append, List.length_cons, Nat.succ_mul]
    have h1 := h x (List.mem_cons_self ..)
    have h2 := flat_lenB (xs := xs) (fun y hy => h y (List.mem_cons_of_mem _ hy))
    omega
section
variable {st : GState} (hf : ∀ x ∈ st.Files, FOk x) (hs : ∀ x ∈ st.Sessions, SOk x) (hfl : st.Files.length ≤ 20) (hsl : st.Sessions.length ≤ 200)
include hs hsl in
theorem sess_i : ∀ (m k i : Nat) (acc : List UInt8), st.Sessions.length - i = m → m + 1 ≤ k → i ≤ st.Sessions.length → acc.length + m * 5000000 ≤ 60000000000 → f__impl_State_bytes_L1 st k acc (i : Int) = some (acc ++ ((st.Sessions.drop i).map sessB).flatten) := by
  intro m
  induction m with
  | zero =>
    intro k i acc hm hk hi hl
    obtain ⟨k, rfl⟩ : ∃ j, k = j + 1 := ⟨k - 1, by omega⟩
    rw [f__impl_State_bytes_L1, if_neg (by omega), List.drop_of_length_le (by omega)]
    simp
  | succ m ih =>
    intro k i acc hm hk hi hl
    obtain ⟨k, rfl⟩ : ∃ j, k = j + 1 := ⟨k - 1, by omega⟩
    have hlt : i < st.Sessions.length := by omega
    have e : ((i : Int) + 1) = ((i + 1 : Nat) : Int) := by omega
    have hx := hs _ (List.getElem_mem hlt)
    have hxl := sessB_len hx
    rw [f__impl_State_bytes_L1, if_pos (by omega), idx_nat hlt, obind_some, List.drop_eq_getElem_cons hlt, List.map_cons, List.flatten_cons]
    generalize st.Sessions[i] = x at *
    have hsh := hx.sha
    have ec : ([acc, numBytes x.Client.toNat, numBytes x.Seq.toNat, numBytes x.Reply.Code.toNat, numBytes x.Reply.Version.toNat, textB x.Reply.Sha] : List (List UInt8)).flatten = acc ++ sessB x := by
      unfold sessB; simp
    rw [number_i hx.c0 (by have := hx.c1; omega), obind_some, number_i hx.s0 (by have := hx.s1; omega), obind_some, number_i hx.k0 (by have := hx.k1; omega), obind_some, number_i hx.v0 (by have := hx.v1; omega), obind_some, textBytes_i (by omega), obind_some,
      concat_m (by rw [ec, List.length_append]; omega) (by simp), obind_some, chk_pos (by omega), ec, e,
      ih k (i + 1) _ (by omega) (by omega) (by omega) (by rw [List.length_append]; omega), List.append_assoc]
include hs hsl in
theorem sess_s : ∀ (m k i : Nat) (acc : List UInt8), st.Sessions.length - i = m → m + 1 ≤ k → i ≤ st.Sessions.length → acc.length + m * 5000000 ≤ 60000000000 → f_spec_StateBytes_L1 st k acc (i : Int) = some (if 65536 < (acc ++ ((st.Sessions.drop i).map sessB).flatten).length then ([], 7) else (acc ++ ((st.Sessions.drop i).map sessB).flatten, 0)) := by
  intro m
  induction m with
  | zero =>
    intro k i acc hm hk hi hl
    obtain ⟨k, rfl⟩ : ∃ j, k = j + 1 := ⟨k - 1, by omega⟩
    rw [f_spec_StateBytes_L1, if_neg (by omega), List.drop_of_length_le (by omega), List.map_nil, List.flatten_nil, List.append_nil]
    by_cases h : 65536 < acc.length
    · rw [if_pos (by omega), if_pos h]
    · rw [if_neg (by omega), if_neg h]
  | succ m ih =>
    intro k i acc hm hk hi hl
    obtain ⟨k, rfl⟩ : ∃ j, k = j + 1 := ⟨k - 1, by omega⟩
    have hlt : i < st.Sessions.length := by omega
    have e : ((i : Int) + 1) = ((i + 1 : Nat) : Int) := by omega
    have hx := hs _ (List.getElem_mem hlt)
    have hxl := sessB_len hx
    rw [f_spec_StateBytes_L1, if_pos (by omega), idx_nat hlt, obind_some, List.drop_eq_getElem_cons hlt, List.map_cons, List.flatten_cons]
    generalize st.Sessions[i] = x at *
    have hsh := hx.sha
    have ec : ((((acc ++ numBytes x.Client.toNat) ++ numBytes x.Seq.toNat) ++ numBytes x.Reply.Code.toNat) ++ numBytes x.Reply.Version.toNat) ++ textB x.Reply.Sha = acc ++ sessB x := by
      unfold sessB; simp
    have el : (sessB x).length = (numBytes x.Client.toNat).length + ((numBytes x.Seq.toNat).length + ((numBytes x.Reply.Code.toNat).length + ((numBytes x.Reply.Version.toNat).length + (textB x.Reply.Sha).length))) := by
      unfold sessB; simp
    rw [put_i hx.c0 (by have := hx.c1; omega), obind_some, chk_pos (by omega), put_i hx.s0 (by have := hx.s1; omega), obind_some, chk_pos (by rw [List.length_append]; omega), put_i hx.k0 (by have := hx.k1; omega), obind_some, chk_pos (by rw [List.length_append, List.length_append]; omega), put_i hx.v0 (by have := hx.v1; omega), obind_some,
      chk_pos (by rw [List.length_append, List.length_append, List.length_append]; omega), text_s (by omega), obind_some, chk_pos (by rw [List.length_append, List.length_append, List.length_append, List.length_append]; omega), chk_pos (by omega), ec, e,
      ih k (i + 1) _ (by omega) (by omega) (by omega) (by rw [List.length_append]; omega), List.append_assoc]
def stateB (st : GState) : List UInt8 := numBytes st.Files.length ++ ((st.Files.map fileB).flatten ++ (numBytes st.Sessions.length ++ (st.Sessions.map sessB).flatten))
def outB (b : List UInt8) : List UInt8 × Int := if 65536 < b.length then ([], 7) else (b, 0)
include hf hs hfl hsl in
theorem file_iL : ∀ (m k i : Nat) (acc : List UInt8), st.Files.length - i = m → m + 1 ≤ k → i ≤ st.Files.length → acc.length + m * 2000000 ≤ 50000000000 → f__impl_State_bytes_L0 st k acc (i : Int) = some (acc ++ (((st.Files.drop i).map fileB).flatten ++ (numBytes st.Sessions.length ++ (st.Sessions.map sessB).flatten))) := by
  intro m
  induction m with
  | zero =>
    intro k i acc hm hk hi hl
    obtain ⟨k, rfl⟩ : ∃ j, k = j + 1 := ⟨k - 1, by omega⟩
    have hn := numBytes_len1 st.Sessions.length
    rw [f__impl_State_bytes_L0, if_neg (by omega), List.drop_of_length_le (by omega), number_m (by omega), obind_some, chk_pos (by omega)]
    have := sess_i hs hsl st.Sessions.length BIG 0 (acc ++ numBytes st.Sessions.length) (by omega) (by rw [BIG_eq]; omega) (by omega) (by rw [List.length_append]; omega)
    refine this.trans ?_
    simp
  | succ m ih =>
    intro k i acc hm hk hi hl
    obtain ⟨k, rfl⟩ : ∃ j, k = j + 1 := ⟨k - 1, by omega⟩
    have hlt : i < st.Files.length := by omega
    have e : ((i : Int) + 1) = ((i + 1 : Nat) : Int) := by omega
    have hx := hf _ (List.getElem_mem hlt)
    have hxl := fileB_len hx
    rw [f__impl_State_bytes_L0, if_pos (by omega), idx_nat hlt, obind_some, List.drop_eq_getElem_cons hlt, List.map_cons, List.flatten_cons]
    generalize st.Files[i] = x at *
    have ec : ([acc, textB x.Name, numBytes x.Version.toNat, textB x.Text] : List (List UInt8)).flatten = acc ++ fileB x := by
      unfold fileB; simp
    rw [textBytes_i (by have := hx.name; omega), obind_some, number_i hx.v0 (by have := hx.v1; omega), obind_some, textBytes_i (by have := hx.text; omega), obind_some,
      concat_m (by rw [ec, List.length_append]; omega) (by simp), obind_some, chk_pos (by omega), ec, e,
      ih k (i + 1) _ (by omega) (by omega) (by omega) (by rw [List.length_append]; omega)]
    simp
include hf hs hfl hsl in
theorem file_sL : ∀ (m k i : Nat) (acc : List UInt8), st.Files.length - i = m → m + 1 ≤ k → i ≤ st.Files.length → acc.length + m * 2000000 ≤ 50000000000 → f_spec_StateBytes_L0 st k acc (i : Int) = some (outB (acc ++ (((st.Files.drop i).map fileB).flatten ++ (numBytes st.Sessions.length ++ (st.Sessions.map sessB).flatten)))) := by
  intro m
  induction m with
  | zero =>
    intro k i acc hm hk hi hl
    obtain ⟨k, rfl⟩ : ∃ j, k = j + 1 := ⟨k - 1, by omega⟩
    have hn := numBytes_len1 st.Sessions.length
    rw [f_spec_StateBytes_L0, if_neg (by omega), List.drop_of_length_le (by omega), put_i (by omega) (by omega), obind_some, Int.toNat_natCast, chk_pos (by omega)]
    have := sess_s hs hsl st.Sessions.length BIG 0 (acc ++ numBytes st.Sessions.length) (by omega) (by rw [BIG_eq]; omega) (by omega) (by rw [List.length_append]; omega)
    refine this.trans ?_
    unfold outB
    simp
  | succ m ih =>
    intro k i acc hm hk hi hl
    obtain ⟨k, rfl⟩ : ∃ j, k = j + 1 := ⟨k - 1, by omega⟩
    have hlt : i < st.Files.length := by omega
    have e : ((i : Int) + 1) = ((i + 1 : Nat) : Int) := by omega
    have hx := hf _ (List.getElem_mem hlt)
    have hxl := fileB_len hx
    rw [f_spec_StateBytes_L0, if_pos (by omega), idx_nat hlt, obind_some, List.drop_eq_getElem_cons hlt, List.map_cons, List.flatten_cons]
    generalize st.Files[i] = x at *
    have ec : ((acc ++ textB x.Name) ++ numBytes x.Version.toNat) ++ textB x.Text = acc ++ fileB x := by
      unfold fileB; simp
    have el : (fileB x).length = (textB x.Name).length + ((numBytes x.Version.toNat).length + (textB x.Text).length) := by
      unfold fileB; simp
    rw [text_s (by have := hx.name; omega), obind_some, chk_pos (by omega), obind_some, put_i hx.v0 (by have := hx.v1; omega), obind_some, chk_pos (by rw [List.length_append]; omega), obind_some, text_s (by have := hx.text; omega), obind_some, chk_pos (by rw [List.length_append, List.length_append]; omega), chk_pos (by omega), ec, e,
      ih k (i + 1) _ (by omega) (by omega) (by omega) (by rw [List.length_append]; omega)]
    simp
end
theorem stateBytes_eq {st : GState} (hb : SBd st) : ∃ o : List UInt8 × Int, f_impl_StateBytes st = some o ∧ f_spec_StateBytes st = some o ∧ o.1.length ≤ 65536 := by
  unfold f_impl_StateBytes f_spec_StateBytes
  have hst : ({ Files := st.Files, Sessions := st.Sessions } : GState) = st := rfl
  rw [hst, stateOK_eq hb]
  obtain ⟨b, hok⟩ := stateOK_some hb
  rw [hok]
  simp only [obind_some]
  cases b with
  | false => exact ⟨([], 1), rfl, rfl, by simp⟩
  | true =>
    obtain ⟨hfl, hsl, hf, hs⟩ := stateOK_true hb hok
    rw [if_neg (by simp), if_neg (by simp)]
    have hn := numBytes_len1 st.Files.length
    unfold f__impl_State_bytes
    rw [number_m (by omega), put_i (by omega) (by omega), Int.toNat_natCast]
    simp only [obind_some]
    have h1 := file_iL hf hs hfl hsl st.Files.length BIG 0 (numBytes st.Files.length) (by omega) (by rw [BIG_eq]; omega) (by omega) (by omega)
    have h2 := file_sL hf hs hfl hsl st.Files.length BIG 0 (numBytes st.Files.length) (by omega) (by rw [BIG_eq]; omega) (by omega) (by omega)
    rw [List.drop_zero] at h1 h2
    have h1' : f__impl_State_bytes_L0 st BIG (numBytes st.Files.length) 0 = some (stateB st) := h1
    have h2' : f_spec_StateBytes_L0 st BIG (numBytes st.Files.length) 0 = some (outB (stateB st)) := h2
    rw [h1', h2']
    simp only [obind_some]
    refine ⟨outB (stateB st), ?_, rfl, ?_⟩
    · unfold outB
      by_cases h : 65536 < (stateB st).length
      · rw [if_pos (by omega), if_pos h]
      · rw [if_neg (by omega), if_neg h]
    · unfold outB
      by_cases h : 65536 < (stateB st).length
      · rw [if_pos h]; simp
      · rw [if_neg h]; simp only; omega
end Go.Proofs.YtmodhnkjimpkbaaAb
