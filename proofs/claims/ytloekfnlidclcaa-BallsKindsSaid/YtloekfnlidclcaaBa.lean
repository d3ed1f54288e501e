/-
  Error terms in plain terms. No condition.
-/
import Derived.Test.YtloekfnlidclcaaLs
import Derived.Test.YtloekfnlidclcaaLp
namespace Go.Proofs.Ytloekfnlidclcaa
open Go.RowKit
set_option linter.unusedVariables false

/-- The atom as it is. -/
abbrev atomR (s : ByteArray) : Tm := .mk 2 0 s []
def sError : ByteArray := ⟨#[101, 114, 114, 111, 114]⟩
def sNil : ByteArray := ⟨#[91, 93]⟩
def sDots : ByteArray := ⟨#[46, 46, 46]⟩

theorem atomR_valid {s : ByteArray} : validT (atomR s) = decide ((s.size : Int) ≤ 100) := by
  rw [Bool.eq_iff_iff, valid_iff]
  simp [nodesT, nodesL, fitsT, fitsL, nodeB]

theorem atomT_eq {s : ByteArray} (h : (s.size : Int) ≤ 100) : atomT s = atomR s := by
  unfold atomT cloneT
  rw [if_pos (by show validT (atomR s) = true; rw [atomR_valid]; simpa using h)]

/-- The culprit, or dots. -/
def culT (n : Nat) (c : Tm) : Tm := if 2000 < 3 + (n : Int) + sizeT c then atomR sDots else c

/-- What the program makes: raise. -/
def raiseT (f : ByteArray) (l : List Tm) : Tm := structT sError [structT f l, atomT sNil]
/-- What the reference makes: ball. -/
def ballR (t : Tm) : Tm := cloneT (.mk 3 0 sError [t, atomR sNil])

def aboutT (f : ByteArray) (names : List ByteArray) (c : Tm) : Tm :=
  if validT c = true then if names.all (fun s => decide ((s.size : Int) ≤ 100)) then raiseT f (names.map atomT ++ [culT names.length c]) else zeroT else zeroT
def withR (f : ByteArray) (names : List ByteArray) (c : Tm) : Tm :=
  if validT c = true then ballR (.mk 3 0 f (names.map atomR ++ [culT names.length c])) else zeroT

theorem struct_eq {f : ByteArray} {l : List Tm} (h : validT (.mk 3 0 f l) = true) (hl : l.length ≠ 0) : structT f l = .mk 3 0 f l := by
  unfold structT cloneT
  rw [if_neg hl, if_pos h]

theorem ball_valid_iff {t : Tm} : validT (.mk 3 0 sError [t, atomR sNil]) = true ↔ nodesT t + 2 ≤ 2000 ∧ fitsT t = true := by
  rw [valid_iff]
  have h1 : nodeB (.mk 3 0 sError [t, atomR sNil]) = true := by simp [nodeB, sError, ByteArray.size]
  have h2 : fitsL [t, atomR sNil] = fitsT t := by simp [fitsL, fitsT, nodeB, sNil, ByteArray.size]
  rw [fits_mk, h1, h2]
  simp only [nodesT, nodesL, true_and]
  constructor
  · rintro ⟨a, b⟩; exact ⟨by omega, b⟩
  · rintro ⟨a, b⟩; exact ⟨by omega, b⟩

/-- A structure in an error term, where both are made by the program, or not at all. -/
theorem raise_ball {f : ByteArray} {l : List Tm} (hl : l.length ≠ 0) (hf : validT (.mk 3 0 f l) = true) (hb : validT (.mk 3 0 sError [.mk 3 0 f l, atomR sNil]) = true) : raiseT f l = ballR (.mk 3 0 f l) := by
  unfold raiseT
  rw [struct_eq hf hl, atomT_eq (by decide), struct_eq hb (by simp)]
  simp [ballR, cloneT, hb]

theorem names_nodes : ∀ (names : List ByteArray), nodesL (names.map atomR) = names.length
  | [] => rfl
  | s :: l => by simp only [List.map_cons, nodesL, nodesT, names_nodes l, List.length_cons]; omega

theorem nodesL_append : ∀ (l m : List Tm), nodesL (l ++ m) = nodesL l + nodesL m
  | [], m => by simp [nodesL]
  | t :: l, m => by simp only [List.cons_append, nodesL, nodesL_append l m]; omega

theorem fitsL_append : ∀ (l m : List Tm), fitsL (l ++ m) = (fitsL l && fitsL m)
  | [], m => by simp [fitsL]
  | t :: l, m => by simp only [List.cons_append, fitsL, fitsL_append l m, Bool.and_assoc]

theorem names_fits (names : List ByteArray) : fitsL (names.map atomR) = names.all fun s => decide ((s.size : Int) ≤ 100) := by
  induction names with
  | nil => rfl
  | cons s l ih =>
    simp only [List.map_cons, fitsL, ih, List.all_cons]
    congr 1
    simp [fitsT, fitsL, nodeB]

theorem cul_valid {n : Nat} {c : Tm} (h : validT c = true) : validT (culT n c) = true := by
  unfold culT
  split
  · rw [atomR_valid]; decide
  · exact h

theorem cul_nodes {n : Nat} {c : Tm} (h : validT c = true) (hn : n ≤ 7) : 3 + n + nodesT (culT n c) ≤ 2000 := by
  unfold culT
  have := size_valid h
  split
  · simp [nodesT, nodesL]; omega
  · omega

theorem about_with {f : ByteArray} {names : List ByteArray} {c : Tm} (hf : (f.size : Int) ≤ 100) (hn : names.length ≤ 7) : aboutT f names c = withR f names c := by
  unfold aboutT withR
  by_cases hv : validT c = true
  · rw [if_pos hv, if_pos hv]
    have hlen : (names.map atomR ++ [culT names.length c]).length = names.length + 1 := by simp
    have hnode : nodeB (.mk 3 0 f (names.map atomR ++ [culT names.length c])) = true := by
      simp only [nodeB, hlen]
      simp [hf]
      omega
    have hnodes : nodesT (.mk 3 0 f (names.map atomR ++ [culT names.length c])) = names.length + nodesT (culT names.length c) + 1 := by
      simp only [nodesT, nodesL_append, names_nodes, nodesL]
      omega
    have hcn := cul_nodes (n := names.length) hv hn
    have hcf := valid_fits (cul_valid (n := names.length) hv)
    by_cases hall : names.all (fun s => decide ((s.size : Int) ≤ 100)) = true
    · rw [if_pos hall]
      have hmap : names.map atomT = names.map atomR := List.map_congr_left fun s hs => atomT_eq (by
        have := List.all_eq_true.1 hall s hs
        simpa using this)
      have hfits : fitsT (.mk 3 0 f (names.map atomR ++ [culT names.length c])) = true := by
        rw [fits_mk]
        refine ⟨hnode, ?_⟩
        rw [fitsL_append, names_fits, hall]
        simp [fitsL, hcf]
      rw [hmap]
      exact raise_ball (by rw [hlen]; omega) (valid_iff.2 ⟨by omega, hfits⟩) (ball_valid_iff.2 ⟨by omega, hfits⟩)
    · rw [if_neg hall]
      have : ¬ validT (.mk 3 0 sError [.mk 3 0 f (names.map atomR ++ [culT names.length c]), atomR sNil]) = true := by
        rw [ball_valid_iff]
        rintro ⟨-, h⟩
        have h1 := (fits_mk.1 h).2
        rw [fitsL_append, names_fits] at h1
        simp only [Bool.and_eq_true] at h1
        exact hall h1.1
      simp [ballR, cloneT, this]
  · rw [if_neg hv, if_neg hv]

end Go.Proofs.Ytloekfnlidclcaa

namespace Go.Proofs.Ytloekfnlidclcaa
open Go.RowKit
set_option linter.unusedVariables false

theorem toks_row {E E' : Env} {l : List Nat} {r : Nat} (h : l.map E.T = E'.R r) : ∀ p w v, @Ab.pd E (.toks l) p w v → @Ab.pd E' (.rtok r) p w v := fun p w v ⟨A, cap, e, h1, h2, h3, h4⟩ => by
  show RowAt (E'.R r) p w v
  rw [← h]
  exact ⟨A, cap, by rw [List.length_map]; exact e, by rw [List.length_map]; exact h1, by rw [List.length_map]; exact h2, h3, h4⟩
theorem str_tok {E E' : Env} {s : ByteArray} {n : Nat} (h : E'.S n = s) : ∀ p w v, @Ab.pd E (.val (.string s)) p w v → @Ab.pd E' (.stok n) p w v := fun p w v hv => by
  obtain rfl : v = .string s := hv
  show Value.string s = .string (E'.S n)
  rw [h]
theorem nil_srow {E E' : Env} : ∀ p w v, @Ab.pd E (.val (.slice none 0 0)) p w v → @Ab.pd E' (.srow []) p w v := fun p w v hv => by
  obtain rfl : v = .slice none 0 0 := hv
  exact ⟨none, 0, rfl, by simp, by unfold maxLen; omega, fun j hj => by simp at hj⟩
theorem term_tok' {E E' : Env} {u : Tm} {a : Nat} (h : E'.T a = u) : ∀ p w v, @Ab.pd E (.term u) p w v → @Ab.pd E' (.tok a) p w v := ide (term_tok h)

section
variable [Env]
theorem ent_atom {x : Ab} {s : ByteArray} {k : Nat} (hx : ∀ p w v, x.pd p w v → v = .string s) (hs : s.size ≤ 140737488351232) (hk : Env.T k = atomT s) : Entry 85 [x] (.tok k) := ent_mk (fun _ _ => by kernel_rfl) fun p w vs hv => by
  match vs, hv with
  | [v], ⟨h1, _⟩ =>
    obtain rfl := hx _ _ _ h1
    rw [hk]
    exact makes_new (atom_any s w hs)
theorem ent_int {x : Ab} {n : Int} {k : Nat} (hx : ∀ p w v, x.pd p w v → v = .int .i64 n) (hn : wf64 n) (hk : Env.T k = intT n) : Entry 72 [x] (.tok k) := ent_mk (fun _ _ => by kernel_rfl) fun p w vs hv => by
  match vs, hv with
  | [v], ⟨h1, _⟩ =>
    obtain rfl := hx _ _ _ h1
    rw [hk]
    exact makes_new (int_any n w hn)
theorem ent_struct {x y : Ab} {s : ByteArray} {l : List Tm} {k : Nat} (hx : ∀ p w v, x.pd p w v → v = .string s) (hy : ∀ p w v, y.pd p w v → RowAt l p w v) (hs : s.size ≤ 140737488351232) (hk : Env.T k = structT s l) : Entry 86 [x, y] (.tok k) := ent_mk (fun _ _ => by kernel_rfl) fun p w vs hv => by
  match vs, hv with
  | [v, u], ⟨h1, h2, _⟩ =>
    obtain rfl := hx _ _ _ h1
    obtain ⟨A, cap, rfl, g1, g2, g3, g4⟩ := hy _ _ _ h2
    rw [hk]
    exact makes_new (struct_any s l A cap w hs g1 g2 g3 (ArgsIn.at_w g4))
theorem ent_valid {n : Nat} {b : Bool} (h : validT (Env.T n) = b) : Entry 61 [.tok n] (.val (.bool b)) := ent_tv (fun _ _ => by kernel_rfl) fun w y hy => h ▸ valid_any _ w y hy
theorem ent_rvalid {n : Nat} {b : Bool} (h : validT (Env.T n) = b) : Entry 23 [.tok n] (.val (.bool b)) := ent_tv (fun _ _ => by kernel_rfl) fun w y hy => h ▸ rvalid_any _ w y hy
theorem ent_size {n k : Nat} (h : Env.I k = sizeT (Env.T n)) : Entry 79 [.tok n] (.vtok k) := ent_ti (fun _ _ => by kernel_rfl) fun w y hy => by rw [h]; exact size_any _ w y hy
theorem ent_rsize {n k : Nat} (h : Env.I k = sizeT (Env.T n)) : Entry 21 [.tok n] (.vtok k) := ent_ti (fun _ _ => by kernel_rfl) fun w y hy => by rw [h]; exact rsize_any _ w y hy
theorem toks_at {l : List Nat} : ∀ p w v, (Ab.toks l).pd p w v → RowAt (l.map Env.T) p w v := fun p w v ⟨A, cap, e, h1, h2, h3, h4⟩ =>
  ⟨A, cap, by rw [List.length_map]; exact e, by rw [List.length_map]; exact h1, by rw [List.length_map]; exact h2, h3, h4⟩
end

/-! ### The program's raise and named, the reference's atom, structure, number, ball -/
theorem raise_entry (f : ByteArray) (l : List Tm) (hf : f.size ≤ 140737488351232) : @Entry { T := fun k => match k with | 0 => raiseT f l | 1 => structT f l | _ => atomT sNil, S := fun _ => f, R := fun _ => l } 70 [.stok 0, .rtok 0] (.tok 0) := by
  letI E : Env := { T := fun k => match k with | 0 => raiseT f l | 1 => structT f l | _ => atomT sNil, S := fun _ => f, R := fun _ => l }
  exact entry_code (tbl_ok (T := [(86, [.stok 0, .rtok 0], .tok 1), (85, [.val (.string sNil)], .tok 2), (86, [.val (.string sError), .toks [1, 2]], .tok 0)])
    ⟨ent_struct (fun _ _ _ h => h) idd hf rfl, ent_atom (s := sNil) (fun _ _ _ h => h) (by decide) rfl, ent_struct (s := sError) (fun _ _ _ h => h) toks_at (by decide) rfl, trivial⟩) [.stok 0, .rtok 0] Try.func70 rfl (fun _ _ => by kernel_rfl) (by kernel_rfl) (by kernel_rfl) rfl rfl (by simp [Try.ntmps70])

theorem ent_raise [Env] {x y : Ab} {s : ByteArray} {l : List Tm} {k : Nat} (hx : ∀ p w v, x.pd p w v → v = .string s) (hy : ∀ p w v, y.pd p w v → RowAt l p w v) (hs : s.size ≤ 140737488351232) (hk : Env.T k = raiseT s l) : Entry 70 [x, y] (.tok k) :=
  entry_move (raise_entry s l hs) ⟨hx, hy, trivial⟩ (ide (tok_eq hk.symm))

theorem atomr_entry (s : ByteArray) (hs : s.size ≤ 140737488351232) : @Entry { T := fun _ => atomR s, S := fun _ => s } 74 [.stok 0] (.tok 0) := by
  letI E : Env := { T := fun _ => atomR s, S := fun _ => s }
  exact entry_facts (E := E) [.mk 0 (.lit 2) (.lit 0) (.tok 0) []] ⟨⟨rfl, by show wf64 2; unfold wf64; omega, by show wf64 0; unfold wf64; omega, hs⟩, trivial⟩ noCalls_ok [.stok 0] Try.func74 rfl (fun _ _ => by kernel_rfl) (by kernel_rfl) rfl rfl (by simp [Try.ntmps74])

theorem ent_ratom [Env] {x : Ab} {s : ByteArray} {k : Nat} (hx : ∀ p w v, x.pd p w v → v = .string s) (hs : s.size ≤ 140737488351232) (hk : Env.T k = atomR s) : Entry 74 [x] (.tok k) :=
  entry_move (atomr_entry s hs) ⟨hx, trivial⟩ (ide (tok_eq hk.symm))

theorem structure_entry (s : ByteArray) (l : List Tm) (hs : s.size ≤ 140737488351232) : @Entry { T := fun _ => .mk 3 0 s l, S := fun _ => s, R := fun _ => l } 76 [.stok 0, .rtok 0] (.tok 0) := by
  letI E : Env := { T := fun _ => .mk 3 0 s l, S := fun _ => s, R := fun _ => l }
  exact entry_facts (E := E) [.mkr 0 (.lit 3) (.lit 0) (.tok 0) 0] ⟨⟨rfl, by show wf64 3; unfold wf64; omega, by show wf64 0; unfold wf64; omega, hs⟩, trivial⟩ noCalls_ok [.stok 0, .rtok 0] Try.func76 rfl (fun _ _ => by kernel_rfl) (by kernel_rfl) rfl rfl (by simp [Try.ntmps76])

theorem ent_rstruct [Env] {x y : Ab} {s : ByteArray} {l : List Tm} {k : Nat} (hx : ∀ p w v, x.pd p w v → v = .string s) (hy : ∀ p w v, y.pd p w v → RowAt l p w v) (hs : s.size ≤ 140737488351232) (hk : Env.T k = .mk 3 0 s l) : Entry 76 [x, y] (.tok k) :=
  entry_move (structure_entry s l hs) ⟨hx, hy, trivial⟩ (ide (tok_eq hk.symm))

theorem ball_entry (t : Tm) : @Entry { T := fun k => match k with | 0 => t | 1 => atomR sNil | 2 => .mk 3 0 sError [t, atomR sNil] | _ => ballR t } 73 [.tok 0] (.tok 3) := by
  letI E : Env := { T := fun k => match k with | 0 => t | 1 => atomR sNil | 2 => .mk 3 0 sError [t, atomR sNil] | _ => ballR t }
  exact entry_code (tbl_ok (T := [(74, [.val (.string sNil)], .tok 1), (76, [.val (.string sError), .toks [0, 1]], .tok 2), (26, [.tok 2], .tok 3)])
    ⟨ent_ratom (s := sNil) (fun _ _ _ h => h) (by decide) rfl, ent_rstruct (s := sError) (fun _ _ _ h => h) toks_at (by decide) rfl, ConT.ent (rclone_con _), trivial⟩) [.tok 0] Try.func73 rfl (fun _ _ => by kernel_rfl) (by kernel_rfl) (by kernel_rfl) rfl rfl (by simp [Try.ntmps73])

theorem ent_ball [Env] {n k : Nat} (hk : Env.T k = ballR (Env.T n)) : Entry 73 [.tok n] (.tok k) :=
  entry_move (ball_entry (Env.T n)) ⟨idd, trivial⟩ (ide (tok_eq hk.symm))

abbrev EnvAbout0 (c : Tm) (f : ByteArray) : Env :=
  { T := fun k => match k with | 0 => c | 3 => atomR sDots | 4 => aboutT f [] c | _ => .mk 3 0 f ([].map atomT ++ [culT 0 c])
    I := fun k => match k with | 0 => sizeT c | 1 => 3 + sizeT c | 4 => 3 + sizeT c + 1 | _ => 0
    S := fun _ => f
    R := fun k => match k with | _ => [].map atomT ++ [culT 0 c] }

set_option maxHeartbeats 1000000 in
theorem about0_entry (c : Tm) (f : ByteArray) (hf : f.size ≤ 140737488351232) : @Entry (EnvAbout0 c f) 68 [.tok 0, .stok 0, .srow []] (.tok 4) := by
  letI E : Env := EnvAbout0 c f
  cases hv : validT c with
  | false =>
    refine entry_imp (x := .term zeroT) ?_ (term_tok' (show aboutT f [] c = zeroT by simp [aboutT, hv]))
    exact entry_facts (E := E) [] trivial (tbl_ok (T := [(61, [.tok 0], .val (.bool false))]) ⟨ent_valid hv, trivial⟩) [.tok 0, .stok 0, .srow []] Try.func68 rfl (fun _ _ => by kernel_rfl) (by kernel_rfl) rfl rfl (by simp [Try.ntmps68])
  | true =>
    have sb := size_bd c
    obtain ⟨big, hbig⟩ : ∃ b, decide (2000 < 3 + ((0 : Nat) : Int) + sizeT c) = b := ⟨_, rfl⟩
    have hbig' : decide (2000 < (3 + sizeT c : Int)) = big := by rw [← hbig, Bool.eq_iff_iff]; simp only [decide_eq_true_eq]; omega
    cases big with
    | true =>
      have hcul : culT 0 c = atomR sDots := by unfold culT; rw [if_pos (of_decide_eq_true hbig)]
      have hrow : [].map atomT ++ [culT 0 c] = [] ++ [atomR sDots] := by rw [hcul]; rfl
      exact entry_facts (E := E) [.ari .add (.lit 3) (.tok 0) 1, .rel .lt (.lit 2000) (.tok 1) true, .push none 3 5 true] ⟨⟨rfl, by show wf64 (3 + sizeT c); unfold wf64; omega⟩, hbig', ⟨hrow, by show ([].map atomT ++ [culT 0 c]).length ≤ 1000000; simp⟩, trivial⟩ (tbl_ok (T := [(61, [.tok 0], .val (.bool true)), (79, [.tok 0], .vtok 0), (85, [.val (.string sDots)], .tok 3), (70, [.stok 0, .rtok 5], .tok 4)])
        ⟨ent_valid hv, ent_size rfl, ent_atom (s := sDots) (fun _ _ _ h => h) (by decide) (by show atomR sDots = atomT sDots; rw [atomT_eq (by decide)]), ent_raise (fun _ _ _ h => h) idd hf (by show aboutT f [] c = raiseT f ([].map atomT ++ [culT 0 c]); simp [aboutT, hv]), trivial⟩) [.tok 0, .stok 0, .srow []] Try.func68 rfl (fun _ _ => by kernel_rfl) (by kernel_rfl) rfl rfl (by simp [Try.ntmps68])
    | false =>
      have hcul : culT 0 c = c := by unfold culT; rw [if_neg (of_decide_eq_false hbig)]
      have hrow : [].map atomT ++ [culT 0 c] = [] ++ [c] := by rw [hcul]; rfl
      exact entry_facts (E := E) [.ari .add (.lit 3) (.tok 0) 1, .rel .lt (.lit 2000) (.tok 1) false, .push none 0 5 true] ⟨⟨rfl, by show wf64 (3 + sizeT c); unfold wf64; omega⟩, hbig', ⟨hrow, by show ([].map atomT ++ [culT 0 c]).length ≤ 1000000; simp⟩, trivial⟩ (tbl_ok (T := [(61, [.tok 0], .val (.bool true)), (79, [.tok 0], .vtok 0), (85, [.val (.string sDots)], .tok 3), (70, [.stok 0, .rtok 5], .tok 4)])
        ⟨ent_valid hv, ent_size rfl, ent_atom (s := sDots) (fun _ _ _ h => h) (by decide) (by show atomR sDots = atomT sDots; rw [atomT_eq (by decide)]), ent_raise (fun _ _ _ h => h) idd hf (by show aboutT f [] c = raiseT f ([].map atomT ++ [culT 0 c]); simp [aboutT, hv]), trivial⟩) [.tok 0, .stok 0, .srow []] Try.func68 rfl (fun _ _ => by kernel_rfl) (by kernel_rfl) rfl rfl (by simp [Try.ntmps68])

abbrev EnvWith0 (c : Tm) (f : ByteArray) : Env :=
  { T := fun k => match k with | 0 => c | 3 => atomR sDots | 4 => withR f [] c | _ => .mk 3 0 f ([].map atomR ++ [culT 0 c])
    I := fun k => match k with | 0 => sizeT c | 1 => 2 + sizeT c | 4 => 2 + sizeT c + 1 | _ => 0
    S := fun _ => f
    R := fun k => match k with | _ => [].map atomR ++ [culT 0 c] }

set_option maxHeartbeats 1000000 in
theorem with0_entry (c : Tm) (f : ByteArray) (hf : f.size ≤ 140737488351232) : @Entry (EnvWith0 c f) 75 [.tok 0, .stok 0, .srow []] (.tok 4) := by
  letI E : Env := EnvWith0 c f
  cases hv : validT c with
  | false =>
    refine entry_imp (x := .term zeroT) ?_ (term_tok' (show withR f [] c = zeroT by simp [withR, hv]))
    exact entry_facts (E := E) [] trivial (tbl_ok (T := [(23, [.tok 0], .val (.bool false))]) ⟨ent_rvalid hv, trivial⟩) [.tok 0, .stok 0, .srow []] Try.func75 rfl (fun _ _ => by kernel_rfl) (by kernel_rfl) rfl rfl (by simp [Try.ntmps75])
  | true =>
    have sb := size_bd c
    obtain ⟨big, hbig⟩ : ∃ b, decide (2000 < 3 + ((0 : Nat) : Int) + sizeT c) = b := ⟨_, rfl⟩
    have hbig' : decide (2000 < (2 + sizeT c + 1 : Int)) = big := by rw [← hbig, Bool.eq_iff_iff]; simp only [decide_eq_true_eq]; omega
    cases big with
    | true =>
      have hcul : culT 0 c = atomR sDots := by unfold culT; rw [if_pos (of_decide_eq_true hbig)]
      have hrow : [].map atomR ++ [culT 0 c] = [] ++ [atomR sDots] := by rw [hcul]; rfl
      exact entry_facts (E := E) [.ari .add (.lit 2) (.tok 0) 1, .ari .add (.tok 1) (.lit 1) 4, .rel .lt (.lit 2000) (.tok 4) true, .push none 3 5 true] ⟨⟨rfl, by show wf64 (2 + sizeT c); unfold wf64; omega⟩, ⟨rfl, by show wf64 (2 + sizeT c + 1); unfold wf64; omega⟩, hbig', ⟨hrow, by show ([].map atomR ++ [culT 0 c]).length ≤ 1000000; simp⟩, trivial⟩ (tbl_ok (T := [(23, [.tok 0], .val (.bool true)), (21, [.tok 0], .vtok 0), (74, [.val (.string sDots)], .tok 3), (76, [.stok 0, .rtok 5], .tok 5), (73, [.tok 5], .tok 4)])
        ⟨ent_rvalid hv, ent_rsize rfl, ent_ratom (s := sDots) (fun _ _ _ h => h) (by decide) rfl, ent_rstruct (fun _ _ _ h => h) idd hf rfl, ent_ball (by show withR f [] c = ballR (.mk 3 0 f ([].map atomR ++ [culT 0 c])); simp [withR, hv]), trivial⟩) [.tok 0, .stok 0, .srow []] Try.func75 rfl (fun _ _ => by kernel_rfl) (by kernel_rfl) rfl rfl (by simp [Try.ntmps75])
    | false =>
      have hcul : culT 0 c = c := by unfold culT; rw [if_neg (of_decide_eq_false hbig)]
      have hrow : [].map atomR ++ [culT 0 c] = [] ++ [c] := by rw [hcul]; rfl
      exact entry_facts (E := E) [.ari .add (.lit 2) (.tok 0) 1, .ari .add (.tok 1) (.lit 1) 4, .rel .lt (.lit 2000) (.tok 4) false, .push none 0 5 true] ⟨⟨rfl, by show wf64 (2 + sizeT c); unfold wf64; omega⟩, ⟨rfl, by show wf64 (2 + sizeT c + 1); unfold wf64; omega⟩, hbig', ⟨hrow, by show ([].map atomR ++ [culT 0 c]).length ≤ 1000000; simp⟩, trivial⟩ (tbl_ok (T := [(23, [.tok 0], .val (.bool true)), (21, [.tok 0], .vtok 0), (74, [.val (.string sDots)], .tok 3), (76, [.stok 0, .rtok 5], .tok 5), (73, [.tok 5], .tok 4)])
        ⟨ent_rvalid hv, ent_rsize rfl, ent_ratom (s := sDots) (fun _ _ _ h => h) (by decide) rfl, ent_rstruct (fun _ _ _ h => h) idd hf rfl, ent_ball (by show withR f [] c = ballR (.mk 3 0 f ([].map atomR ++ [culT 0 c])); simp [withR, hv]), trivial⟩) [.tok 0, .stok 0, .srow []] Try.func75 rfl (fun _ _ => by kernel_rfl) (by kernel_rfl) rfl rfl (by simp [Try.ntmps75])

abbrev EnvAbout1 (c : Tm) (f : ByteArray) (n1 : ByteArray) : Env :=
  { T := fun k => match k with | 0 => c | 1 => atomT n1 | 3 => atomR sDots | 4 => aboutT f [n1] c | _ => .mk 3 0 f ([n1].map atomT ++ [culT 1 c])
    I := fun k => match k with | 0 => sizeT c | 1 => 4 + sizeT c | 4 => 4 + sizeT c + 1 | 2 => (n1.size : Int) | _ => 0
    S := fun k => match k with | 0 => f | _ => n1
    R := fun k => match k with | 0 => [atomT n1] | _ => [n1].map atomT ++ [culT 1 c] }

set_option maxHeartbeats 1000000 in
theorem about1_entry (c : Tm) (f : ByteArray) (n1 : ByteArray) (hf : f.size ≤ 140737488351232) (hn1 : n1.size ≤ 140737488351232) : @Entry (EnvAbout1 c f n1) 68 [.tok 0, .stok 0, .srow [.tok 1]] (.tok 4) := by
  letI E : Env := EnvAbout1 c f n1
  cases hv : validT c with
  | false =>
    refine entry_imp (x := .term zeroT) ?_ (term_tok' (show aboutT f [n1] c = zeroT by simp [aboutT, hv]))
    exact entry_facts (E := E) [] trivial (tbl_ok (T := [(61, [.tok 0], .val (.bool false))]) ⟨ent_valid hv, trivial⟩) [.tok 0, .stok 0, .srow [.tok 1]] Try.func68 rfl (fun _ _ => by kernel_rfl) (by kernel_rfl) rfl rfl (by simp [Try.ntmps68])
  | true =>
    have sb := size_bd c
    obtain ⟨b1, hb1⟩ : ∃ b, decide (100 < (n1.size : Int)) = b := ⟨_, rfl⟩
    cases b1 with
    | true =>
      have hl : ¬ (n1.size : Int) ≤ 100 := by have := of_decide_eq_true hb1; omega
      refine entry_imp (x := .term zeroT) ?_ (term_tok' (show aboutT f [n1] c = zeroT by simp [aboutT, hv, hl]))
      exact entry_facts (E := E) [.slen 1 2, .rel .lt (.lit 100) (.tok 2) true] ⟨rfl, hb1, trivial⟩ (tbl_ok (T := [(61, [.tok 0], .val (.bool true))]) ⟨ent_valid hv, trivial⟩) [.tok 0, .stok 0, .srow [.tok 1]] Try.func68 rfl (fun _ _ => by kernel_rfl) (by kernel_rfl) rfl rfl (by simp [Try.ntmps68])
    | false =>
    have hl1 : (n1.size : Int) ≤ 100 := by have := of_decide_eq_false hb1; omega
    obtain ⟨big, hbig⟩ : ∃ b, decide (2000 < 3 + ((1 : Nat) : Int) + sizeT c) = b := ⟨_, rfl⟩
    have hbig' : decide (2000 < (4 + sizeT c : Int)) = big := by rw [← hbig, Bool.eq_iff_iff]; simp only [decide_eq_true_eq]; omega
    cases big with
    | true =>
      have hcul : culT 1 c = atomR sDots := by unfold culT; rw [if_pos (of_decide_eq_true hbig)]
      have hrow : [n1].map atomT ++ [culT 1 c] = [atomT n1] ++ [atomR sDots] := by rw [hcul]; rfl
      exact entry_facts (E := E) [.slen 1 2, .rel .lt (.lit 100) (.tok 2) false, .ari .add (.lit 4) (.tok 0) 1, .rel .lt (.lit 2000) (.tok 1) true, .push none 1 0 false, .push (some 0) 3 5 true] ⟨rfl, hb1, ⟨rfl, by show wf64 (4 + sizeT c); unfold wf64; omega⟩, hbig', ⟨rfl, by show (1 : Nat) ≤ 1000000; omega⟩, ⟨hrow, by show ([n1].map atomT ++ [culT 1 c]).length ≤ 1000000; simp⟩, trivial⟩ (tbl_ok (T := [(61, [.tok 0], .val (.bool true)), (85, [.stok 1], .tok 1), (79, [.tok 0], .vtok 0), (85, [.val (.string sDots)], .tok 3), (70, [.stok 0, .rtok 5], .tok 4)])
        ⟨ent_valid hv, ent_atom (fun _ _ _ h => h) hn1 rfl, ent_size rfl, ent_atom (s := sDots) (fun _ _ _ h => h) (by decide) (by show atomR sDots = atomT sDots; rw [atomT_eq (by decide)]), ent_raise (fun _ _ _ h => h) idd hf (by show aboutT f [n1] c = raiseT f ([n1].map atomT ++ [culT 1 c]); simp [aboutT, hv, hl1]), trivial⟩) [.tok 0, .stok 0, .srow [.tok 1]] Try.func68 rfl (fun _ _ => by kernel_rfl) (by kernel_rfl) rfl rfl (by simp [Try.ntmps68])
    | false =>
      have hcul : culT 1 c = c := by unfold culT; rw [if_neg (of_decide_eq_false hbig)]
      have hrow : [n1].map atomT ++ [culT 1 c] = [atomT n1] ++ [c] := by rw [hcul]; rfl
      exact entry_facts (E := E) [.slen 1 2, .rel .lt (.lit 100) (.tok 2) false, .ari .add (.lit 4) (.tok 0) 1, .rel .lt (.lit 2000) (.tok 1) false, .push none 1 0 false, .push (some 0) 0 5 true] ⟨rfl, hb1, ⟨rfl, by show wf64 (4 + sizeT c); unfold wf64; omega⟩, hbig', ⟨rfl, by show (1 : Nat) ≤ 1000000; omega⟩, ⟨hrow, by show ([n1].map atomT ++ [culT 1 c]).length ≤ 1000000; simp⟩, trivial⟩ (tbl_ok (T := [(61, [.tok 0], .val (.bool true)), (85, [.stok 1], .tok 1), (79, [.tok 0], .vtok 0), (85, [.val (.string sDots)], .tok 3), (70, [.stok 0, .rtok 5], .tok 4)])
        ⟨ent_valid hv, ent_atom (fun _ _ _ h => h) hn1 rfl, ent_size rfl, ent_atom (s := sDots) (fun _ _ _ h => h) (by decide) (by show atomR sDots = atomT sDots; rw [atomT_eq (by decide)]), ent_raise (fun _ _ _ h => h) idd hf (by show aboutT f [n1] c = raiseT f ([n1].map atomT ++ [culT 1 c]); simp [aboutT, hv, hl1]), trivial⟩) [.tok 0, .stok 0, .srow [.tok 1]] Try.func68 rfl (fun _ _ => by kernel_rfl) (by kernel_rfl) rfl rfl (by simp [Try.ntmps68])

abbrev EnvWith1 (c : Tm) (f : ByteArray) (n1 : ByteArray) : Env :=
  { T := fun k => match k with | 0 => c | 1 => atomR n1 | 3 => atomR sDots | 4 => withR f [n1] c | _ => .mk 3 0 f ([n1].map atomR ++ [culT 1 c])
    I := fun k => match k with | 0 => sizeT c | 1 => 3 + sizeT c | 4 => 3 + sizeT c + 1 | 2 => (n1.size : Int) | _ => 0
    S := fun k => match k with | 0 => f | _ => n1
    R := fun k => match k with | 0 => [atomR n1] | _ => [n1].map atomR ++ [culT 1 c] }

set_option maxHeartbeats 1000000 in
theorem with1_entry (c : Tm) (f : ByteArray) (n1 : ByteArray) (hf : f.size ≤ 140737488351232) (hn1 : n1.size ≤ 140737488351232) : @Entry (EnvWith1 c f n1) 75 [.tok 0, .stok 0, .srow [.tok 1]] (.tok 4) := by
  letI E : Env := EnvWith1 c f n1
  cases hv : validT c with
  | false =>
    refine entry_imp (x := .term zeroT) ?_ (term_tok' (show withR f [n1] c = zeroT by simp [withR, hv]))
    exact entry_facts (E := E) [] trivial (tbl_ok (T := [(23, [.tok 0], .val (.bool false))]) ⟨ent_rvalid hv, trivial⟩) [.tok 0, .stok 0, .srow [.tok 1]] Try.func75 rfl (fun _ _ => by kernel_rfl) (by kernel_rfl) rfl rfl (by simp [Try.ntmps75])
  | true =>
    have sb := size_bd c
    obtain ⟨big, hbig⟩ : ∃ b, decide (2000 < 3 + ((1 : Nat) : Int) + sizeT c) = b := ⟨_, rfl⟩
    have hbig' : decide (2000 < (3 + sizeT c + 1 : Int)) = big := by rw [← hbig, Bool.eq_iff_iff]; simp only [decide_eq_true_eq]; omega
    cases big with
    | true =>
      have hcul : culT 1 c = atomR sDots := by unfold culT; rw [if_pos (of_decide_eq_true hbig)]
      have hrow : [n1].map atomR ++ [culT 1 c] = [atomR n1] ++ [atomR sDots] := by rw [hcul]; rfl
      exact entry_facts (E := E) [.ari .add (.lit 3) (.tok 0) 1, .ari .add (.tok 1) (.lit 1) 4, .rel .lt (.lit 2000) (.tok 4) true, .push none 1 0 false, .push (some 0) 3 5 true] ⟨⟨rfl, by show wf64 (3 + sizeT c); unfold wf64; omega⟩, ⟨rfl, by show wf64 (3 + sizeT c + 1); unfold wf64; omega⟩, hbig', ⟨rfl, by show (1 : Nat) ≤ 1000000; omega⟩, ⟨hrow, by show ([n1].map atomR ++ [culT 1 c]).length ≤ 1000000; simp⟩, trivial⟩ (tbl_ok (T := [(23, [.tok 0], .val (.bool true)), (74, [.stok 1], .tok 1), (21, [.tok 0], .vtok 0), (74, [.val (.string sDots)], .tok 3), (76, [.stok 0, .rtok 5], .tok 5), (73, [.tok 5], .tok 4)])
        ⟨ent_rvalid hv, ent_ratom (fun _ _ _ h => h) hn1 rfl, ent_rsize rfl, ent_ratom (s := sDots) (fun _ _ _ h => h) (by decide) rfl, ent_rstruct (fun _ _ _ h => h) idd hf rfl, ent_ball (by show withR f [n1] c = ballR (.mk 3 0 f ([n1].map atomR ++ [culT 1 c])); simp [withR, hv]), trivial⟩) [.tok 0, .stok 0, .srow [.tok 1]] Try.func75 rfl (fun _ _ => by kernel_rfl) (by kernel_rfl) rfl rfl (by simp [Try.ntmps75])
    | false =>
      have hcul : culT 1 c = c := by unfold culT; rw [if_neg (of_decide_eq_false hbig)]
      have hrow : [n1].map atomR ++ [culT 1 c] = [atomR n1] ++ [c] := by rw [hcul]; rfl
      exact entry_facts (E := E) [.ari .add (.lit 3) (.tok 0) 1, .ari .add (.tok 1) (.lit 1) 4, .rel .lt (.lit 2000) (.tok 4) false, .push none 1 0 false, .push (some 0) 0 5 true] ⟨⟨rfl, by show wf64 (3 + sizeT c); unfold wf64; omega⟩, ⟨rfl, by show wf64 (3 + sizeT c + 1); unfold wf64; omega⟩, hbig', ⟨rfl, by show (1 : Nat) ≤ 1000000; omega⟩, ⟨hrow, by show ([n1].map atomR ++ [culT 1 c]).length ≤ 1000000; simp⟩, trivial⟩ (tbl_ok (T := [(23, [.tok 0], .val (.bool true)), (74, [.stok 1], .tok 1), (21, [.tok 0], .vtok 0), (74, [.val (.string sDots)], .tok 3), (76, [.stok 0, .rtok 5], .tok 5), (73, [.tok 5], .tok 4)])
        ⟨ent_rvalid hv, ent_ratom (fun _ _ _ h => h) hn1 rfl, ent_rsize rfl, ent_ratom (s := sDots) (fun _ _ _ h => h) (by decide) rfl, ent_rstruct (fun _ _ _ h => h) idd hf rfl, ent_ball (by show withR f [n1] c = ballR (.mk 3 0 f ([n1].map atomR ++ [culT 1 c])); simp [withR, hv]), trivial⟩) [.tok 0, .stok 0, .srow [.tok 1]] Try.func75 rfl (fun _ _ => by kernel_rfl) (by kernel_rfl) rfl rfl (by simp [Try.ntmps75])

abbrev EnvAbout2 (c : Tm) (f : ByteArray) (n1 : ByteArray) (n2 : ByteArray) : Env :=
  { T := fun k => match k with | 0 => c | 1 => atomT n1 | 2 => atomT n2 | 3 => atomR sDots | 4 => aboutT f [n1, n2] c | _ => .mk 3 0 f ([n1, n2].map atomT ++ [culT 2 c])
    I := fun k => match k with | 0 => sizeT c | 1 => 5 + sizeT c | 4 => 5 + sizeT c + 1 | 2 => (n1.size : Int) | _ => (n2.size : Int)
    S := fun k => match k with | 0 => f | 1 => n1 | _ => n2
    R := fun k => match k with | 0 => [atomT n1] | 1 => [atomT n1, atomT n2] | _ => [n1, n2].map atomT ++ [culT 2 c] }

set_option maxHeartbeats 1000000 in
theorem about2_entry (c : Tm) (f : ByteArray) (n1 : ByteArray) (n2 : ByteArray) (hf : f.size ≤ 140737488351232) (hn1 : n1.size ≤ 140737488351232) (hn2 : n2.size ≤ 140737488351232) : @Entry (EnvAbout2 c f n1 n2) 68 [.tok 0, .stok 0, .srow [.tok 1, .tok 2]] (.tok 4) := by
  letI E : Env := EnvAbout2 c f n1 n2
  cases hv : validT c with
  | false =>
    refine entry_imp (x := .term zeroT) ?_ (term_tok' (show aboutT f [n1, n2] c = zeroT by simp [aboutT, hv]))
    exact entry_facts (E := E) [] trivial (tbl_ok (T := [(61, [.tok 0], .val (.bool false))]) ⟨ent_valid hv, trivial⟩) [.tok 0, .stok 0, .srow [.tok 1, .tok 2]] Try.func68 rfl (fun _ _ => by kernel_rfl) (by kernel_rfl) rfl rfl (by simp [Try.ntmps68])
  | true =>
    have sb := size_bd c
    obtain ⟨b1, hb1⟩ : ∃ b, decide (100 < (n1.size : Int)) = b := ⟨_, rfl⟩
    obtain ⟨b2, hb2⟩ : ∃ b, decide (100 < (n2.size : Int)) = b := ⟨_, rfl⟩
    cases b1 with
    | true =>
      have hl : ¬ (n1.size : Int) ≤ 100 := by have := of_decide_eq_true hb1; omega
      refine entry_imp (x := .term zeroT) ?_ (term_tok' (show aboutT f [n1, n2] c = zeroT by simp [aboutT, hv, hl]))
      exact entry_facts (E := E) [.slen 1 2, .rel .lt (.lit 100) (.tok 2) true] ⟨rfl, hb1, trivial⟩ (tbl_ok (T := [(61, [.tok 0], .val (.bool true))]) ⟨ent_valid hv, trivial⟩) [.tok 0, .stok 0, .srow [.tok 1, .tok 2]] Try.func68 rfl (fun _ _ => by kernel_rfl) (by kernel_rfl) rfl rfl (by simp [Try.ntmps68])
    | false =>
    have hl1 : (n1.size : Int) ≤ 100 := by have := of_decide_eq_false hb1; omega
    cases b2 with
    | true =>
      have hl : ¬ (n2.size : Int) ≤ 100 := by have := of_decide_eq_true hb2; omega
      refine entry_imp (x := .term zeroT) ?_ (term_tok' (show aboutT f [n1, n2] c = zeroT by simp [aboutT, hv, hl]))
      exact entry_facts (E := E) [.slen 1 2, .rel .lt (.lit 100) (.tok 2) false, .slen 2 3, .rel .lt (.lit 100) (.tok 3) true, .push none 1 0 false] ⟨rfl, hb1, rfl, hb2, ⟨rfl, by show (1 : Nat) ≤ 1000000; omega⟩, trivial⟩ (tbl_ok (T := [(61, [.tok 0], .val (.bool true)), (85, [.stok 1], .tok 1)]) ⟨ent_valid hv, ent_atom (fun _ _ _ h => h) hn1 rfl, trivial⟩) [.tok 0, .stok 0, .srow [.tok 1, .tok 2]] Try.func68 rfl (fun _ _ => by kernel_rfl) (by kernel_rfl) rfl rfl (by simp [Try.ntmps68])
    | false =>
    have hl2 : (n2.size : Int) ≤ 100 := by have := of_decide_eq_false hb2; omega
    obtain ⟨big, hbig⟩ : ∃ b, decide (2000 < 3 + ((2 : Nat) : Int) + sizeT c) = b := ⟨_, rfl⟩
    have hbig' : decide (2000 < (5 + sizeT c : Int)) = big := by rw [← hbig, Bool.eq_iff_iff]; simp only [decide_eq_true_eq]; omega
    cases big with
    | true =>
      have hcul : culT 2 c = atomR sDots := by unfold culT; rw [if_pos (of_decide_eq_true hbig)]
      have hrow : [n1, n2].map atomT ++ [culT 2 c] = [atomT n1, atomT n2] ++ [atomR sDots] := by rw [hcul]; rfl
      exact entry_facts (E := E) [.slen 1 2, .rel .lt (.lit 100) (.tok 2) false, .slen 2 3, .rel .lt (.lit 100) (.tok 3) false, .ari .add (.lit 5) (.tok 0) 1, .rel .lt (.lit 2000) (.tok 1) true, .push none 1 0 false, .push (some 0) 2 1 false, .push (some 1) 3 5 true] ⟨rfl, hb1, rfl, hb2, ⟨rfl, by show wf64 (5 + sizeT c); unfold wf64; omega⟩, hbig', ⟨rfl, by show (1 : Nat) ≤ 1000000; omega⟩, ⟨rfl, by show (2 : Nat) ≤ 1000000; omega⟩, ⟨hrow, by show ([n1, n2].map atomT ++ [culT 2 c]).length ≤ 1000000; simp⟩, trivial⟩ (tbl_ok (T := [(61, [.tok 0], .val (.bool true)), (85, [.stok 1], .tok 1), (85, [.stok 2], .tok 2), (79, [.tok 0], .vtok 0), (85, [.val (.string sDots)], .tok 3), (70, [.stok 0, .rtok 5], .tok 4)])
        ⟨ent_valid hv, ent_atom (fun _ _ _ h => h) hn1 rfl, ent_atom (fun _ _ _ h => h) hn2 rfl, ent_size rfl, ent_atom (s := sDots) (fun _ _ _ h => h) (by decide) (by show atomR sDots = atomT sDots; rw [atomT_eq (by decide)]), ent_raise (fun _ _ _ h => h) idd hf (by show aboutT f [n1, n2] c = raiseT f ([n1, n2].map atomT ++ [culT 2 c]); simp [aboutT, hv, hl1, hl2]), trivial⟩) [.tok 0, .stok 0, .srow [.tok 1, .tok 2]] Try.func68 rfl (fun _ _ => by kernel_rfl) (by kernel_rfl) rfl rfl (by simp [Try.ntmps68])
    | false =>
      have hcul : culT 2 c = c := by unfold culT; rw [if_neg (of_decide_eq_false hbig)]
      have hrow : [n1, n2].map atomT ++ [culT 2 c] = [atomT n1, atomT n2] ++ [c] := by rw [hcul]; rfl
      exact entry_facts (E := E) [.slen 1 2, .rel .lt (.lit 100) (.tok 2) false, .slen 2 3, .rel .lt (.lit 100) (.tok 3) false, .ari .add (.lit 5) (.tok 0) 1, .rel .lt (.lit 2000) (.tok 1) false, .push none 1 0 false, .push (some 0) 2 1 false, .push (some 1) 0 5 true] ⟨rfl, hb1, rfl, hb2, ⟨rfl, by show wf64 (5 + sizeT c); unfold wf64; omega⟩, hbig', ⟨rfl, by show (1 : Nat) ≤ 1000000; omega⟩, ⟨rfl, by show (2 : Nat) ≤ 1000000; omega⟩, ⟨hrow, by show ([n1, n2].map atomT ++ [culT 2 c]).length ≤ 1000000; simp⟩, trivial⟩ (tbl_ok (T := [(61, [.tok 0], .val (.bool true)), (85, [.stok 1], .tok 1), (85, [.stok 2], .tok 2), (79, [.tok 0], .vtok 0), (85, [.val (.string sDots)], .tok 3), (70, [.stok 0, .rtok 5], .tok 4)])
        ⟨ent_valid hv, ent_atom (fun _ _ _ h => h) hn1 rfl, ent_atom (fun _ _ _ h => h) hn2 rfl, ent_size rfl, ent_atom (s := sDots) (fun _ _ _ h => h) (by decide) (by show atomR sDots = atomT sDots; rw [atomT_eq (by decide)]), ent_raise (fun _ _ _ h => h) idd hf (by show aboutT f [n1, n2] c = raiseT f ([n1, n2].map atomT ++ [culT 2 c]); simp [aboutT, hv, hl1, hl2]), trivial⟩) [.tok 0, .stok 0, .srow [.tok 1, .tok 2]] Try.func68 rfl (fun _ _ => by kernel_rfl) (by kernel_rfl) rfl rfl (by simp [Try.ntmps68])

abbrev EnvWith2 (c : Tm) (f : ByteArray) (n1 : ByteArray) (n2 : ByteArray) : Env :=
  { T := fun k => match k with | 0 => c | 1 => atomR n1 | 2 => atomR n2 | 3 => atomR sDots | 4 => withR f [n1, n2] c | _ => .mk 3 0 f ([n1, n2].map atomR ++ [culT 2 c])
    I := fun k => match k with | 0 => sizeT c | 1 => 4 + sizeT c | 4 => 4 + sizeT c + 1 | 2 => (n1.size : Int) | _ => (n2.size : Int)
    S := fun k => match k with | 0 => f | 1 => n1 | _ => n2
    R := fun k => match k with | 0 => [atomR n1] | 1 => [atomR n1, atomR n2] | _ => [n1, n2].map atomR ++ [culT 2 c] }

set_option maxHeartbeats 1000000 in
theorem with2_entry (c : Tm) (f : ByteArray) (n1 : ByteArray) (n2 : ByteArray) (hf : f.size ≤ 140737488351232) (hn1 : n1.size ≤ 140737488351232) (hn2 : n2.size ≤ 140737488351232) : @Entry (EnvWith2 c f n1 n2) 75 [.tok 0, .stok 0, .srow [.tok 1, .tok 2]] (.tok 4) := by
  letI E : Env := EnvWith2 c f n1 n2
  cases hv : validT c with
  | false =>
    refine entry_imp (x := .term zeroT) ?_ (term_tok' (show withR f [n1, n2] c = zeroT by simp [withR, hv]))
    exact entry_facts (E := E) [] trivial (tbl_ok (T := [(23, [.tok 0], .val (.bool false))]) ⟨ent_rvalid hv, trivial⟩) [.tok 0, .stok 0, .srow [.tok 1, .tok 2]] Try.func75 rfl (fun _ _ => by kernel_rfl) (by kernel_rfl) rfl rfl (by simp [Try.ntmps75])
  | true =>
    have sb := size_bd c
    obtain ⟨big, hbig⟩ : ∃ b, decide (2000 < 3 + ((2 : Nat) : Int) + sizeT c) = b := ⟨_, rfl⟩
    have hbig' : decide (2000 < (4 + sizeT c + 1 : Int)) = big := by rw [← hbig, Bool.eq_iff_iff]; simp only [decide_eq_true_eq]; omega
    cases big with
    | true =>
      have hcul : culT 2 c = atomR sDots := by unfold culT; rw [if_pos (of_decide_eq_true hbig)]
      have hrow : [n1, n2].map atomR ++ [culT 2 c] = [atomR n1, atomR n2] ++ [atomR sDots] := by rw [hcul]; rfl
      exact entry_facts (E := E) [.ari .add (.lit 4) (.tok 0) 1, .ari .add (.tok 1) (.lit 1) 4, .rel .lt (.lit 2000) (.tok 4) true, .push none 1 0 false, .push (some 0) 2 1 false, .push (some 1) 3 5 true] ⟨⟨rfl, by show wf64 (4 + sizeT c); unfold wf64; omega⟩, ⟨rfl, by show wf64 (4 + sizeT c + 1); unfold wf64; omega⟩, hbig', ⟨rfl, by show (1 : Nat) ≤ 1000000; omega⟩, ⟨rfl, by show (2 : Nat) ≤ 1000000; omega⟩, ⟨hrow, by show ([n1, n2].map atomR ++ [culT 2 c]).length ≤ 1000000; simp⟩, trivial⟩ (tbl_ok (T := [(23, [.tok 0], .val (.bool true)), (74, [.stok 1], .tok 1), (74, [.stok 2], .tok 2), (21, [.tok 0], .vtok 0), (74, [.val (.string sDots)], .tok 3), (76, [.stok 0, .rtok 5], .tok 5), (73, [.tok 5], .tok 4)])
        ⟨ent_rvalid hv, ent_ratom (fun _ _ _ h => h) hn1 rfl, ent_ratom (fun _ _ _ h => h) hn2 rfl, ent_rsize rfl, ent_ratom (s := sDots) (fun _ _ _ h => h) (by decide) rfl, ent_rstruct (fun _ _ _ h => h) idd hf rfl, ent_ball (by show withR f [n1, n2] c = ballR (.mk 3 0 f ([n1, n2].map atomR ++ [culT 2 c])); simp [withR, hv]), trivial⟩) [.tok 0, .stok 0, .srow [.tok 1, .tok 2]] Try.func75 rfl (fun _ _ => by kernel_rfl) (by kernel_rfl) rfl rfl (by simp [Try.ntmps75])
    | false =>
      have hcul : culT 2 c = c := by unfold culT; rw [if_neg (of_decide_eq_false hbig)]
      have hrow : [n1, n2].map atomR ++ [culT 2 c] = [atomR n1, atomR n2] ++ [c] := by rw [hcul]; rfl
      exact entry_facts (E := E) [.ari .add (.lit 4) (.tok 0) 1, .ari .add (.tok 1) (.lit 1) 4, .rel .lt (.lit 2000) (.tok 4) false, .push none 1 0 false, .push (some 0) 2 1 false, .push (some 1) 0 5 true] ⟨⟨rfl, by show wf64 (4 + sizeT c); unfold wf64; omega⟩, ⟨rfl, by show wf64 (4 + sizeT c + 1); unfold wf64; omega⟩, hbig', ⟨rfl, by show (1 : Nat) ≤ 1000000; omega⟩, ⟨rfl, by show (2 : Nat) ≤ 1000000; omega⟩, ⟨hrow, by show ([n1, n2].map atomR ++ [culT 2 c]).length ≤ 1000000; simp⟩, trivial⟩ (tbl_ok (T := [(23, [.tok 0], .val (.bool true)), (74, [.stok 1], .tok 1), (74, [.stok 2], .tok 2), (21, [.tok 0], .vtok 0), (74, [.val (.string sDots)], .tok 3), (76, [.stok 0, .rtok 5], .tok 5), (73, [.tok 5], .tok 4)])
        ⟨ent_rvalid hv, ent_ratom (fun _ _ _ h => h) hn1 rfl, ent_ratom (fun _ _ _ h => h) hn2 rfl, ent_rsize rfl, ent_ratom (s := sDots) (fun _ _ _ h => h) (by decide) rfl, ent_rstruct (fun _ _ _ h => h) idd hf rfl, ent_ball (by show withR f [n1, n2] c = ballR (.mk 3 0 f ([n1, n2].map atomR ++ [culT 2 c])); simp [withR, hv]), trivial⟩) [.tok 0, .stok 0, .srow [.tok 1, .tok 2]] Try.func75 rfl (fun _ _ => by kernel_rfl) (by kernel_rfl) rfl rfl (by simp [Try.ntmps75])

end Go.Proofs.Ytloekfnlidclcaa

namespace Go.Proofs.Ytloekfnlidclcaa
open Go.RowKit
set_option linter.unusedVariables false

def sUninst : ByteArray := ⟨#[117, 110, 105, 110, 115, 116, 97, 110, 116, 105, 97, 116, 105, 111, 110, 95, 101, 114, 114, 111, 114]⟩
def sType : ByteArray := ⟨#[116, 121, 112, 101, 95, 101, 114, 114, 111, 114]⟩
def sDomain : ByteArray := ⟨#[100, 111, 109, 97, 105, 110, 95, 101, 114, 114, 111, 114]⟩
def sExistence : ByteArray := ⟨#[101, 120, 105, 115, 116, 101, 110, 99, 101, 95, 101, 114, 114, 111, 114]⟩
def sPermission : ByteArray := ⟨#[112, 101, 114, 109, 105, 115, 115, 105, 111, 110, 95, 101, 114, 114, 111, 114]⟩
def sInst : ByteArray := ⟨#[105, 110, 115, 116, 97, 110, 116, 105, 97, 116, 105, 111, 110, 95, 101, 114, 114, 111, 114]⟩
def sRep : ByteArray := ⟨#[114, 101, 112, 114, 101, 115, 101, 110, 116, 97, 116, 105, 111, 110, 95, 101, 114, 114, 111, 114]⟩
def sEval : ByteArray := ⟨#[101, 118, 97, 108, 117, 97, 116, 105, 111, 110, 95, 101, 114, 114, 111, 114]⟩
def sSyntax : ByteArray := ⟨#[115, 121, 110, 116, 97, 120, 95, 101, 114, 114, 111, 114]⟩

theorem pUninst_entry (c : Tm) : @Entry { T := fun k => match k with | 0 => c | _ => aboutT sUninst [] c, S := fun _ => ⟨#[]⟩ } 27 [.tok 0] (.tok 1) := by
  letI E : Env := { T := fun k => match k with | 0 => c | _ => aboutT sUninst [] c, S := fun _ => ⟨#[]⟩ }
  have e : @Entry E 68 [.tok 0, .val (.string sUninst), .val (.slice none 0 0)] (.tok 1) := entry_move (about0_entry c sUninst (by decide)) ⟨idd, str_tok rfl, nil_srow, trivial⟩ (ide (tok_eq rfl))
  exact entry_code (tbl_ok (T := [(68, [.tok 0, .val (.string sUninst), .val (.slice none 0 0)], .tok 1)]) ⟨e, trivial⟩) [.tok 0] Try.func27 rfl (fun _ _ => by kernel_rfl) (by kernel_rfl) (by kernel_rfl) rfl rfl (by simp [Try.ntmps27])

theorem pType_entry (c : Tm) (n1 : ByteArray) (h1 : n1.size ≤ 140737488351232) : @Entry { T := fun k => match k with | 0 => c | _ => aboutT sType [n1] c, S := fun _ => n1 } 25 [.stok 0, .tok 0] (.tok 1) := by
  letI E : Env := { T := fun k => match k with | 0 => c | _ => aboutT sType [n1] c, S := fun _ => n1 }
  have e : @Entry E 68 [.tok 0, .val (.string sType), .srow [.tok 0]] (.tok 1) := entry_move (about1_entry c sType n1 (by decide) h1) ⟨idd, str_tok rfl, idd, trivial⟩ (ide (tok_eq rfl))
  exact entry_code (tbl_ok (T := [(68, [.tok 0, .val (.string sType), .srow [.tok 0]], .tok 1)]) ⟨e, trivial⟩) [.stok 0, .tok 0] Try.func25 rfl (fun _ _ => by kernel_rfl) (by kernel_rfl) (by kernel_rfl) rfl rfl (by simp [Try.ntmps25])

theorem pDomain_entry (c : Tm) (n1 : ByteArray) (h1 : n1.size ≤ 140737488351232) : @Entry { T := fun k => match k with | 0 => c | _ => aboutT sDomain [n1] c, S := fun _ => n1 } 28 [.stok 0, .tok 0] (.tok 1) := by
  letI E : Env := { T := fun k => match k with | 0 => c | _ => aboutT sDomain [n1] c, S := fun _ => n1 }
  have e : @Entry E 68 [.tok 0, .val (.string sDomain), .srow [.tok 0]] (.tok 1) := entry_move (about1_entry c sDomain n1 (by decide) h1) ⟨idd, str_tok rfl, idd, trivial⟩ (ide (tok_eq rfl))
  exact entry_code (tbl_ok (T := [(68, [.tok 0, .val (.string sDomain), .srow [.tok 0]], .tok 1)]) ⟨e, trivial⟩) [.stok 0, .tok 0] Try.func28 rfl (fun _ _ => by kernel_rfl) (by kernel_rfl) (by kernel_rfl) rfl rfl (by simp [Try.ntmps28])

theorem pExistence_entry (c : Tm) (n1 : ByteArray) (h1 : n1.size ≤ 140737488351232) : @Entry { T := fun k => match k with | 0 => c | _ => aboutT sExistence [n1] c, S := fun _ => n1 } 29 [.stok 0, .tok 0] (.tok 1) := by
  letI E : Env := { T := fun k => match k with | 0 => c | _ => aboutT sExistence [n1] c, S := fun _ => n1 }
  have e : @Entry E 68 [.tok 0, .val (.string sExistence), .srow [.tok 0]] (.tok 1) := entry_move (about1_entry c sExistence n1 (by decide) h1) ⟨idd, str_tok rfl, idd, trivial⟩ (ide (tok_eq rfl))
  exact entry_code (tbl_ok (T := [(68, [.tok 0, .val (.string sExistence), .srow [.tok 0]], .tok 1)]) ⟨e, trivial⟩) [.stok 0, .tok 0] Try.func29 rfl (fun _ _ => by kernel_rfl) (by kernel_rfl) (by kernel_rfl) rfl rfl (by simp [Try.ntmps29])

theorem pPermission_entry (c : Tm) (n1 : ByteArray) (n2 : ByteArray) (h1 : n1.size ≤ 140737488351232) (h2 : n2.size ≤ 140737488351232) : @Entry { T := fun k => match k with | 0 => c | _ => aboutT sPermission [n1, n2] c, S := fun k => match k with | 0 => n1 | _ => n2 } 30 [.stok 0, .stok 1, .tok 0] (.tok 1) := by
  letI E : Env := { T := fun k => match k with | 0 => c | _ => aboutT sPermission [n1, n2] c, S := fun k => match k with | 0 => n1 | _ => n2 }
  have e : @Entry E 68 [.tok 0, .val (.string sPermission), .srow [.tok 0, .tok 1]] (.tok 1) := entry_move (about2_entry c sPermission n1 n2 (by decide) h1 h2) ⟨idd, str_tok rfl, idd, trivial⟩ (ide (tok_eq rfl))
  exact entry_code (tbl_ok (T := [(68, [.tok 0, .val (.string sPermission), .srow [.tok 0, .tok 1]], .tok 1)]) ⟨e, trivial⟩) [.stok 0, .stok 1, .tok 0] Try.func30 rfl (fun _ _ => by kernel_rfl) (by kernel_rfl) (by kernel_rfl) rfl rfl (by simp [Try.ntmps30])

theorem rUninst_entry (c : Tm) : @Entry { T := fun k => match k with | 0 => c | _ => withR sUninst [] c, S := fun _ => ⟨#[]⟩ } 37 [.tok 0] (.tok 1) := by
  letI E : Env := { T := fun k => match k with | 0 => c | _ => withR sUninst [] c, S := fun _ => ⟨#[]⟩ }
  have e : @Entry E 75 [.tok 0, .val (.string sUninst), .val (.slice none 0 0)] (.tok 1) := entry_move (with0_entry c sUninst (by decide)) ⟨idd, str_tok rfl, nil_srow, trivial⟩ (ide (tok_eq rfl))
  exact entry_code (tbl_ok (T := [(75, [.tok 0, .val (.string sUninst), .val (.slice none 0 0)], .tok 1)]) ⟨e, trivial⟩) [.tok 0] Try.func37 rfl (fun _ _ => by kernel_rfl) (by kernel_rfl) (by kernel_rfl) rfl rfl (by simp [Try.ntmps37])

theorem rType_entry (c : Tm) (n1 : ByteArray) (h1 : n1.size ≤ 140737488351232) : @Entry { T := fun k => match k with | 0 => c | _ => withR sType [n1] c, S := fun _ => n1 } 38 [.stok 0, .tok 0] (.tok 1) := by
  letI E : Env := { T := fun k => match k with | 0 => c | _ => withR sType [n1] c, S := fun _ => n1 }
  have e : @Entry E 75 [.tok 0, .val (.string sType), .srow [.tok 0]] (.tok 1) := entry_move (with1_entry c sType n1 (by decide) h1) ⟨idd, str_tok rfl, idd, trivial⟩ (ide (tok_eq rfl))
  exact entry_code (tbl_ok (T := [(75, [.tok 0, .val (.string sType), .srow [.tok 0]], .tok 1)]) ⟨e, trivial⟩) [.stok 0, .tok 0] Try.func38 rfl (fun _ _ => by kernel_rfl) (by kernel_rfl) (by kernel_rfl) rfl rfl (by simp [Try.ntmps38])

theorem rDomain_entry (c : Tm) (n1 : ByteArray) (h1 : n1.size ≤ 140737488351232) : @Entry { T := fun k => match k with | 0 => c | _ => withR sDomain [n1] c, S := fun _ => n1 } 39 [.stok 0, .tok 0] (.tok 1) := by
  letI E : Env := { T := fun k => match k with | 0 => c | _ => withR sDomain [n1] c, S := fun _ => n1 }
  have e : @Entry E 75 [.tok 0, .val (.string sDomain), .srow [.tok 0]] (.tok 1) := entry_move (with1_entry c sDomain n1 (by decide) h1) ⟨idd, str_tok rfl, idd, trivial⟩ (ide (tok_eq rfl))
  exact entry_code (tbl_ok (T := [(75, [.tok 0, .val (.string sDomain), .srow [.tok 0]], .tok 1)]) ⟨e, trivial⟩) [.stok 0, .tok 0] Try.func39 rfl (fun _ _ => by kernel_rfl) (by kernel_rfl) (by kernel_rfl) rfl rfl (by simp [Try.ntmps39])

theorem rExistence_entry (c : Tm) (n1 : ByteArray) (h1 : n1.size ≤ 140737488351232) : @Entry { T := fun k => match k with | 0 => c | _ => withR sExistence [n1] c, S := fun _ => n1 } 40 [.stok 0, .tok 0] (.tok 1) := by
  letI E : Env := { T := fun k => match k with | 0 => c | _ => withR sExistence [n1] c, S := fun _ => n1 }
  have e : @Entry E 75 [.tok 0, .val (.string sExistence), .srow [.tok 0]] (.tok 1) := entry_move (with1_entry c sExistence n1 (by decide) h1) ⟨idd, str_tok rfl, idd, trivial⟩ (ide (tok_eq rfl))
  exact entry_code (tbl_ok (T := [(75, [.tok 0, .val (.string sExistence), .srow [.tok 0]], .tok 1)]) ⟨e, trivial⟩) [.stok 0, .tok 0] Try.func40 rfl (fun _ _ => by kernel_rfl) (by kernel_rfl) (by kernel_rfl) rfl rfl (by simp [Try.ntmps40])

theorem rPermission_entry (c : Tm) (n1 : ByteArray) (n2 : ByteArray) (h1 : n1.size ≤ 140737488351232) (h2 : n2.size ≤ 140737488351232) : @Entry { T := fun k => match k with | 0 => c | _ => withR sPermission [n1, n2] c, S := fun k => match k with | 0 => n1 | _ => n2 } 41 [.stok 0, .stok 1, .tok 0] (.tok 1) := by
  letI E : Env := { T := fun k => match k with | 0 => c | _ => withR sPermission [n1, n2] c, S := fun k => match k with | 0 => n1 | _ => n2 }
  have e : @Entry E 75 [.tok 0, .val (.string sPermission), .srow [.tok 0, .tok 1]] (.tok 1) := entry_move (with2_entry c sPermission n1 n2 (by decide) h1 h2) ⟨idd, str_tok rfl, idd, trivial⟩ (ide (tok_eq rfl))
  exact entry_code (tbl_ok (T := [(75, [.tok 0, .val (.string sPermission), .srow [.tok 0, .tok 1]], .tok 1)]) ⟨e, trivial⟩) [.stok 0, .stok 1, .tok 0] Try.func41 rfl (fun _ _ => by kernel_rfl) (by kernel_rfl) (by kernel_rfl) rfl rfl (by simp [Try.ntmps41])

/-! ### named, Representation, Evaluation, Syntax, Inst -/
def namedT (f s : ByteArray) : Tm := if (s.size : Int) ≤ 100 then raiseT f [atomT s] else zeroT

theorem named_entry (f s : ByteArray) (hf : f.size ≤ 140737488351232) (hs : s.size ≤ 140737488351232) : @Entry { T := fun k => match k with | 0 => namedT f s | _ => atomT s, S := fun k => match k with | 0 => f | _ => s, I := fun _ => (s.size : Int) } 71 [.stok 0, .stok 1] (.tok 0) := by
  letI E : Env := { T := fun k => match k with | 0 => namedT f s | _ => atomT s, S := fun k => match k with | 0 => f | _ => s, I := fun _ => (s.size : Int) }
  by_cases hb : (s.size : Int) ≤ 100
  · exact entry_facts (E := E) [.slen 1 0, .rel .lt (.lit 100) (.tok 0) false] ⟨rfl, by show decide (100 < (s.size : Int)) = false; simp; omega, trivial⟩ (tbl_ok (T := [(85, [.stok 1], .tok 1), (70, [.stok 0, .toks [1]], .tok 0)])
      ⟨ent_atom (fun _ _ _ h => h) hs rfl, ent_raise (fun _ _ _ h => h) toks_at hf (by show namedT f s = raiseT f [atomT s]; simp [namedT, hb]), trivial⟩) [.stok 0, .stok 1] Try.func71 rfl (fun _ _ => by kernel_rfl) (by kernel_rfl) rfl rfl (by simp [Try.ntmps71])
  · refine entry_imp (x := .term zeroT) ?_ (term_tok' (show namedT f s = zeroT by simp [namedT, hb]))
    exact entry_facts (E := E) [.slen 1 0, .rel .lt (.lit 100) (.tok 0) true] ⟨rfl, by show decide (100 < (s.size : Int)) = true; simp; omega, trivial⟩ noCalls_ok [.stok 0, .stok 1] Try.func71 rfl (fun _ _ => by kernel_rfl) (by kernel_rfl) rfl rfl (by simp [Try.ntmps71])

theorem pRepresentation_entry (s : ByteArray) (hs : s.size ≤ 140737488351232) : @Entry { T := fun _ => namedT sRep s, S := fun _ => s } 33 [.stok 0] (.tok 0) := by
  letI E : Env := { T := fun _ => namedT sRep s, S := fun _ => s }
  exact entry_code (tbl_ok (T := [(71, [.val (.string sRep), .stok 0], .tok 0)]) ⟨entry_move (named_entry sRep s (by decide) hs) ⟨str_tok rfl, idd, trivial⟩ (ide (tok_eq rfl)), trivial⟩) [.stok 0] Try.func33 rfl (fun _ _ => by kernel_rfl) (by kernel_rfl) (by kernel_rfl) rfl rfl (by simp [Try.ntmps33])

theorem rRepresentation_entry (s : ByteArray) (hs : s.size ≤ 140737488351232) : @Entry { T := fun k => match k with | 0 => ballR (.mk 3 0 sRep [atomR s]) | 1 => atomR s | _ => .mk 3 0 sRep [atomR s], S := fun _ => s } 42 [.stok 0] (.tok 0) := by
  letI E : Env := { T := fun k => match k with | 0 => ballR (.mk 3 0 sRep [atomR s]) | 1 => atomR s | _ => .mk 3 0 sRep [atomR s], S := fun _ => s }
  exact entry_code (tbl_ok (T := [(74, [.stok 0], .tok 1), (76, [.val (.string sRep), .toks [1]], .tok 2), (73, [.tok 2], .tok 0)]) ⟨ent_ratom (fun _ _ _ h => h) hs rfl, ent_rstruct (s := sRep) (fun _ _ _ h => h) toks_at (by decide) rfl, ent_ball rfl, trivial⟩) [.stok 0] Try.func42 rfl (fun _ _ => by kernel_rfl) (by kernel_rfl) (by kernel_rfl) rfl rfl (by simp [Try.ntmps42])

theorem pEvaluation_entry (s : ByteArray) (hs : s.size ≤ 140737488351232) : @Entry { T := fun _ => namedT sEval s, S := fun _ => s } 34 [.stok 0] (.tok 0) := by
  letI E : Env := { T := fun _ => namedT sEval s, S := fun _ => s }
  exact entry_code (tbl_ok (T := [(71, [.val (.string sEval), .stok 0], .tok 0)]) ⟨entry_move (named_entry sEval s (by decide) hs) ⟨str_tok rfl, idd, trivial⟩ (ide (tok_eq rfl)), trivial⟩) [.stok 0] Try.func34 rfl (fun _ _ => by kernel_rfl) (by kernel_rfl) (by kernel_rfl) rfl rfl (by simp [Try.ntmps34])

theorem rEvaluation_entry (s : ByteArray) (hs : s.size ≤ 140737488351232) : @Entry { T := fun k => match k with | 0 => ballR (.mk 3 0 sEval [atomR s]) | 1 => atomR s | _ => .mk 3 0 sEval [atomR s], S := fun _ => s } 43 [.stok 0] (.tok 0) := by
  letI E : Env := { T := fun k => match k with | 0 => ballR (.mk 3 0 sEval [atomR s]) | 1 => atomR s | _ => .mk 3 0 sEval [atomR s], S := fun _ => s }
  exact entry_code (tbl_ok (T := [(74, [.stok 0], .tok 1), (76, [.val (.string sEval), .toks [1]], .tok 2), (73, [.tok 2], .tok 0)]) ⟨ent_ratom (fun _ _ _ h => h) hs rfl, ent_rstruct (s := sEval) (fun _ _ _ h => h) toks_at (by decide) rfl, ent_ball rfl, trivial⟩) [.stok 0] Try.func43 rfl (fun _ _ => by kernel_rfl) (by kernel_rfl) (by kernel_rfl) rfl rfl (by simp [Try.ntmps43])

def instT : Tm := raiseT sInst []
theorem inst_entry : @Entry { T := fun _ => instT } 32 [] (.tok 0) := by
  letI E : Env := { T := fun _ => instT }
  have hy : ∀ p w v, (Ab.val (.slice none 0 0)).pd p w v → RowAt [] p w v := fun p w v h => by
    obtain rfl : v = .slice none 0 0 := h
    exact ⟨none, 0, rfl, by simp, by simp, by unfold maxLen; omega, by unfold ArgsIn; trivial⟩
  exact entry_code (tbl_ok (T := [(70, [.val (.string sInst), .val (.slice none 0 0)], .tok 0)]) ⟨ent_raise (s := sInst) (fun _ _ _ h => h) hy (by decide) rfl, trivial⟩) [] Try.func32 rfl (fun _ _ => by kernel_rfl) (by kernel_rfl) (by kernel_rfl) rfl rfl (by simp)

theorem rinst_entry : @Entry { T := fun k => match k with | 0 => ballR (atomR sInst) | _ => atomR sInst } 36 [] (.tok 0) := by
  letI E : Env := { T := fun k => match k with | 0 => ballR (atomR sInst) | _ => atomR sInst }
  exact entry_code (tbl_ok (T := [(74, [.val (.string sInst)], .tok 1), (73, [.tok 1], .tok 0)]) ⟨ent_ratom (s := sInst) (fun _ _ _ h => h) (by decide) rfl, ent_ball rfl, trivial⟩) [] Try.func36 rfl (fun _ _ => by kernel_rfl) (by kernel_rfl) (by kernel_rfl) rfl rfl (by simp)

def syntaxT (n : Int) : Tm := if n < 0 then zeroT else raiseT sSyntax [intT n]
theorem syntax_entry (n : Int) (hn : wf64 n) : @Entry { T := fun k => match k with | 0 => syntaxT n | _ => intT n, I := fun _ => n } 35 [.vtok 0] (.tok 0) := by
  letI E : Env := { T := fun k => match k with | 0 => syntaxT n | _ => intT n, I := fun _ => n }
  by_cases hb : n < 0
  · refine entry_imp (x := .term zeroT) ?_ (term_tok' (show syntaxT n = zeroT by simp [syntaxT, hb]))
    exact entry_facts (E := E) [.rel .lt (.tok 0) (.lit 0) true] ⟨by show decide (n < 0) = true; simpa using hb, trivial⟩ noCalls_ok [.vtok 0] Try.func35 rfl (fun _ _ => by kernel_rfl) (by kernel_rfl) rfl rfl (by simp [Try.ntmps35])
  · exact entry_facts (E := E) [.rel .lt (.tok 0) (.lit 0) false] ⟨by show decide (n < 0) = false; simpa using hb, trivial⟩ (tbl_ok (T := [(72, [.vtok 0], .tok 1), (70, [.val (.string sSyntax), .toks [1]], .tok 0)])
      ⟨ent_int (fun _ _ _ h => h) hn rfl, ent_raise (s := sSyntax) (fun _ _ _ h => h) toks_at (by decide) (by show syntaxT n = raiseT sSyntax [intT n]; simp [syntaxT, hb]), trivial⟩) [.vtok 0] Try.func35 rfl (fun _ _ => by kernel_rfl) (by kernel_rfl) rfl rfl (by simp [Try.ntmps35])

/-! ### Formal -/
def formalB (t : Tm) : Bool := validT t && ((t.kind == 3) && (decide (t.name = sError) && ((t.args.length : Int) == 2)))
def formalT (t : Tm) : Tm := if formalB t then t.args.getD 0 zeroT else zeroT

abbrev EnvFo (t : Tm) : Env :=
  { T := fun k => match k with | 0 => t | 1 => t.args.getD 0 zeroT | _ => formalT t
    I := fun k => match k with | 0 => t.kind | 1 => t.num | _ => (t.args.length : Int)
    S := fun _ => t.name
    R := fun _ => t.args }

theorem pFormal_entry (t : Tm) : @Entry (EnvFo t) 12 [.tok 0] (.pair (.tok 2) (.val (.bool (formalB t)))) := by
  letI E : Env := EnvFo t
  have no : ∀ a b c d, validT t = a → (t.kind == 3) = b → decide (t.name = sError) = c → ((t.args.length : Int) == 2) = d → (a && (b && (c && d))) = false → @Entry E 12 [.tok 0] (.pair (.term zeroT) (.val (.bool false))) := by
    intro a b c d ha hb hc hd hcase
    have ents : @Entries E [(61, [.tok 0], .val (.bool a))] := ⟨ent_valid ha, trivial⟩
    cases a <;> cases b <;> cases c <;> cases d <;> first
      | exact absurd hcase (by decide)
      | exact entry_facts (E := E) [.tm 0 0 1 0 0, .rel .eq (.tok 0) (.lit 3) _, .seq (.tok 0) (.lit sError) _, .rlen 0 2, .rel .eq (.tok 2) (.lit 2) _] ⟨⟨rfl, rfl, rfl, rfl⟩, hb, hc, rfl, hd, trivial⟩ (tbl_ok ents) [.tok 0] Try.func12 rfl (fun _ _ => by kernel_rfl) (by kernel_rfl) rfl rfl (by simp [Try.ntmps12])
  cases hB : formalB t with
  | false => exact entry_imp (no _ _ _ _ rfl rfl rfl rfl hB) (pair_imp (term_tok' (show formalT t = zeroT by simp [formalT, hB])) idd)
  | true =>
    have hB0 := hB
    simp only [formalB, Bool.and_eq_true] at hB
    obtain ⟨hv, hk, hn, hl⟩ := hB
    have hl2 : t.args.length = 2 := by simp at hl; omega
    have hg : t.args.getD 0 zeroT = t.args[0] := by rw [List.getD_eq_getElem?_getD, List.getElem?_eq_getElem (by omega)]; rfl
    have hv0 : validT (t.args.getD 0 zeroT) = true := by rw [hg]; exact valid_args hv _
    have e1 : @Entry E 61 [.tok 0] (.val (.bool true)) := ent_valid hv
    refine entry_imp (x := .pair (.tok 1) (.val (.bool true))) ?_ (pair_imp (ide (tok_eq (show t.args.getD 0 zeroT = formalT t by simp [formalT, hB0]))) idd)
    exact entry_facts (E := E) [.tm 0 0 1 0 0, .rel .eq (.tok 0) (.lit 3) true, .seq (.tok 0) (.lit sError) true, .rlen 0 2, .rel .eq (.tok 2) (.lit 2) true, .rget 0 (.lit 0) 1] ⟨⟨rfl, rfl, rfl, rfl⟩, hk, hn, rfl, hl, ⟨by show (0 : Int) ≤ 0; omega, by show t.args[(0 : Int).toNat]? = some (t.args.getD 0 zeroT); rw [hg]; exact List.getElem?_eq_getElem (by omega)⟩, trivial⟩
      (tbl_ok (T := [(61, [.tok 0], .val (.bool true)), (62, [.tok 1], .tok 1)]) ⟨e1, ent_tt (fun _ _ => by kernel_rfl) fun w y h => by { have hc : t.args.getD 0 zeroT = cloneT (t.args.getD 0 zeroT) := by { simp only [cloneT, hv0, if_true] }; show Calls _ _ _ _ fun e w' => ∃ u, e = .returned u ∧ TmNew w' w.heap.size (t.args.getD 0 zeroT) u ∧ But Nil w w'; rw [hc]; exact clone_any (t.args.getD 0 zeroT) w y h }, trivial⟩) [.tok 0] Try.func12 rfl (fun _ _ => by kernel_rfl) (by kernel_rfl) rfl rfl (by simp [Try.ntmps12])

theorem rFormal_entry (t : Tm) : @Entry (EnvFo t) 13 [.tok 0] (.pair (.tok 2) (.val (.bool (formalB t)))) := by
  letI E : Env := EnvFo t
  have no : ∀ a b c d, validT t = a → (t.kind == 3) = b → decide (t.name = sError) = c → ((t.args.length : Int) == 2) = d → (a && (b && (c && d))) = false → @Entry E 13 [.tok 0] (.pair (.term zeroT) (.val (.bool false))) := by
    intro a b c d ha hb hc hd hcase
    have ents : @Entries E [(23, [.tok 0], .val (.bool a))] := ⟨ent_rvalid ha, trivial⟩
    cases a <;> cases b <;> cases c <;> cases d <;> first
      | exact absurd hcase (by decide)
      | exact entry_facts (E := E) [.tm 0 0 1 0 0, .rel .eq (.tok 0) (.lit 3) _, .seq (.tok 0) (.lit sError) _, .rlen 0 2, .rel .eq (.tok 2) (.lit 2) _] ⟨⟨rfl, rfl, rfl, rfl⟩, hb, hc, rfl, hd, trivial⟩ (tbl_ok ents) [.tok 0] Try.func13 rfl (fun _ _ => by kernel_rfl) (by kernel_rfl) rfl rfl (by simp [Try.ntmps13])
  cases hB : formalB t with
  | false => exact entry_imp (no _ _ _ _ rfl rfl rfl rfl hB) (pair_imp (term_tok' (show formalT t = zeroT by simp [formalT, hB])) idd)
  | true =>
    have hB0 := hB
    simp only [formalB, Bool.and_eq_true] at hB
    obtain ⟨hv, hk, hn, hl⟩ := hB
    have hl2 : t.args.length = 2 := by simp at hl; omega
    have hg : t.args.getD 0 zeroT = t.args[0] := by rw [List.getD_eq_getElem?_getD, List.getElem?_eq_getElem (by omega)]; rfl
    have hv0 : validT (t.args.getD 0 zeroT) = true := by rw [hg]; exact valid_args hv _
    have e1 : @Entry E 23 [.tok 0] (.val (.bool true)) := ent_rvalid hv
    refine entry_imp (x := .pair (.tok 1) (.val (.bool true))) ?_ (pair_imp (ide (tok_eq (show t.args.getD 0 zeroT = formalT t by simp [formalT, hB0]))) idd)
    exact entry_facts (E := E) [.tm 0 0 1 0 0, .rel .eq (.tok 0) (.lit 3) true, .seq (.tok 0) (.lit sError) true, .rlen 0 2, .rel .eq (.tok 2) (.lit 2) true, .rget 0 (.lit 0) 1] ⟨⟨rfl, rfl, rfl, rfl⟩, hk, hn, rfl, hl, ⟨by show (0 : Int) ≤ 0; omega, by show t.args[(0 : Int).toNat]? = some (t.args.getD 0 zeroT); rw [hg]; exact List.getElem?_eq_getElem (by omega)⟩, trivial⟩
      (tbl_ok (T := [(23, [.tok 0], .val (.bool true))]) ⟨e1, trivial⟩) [.tok 0] Try.func13 rfl (fun _ _ => by kernel_rfl) (by kernel_rfl) rfl rfl (by simp [Try.ntmps13])

end Go.Proofs.Ytloekfnlidclcaa

namespace Go.Proofs.Ytloekfnlidclcaa
open Go.RowKit
set_option linter.unusedVariables false

theorem inst_eq : instT = ballR (atomR sInst) := by
  have h : validT (.mk 3 0 sError [atomR sInst, atomR sNil]) = true := by
    rw [ball_valid_iff]
    exact ⟨by simp [nodesT, nodesL], by simp [fitsT, fitsL, nodeB, sInst, ByteArray.size]⟩
  unfold instT raiseT ballR
  have e1 : structT sInst [] = atomR sInst := by
    show atomT sInst = atomR sInst
    exact atomT_eq (by decide)
  rw [e1, atomT_eq (by decide), struct_eq h (by simp)]
  simp [cloneT, h]

theorem type_eq (n : ByteArray) (c : Tm) : withR sType [n] c = aboutT sType [n] c := (about_with (by decide) (by simp)).symm

/-- What bound says. -/
def boundT (t : Tm) : Tm := if validT t && (t.kind == 0) then instT else zeroT
def boundB (t : Tm) : Bool := validT t && !(t.kind == 0)

abbrev EnvBd (t : Tm) : Env :=
  { T := fun k => match k with | 0 => t | 1 => instT | _ => boundT t
    I := fun k => match k with | 0 => t.kind | 1 => t.num | _ => (t.args.length : Int)
    S := fun _ => t.name
    R := fun _ => t.args }

theorem bound_entry (t : Tm) : @Entry (EnvBd t) 67 [.tok 0] (.pair (.tok 2) (.val (.bool (boundB t)))) := by
  letI E : Env := EnvBd t
  have ei : @Entry E 32 [] (.tok 1) := entry_move inst_entry trivial (ide (tok_eq rfl))
  cases hv : validT t with
  | false =>
    have h1 : boundB t = false := by simp [boundB, hv]
    rw [h1]
    refine entry_imp (x := .pair (.term zeroT) (.val (.bool false))) ?_ (pair_imp (term_tok' (show boundT t = zeroT by simp [boundT, hv])) idd)
    exact entry_facts (E := E) [] trivial (tbl_ok (T := [(61, [.tok 0], .val (.bool false))]) ⟨ent_valid hv, trivial⟩) [.tok 0] Try.func67 rfl (fun _ _ => by kernel_rfl) (by kernel_rfl) rfl rfl (by simp [Try.ntmps67])
  | true =>
    cases hk : (t.kind == 0) with
    | true =>
      have h1 : boundB t = false := by simp [boundB, hv, hk]
      rw [h1]
      refine entry_imp (x := .pair (.tok 1) (.val (.bool false))) ?_ (pair_imp (ide (tok_eq (show instT = boundT t by simp [boundT, hv, hk]))) idd)
      exact entry_facts (E := E) [.tm 0 0 1 0 0, .rel .eq (.tok 0) (.lit 0) true] ⟨⟨rfl, rfl, rfl, rfl⟩, hk, trivial⟩ (tbl_ok (T := [(61, [.tok 0], .val (.bool true)), (32, [], .tok 1)]) ⟨ent_valid hv, ei, trivial⟩) [.tok 0] Try.func67 rfl (fun _ _ => by kernel_rfl) (by kernel_rfl) rfl rfl (by simp [Try.ntmps67])
    | false =>
      have h1 : boundB t = true := by simp [boundB, hv, hk]
      rw [h1]
      refine entry_imp (x := .pair (.term zeroT) (.val (.bool true))) ?_ (pair_imp (term_tok' (show boundT t = zeroT by simp [boundT, hv, hk])) idd)
      exact entry_facts (E := E) [.tm 0 0 1 0 0, .rel .eq (.tok 0) (.lit 0) false] ⟨⟨rfl, rfl, rfl, rfl⟩, hk, trivial⟩ (tbl_ok (T := [(61, [.tok 0], .val (.bool true))]) ⟨ent_valid hv, trivial⟩) [.tok 0] Try.func67 rfl (fun _ _ => by kernel_rfl) (by kernel_rfl) rfl rfl (by simp [Try.ntmps67])

end Go.Proofs.Ytloekfnlidclcaa

namespace Go.Proofs.Ytloekfnlidclcaa
open Go.RowKit
set_option linter.unusedVariables false

theorem tup3_imp {E E' : Env} {x y z x' y' z' : Ab} (h1 : ∀ p w v, @Ab.pd E x p w v → @Ab.pd E' x' p w v) (h2 : ∀ p w v, @Ab.pd E y p w v → @Ab.pd E' y' p w v) (h3 : ∀ p w v, @Ab.pd E z p w v → @Ab.pd E' z' p w v) :
    ∀ p w v, @Ab.pd E (.tup3 x y z) p w v → @Ab.pd E' (.tup3 x' y' z') p w v := fun p w v ⟨a, b, c, e, ha, hb, hc⟩ => ⟨a, b, c, e, h1 _ _ _ ha, h2 _ _ _ hb, h3 _ _ _ hc⟩
theorem int_tok {E E' : Env} {n : Int} {k : Nat} (h : E'.I k = n) : ∀ p w v, @Ab.pd E (.val (.int .i64 n)) p w v → @Ab.pd E' (.vtok k) p w v := fun p w v hv => by
  obtain rfl : v = .int .i64 n := hv
  show Value.int .i64 n = .int .i64 (E'.I k)
  rw [h]
theorem vtok_eq {E E' : Env} {k m : Nat} (h : E.I k = E'.I m) : ∀ p w v, @Ab.pd E (.vtok k) p w v → @Ab.pd E' (.vtok m) p w v := fun p w v hv => by
  obtain rfl : v = .int .i64 (E.I k) := hv
  show Value.int .i64 (E.I k) = .int .i64 (E'.I m)
  rw [h]
theorem stok_eq {E E' : Env} {k m : Nat} (h : E.S k = E'.S m) : ∀ p w v, @Ab.pd E (.stok k) p w v → @Ab.pd E' (.stok m) p w v := fun p w v hv => by
  obtain rfl : v = .string (E.S k) := hv
  show Value.string (E.S k) = .string (E'.S m)
  rw [h]

/-- What a check says: bad: whether the kind is wrong. -/
def checkT (bad : Bool) (ty : ByteArray) (t : Tm) : Tm := if validT t then if t.kind == 0 then instT else if bad then aboutT sType [ty] t else zeroT else zeroT
def checkB (bad : Bool) (t : Tm) : Bool := validT t && (!(t.kind == 0) && !bad)
def sAtom : ByteArray := ⟨#[97, 116, 111, 109]⟩
def sInteger : ByteArray := ⟨#[105, 110, 116, 101, 103, 101, 114]⟩
def sCallable : ByteArray := ⟨#[99, 97, 108, 108, 97, 98, 108, 101]⟩
def sAtomic : ByteArray := ⟨#[97, 116, 111, 109, 105, 99]⟩

def badAtom (t : Tm) : Bool := !(t.kind == 2)
def strAtom (t : Tm) : ByteArray := if checkB (badAtom t) t then t.name else ⟨#[]⟩
abbrev EnvAtom (t : Tm) : Env :=
  { T := fun k => match k with | 0 => t | 2 => checkT (badAtom t) sAtom t | 3 => instT | _ => aboutT sType [sAtom] t
    I := fun k => match k with | 0 => t.kind | 1 => t.num | _ => (t.args.length : Int)
    S := fun k => match k with | 0 => t.name | _ => strAtom t
    R := fun _ => t.args }

theorem pAtom_entry (t : Tm) : @Entry (EnvAtom t) 53 [.tok 0] (.tup3 (.stok 1) (.tok 2) (.val (.bool (checkB (badAtom t) t)))) := by
  letI E : Env := EnvAtom t
  have ety : @Entry E 25 [.val (.string sAtom), .tok 0] (.tok 4) := entry_move (pType_entry t sAtom (by decide)) ⟨str_tok rfl, idd, trivial⟩ (ide (tok_eq rfl))
  cases hv : validT t with
  | false =>
    have hB : checkB (badAtom t) t = false := by simp [checkB, hv]
    rw [hB]
    refine entry_imp (x := .tup3 (.val (.string ⟨#[]⟩)) (.term zeroT) (.val (.bool false))) ?_ (tup3_imp (str_tok (show strAtom t = ⟨#[]⟩ by simp [strAtom, hB])) (term_tok' (show checkT (badAtom t) sAtom t = zeroT by simp [checkT, hv])) idd)
    exact entry_facts (E := E) [] trivial (tbl_ok (T := [(67, [.tok 0], .pair (.term zeroT) (.val (.bool false)))]) ⟨entry_move (bound_entry t) ⟨idd, trivial⟩ (by rw [show boundB t = false by simp [boundB, hv]]; exact pair_imp (ide (term_tok (E := E) (show boundT t = zeroT by simp [boundT, hv])).symm) idd), trivial⟩) [.tok 0] Try.func53 rfl (fun _ _ => by kernel_rfl) (by kernel_rfl) rfl rfl (by simp [Try.ntmps53])
  | true =>
    cases hk : (t.kind == 0) with
    | true =>
      have hB : checkB (badAtom t) t = false := by simp [checkB, hv, hk]
      rw [hB]
      refine entry_imp (x := .tup3 (.val (.string ⟨#[]⟩)) (.tok 3) (.val (.bool false))) ?_ (tup3_imp (str_tok (show strAtom t = ⟨#[]⟩ by simp [strAtom, hB])) (ide (tok_eq (show instT = checkT (badAtom t) sAtom t by simp [checkT, hv, hk]))) idd)
      exact entry_facts (E := E) [] trivial (tbl_ok (T := [(67, [.tok 0], .pair (.tok 3) (.val (.bool false)))]) ⟨entry_move (bound_entry t) ⟨idd, trivial⟩ (by rw [show boundB t = false by simp [boundB, hv, hk]]; exact pair_imp (ide (tok_eq (show boundT t = instT by simp [boundT, hv, hk]))) idd), trivial⟩) [.tok 0] Try.func53 rfl (fun _ _ => by kernel_rfl) (by kernel_rfl) rfl rfl (by simp [Try.ntmps53])
    | false =>
      cases hq : (t.kind == 2) with
      | true =>
        have hB : checkB (badAtom t) t = true := by simp [checkB, badAtom, hv, hk, hq]
        rw [hB]
        refine entry_imp (x := .tup3 (.stok 0) (.term zeroT) (.val (.bool true))) ?_ (tup3_imp (stok_eq (show t.name = strAtom t by simp [strAtom, hB])) (term_tok' (show checkT (badAtom t) sAtom t = zeroT by simp [checkT, badAtom, hv, hk, hq])) idd)
        exact entry_facts (E := E) [.tm 0 0 1 0 0, .rel .eq (.tok 0) (.lit 0) false, .rel .eq (.tok 0) (.lit 2) true] ⟨⟨rfl, rfl, rfl, rfl⟩, hk, hq, trivial⟩ (tbl_ok (T := [(67, [.tok 0], .pair (.term zeroT) (.val (.bool true)))]) ⟨entry_move (bound_entry t) ⟨idd, trivial⟩ (by rw [show boundB t = true by simp [boundB, hv, hk]]; exact pair_imp (ide (term_tok (E := E) (show boundT t = zeroT by simp [boundT, hv, hk])).symm) idd), trivial⟩) [.tok 0] Try.func53 rfl (fun _ _ => by kernel_rfl) (by kernel_rfl) rfl rfl (by simp [Try.ntmps53])
      | false =>
        have hB : checkB (badAtom t) t = false := by simp [checkB, badAtom, hv, hk, hq]
        rw [hB]
        refine entry_imp (x := .tup3 (.val (.string ⟨#[]⟩)) (.tok 4) (.val (.bool false))) ?_ (tup3_imp (str_tok (show strAtom t = ⟨#[]⟩ by simp [strAtom, hB])) (ide (tok_eq (show aboutT sType [sAtom] t = checkT (badAtom t) sAtom t by simp [checkT, badAtom, hv, hk, hq]))) idd)
        exact entry_facts (E := E) [.tm 0 0 1 0 0, .rel .eq (.tok 0) (.lit 0) false, .rel .eq (.tok 0) (.lit 2) false] ⟨⟨rfl, rfl, rfl, rfl⟩, hk, hq, trivial⟩ (tbl_ok (T := [(67, [.tok 0], .pair (.term zeroT) (.val (.bool true))), (25, [.val (.string sAtom), .tok 0], .tok 4)]) ⟨entry_move (bound_entry t) ⟨idd, trivial⟩ (by rw [show boundB t = true by simp [boundB, hv, hk]]; exact pair_imp (ide (term_tok (E := E) (show boundT t = zeroT by simp [boundT, hv, hk])).symm) idd), ety, trivial⟩) [.tok 0] Try.func53 rfl (fun _ _ => by kernel_rfl) (by kernel_rfl) rfl rfl (by simp [Try.ntmps53])

theorem rAtom_entry (t : Tm) : @Entry (EnvAtom t) 54 [.tok 0] (.tup3 (.stok 1) (.tok 2) (.val (.bool (checkB (badAtom t) t)))) := by
  letI E : Env := EnvAtom t
  have ety : @Entry E 38 [.val (.string sAtom), .tok 0] (.tok 4) := entry_move (rType_entry t sAtom (by decide)) ⟨str_tok rfl, idd, trivial⟩ (ide (tok_eq (type_eq sAtom t)))
  have ein : @Entry E 36 [] (.tok 3) := entry_move rinst_entry trivial (ide (tok_eq inst_eq.symm))
  cases hv : validT t with
  | false =>
    have hB : checkB (badAtom t) t = false := by simp [checkB, hv]
    rw [hB]
    refine entry_imp (x := .tup3 (.val (.string ⟨#[]⟩)) (.term zeroT) (.val (.bool false))) ?_ (tup3_imp (str_tok (show strAtom t = ⟨#[]⟩ by simp [strAtom, hB])) (term_tok' (show checkT (badAtom t) sAtom t = zeroT by simp [checkT, hv])) idd)
    exact entry_facts (E := E) [] trivial (tbl_ok (T := [(23, [.tok 0], .val (.bool false))]) ⟨ent_rvalid hv, trivial⟩) [.tok 0] Try.func54 rfl (fun _ _ => by kernel_rfl) (by kernel_rfl) rfl rfl (by simp [Try.ntmps54])
  | true =>
    cases hk : (t.kind == 0) with
    | true =>
      have hB : checkB (badAtom t) t = false := by simp [checkB, hv, hk]
      rw [hB]
      refine entry_imp (x := .tup3 (.val (.string ⟨#[]⟩)) (.tok 3) (.val (.bool false))) ?_ (tup3_imp (str_tok (show strAtom t = ⟨#[]⟩ by simp [strAtom, hB])) (ide (tok_eq (show instT = checkT (badAtom t) sAtom t by simp [checkT, hv, hk]))) idd)
      exact entry_facts (E := E) [.tm 0 0 1 0 0, .rel .eq (.tok 0) (.lit 0) true] ⟨⟨rfl, rfl, rfl, rfl⟩, hk, trivial⟩ (tbl_ok (T := [(23, [.tok 0], .val (.bool true)), (36, [], .tok 3)]) ⟨ent_rvalid hv, ein, trivial⟩) [.tok 0] Try.func54 rfl (fun _ _ => by kernel_rfl) (by kernel_rfl) rfl rfl (by simp [Try.ntmps54])
    | false =>
      cases hq : (t.kind == 2) with
      | true =>
        have hB : checkB (badAtom t) t = true := by simp [checkB, badAtom, hv, hk, hq]
        rw [hB]
        refine entry_imp (x := .tup3 (.stok 0) (.term zeroT) (.val (.bool true))) ?_ (tup3_imp (stok_eq (show t.name = strAtom t by simp [strAtom, hB])) (term_tok' (show checkT (badAtom t) sAtom t = zeroT by simp [checkT, badAtom, hv, hk, hq])) idd)
        exact entry_facts (E := E) [.tm 0 0 1 0 0, .rel .eq (.tok 0) (.lit 0) false, .rel .eq (.tok 0) (.lit 2) true] ⟨⟨rfl, rfl, rfl, rfl⟩, hk, hq, trivial⟩ (tbl_ok (T := [(23, [.tok 0], .val (.bool true))]) ⟨ent_rvalid hv, trivial⟩) [.tok 0] Try.func54 rfl (fun _ _ => by kernel_rfl) (by kernel_rfl) rfl rfl (by simp [Try.ntmps54])
      | false =>
        have hB : checkB (badAtom t) t = false := by simp [checkB, badAtom, hv, hk, hq]
        rw [hB]
        refine entry_imp (x := .tup3 (.val (.string ⟨#[]⟩)) (.tok 4) (.val (.bool false))) ?_ (tup3_imp (str_tok (show strAtom t = ⟨#[]⟩ by simp [strAtom, hB])) (ide (tok_eq (show aboutT sType [sAtom] t = checkT (badAtom t) sAtom t by simp [checkT, badAtom, hv, hk, hq]))) idd)
        exact entry_facts (E := E) [.tm 0 0 1 0 0, .rel .eq (.tok 0) (.lit 0) false, .rel .eq (.tok 0) (.lit 2) false] ⟨⟨rfl, rfl, rfl, rfl⟩, hk, hq, trivial⟩ (tbl_ok (T := [(23, [.tok 0], .val (.bool true)), (38, [.val (.string sAtom), .tok 0], .tok 4)]) ⟨ent_rvalid hv, ety, trivial⟩) [.tok 0] Try.func54 rfl (fun _ _ => by kernel_rfl) (by kernel_rfl) rfl rfl (by simp [Try.ntmps54])

def badInt (t : Tm) : Bool := !(t.kind == 1)
def numInt (t : Tm) : Int := if checkB (badInt t) t then t.num else 0
abbrev EnvInt (t : Tm) : Env :=
  { T := fun k => match k with | 0 => t | 2 => checkT (badInt t) sInteger t | 3 => instT | _ => aboutT sType [sInteger] t
    I := fun k => match k with | 0 => t.kind | 1 => t.num | 2 => (t.args.length : Int) | _ => numInt t
    S := fun _ => t.name
    R := fun _ => t.args }

theorem pInt_entry (t : Tm) : @Entry (EnvInt t) 55 [.tok 0] (.tup3 (.vtok 3) (.tok 2) (.val (.bool (checkB (badInt t) t)))) := by
  letI E : Env := EnvInt t
  have ety : @Entry E 25 [.val (.string sInteger), .tok 0] (.tok 4) := entry_move (pType_entry t sInteger (by decide)) ⟨str_tok rfl, idd, trivial⟩ (ide (tok_eq rfl))
  cases hv : validT t with
  | false =>
    have hB : checkB (badInt t) t = false := by simp [checkB, hv]
    rw [hB]
    refine entry_imp (x := .tup3 (.val (.int .i64 0)) (.term zeroT) (.val (.bool false))) ?_ (tup3_imp (int_tok (show numInt t = 0 by simp [numInt, hB])) (term_tok' (show checkT (badInt t) sInteger t = zeroT by simp [checkT, hv])) idd)
    exact entry_facts (E := E) [] trivial (tbl_ok (T := [(67, [.tok 0], .pair (.term zeroT) (.val (.bool false)))]) ⟨entry_move (bound_entry t) ⟨idd, trivial⟩ (by rw [show boundB t = false by simp [boundB, hv]]; exact pair_imp (ide (term_tok (E := E) (show boundT t = zeroT by simp [boundT, hv])).symm) idd), trivial⟩) [.tok 0] Try.func55 rfl (fun _ _ => by kernel_rfl) (by kernel_rfl) rfl rfl (by simp [Try.ntmps55])
  | true =>
    cases hk : (t.kind == 0) with
    | true =>
      have hB : checkB (badInt t) t = false := by simp [checkB, hv, hk]
      rw [hB]
      refine entry_imp (x := .tup3 (.val (.int .i64 0)) (.tok 3) (.val (.bool false))) ?_ (tup3_imp (int_tok (show numInt t = 0 by simp [numInt, hB])) (ide (tok_eq (show instT = checkT (badInt t) sInteger t by simp [checkT, hv, hk]))) idd)
      exact entry_facts (E := E) [] trivial (tbl_ok (T := [(67, [.tok 0], .pair (.tok 3) (.val (.bool false)))]) ⟨entry_move (bound_entry t) ⟨idd, trivial⟩ (by rw [show boundB t = false by simp [boundB, hv, hk]]; exact pair_imp (ide (tok_eq (show boundT t = instT by simp [boundT, hv, hk]))) idd), trivial⟩) [.tok 0] Try.func55 rfl (fun _ _ => by kernel_rfl) (by kernel_rfl) rfl rfl (by simp [Try.ntmps55])
    | false =>
      cases hq : (t.kind == 1) with
      | true =>
        have hB : checkB (badInt t) t = true := by simp [checkB, badInt, hv, hk, hq]
        rw [hB]
        refine entry_imp (x := .tup3 (.vtok 1) (.term zeroT) (.val (.bool true))) ?_ (tup3_imp (vtok_eq (show t.num = numInt t by simp [numInt, hB])) (term_tok' (show checkT (badInt t) sInteger t = zeroT by simp [checkT, badInt, hv, hk, hq])) idd)
        exact entry_facts (E := E) [.tm 0 0 1 0 0, .rel .eq (.tok 0) (.lit 0) false, .rel .eq (.tok 0) (.lit 1) true] ⟨⟨rfl, rfl, rfl, rfl⟩, hk, hq, trivial⟩ (tbl_ok (T := [(67, [.tok 0], .pair (.term zeroT) (.val (.bool true)))]) ⟨entry_move (bound_entry t) ⟨idd, trivial⟩ (by rw [show boundB t = true by simp [boundB, hv, hk]]; exact pair_imp (ide (term_tok (E := E) (show boundT t = zeroT by simp [boundT, hv, hk])).symm) idd), trivial⟩) [.tok 0] Try.func55 rfl (fun _ _ => by kernel_rfl) (by kernel_rfl) rfl rfl (by simp [Try.ntmps55])
      | false =>
        have hB : checkB (badInt t) t = false := by simp [checkB, badInt, hv, hk, hq]
        rw [hB]
        refine entry_imp (x := .tup3 (.val (.int .i64 0)) (.tok 4) (.val (.bool false))) ?_ (tup3_imp (int_tok (show numInt t = 0 by simp [numInt, hB])) (ide (tok_eq (show aboutT sType [sInteger] t = checkT (badInt t) sInteger t by simp [checkT, badInt, hv, hk, hq]))) idd)
        exact entry_facts (E := E) [.tm 0 0 1 0 0, .rel .eq (.tok 0) (.lit 0) false, .rel .eq (.tok 0) (.lit 1) false] ⟨⟨rfl, rfl, rfl, rfl⟩, hk, hq, trivial⟩ (tbl_ok (T := [(67, [.tok 0], .pair (.term zeroT) (.val (.bool true))), (25, [.val (.string sInteger), .tok 0], .tok 4)]) ⟨entry_move (bound_entry t) ⟨idd, trivial⟩ (by rw [show boundB t = true by simp [boundB, hv, hk]]; exact pair_imp (ide (term_tok (E := E) (show boundT t = zeroT by simp [boundT, hv, hk])).symm) idd), ety, trivial⟩) [.tok 0] Try.func55 rfl (fun _ _ => by kernel_rfl) (by kernel_rfl) rfl rfl (by simp [Try.ntmps55])

theorem rInt_entry (t : Tm) : @Entry (EnvInt t) 56 [.tok 0] (.tup3 (.vtok 3) (.tok 2) (.val (.bool (checkB (badInt t) t)))) := by
  letI E : Env := EnvInt t
  have ety : @Entry E 38 [.val (.string sInteger), .tok 0] (.tok 4) := entry_move (rType_entry t sInteger (by decide)) ⟨str_tok rfl, idd, trivial⟩ (ide (tok_eq (type_eq sInteger t)))
  have ein : @Entry E 36 [] (.tok 3) := entry_move rinst_entry trivial (ide (tok_eq inst_eq.symm))
  cases hv : validT t with
  | false =>
    have hB : checkB (badInt t) t = false := by simp [checkB, hv]
    rw [hB]
    refine entry_imp (x := .tup3 (.val (.int .i64 0)) (.term zeroT) (.val (.bool false))) ?_ (tup3_imp (int_tok (show numInt t = 0 by simp [numInt, hB])) (term_tok' (show checkT (badInt t) sInteger t = zeroT by simp [checkT, hv])) idd)
    exact entry_facts (E := E) [] trivial (tbl_ok (T := [(23, [.tok 0], .val (.bool false))]) ⟨ent_rvalid hv, trivial⟩) [.tok 0] Try.func56 rfl (fun _ _ => by kernel_rfl) (by kernel_rfl) rfl rfl (by simp [Try.ntmps56])
  | true =>
    cases hk : (t.kind == 0) with
    | true =>
      have hB : checkB (badInt t) t = false := by simp [checkB, hv, hk]
      rw [hB]
      refine entry_imp (x := .tup3 (.val (.int .i64 0)) (.tok 3) (.val (.bool false))) ?_ (tup3_imp (int_tok (show numInt t = 0 by simp [numInt, hB])) (ide (tok_eq (show instT = checkT (badInt t) sInteger t by simp [checkT, hv, hk]))) idd)
      exact entry_facts (E := E) [.tm 0 0 1 0 0, .rel .eq (.tok 0) (.lit 0) true] ⟨⟨rfl, rfl, rfl, rfl⟩, hk, trivial⟩ (tbl_ok (T := [(23, [.tok 0], .val (.bool true)), (36, [], .tok 3)]) ⟨ent_rvalid hv, ein, trivial⟩) [.tok 0] Try.func56 rfl (fun _ _ => by kernel_rfl) (by kernel_rfl) rfl rfl (by simp [Try.ntmps56])
    | false =>
      cases hq : (t.kind == 1) with
      | true =>
        have hB : checkB (badInt t) t = true := by simp [checkB, badInt, hv, hk, hq]
        rw [hB]
        refine entry_imp (x := .tup3 (.vtok 1) (.term zeroT) (.val (.bool true))) ?_ (tup3_imp (vtok_eq (show t.num = numInt t by simp [numInt, hB])) (term_tok' (show checkT (badInt t) sInteger t = zeroT by simp [checkT, badInt, hv, hk, hq])) idd)
        exact entry_facts (E := E) [.tm 0 0 1 0 0, .rel .eq (.tok 0) (.lit 0) false, .rel .eq (.tok 0) (.lit 1) true] ⟨⟨rfl, rfl, rfl, rfl⟩, hk, hq, trivial⟩ (tbl_ok (T := [(23, [.tok 0], .val (.bool true))]) ⟨ent_rvalid hv, trivial⟩) [.tok 0] Try.func56 rfl (fun _ _ => by kernel_rfl) (by kernel_rfl) rfl rfl (by simp [Try.ntmps56])
      | false =>
        have hB : checkB (badInt t) t = false := by simp [checkB, badInt, hv, hk, hq]
        rw [hB]
        refine entry_imp (x := .tup3 (.val (.int .i64 0)) (.tok 4) (.val (.bool false))) ?_ (tup3_imp (int_tok (show numInt t = 0 by simp [numInt, hB])) (ide (tok_eq (show aboutT sType [sInteger] t = checkT (badInt t) sInteger t by simp [checkT, badInt, hv, hk, hq]))) idd)
        exact entry_facts (E := E) [.tm 0 0 1 0 0, .rel .eq (.tok 0) (.lit 0) false, .rel .eq (.tok 0) (.lit 1) false] ⟨⟨rfl, rfl, rfl, rfl⟩, hk, hq, trivial⟩ (tbl_ok (T := [(23, [.tok 0], .val (.bool true)), (38, [.val (.string sInteger), .tok 0], .tok 4)]) ⟨ent_rvalid hv, ety, trivial⟩) [.tok 0] Try.func56 rfl (fun _ _ => by kernel_rfl) (by kernel_rfl) rfl rfl (by simp [Try.ntmps56])

def badCallable (t : Tm) : Bool := (t.kind == 1)
abbrev EnvCallable (t : Tm) : Env :=
  { T := fun k => match k with | 0 => t | 2 => checkT (badCallable t) sCallable t | 3 => instT | _ => aboutT sType [sCallable] t
    I := fun k => match k with | 0 => t.kind | 1 => t.num | _ => (t.args.length : Int)
    S := fun _ => t.name
    R := fun _ => t.args }

theorem pCallable_entry (t : Tm) : @Entry (EnvCallable t) 57 [.tok 0] (.pair (.tok 2) (.val (.bool (checkB (badCallable t) t)))) := by
  letI E : Env := EnvCallable t
  have ety : @Entry E 25 [.val (.string sCallable), .tok 0] (.tok 4) := entry_move (pType_entry t sCallable (by decide)) ⟨str_tok rfl, idd, trivial⟩ (ide (tok_eq rfl))
  cases hv : validT t with
  | false =>
    have hB : checkB (badCallable t) t = false := by simp [checkB, hv]
    rw [hB]
    refine entry_imp (x := .pair (.term zeroT) (.val (.bool false))) ?_ (pair_imp (term_tok' (show checkT (badCallable t) sCallable t = zeroT by simp [checkT, hv])) idd)
    exact entry_facts (E := E) [] trivial (tbl_ok (T := [(67, [.tok 0], .pair (.term zeroT) (.val (.bool false)))]) ⟨entry_move (bound_entry t) ⟨idd, trivial⟩ (by rw [show boundB t = false by simp [boundB, hv]]; exact pair_imp (ide (term_tok (E := E) (show boundT t = zeroT by simp [boundT, hv])).symm) idd), trivial⟩) [.tok 0] Try.func57 rfl (fun _ _ => by kernel_rfl) (by kernel_rfl) rfl rfl (by simp [Try.ntmps57])
  | true =>
    cases hk : (t.kind == 0) with
    | true =>
      have hB : checkB (badCallable t) t = false := by simp [checkB, hv, hk]
      rw [hB]
      refine entry_imp (x := .pair (.tok 3) (.val (.bool false))) ?_ (pair_imp (ide (tok_eq (show instT = checkT (badCallable t) sCallable t by simp [checkT, hv, hk]))) idd)
      exact entry_facts (E := E) [] trivial (tbl_ok (T := [(67, [.tok 0], .pair (.tok 3) (.val (.bool false)))]) ⟨entry_move (bound_entry t) ⟨idd, trivial⟩ (by rw [show boundB t = false by simp [boundB, hv, hk]]; exact pair_imp (ide (tok_eq (show boundT t = instT by simp [boundT, hv, hk]))) idd), trivial⟩) [.tok 0] Try.func57 rfl (fun _ _ => by kernel_rfl) (by kernel_rfl) rfl rfl (by simp [Try.ntmps57])
    | false =>
      cases hq : (t.kind == 1) with
      | true =>
        have hB : checkB (badCallable t) t = false := by simp [checkB, badCallable, hv, hk, hq]
        rw [hB]
        refine entry_imp (x := .pair (.tok 4) (.val (.bool false))) ?_ (pair_imp (ide (tok_eq (show aboutT sType [sCallable] t = checkT (badCallable t) sCallable t by simp [checkT, badCallable, hv, hk, hq]))) idd)
        exact entry_facts (E := E) [.tm 0 0 1 0 0, .rel .eq (.tok 0) (.lit 0) false, .rel .eq (.tok 0) (.lit 1) true] ⟨⟨rfl, rfl, rfl, rfl⟩, hk, hq, trivial⟩ (tbl_ok (T := [(67, [.tok 0], .pair (.term zeroT) (.val (.bool true))), (25, [.val (.string sCallable), .tok 0], .tok 4)]) ⟨entry_move (bound_entry t) ⟨idd, trivial⟩ (by rw [show boundB t = true by simp [boundB, hv, hk]]; exact pair_imp (ide (term_tok (E := E) (show boundT t = zeroT by simp [boundT, hv, hk])).symm) idd), ety, trivial⟩) [.tok 0] Try.func57 rfl (fun _ _ => by kernel_rfl) (by kernel_rfl) rfl rfl (by simp [Try.ntmps57])
      | false =>
        have hB : checkB (badCallable t) t = true := by simp [checkB, badCallable, hv, hk, hq]
        rw [hB]
        refine entry_imp (x := .pair (.term zeroT) (.val (.bool true))) ?_ (pair_imp (term_tok' (show checkT (badCallable t) sCallable t = zeroT by simp [checkT, badCallable, hv, hk, hq])) idd)
        exact entry_facts (E := E) [.tm 0 0 1 0 0, .rel .eq (.tok 0) (.lit 0) false, .rel .eq (.tok 0) (.lit 1) false] ⟨⟨rfl, rfl, rfl, rfl⟩, hk, hq, trivial⟩ (tbl_ok (T := [(67, [.tok 0], .pair (.term zeroT) (.val (.bool true)))]) ⟨entry_move (bound_entry t) ⟨idd, trivial⟩ (by rw [show boundB t = true by simp [boundB, hv, hk]]; exact pair_imp (ide (term_tok (E := E) (show boundT t = zeroT by simp [boundT, hv, hk])).symm) idd), trivial⟩) [.tok 0] Try.func57 rfl (fun _ _ => by kernel_rfl) (by kernel_rfl) rfl rfl (by simp [Try.ntmps57])

theorem rCallable_entry (t : Tm) : @Entry (EnvCallable t) 58 [.tok 0] (.pair (.tok 2) (.val (.bool (checkB (badCallable t) t)))) := by
  letI E : Env := EnvCallable t
  have ety : @Entry E 38 [.val (.string sCallable), .tok 0] (.tok 4) := entry_move (rType_entry t sCallable (by decide)) ⟨str_tok rfl, idd, trivial⟩ (ide (tok_eq (type_eq sCallable t)))
  have ein : @Entry E 36 [] (.tok 3) := entry_move rinst_entry trivial (ide (tok_eq inst_eq.symm))
  cases hv : validT t with
  | false =>
    have hB : checkB (badCallable t) t = false := by simp [checkB, hv]
    rw [hB]
    refine entry_imp (x := .pair (.term zeroT) (.val (.bool false))) ?_ (pair_imp (term_tok' (show checkT (badCallable t) sCallable t = zeroT by simp [checkT, hv])) idd)
    exact entry_facts (E := E) [] trivial (tbl_ok (T := [(23, [.tok 0], .val (.bool false))]) ⟨ent_rvalid hv, trivial⟩) [.tok 0] Try.func58 rfl (fun _ _ => by kernel_rfl) (by kernel_rfl) rfl rfl (by simp [Try.ntmps58])
  | true =>
    cases hk : (t.kind == 0) with
    | true =>
      have hB : checkB (badCallable t) t = false := by simp [checkB, hv, hk]
      rw [hB]
      refine entry_imp (x := .pair (.tok 3) (.val (.bool false))) ?_ (pair_imp (ide (tok_eq (show instT = checkT (badCallable t) sCallable t by simp [checkT, hv, hk]))) idd)
      exact entry_facts (E := E) [.tm 0 0 1 0 0, .rel .eq (.tok 0) (.lit 0) true] ⟨⟨rfl, rfl, rfl, rfl⟩, hk, trivial⟩ (tbl_ok (T := [(23, [.tok 0], .val (.bool true)), (36, [], .tok 3)]) ⟨ent_rvalid hv, ein, trivial⟩) [.tok 0] Try.func58 rfl (fun _ _ => by kernel_rfl) (by kernel_rfl) rfl rfl (by simp [Try.ntmps58])
    | false =>
      cases hq : (t.kind == 1) with
      | true =>
        have hB : checkB (badCallable t) t = false := by simp [checkB, badCallable, hv, hk, hq]
        rw [hB]
        refine entry_imp (x := .pair (.tok 4) (.val (.bool false))) ?_ (pair_imp (ide (tok_eq (show aboutT sType [sCallable] t = checkT (badCallable t) sCallable t by simp [checkT, badCallable, hv, hk, hq]))) idd)
        exact entry_facts (E := E) [.tm 0 0 1 0 0, .rel .eq (.tok 0) (.lit 0) false, .rel .eq (.tok 0) (.lit 1) true] ⟨⟨rfl, rfl, rfl, rfl⟩, hk, hq, trivial⟩ (tbl_ok (T := [(23, [.tok 0], .val (.bool true)), (38, [.val (.string sCallable), .tok 0], .tok 4)]) ⟨ent_rvalid hv, ety, trivial⟩) [.tok 0] Try.func58 rfl (fun _ _ => by kernel_rfl) (by kernel_rfl) rfl rfl (by simp [Try.ntmps58])
      | false =>
        have hB : checkB (badCallable t) t = true := by simp [checkB, badCallable, hv, hk, hq]
        rw [hB]
        refine entry_imp (x := .pair (.term zeroT) (.val (.bool true))) ?_ (pair_imp (term_tok' (show checkT (badCallable t) sCallable t = zeroT by simp [checkT, badCallable, hv, hk, hq])) idd)
        exact entry_facts (E := E) [.tm 0 0 1 0 0, .rel .eq (.tok 0) (.lit 0) false, .rel .eq (.tok 0) (.lit 1) false] ⟨⟨rfl, rfl, rfl, rfl⟩, hk, hq, trivial⟩ (tbl_ok (T := [(23, [.tok 0], .val (.bool true))]) ⟨ent_rvalid hv, trivial⟩) [.tok 0] Try.func58 rfl (fun _ _ => by kernel_rfl) (by kernel_rfl) rfl rfl (by simp [Try.ntmps58])

def badAtomic (t : Tm) : Bool := (t.kind == 3)
abbrev EnvAtomic (t : Tm) : Env :=
  { T := fun k => match k with | 0 => t | 2 => checkT (badAtomic t) sAtomic t | 3 => instT | _ => aboutT sType [sAtomic] t
    I := fun k => match k with | 0 => t.kind | 1 => t.num | _ => (t.args.length : Int)
    S := fun _ => t.name
    R := fun _ => t.args }

theorem pAtomic_entry (t : Tm) : @Entry (EnvAtomic t) 59 [.tok 0] (.pair (.tok 2) (.val (.bool (checkB (badAtomic t) t)))) := by
  letI E : Env := EnvAtomic t
  have ety : @Entry E 25 [.val (.string sAtomic), .tok 0] (.tok 4) := entry_move (pType_entry t sAtomic (by decide)) ⟨str_tok rfl, idd, trivial⟩ (ide (tok_eq rfl))
  cases hv : validT t with
  | false =>
    have hB : checkB (badAtomic t) t = false := by simp [checkB, hv]
    rw [hB]
    refine entry_imp (x := .pair (.term zeroT) (.val (.bool false))) ?_ (pair_imp (term_tok' (show checkT (badAtomic t) sAtomic t = zeroT by simp [checkT, hv])) idd)
    exact entry_facts (E := E) [] trivial (tbl_ok (T := [(67, [.tok 0], .pair (.term zeroT) (.val (.bool false)))]) ⟨entry_move (bound_entry t) ⟨idd, trivial⟩ (by rw [show boundB t = false by simp [boundB, hv]]; exact pair_imp (ide (term_tok (E := E) (show boundT t = zeroT by simp [boundT, hv])).symm) idd), trivial⟩) [.tok 0] Try.func59 rfl (fun _ _ => by kernel_rfl) (by kernel_rfl) rfl rfl (by simp [Try.ntmps59])
  | true =>
    cases hk : (t.kind == 0) with
    | true =>
      have hB : checkB (badAtomic t) t = false := by simp [checkB, hv, hk]
      rw [hB]
      refine entry_imp (x := .pair (.tok 3) (.val (.bool false))) ?_ (pair_imp (ide (tok_eq (show instT = checkT (badAtomic t) sAtomic t by simp [checkT, hv, hk]))) idd)
      exact entry_facts (E := E) [] trivial (tbl_ok (T := [(67, [.tok 0], .pair (.tok 3) (.val (.bool false)))]) ⟨entry_move (bound_entry t) ⟨idd, trivial⟩ (by rw [show boundB t = false by simp [boundB, hv, hk]]; exact pair_imp (ide (tok_eq (show boundT t = instT by simp [boundT, hv, hk]))) idd), trivial⟩) [.tok 0] Try.func59 rfl (fun _ _ => by kernel_rfl) (by kernel_rfl) rfl rfl (by simp [Try.ntmps59])
    | false =>
      cases hq : (t.kind == 3) with
      | true =>
        have hB : checkB (badAtomic t) t = false := by simp [checkB, badAtomic, hv, hk, hq]
        rw [hB]
        refine entry_imp (x := .pair (.tok 4) (.val (.bool false))) ?_ (pair_imp (ide (tok_eq (show aboutT sType [sAtomic] t = checkT (badAtomic t) sAtomic t by simp [checkT, badAtomic, hv, hk, hq]))) idd)
        exact entry_facts (E := E) [.tm 0 0 1 0 0, .rel .eq (.tok 0) (.lit 0) false, .rel .eq (.tok 0) (.lit 3) true] ⟨⟨rfl, rfl, rfl, rfl⟩, hk, hq, trivial⟩ (tbl_ok (T := [(67, [.tok 0], .pair (.term zeroT) (.val (.bool true))), (25, [.val (.string sAtomic), .tok 0], .tok 4)]) ⟨entry_move (bound_entry t) ⟨idd, trivial⟩ (by rw [show boundB t = true by simp [boundB, hv, hk]]; exact pair_imp (ide (term_tok (E := E) (show boundT t = zeroT by simp [boundT, hv, hk])).symm) idd), ety, trivial⟩) [.tok 0] Try.func59 rfl (fun _ _ => by kernel_rfl) (by kernel_rfl) rfl rfl (by simp [Try.ntmps59])
      | false =>
        have hB : checkB (badAtomic t) t = true := by simp [checkB, badAtomic, hv, hk, hq]
        rw [hB]
        refine entry_imp (x := .pair (.term zeroT) (.val (.bool true))) ?_ (pair_imp (term_tok' (show checkT (badAtomic t) sAtomic t = zeroT by simp [checkT, badAtomic, hv, hk, hq])) idd)
        exact entry_facts (E := E) [.tm 0 0 1 0 0, .rel .eq (.tok 0) (.lit 0) false, .rel .eq (.tok 0) (.lit 3) false] ⟨⟨rfl, rfl, rfl, rfl⟩, hk, hq, trivial⟩ (tbl_ok (T := [(67, [.tok 0], .pair (.term zeroT) (.val (.bool true)))]) ⟨entry_move (bound_entry t) ⟨idd, trivial⟩ (by rw [show boundB t = true by simp [boundB, hv, hk]]; exact pair_imp (ide (term_tok (E := E) (show boundT t = zeroT by simp [boundT, hv, hk])).symm) idd), trivial⟩) [.tok 0] Try.func59 rfl (fun _ _ => by kernel_rfl) (by kernel_rfl) rfl rfl (by simp [Try.ntmps59])

theorem rAtomic_entry (t : Tm) : @Entry (EnvAtomic t) 60 [.tok 0] (.pair (.tok 2) (.val (.bool (checkB (badAtomic t) t)))) := by
  letI E : Env := EnvAtomic t
  have ety : @Entry E 38 [.val (.string sAtomic), .tok 0] (.tok 4) := entry_move (rType_entry t sAtomic (by decide)) ⟨str_tok rfl, idd, trivial⟩ (ide (tok_eq (type_eq sAtomic t)))
  have ein : @Entry E 36 [] (.tok 3) := entry_move rinst_entry trivial (ide (tok_eq inst_eq.symm))
  cases hv : validT t with
  | false =>
    have hB : checkB (badAtomic t) t = false := by simp [checkB, hv]
    rw [hB]
    refine entry_imp (x := .pair (.term zeroT) (.val (.bool false))) ?_ (pair_imp (term_tok' (show checkT (badAtomic t) sAtomic t = zeroT by simp [checkT, hv])) idd)
    exact entry_facts (E := E) [] trivial (tbl_ok (T := [(23, [.tok 0], .val (.bool false))]) ⟨ent_rvalid hv, trivial⟩) [.tok 0] Try.func60 rfl (fun _ _ => by kernel_rfl) (by kernel_rfl) rfl rfl (by simp [Try.ntmps60])
  | true =>
    cases hk : (t.kind == 0) with
    | true =>
      have hB : checkB (badAtomic t) t = false := by simp [checkB, hv, hk]
      rw [hB]
      refine entry_imp (x := .pair (.tok 3) (.val (.bool false))) ?_ (pair_imp (ide (tok_eq (show instT = checkT (badAtomic t) sAtomic t by simp [checkT, hv, hk]))) idd)
      exact entry_facts (E := E) [.tm 0 0 1 0 0, .rel .eq (.tok 0) (.lit 0) true] ⟨⟨rfl, rfl, rfl, rfl⟩, hk, trivial⟩ (tbl_ok (T := [(23, [.tok 0], .val (.bool true)), (36, [], .tok 3)]) ⟨ent_rvalid hv, ein, trivial⟩) [.tok 0] Try.func60 rfl (fun _ _ => by kernel_rfl) (by kernel_rfl) rfl rfl (by simp [Try.ntmps60])
    | false =>
      cases hq : (t.kind == 3) with
      | true =>
        have hB : checkB (badAtomic t) t = false := by simp [checkB, badAtomic, hv, hk, hq]
        rw [hB]
        refine entry_imp (x := .pair (.tok 4) (.val (.bool false))) ?_ (pair_imp (ide (tok_eq (show aboutT sType [sAtomic] t = checkT (badAtomic t) sAtomic t by simp [checkT, badAtomic, hv, hk, hq]))) idd)
        exact entry_facts (E := E) [.tm 0 0 1 0 0, .rel .eq (.tok 0) (.lit 0) false, .rel .eq (.tok 0) (.lit 3) true] ⟨⟨rfl, rfl, rfl, rfl⟩, hk, hq, trivial⟩ (tbl_ok (T := [(23, [.tok 0], .val (.bool true)), (38, [.val (.string sAtomic), .tok 0], .tok 4)]) ⟨ent_rvalid hv, ety, trivial⟩) [.tok 0] Try.func60 rfl (fun _ _ => by kernel_rfl) (by kernel_rfl) rfl rfl (by simp [Try.ntmps60])
      | false =>
        have hB : checkB (badAtomic t) t = true := by simp [checkB, badAtomic, hv, hk, hq]
        rw [hB]
        refine entry_imp (x := .pair (.term zeroT) (.val (.bool true))) ?_ (pair_imp (term_tok' (show checkT (badAtomic t) sAtomic t = zeroT by simp [checkT, badAtomic, hv, hk, hq])) idd)
        exact entry_facts (E := E) [.tm 0 0 1 0 0, .rel .eq (.tok 0) (.lit 0) false, .rel .eq (.tok 0) (.lit 3) false] ⟨⟨rfl, rfl, rfl, rfl⟩, hk, hq, trivial⟩ (tbl_ok (T := [(23, [.tok 0], .val (.bool true))]) ⟨ent_rvalid hv, trivial⟩) [.tok 0] Try.func60 rfl (fun _ _ => by kernel_rfl) (by kernel_rfl) rfl rfl (by simp [Try.ntmps60])

end Go.Proofs.Ytloekfnlidclcaa
