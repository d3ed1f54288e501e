/-
  The chapter's examples: the walk. No condition.
-/
import Derived.Test.YtloekfnlidclcaaBa
namespace Go.Proofs.Ytloekfnlidclcaa
open Go.RowKit
set_option linter.unusedVariables false

theorem ent_lsame [Env] {x y : Ab} {t u : Tm} {b : Bool} (hx : ∀ p w v, x.pd p w v → TmIn w (Fr p) t v) (hy : ∀ p w v, y.pd p w v → TmIn w (Fr p) u v) (hb : sameT t u = b) : Entry 14 [x, y] (.val (.bool b)) := by
  have run : @Entry { T := fun n => match n with | 0 => t | _ => u } 14 [.tok 0, .tok 1] (.val (.bool b)) := by
    letI E : Env := { T := fun n => match n with | 0 => t | _ => u }
    exact entry_code (tbl_ok (T := [(63, [.tok 0, .tok 1], .val (.bool b))]) ⟨ent_ttv (fun _ _ => by kernel_rfl) fun w y z h h' => hb ▸ rsame_any t u w y z h h', trivial⟩) [.tok 0, .tok 1] Try.func14 rfl (fun _ _ => by kernel_rfl) (by kernel_rfl) (by kernel_rfl) rfl rfl (by simp [Try.ntmps14])
  exact entry_move run ⟨hx, hy, trivial⟩ idd

theorem la_entry (s : ByteArray) (hs : s.size ≤ 140737488351232) : @Entry { T := fun _ => atomR s, S := fun _ => s } 19 [.stok 0] (.tok 0) := by
  letI E : Env := { T := fun _ => atomR s, S := fun _ => s }
  exact entry_facts (E := E) [.mk 0 (.lit 2) (.lit 0) (.tok 0) []] ⟨⟨rfl, by show wf64 2; unfold wf64; omega, by show wf64 0; unfold wf64; omega, hs⟩, trivial⟩ noCalls_ok [.stok 0] Try.func19 rfl (fun _ _ => by kernel_rfl) (by kernel_rfl) rfl rfl (by simp [Try.ntmps19])
theorem ent_la [Env] {s : ByteArray} {k : Nat} (hs : s.size ≤ 140737488351232) (hk : Env.T k = atomR s) : Entry 19 [.val (.string s)] (.tok k) := entry_move (la_entry s hs) ⟨str_tok rfl, trivial⟩ (ide (tok_eq hk.symm))

theorem ln_entry (n : Int) (hn : wf64 n) : @Entry { T := fun _ => intT n, I := fun _ => n } 52 [.vtok 0] (.tok 0) := by
  letI E : Env := { T := fun _ => intT n, I := fun _ => n }
  exact entry_facts (E := E) [.mk 0 (.lit 1) (.tok 0) (.lit ⟨#[]⟩) []] ⟨⟨rfl, by show wf64 1; unfold wf64; omega, hn, by show (⟨#[]⟩ : ByteArray).size ≤ 140737488351232; decide⟩, trivial⟩ noCalls_ok [.vtok 0] Try.func52 rfl (fun _ _ => by kernel_rfl) (by kernel_rfl) rfl rfl (by simp [Try.ntmps52])
theorem ent_ln [Env] {n : Int} {k : Nat} (hn : wf64 n) (hk : Env.T k = intT n) : Entry 52 [.val (.int .i64 n)] (.tok k) := entry_move (ln_entry n hn) ⟨int_tok rfl, trivial⟩ (ide (tok_eq hk.symm))

theorem lx_entry (n : Int) (hn : wf64 n) : @Entry { T := fun _ => V n, I := fun _ => n } 31 [.vtok 0] (.tok 0) := by
  letI E : Env := { T := fun _ => V n, I := fun _ => n }
  exact entry_facts (E := E) [.mk 0 (.lit 0) (.tok 0) (.lit ⟨#[]⟩) []] ⟨⟨rfl, by show wf64 0; unfold wf64; omega, hn, by show (⟨#[]⟩ : ByteArray).size ≤ 140737488351232; decide⟩, trivial⟩ noCalls_ok [.vtok 0] Try.func31 rfl (fun _ _ => by kernel_rfl) (by kernel_rfl) rfl rfl (by simp [Try.ntmps31])
theorem ent_lx [Env] {n : Int} {k : Nat} (hn : wf64 n) (hk : Env.T k = V n) : Entry 31 [.val (.int .i64 n)] (.tok k) := entry_move (lx_entry n hn) ⟨int_tok rfl, trivial⟩ (ide (tok_eq hk.symm))

theorem lf_entry (s : ByteArray) (l : List Tm) (hs : s.size ≤ 140737488351232) : @Entry { T := fun _ => .mk 3 0 s l, S := fun _ => s, R := fun _ => l } 22 [.stok 0, .rtok 0] (.tok 0) := by
  letI E : Env := { T := fun _ => .mk 3 0 s l, S := fun _ => s, R := fun _ => l }
  exact entry_facts (E := E) [.mkr 0 (.lit 3) (.lit 0) (.tok 0) 0] ⟨⟨rfl, by show wf64 3; unfold wf64; omega, by show wf64 0; unfold wf64; omega, hs⟩, trivial⟩ noCalls_ok [.stok 0, .rtok 0] Try.func22 rfl (fun _ _ => by kernel_rfl) (by kernel_rfl) rfl rfl (by simp [Try.ntmps22])
theorem ent_lf [Env] {s : ByteArray} {l : List Nat} {k : Nat} (hs : s.size ≤ 140737488351232) (hk : Env.T k = .mk 3 0 s (l.map Env.T)) : Entry 22 [.val (.string s), .toks l] (.tok k) :=
  entry_move (lf_entry s (l.map Env.T) hs) ⟨str_tok rfl, toks_row rfl, trivial⟩ (ide (tok_eq hk.symm))

theorem lerror1_entry (t : Tm) : @Entry { T := fun k => match k with | 0 => t | 1 => atomR sNil | _ => .mk 3 0 sError [t, atomR sNil] } 18 [.tok 0] (.tok 2) := by
  letI E : Env := { T := fun k => match k with | 0 => t | 1 => atomR sNil | _ => .mk 3 0 sError [t, atomR sNil] }
  exact entry_code (tbl_ok (T := [(19, [.val (.string sNil)], .tok 1), (22, [.val (.string sError), .toks [0, 1]], .tok 2)]) ⟨ent_la (by decide) rfl, ent_lf (by decide) rfl, trivial⟩) [.tok 0] Try.func18 rfl (fun _ _ => by kernel_rfl) (by kernel_rfl) (by kernel_rfl) rfl rfl (by simp [Try.ntmps18])
theorem ent_lerror1 [Env] {n k : Nat} (hk : Env.T k = .mk 3 0 sError [Env.T n, atomR sNil]) : Entry 18 [.tok n] (.tok k) := entry_move (lerror1_entry (Env.T n)) ⟨idd, trivial⟩ (ide (tok_eq hk.symm))

theorem stok_val {E E' : Env} {k : Nat} {s : ByteArray} (h : E.S k = s) : ∀ p w v, @Ab.pd E (.stok k) p w v → @Ab.pd E' (.val (.string s)) p w v := fun p w v hv => by
  obtain rfl : v = .string (E.S k) := hv
  show Value.string (E.S k) = .string s
  rw [h]
theorem vtok_val {E E' : Env} {k : Nat} {n : Int} (h : E.I k = n) : ∀ p w v, @Ab.pd E (.vtok k) p w v → @Ab.pd E' (.val (.int .i64 n)) p w v := fun p w v hv => by
  obtain rfl : v = .int .i64 (E.I k) := hv
  show Value.int .i64 (E.I k) = .int .i64 n
  rw [h]
theorem val_eq {E E' : Env} {b c : Bool} (h : b = c) : ∀ p w v, @Ab.pd E (.val (.bool b)) p w v → @Ab.pd E' (.val (.bool c)) p w v := by subst h; exact idd

def w_f : ByteArray := ⟨#[102]⟩
def w_x47 : ByteArray := ⟨#[47]⟩
def w_modify : ByteArray := ⟨#[109, 111, 100, 105, 102, 121]⟩
def w_staticx95procedure : ByteArray := ⟨#[115, 116, 97, 116, 105, 99, 95, 112, 114, 111, 99, 101, 100, 117, 114, 101]⟩
def w_a : ByteArray := ⟨#[97]⟩
def w_abc : ByteArray := ⟨#[97, 98, 99]⟩
def w_characterx95code : ByteArray := ⟨#[99, 104, 97, 114, 97, 99, 116, 101, 114, 95, 99, 111, 100, 101]⟩
def w_b : ByteArray := ⟨#[98]⟩
def w_x46 : ByteArray := ⟨#[46]⟩

/-! ### The closed calls of Code, List and Indicator -/
theorem code_closed : @Entry { T := fun k => match k with | 0 => intT 256 | 1 => zeroT | _ => namedT sRep w_characterx95code } 48 [.tok 0] (.tup3 (.val (.int .i64 0)) (.tok 2) (.val (.bool false))) := by
  letI E : Env := { T := fun k => match k with | 0 => intT 256 | 1 => zeroT | _ => namedT sRep w_characterx95code }
  have e1 : @Entry E 55 [.tok 0] (.tup3 (.val (.int .i64 256)) (.tok 1) (.val (.bool true))) := entry_move (pInt_entry (intT 256)) ⟨idd, trivial⟩ (tup3_imp (vtok_val (by kernel_rfl)) (ide (tok_eq (by kernel_rfl))) (val_eq (by kernel_rfl)))
  have e2 : @Entry E 33 [.val (.string w_characterx95code)] (.tok 2) := entry_move (pRepresentation_entry w_characterx95code (by decide)) ⟨str_tok rfl, trivial⟩ (ide (tok_eq rfl))
  exact entry_code (tbl_ok (T := [(55, [.tok 0], .tup3 (.val (.int .i64 256)) (.tok 1) (.val (.bool true))), (33, [.val (.string w_characterx95code)], .tok 2)]) ⟨e1, e2, trivial⟩) [.tok 0] Try.func48 rfl (fun _ _ => by kernel_rfl) (by kernel_rfl) (by kernel_rfl) rfl rfl (by simp [Try.ntmps48])

abbrev EnvLc : Env := { T := fun k => match k with | 0 => .mk 3 0 w_x46 [atomR w_a, .mk 3 0 w_x46 [atomR w_b, V 0]] | 1 => atomR w_a | 2 => .mk 3 0 w_x46 [atomR w_b, V 0] | 3 => atomR w_b | 4 => V 0 | _ => instT, I := fun k => match k with | 0 => 3 | 1 => 0 | 2 => 2 | _ => 0, S := fun k => match k with | 0 => w_x46 | _ => ⟨#[]⟩, R := fun k => match k with | 0 => [atomR w_a, .mk 3 0 w_x46 [atomR w_b, V 0]] | 1 => [atomR w_b, V 0] | 2 => [] | 3 => [atomR w_a] | _ => [atomR w_a, atomR w_b] }
theorem list_closed : @Entry EnvLc 17 [.tok 0] (.tup3 (.val (.slice none 0 0)) (.tok 5) (.val (.bool false))) := by
  letI E : Env := EnvLc
  have c1 : @Entry E 62 [.tok 1] (.tok 1) := ent_tt (fun _ _ => by kernel_rfl) fun w y h => clone_any (atomR w_a) w y h
  have c3 : @Entry E 62 [.tok 3] (.tok 3) := ent_tt (fun _ _ => by kernel_rfl) fun w y h => clone_any (atomR w_b) w y h
  have ei : @Entry E 32 [] (.tok 5) := entry_move inst_entry trivial (ide (tok_eq rfl))
  exact entry_facts (E := E) [.tm 0 0 1 0 0, .tm 2 0 1 0 1, .tm 4 1 1 1 2, .rlen 0 2, .rlen 1 2, .rget 0 (.lit 0) 1, .rget 0 (.lit 1) 2, .rget 1 (.lit 0) 3, .rget 1 (.lit 1) 4, .rel .eq (.tok 0) (.lit 3) true, .rel .eq (.tok 2) (.lit 2) true, .seq (.tok 0) (.lit w_x46) true, .rel .eq (.tok 1) (.lit 3) false, .rel .eq (.tok 1) (.lit 0) true, .push none 1 3 false, .push (some 3) 3 4 false]
    ⟨⟨rfl, rfl, rfl, rfl⟩, ⟨rfl, rfl, rfl, rfl⟩, ⟨rfl, rfl, rfl, rfl⟩, rfl, rfl, ⟨by show (0 : Int) ≤ 0; omega, rfl⟩, ⟨by show (0 : Int) ≤ 1; omega, rfl⟩, ⟨by show (0 : Int) ≤ 0; omega, rfl⟩, ⟨by show (0 : Int) ≤ 1; omega, rfl⟩, rfl, rfl, by show decide (w_x46 = w_x46) = true; simp, rfl, rfl, ⟨rfl, by show (1 : Nat) ≤ 1000000; omega⟩, ⟨rfl, by show (2 : Nat) ≤ 1000000; omega⟩, trivial⟩
    (tbl_ok (T := [(61, [.tok 0], .val (.bool true)), (62, [.tok 1], .tok 1), (62, [.tok 3], .tok 3), (32, [], .tok 5)]) ⟨ent_valid (by kernel_rfl), c1, c3, ei, trivial⟩) [.tok 0] Try.func17 rfl (fun _ _ => by kernel_rfl) (by kernel_rfl) rfl rfl (by simp [Try.ntmps17])


end Go.Proofs.Ytloekfnlidclcaa

namespace Go.Proofs.Ytloekfnlidclcaa
open Go.RowKit
set_option linter.unusedVariables false

abbrev EnvIc : Env := { T := fun k => match k with | 0 => .mk 3 0 w_x47 [atomR w_f, intT 2] | 1 => atomR w_f | 2 => intT 2 | _ => zeroT, I := fun k => match k with | 0 => 3 | 1 => 0 | 2 => 2 | _ => 1, S := fun k => match k with | 0 => w_x47 | 1 => w_f | _ => ⟨#[]⟩, R := fun k => match k with | 0 => [atomR w_f, intT 2] | _ => [] }
theorem indicator_closed : @Entry EnvIc 24 [.tok 0] (.tup4 (.val (.string w_f)) (.val (.int .i64 2)) (.term zeroT) (.val (.bool true))) := by
  letI E : Env := EnvIc
  have e0 : @Entry E 67 [.tok 0] (.pair (.tok 3) (.val (.bool true))) := entry_move (bound_entry _) ⟨idd, trivial⟩ (pair_imp (ide (tok_eq (by kernel_rfl))) (val_eq (by kernel_rfl)))
  have e1 : @Entry E 53 [.tok 1] (.tup3 (.val (.string w_f)) (.tok 3) (.val (.bool true))) := entry_move (pAtom_entry (atomR w_f)) ⟨idd, trivial⟩ (tup3_imp (stok_val (by kernel_rfl)) (ide (tok_eq (by kernel_rfl))) (val_eq (by kernel_rfl)))
  have e2 : @Entry E 55 [.tok 2] (.tup3 (.val (.int .i64 2)) (.tok 3) (.val (.bool true))) := entry_move (pInt_entry (intT 2)) ⟨idd, trivial⟩ (tup3_imp (vtok_val (by kernel_rfl)) (ide (tok_eq (by kernel_rfl))) (val_eq (by kernel_rfl)))
  exact entry_facts (E := E) [.tm 0 0 1 0 0, .tm 1 2 1 1 1, .tm 2 3 2 2 1, .rlen 0 2, .rget 0 (.lit 0) 1, .rget 0 (.lit 1) 2, .rel .eq (.tok 0) (.lit 3) true, .rel .eq (.tok 2) (.lit 2) true, .seq (.tok 0) (.lit w_x47) true, .rel .eq (.tok 2) (.lit 0) false, .rel .eq (.tok 3) (.lit 0) false]
    ⟨⟨rfl, rfl, rfl, rfl⟩, ⟨rfl, rfl, rfl, rfl⟩, ⟨rfl, rfl, rfl, rfl⟩, rfl, ⟨by show (0 : Int) ≤ 0; omega, rfl⟩, ⟨by show (0 : Int) ≤ 1; omega, rfl⟩, rfl, rfl, by show decide (w_x47 = w_x47) = true; simp, rfl, rfl, trivial⟩
    (tbl_ok (T := [(67, [.tok 0], .pair (.tok 3) (.val (.bool true))), (53, [.tok 1], .tup3 (.val (.string w_f)) (.tok 3) (.val (.bool true))), (55, [.tok 2], .tup3 (.val (.int .i64 2)) (.tok 3) (.val (.bool true)))]) ⟨e0, e1, e2, trivial⟩) [.tok 0] Try.func24 rfl (fun _ _ => by kernel_rfl) (by kernel_rfl) rfl rfl (by simp [Try.ntmps24])


end Go.Proofs.Ytloekfnlidclcaa

namespace Go.Proofs.Ytloekfnlidclcaa
open Go.RowKit
set_option linter.unusedVariables false

abbrev EnvAw : Env := { T := fun k => match k with | 0 => atomR w_f | 1 => intT 1 | 2 => .mk 3 0 w_x47 [atomR w_f, intT 1] | 3 => aboutT sPermission [w_modify, w_staticx95procedure] (.mk 3 0 w_x47 [atomR w_f, intT 1]) | 4 => atomR w_a | 5 => V 0 | 6 => .mk 3 0 sError [atomR w_a, V 0] | 7 => atomR w_abc | 8 => intT 3 | 9 => aboutT sType [sAtom] (intT 3) | 10 => intT 256 | 11 => namedT sRep w_characterx95code | 12 => atomR w_b | 13 => .mk 3 0 w_x46 [atomR w_b, V 0] | 14 => .mk 3 0 w_x46 [atomR w_a, .mk 3 0 w_x46 [atomR w_b, V 0]] | 15 => instT | 16 => intT 2 | 17 => .mk 3 0 w_x47 [atomR w_f, intT 2] | 18 => atomR w_modify | 19 => atomR w_staticx95procedure | 20 => .mk 3 0 sPermission [atomR w_modify, atomR w_staticx95procedure, .mk 3 0 w_x47 [atomR w_f, intT 1]] | 21 => .mk 3 0 sError [.mk 3 0 sPermission [atomR w_modify, atomR w_staticx95procedure, .mk 3 0 w_x47 [atomR w_f, intT 1]], atomR sNil] | 22 => syntaxT 3 | 23 => .mk 3 0 sSyntax [intT 3] | 24 => .mk 3 0 sError [.mk 3 0 sSyntax [intT 3], atomR sNil] | 25 => atomR sAtom | 26 => .mk 3 0 sType [atomR sAtom, intT 3] | 27 => .mk 3 0 sError [.mk 3 0 sType [atomR sAtom, intT 3], atomR sNil] | 28 => atomR w_characterx95code | 29 => .mk 3 0 sRep [atomR w_characterx95code] | 30 => .mk 3 0 sError [.mk 3 0 sRep [atomR w_characterx95code], atomR sNil] | 31 => atomR sInst | _ => .mk 3 0 sError [(atomR sInst), atomR sNil] }

set_option maxRecDepth 10000 in
set_option maxHeartbeats 2000000 in
theorem awake6_entry : @Entry EnvAw 15 [] (.val (.bool true)) := by
  letI E : Env := EnvAw
  have ents : @Entries E [(19, [.val (.string w_f)], .tok 0),
      (19, [.val (.string w_a)], .tok 4),
      (19, [.val (.string w_abc)], .tok 7),
      (19, [.val (.string w_b)], .tok 12),
      (19, [.val (.string w_modify)], .tok 18),
      (19, [.val (.string w_staticx95procedure)], .tok 19),
      (19, [.val (.string w_characterx95code)], .tok 28),
      (19, [.val (.string sAtom)], .tok 25),
      (19, [.val (.string sInst)], .tok 31),
      (52, [.val (.int .i64 1)], .tok 1),
      (52, [.val (.int .i64 3)], .tok 8),
      (52, [.val (.int .i64 256)], .tok 10),
      (52, [.val (.int .i64 2)], .tok 16),
      (31, [.val (.int .i64 0)], .tok 5),
      (22, [.val (.string w_x47), .toks [0, 1]], .tok 2),
      (22, [.val (.string sError), .toks [4, 5]], .tok 6),
      (22, [.val (.string w_x46), .toks [12, 5]], .tok 13),
      (22, [.val (.string w_x46), .toks [4, 13]], .tok 14),
      (22, [.val (.string w_x47), .toks [0, 16]], .tok 17),
      (22, [.val (.string sPermission), .toks [18, 19, 2]], .tok 20),
      (22, [.val (.string sSyntax), .toks [8]], .tok 23),
      (22, [.val (.string sType), .toks [25, 8]], .tok 26),
      (22, [.val (.string sRep), .toks [28]], .tok 29),
      (18, [.tok 20], .tok 21),
      (18, [.tok 23], .tok 24),
      (18, [.tok 26], .tok 27),
      (18, [.tok 29], .tok 30),
      (18, [.tok 31], .tok 32),
      (30, [.val (.string w_modify), .val (.string w_staticx95procedure), .tok 2], .tok 3),
      (12, [.tok 6], .pair (.tok 4) (.val (.bool true))),
      (53, [.tok 7], .tup3 (.val (.string w_abc)) (.tok 5) (.val (.bool true))),
      (53, [.tok 8], .tup3 (.val (.string ⟨#[]⟩)) (.tok 9) (.val (.bool false))),
      (48, [.tok 10], .tup3 (.val (.int .i64 0)) (.tok 11) (.val (.bool false))),
      (17, [.tok 14], .tup3 (.val (.slice none 0 0)) (.tok 15) (.val (.bool false))),
      (24, [.tok 17], .tup4 (.val (.string w_f)) (.val (.int .i64 2)) (.term zeroT) (.val (.bool true))),
      (35, [.val (.int .i64 3)], .tok 22),
      (14, [.tok 3, .tok 21], .val (.bool true)),
      (14, [.tok 22, .tok 24], .val (.bool true)),
      (14, [.tok 4, .tok 4], .val (.bool true)),
      (14, [.tok 5, .tok 5], .val (.bool true)),
      (14, [.tok 9, .tok 27], .val (.bool true)),
      (14, [.tok 11, .tok 30], .val (.bool true)),
      (14, [.tok 15, .tok 32], .val (.bool true)),
      (14, [.term zeroT, .tok 5], .val (.bool true))] :=
    ⟨ent_la (by decide) rfl,
      ent_la (by decide) rfl,
      ent_la (by decide) rfl,
      ent_la (by decide) rfl,
      ent_la (by decide) rfl,
      ent_la (by decide) rfl,
      ent_la (by decide) rfl,
      ent_la (by decide) rfl,
      ent_la (by decide) rfl,
      ent_ln (by unfold wf64; omega) rfl,
      ent_ln (by unfold wf64; omega) rfl,
      ent_ln (by unfold wf64; omega) rfl,
      ent_ln (by unfold wf64; omega) rfl,
      ent_lx (by unfold wf64; omega) rfl,
      ent_lf (by decide) rfl,
      ent_lf (by decide) rfl,
      ent_lf (by decide) rfl,
      ent_lf (by decide) rfl,
      ent_lf (by decide) rfl,
      ent_lf (by decide) rfl,
      ent_lf (by decide) rfl,
      ent_lf (by decide) rfl,
      ent_lf (by decide) rfl,
      ent_lerror1 rfl,
      ent_lerror1 rfl,
      ent_lerror1 rfl,
      ent_lerror1 rfl,
      ent_lerror1 rfl,
      entry_move (pPermission_entry _ w_modify w_staticx95procedure (by decide) (by decide)) ⟨str_tok rfl, str_tok rfl, idd, trivial⟩ (ide (tok_eq rfl)),
      entry_move (pFormal_entry _) ⟨idd, trivial⟩ (pair_imp (ide (tok_eq (by kernel_rfl))) (val_eq (by kernel_rfl))),
      entry_move (pAtom_entry _) ⟨idd, trivial⟩ (tup3_imp (stok_val (by kernel_rfl)) (ide (tok_eq (by kernel_rfl))) (val_eq (by kernel_rfl))),
      entry_move (pAtom_entry _) ⟨idd, trivial⟩ (tup3_imp (stok_val (by kernel_rfl)) (ide (tok_eq (by kernel_rfl))) (val_eq (by kernel_rfl))),
      entry_move code_closed ⟨idd, trivial⟩ (tup3_imp idd (ide (tok_eq rfl)) idd),
      entry_move list_closed ⟨idd, trivial⟩ (tup3_imp idd (ide (tok_eq rfl)) idd),
      entry_move indicator_closed ⟨idd, trivial⟩ idd,
      entry_move (syntax_entry 3 (by unfold wf64; omega)) ⟨int_tok rfl, trivial⟩ (ide (tok_eq rfl)),
      ent_lsame idd idd (by kernel_rfl),
      ent_lsame idd idd (by kernel_rfl),
      ent_lsame idd idd (by kernel_rfl),
      ent_lsame idd idd (by kernel_rfl),
      ent_lsame idd idd (by kernel_rfl),
      ent_lsame idd idd (by kernel_rfl),
      ent_lsame idd idd (by kernel_rfl),
      ent_lsame idd idd (by kernel_rfl), trivial⟩
  exact entry_facts (E := E) [.seq (.lit w_abc) (.lit w_abc) true, .seq (.lit w_f) (.lit w_f) true] ⟨by show decide (w_abc = w_abc) = true; simp, by show decide (w_f = w_f) = true; simp, trivial⟩ (tbl_ok ents) [] Try.func15 rfl (fun _ _ => by kernel_rfl) (by kernel_rfl) rfl rfl (by simp)

end Go.Proofs.Ytloekfnlidclcaa

namespace Go.Proofs.Ytloekfnlidclcaa
open Go.RowKit
set_option linter.unusedVariables false

theorem formal_valid (t : Tm) : validT (formalT t) = true := by
  unfold formalT
  split
  · rename_i hB
    simp only [formalB, Bool.and_eq_true] at hB
    obtain ⟨hv, hk, hn, hl⟩ := hB
    have hl2 : t.args.length = 2 := by simp at hl; omega
    rw [List.getD_eq_getElem?_getD, List.getElem?_eq_getElem (by omega)]
    exact valid_args hv _
  · exact zero_valid

theorem ballsFormal_any (t : Tm) (y : Value) (w : World) (h : TmAt w w.heap.size t y) : Calls Try.prog 3 #[y] w fun e w' => e = .returned (.bool true) ∧ But Nil w w' := by
  letI E : Env := { T := fun k => match k with | 0 => t | _ => formalT t }
  have run : ∀ b, formalB t = b → @Entry E 3 [.tok 0] (.val (.bool true)) := fun b hb => by
    have e1 : @Entry E 12 [.tok 0] (.pair (.tok 1) (.val (.bool b))) := entry_move (pFormal_entry t) ⟨idd, trivial⟩ (pair_imp (ide (tok_eq rfl)) (val_eq hb))
    have e2 : @Entry E 13 [.tok 0] (.pair (.tok 1) (.val (.bool b))) := entry_move (rFormal_entry t) ⟨idd, trivial⟩ (pair_imp (ide (tok_eq rfl)) (val_eq hb))
    have e3 : @Entry E 14 [.tok 1, .tok 1] (.val (.bool true)) := ent_lsame (t := formalT t) (u := formalT t) idd idd (same_self (formal_valid t))
    have e4 : @Entry E 15 [] (.val (.bool true)) := entry_move awake6_entry trivial idd
    cases b <;> exact entry_code (tbl_ok (T := [(12, [.tok 0], .pair (.tok 1) (.val (.bool _))), (13, [.tok 0], .pair (.tok 1) (.val (.bool _))), (14, [.tok 1, .tok 1], .val (.bool true)), (15, [], .val (.bool true))]) ⟨e1, e2, e3, e4, trivial⟩)
      [.tok 0] Try.func3 rfl (fun _ _ => by kernel_rfl) (by kernel_rfl) (by kernel_rfl) rfl rfl (by simp [Try.ntmps3])
  exact (run _ rfl).val (vs := [y]) ⟨h.fr, trivial⟩

end Go.Proofs.Ytloekfnlidclcaa
