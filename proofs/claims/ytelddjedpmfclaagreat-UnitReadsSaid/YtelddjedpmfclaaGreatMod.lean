import Derived.Test.YtelddjedpmfclaaGreatTy
namespace Go.Proofs.YtelddjedpmfclaaGreat.M
open Go Nt
set_option linter.unusedVariables false
noncomputable section
def z1c (c : Int) (text : Str) (at_ : Int) (out : List zB) : Option (Bool) :=
  if c ≥ 48 then
    some (decide (c ≤ 57))
  else
  some (false)
def z1x (c : Int) (text : Str) (at_ : Int) (out : List zB) : Option (Bool) :=
  if c ≥ 97 then
    if c ≤ 122 then
      some (true)
    else
    if c ≥ 65 then
      if c ≤ 90 then
        some (true)
      else
      some ((c == 95))
    else
    some ((c == 95))
  else
  if c ≥ 65 then
    if c ≤ 90 then
      some (true)
    else
    some ((c == 95))
  else
  some ((c == 95))
def z1z (k n : Int) (s : Str) (from_ : Int) (text : Str) (at_ : Int) (out : List zB) : Option (Str × Int × List zB) :=
  if z1i 48 (List.length out + List.length [(zB.mk k n s from_ at_)]) then
  some (text, at_, out ++ [(zB.mk k n s from_ at_)])
  else none
def gW (yD : Int → Str → Int → Int → Int → Str → Int → (List zB) → Option (Int × Str × Int × List zB)) (from_ : Int) (s : Str) (v v29 v30 : Int) (text : Str) (at_ : Int) (out : List zB) : Option (Int × Str × Int × List zB) :=
  if v30 < v29 then
    idx s v30 >>= fun c =>
    yD from_ s (IntKind.wrap .u64 ((IntKind.wrap .u64 (v * 10)) + (IntKind.wrap .u64 (IntKind.wrap .u8 ((Int.ofNat (UInt8.toNat c)) - 48))))) v29 (IntKind.wrap .i64 (v30 + 1)) text at_ out
  else
  if v > 9223372036854775807 then
    some (5, text, at_, out)
  else
  z1z 2 (IntKind.wrap .i64 v) [] from_ text at_ out >>= fun q1 =>
  some (0, q1.1, q1.2.1, q1.2.2)
inductive z2l where
  | yD (from_ : Int) (s : Str) (v v29 v30 : Int) (text : Str) (at_ : Int) (out : List zB)
@[reducible] def z3q : z2l → Type
  | .yD _ _ _ _ _ _ _ _ => Int × Str × Int × List zB
def z2j (g : Fam z3q) : Fam z3q
  | .yD from_ s v v29 v30 text at_ out => gW (fun from_ s v v29 v30 text at_ out => g (z2l.yD from_ s v v29 v30 text at_ out)) from_ s v v29 v30 text at_ out
theorem z5u : ∀ i, Good (fun g => z2j g i)
  | .yD from_ s v v29 v30 text at_ out => by unfold z2j gW; exact (.ite (.bind (.const _) fun _ => (.call _)) (.ite (.const _) (.bind (.const _) fun _ => (.const _))))
def yD (from_ : Int) (s : Str) (v v29 v30 : Int) (text : Str) (at_ : Int) (out : List zB) : Option (Int × Str × Int × List zB) := z1S z2j (.yD from_ s v v29 v30 text at_ out)
theorem z5o (from_ : Int) (s : Str) (v v29 v30 : Int) (text : Str) (at_ : Int) (out : List zB) : yD from_ s v v29 v30 text at_ out = gW yD from_ s v v29 v30 text at_ out := wE z5u (.yD from_ s v v29 v30 text at_ out)
def wL (zO : Int → Str → Int → (List zB) → Option (Str × Str × Int × List zB)) (from_ : Int) (text : Str) (at_ : Int) (out : List zB) : Option (Str × Str × Int × List zB) :=
  if at_ < (List.length text : Int) then
    idx text at_ >>= fun c =>
    z1c (Int.ofNat (UInt8.toNat c)) text at_ out >>= fun q1 =>
    if q1 = true then
      zO from_ text (IntKind.wrap .i64 (at_ + 1)) out
    else
    if (0 : Int) ≤ at_ then
    if Int.toNat at_ ≤ List.length text then
    if (0 : Int) ≤ from_ then
    if Int.toNat from_ ≤ Int.toNat at_ then
    some (List.drop (Int.toNat from_) (List.take (Int.toNat at_) text), text, at_, out)
    else none
    else none
    else none
    else none
  else
  if (0 : Int) ≤ at_ then
  if Int.toNat at_ ≤ List.length text then
  if (0 : Int) ≤ from_ then
  if Int.toNat from_ ≤ Int.toNat at_ then
  some (List.drop (Int.toNat from_) (List.take (Int.toNat at_) text), text, at_, out)
  else none
  else none
  else none
  else none
inductive gQ where
  | zO (from_ : Int) (text : Str) (at_ : Int) (out : List zB)
@[reducible] def z0U : gQ → Type
  | .zO _ _ _ _ => Str × Str × Int × List zB
def gR (g : Fam z0U) : Fam z0U
  | .zO from_ text at_ out => wL (fun from_ text at_ out => g (gQ.zO from_ text at_ out)) from_ text at_ out
theorem z2p : ∀ i, Good (fun g => gR g i)
  | .zO from_ text at_ out => by unfold gR wL; exact (.ite (.bind (.const _) fun _ => (.bind (.const _) fun _ => (.ite (.call _) (.ite (.ite (.ite (.ite (.const _) (.const _)) (.const _)) (.const _)) (.const _))))) (.ite (.ite (.ite (.ite (.const _) (.const _)) (.const _)) (.const _)) (.const _)))
def zO (from_ : Int) (text : Str) (at_ : Int) (out : List zB) : Option (Str × Str × Int × List zB) := z1S gR (.zO from_ text at_ out)
theorem z2a (from_ : Int) (text : Str) (at_ : Int) (out : List zB) : zO from_ text at_ out = wL zO from_ text at_ out := wE z2p (.zO from_ text at_ out)
def z0I (text : Str) (at_ : Int) (out : List zB) : Option (Str × Str × Int × List zB) :=
  zO at_ text at_ out
def z3O (text : Str) (at_ : Int) (out : List zB) : Option (Int × Str × Int × List zB) :=
  z0I text at_ out >>= fun q1 =>
  if (List.length q1.1 : Int) > 19 then
    some (5, q1.2.1, q1.2.2.1, q1.2.2.2)
  else
  if (List.length q1.1 : Int) > 1 then
    idx q1.1 0 >>= fun c =>
    if Int.ofNat (UInt8.toNat c) = 48 then
      some (5, q1.2.1, q1.2.2.1, q1.2.2.2)
    else
    yD at_ q1.1 0 (List.length q1.1 : Int) 0 q1.2.1 q1.2.2.1 q1.2.2.2
  else
  yD at_ q1.1 0 (List.length q1.1 : Int) 0 q1.2.1 q1.2.2.1 q1.2.2.2
def z2i (k : Int) (text : Str) (at_ : Int) (out : List zB) : Option (Int) :=
  if (IntKind.wrap .i64 (at_ + k)) < (List.length text : Int) then
    idx text (IntKind.wrap .i64 (at_ + k)) >>= fun c =>
    some (Int.ofNat (UInt8.toNat c))
  else
  some (0)
def z7G (s : Str) : Option (Bool) :=
  if s = [114, 101, 99] then
    some (true)
  else
  if s = [99, 111, 110, 115, 116] then
    some (true)
  else
  if s = [118, 97, 114] then
    some (true)
  else
  if s = [112, 117, 98] then
    some (true)
  else
  if s = [102, 110] then
    some (true)
  else
  if s = [105, 110, 116] then
    some (true)
  else
  if s = [98, 111, 111, 108] then
    some (true)
  else
  if s = [108, 101, 116] then
    some (true)
  else
  if s = [105, 102] then
    some (true)
  else
  if s = [101, 108, 115, 101] then
    some (true)
  else
  if s = [119, 104, 105, 108, 101] then
    some (true)
  else
  if s = [102, 111, 114] then
    some (true)
  else
  if s = [116, 111] then
    some (true)
  else
  if s = [112, 114, 105, 110, 116] then
    some (true)
  else
  if s = [114, 101, 116, 117, 114, 110] then
    some (true)
  else
  if s = [100, 111] then
    some (true)
  else
  if s = [116, 114, 117, 101] then
    some (true)
  else
  if s = [102, 97, 108, 115, 101] then
    some (true)
  else
  if s = [114, 101, 97, 100] then
    some (true)
  else
  if s = [110, 101, 119] then
    some (true)
  else
  some (false)
def z2T (c : Int) (text : Str) (at_ : Int) (out : List zB) : Option (Bool) :=
  z1x c text at_ out >>= fun q1 =>
  if q1 = true then
    some (true)
  else
  z1c c text at_ out >>= fun q2 =>
  some (q2)
def wO (zR : Int → Str → Int → (List zB) → Option (Str × Str × Int × List zB)) (from_ : Int) (text : Str) (at_ : Int) (out : List zB) : Option (Str × Str × Int × List zB) :=
  if at_ < (List.length text : Int) then
    idx text at_ >>= fun c =>
    z2T (Int.ofNat (UInt8.toNat c)) text at_ out >>= fun q1 =>
    if q1 = true then
      zR from_ text (IntKind.wrap .i64 (at_ + 1)) out
    else
    if (0 : Int) ≤ at_ then
    if Int.toNat at_ ≤ List.length text then
    if (0 : Int) ≤ from_ then
    if Int.toNat from_ ≤ Int.toNat at_ then
    some (List.drop (Int.toNat from_) (List.take (Int.toNat at_) text), text, at_, out)
    else none
    else none
    else none
    else none
  else
  if (0 : Int) ≤ at_ then
  if Int.toNat at_ ≤ List.length text then
  if (0 : Int) ≤ from_ then
  if Int.toNat from_ ≤ Int.toNat at_ then
  some (List.drop (Int.toNat from_) (List.take (Int.toNat at_) text), text, at_, out)
  else none
  else none
  else none
  else none
inductive gZ where
  | zR (from_ : Int) (text : Str) (at_ : Int) (out : List zB)
@[reducible] def z0Y : gZ → Type
  | .zR _ _ _ _ => Str × Str × Int × List zB
def z0c (g : Fam z0Y) : Fam z0Y
  | .zR from_ text at_ out => wO (fun from_ text at_ out => g (gZ.zR from_ text at_ out)) from_ text at_ out
theorem z2w : ∀ i, Good (fun g => z0c g i)
  | .zR from_ text at_ out => by unfold z0c wO; exact (.ite (.bind (.const _) fun _ => (.bind (.const _) fun _ => (.ite (.call _) (.ite (.ite (.ite (.ite (.const _) (.const _)) (.const _)) (.const _)) (.const _))))) (.ite (.ite (.ite (.ite (.const _) (.const _)) (.const _)) (.const _)) (.const _)))
def zR (from_ : Int) (text : Str) (at_ : Int) (out : List zB) : Option (Str × Str × Int × List zB) := z1S z0c (.zR from_ text at_ out)
theorem z2q (from_ : Int) (text : Str) (at_ : Int) (out : List zB) : zR from_ text at_ out = wO zR from_ text at_ out := wE z2w (.zR from_ text at_ out)
def z0T (text : Str) (at_ : Int) (out : List zB) : Option (Str × Str × Int × List zB) :=
  zR at_ text at_ out
def z4V (text : Str) (at_ : Int) (out : List zB) : Option (Int × Str × Int × List zB) :=
  z0T text at_ out >>= fun q1 =>
  if (List.length q1.1 : Int) > 16 then
    some (3, q1.2.1, q1.2.2.1, q1.2.2.2)
  else
  z7G q1.1 >>= fun q2 =>
  if q2 = true then
    z1z 3 0 q1.1 at_ q1.2.1 q1.2.2.1 q1.2.2.2 >>= fun q3 =>
    some (0, q3.1, q3.2.1, q3.2.2)
  else
  z1z 1 0 q1.1 at_ q1.2.1 q1.2.2.1 q1.2.2.2 >>= fun q4 =>
  some (0, q4.1, q4.2.1, q4.2.2)
def z8d (c d : Int) : Option (Int) :=
  if c = 61 then
    if d = 61 then
      some (2)
    else
    some (1)
  else
  if c = 33 then
    if d = 61 then
      some (2)
    else
    some (1)
  else
  if c = 60 then
    if d = 61 then
      some (2)
    else
    some (1)
  else
  if c = 62 then
    if d = 61 then
      some (2)
    else
    some (1)
  else
  if c = 38 then
    if d = c then
      some (2)
    else
    some (0)
  else
  if c = 124 then
    if d = c then
      some (2)
    else
    some (0)
  else
  if c = 123 then
    some (1)
  else
  if c = 125 then
    some (1)
  else
  if c = 40 then
    some (1)
  else
  if c = 41 then
    some (1)
  else
  if c = 91 then
    some (1)
  else
  if c = 93 then
    some (1)
  else
  if c = 44 then
    some (1)
  else
  if c = 59 then
    some (1)
  else
  if c = 58 then
    some (1)
  else
  if c = 46 then
    some (1)
  else
  if c = 43 then
    some (1)
  else
  if c = 45 then
    some (1)
  else
  if c = 42 then
    some (1)
  else
  if c = 47 then
    some (1)
  else
  if c = 37 then
    some (1)
  else
  if c = 64 then
    some (1)
  else
  some (0)
def z3p (text : Str) (at_ : Int) (out : List zB) : Option (Int × Str × Int × List zB) :=
  idx text at_ >>= fun c =>
  z1x (Int.ofNat (UInt8.toNat c)) text at_ out >>= fun q1 =>
  if q1 = true then
    z4V text at_ out >>= fun q2 =>
    some (q2.1, q2.2.1, q2.2.2.1, q2.2.2.2)
  else
  z1c (Int.ofNat (UInt8.toNat c)) text at_ out >>= fun q3 =>
  if q3 = true then
    z3O text at_ out >>= fun q4 =>
    some (q4.1, q4.2.1, q4.2.2.1, q4.2.2.2)
  else
  z2i 1 text at_ out >>= fun q5 =>
  z8d (Int.ofNat (UInt8.toNat c)) q5 >>= fun q6 =>
  if q6 = 0 then
    some (4, text, at_, out)
  else
  if (0 : Int) ≤ (IntKind.wrap .i64 (at_ + q6)) then
  if Int.toNat (IntKind.wrap .i64 (at_ + q6)) ≤ List.length text then
  if (0 : Int) ≤ at_ then
  if Int.toNat at_ ≤ Int.toNat (IntKind.wrap .i64 (at_ + q6)) then
  z1z 4 0 (List.drop (Int.toNat at_) (List.take (Int.toNat (IntKind.wrap .i64 (at_ + q6))) text)) at_ text (IntKind.wrap .i64 (at_ + q6)) out >>= fun q7 =>
  some (0, q7.1, q7.2.1, q7.2.2)
  else none
  else none
  else none
  else none
def z3a (c : Int) (text : Str) (at_ : Int) (out : List zB) : Option (Bool) :=
  some (!(c == 10))
def wQ (zS : Int → Str → Int → (List zB) → Option (Str × Str × Int × List zB)) (from_ : Int) (text : Str) (at_ : Int) (out : List zB) : Option (Str × Str × Int × List zB) :=
  if at_ < (List.length text : Int) then
    idx text at_ >>= fun c =>
    z3a (Int.ofNat (UInt8.toNat c)) text at_ out >>= fun q1 =>
    if q1 = true then
      zS from_ text (IntKind.wrap .i64 (at_ + 1)) out
    else
    if (0 : Int) ≤ at_ then
    if Int.toNat at_ ≤ List.length text then
    if (0 : Int) ≤ from_ then
    if Int.toNat from_ ≤ Int.toNat at_ then
    some (List.drop (Int.toNat from_) (List.take (Int.toNat at_) text), text, at_, out)
    else none
    else none
    else none
    else none
  else
  if (0 : Int) ≤ at_ then
  if Int.toNat at_ ≤ List.length text then
  if (0 : Int) ≤ from_ then
  if Int.toNat from_ ≤ Int.toNat at_ then
  some (List.drop (Int.toNat from_) (List.take (Int.toNat at_) text), text, at_, out)
  else none
  else none
  else none
  else none
inductive z0g where
  | zS (from_ : Int) (text : Str) (at_ : Int) (out : List zB)
@[reducible] def z1f : z0g → Type
  | .zS _ _ _ _ => Str × Str × Int × List zB
def z0j (g : Fam z1f) : Fam z1f
  | .zS from_ text at_ out => wQ (fun from_ text at_ out => g (z0g.zS from_ text at_ out)) from_ text at_ out
theorem z2y : ∀ i, Good (fun g => z0j g i)
  | .zS from_ text at_ out => by unfold z0j wQ; exact (.ite (.bind (.const _) fun _ => (.bind (.const _) fun _ => (.ite (.call _) (.ite (.ite (.ite (.ite (.const _) (.const _)) (.const _)) (.const _)) (.const _))))) (.ite (.ite (.ite (.ite (.const _) (.const _)) (.const _)) (.const _)) (.const _)))
def zS (from_ : Int) (text : Str) (at_ : Int) (out : List zB) : Option (Str × Str × Int × List zB) := z1S z0j (.zS from_ text at_ out)
theorem z2o (from_ : Int) (text : Str) (at_ : Int) (out : List zB) : zS from_ text at_ out = wQ zS from_ text at_ out := wE z2y (.zS from_ text at_ out)
def z0S (text : Str) (at_ : Int) (out : List zB) : Option (Str × Str × Int × List zB) :=
  zS at_ text at_ out
def z0x (yJ : Str → Int → (List zB) → Option (Str × Int × List zB)) (text : Str) (at_ : Int) (out : List zB) : Option (Str × Int × List zB) :=
  if at_ < (List.length text : Int) then
    idx text at_ >>= fun c =>
    if Int.ofNat (UInt8.toNat c) = 32 then
      yJ text (IntKind.wrap .i64 (at_ + 1)) out
    else
    if Int.ofNat (UInt8.toNat c) = 9 then
      yJ text (IntKind.wrap .i64 (at_ + 1)) out
    else
    if Int.ofNat (UInt8.toNat c) = 10 then
      yJ text (IntKind.wrap .i64 (at_ + 1)) out
    else
    if Int.ofNat (UInt8.toNat c) = 13 then
      yJ text (IntKind.wrap .i64 (at_ + 1)) out
    else
    if Int.ofNat (UInt8.toNat c) = 47 then
      z2i 1 text at_ out >>= fun q1 =>
      if q1 = 47 then
        z0S text at_ out >>= fun q2 =>
        yJ q2.2.1 q2.2.2.1 q2.2.2.2
      else
      some (text, at_, out)
    else
    some (text, at_, out)
  else
  some (text, at_, out)
inductive z2P where
  | yJ (text : Str) (at_ : Int) (out : List zB)
@[reducible] def z4c : z2P → Type
  | .yJ _ _ _ => Str × Int × List zB
def z2Q (g : Fam z4c) : Fam z4c
  | .yJ text at_ out => z0x (fun text at_ out => g (z2P.yJ text at_ out)) text at_ out
theorem z6s : ∀ i, Good (fun g => z2Q g i)
  | .yJ text at_ out => by unfold z2Q z0x; exact (.ite (.bind (.const _) fun _ => (.ite (.call _) (.ite (.call _) (.ite (.call _) (.ite (.call _) (.ite (.bind (.const _) fun _ => (.ite (.bind (.const _) fun _ => (.call _)) (.const _))) (.const _))))))) (.const _))
def yJ (text : Str) (at_ : Int) (out : List zB) : Option (Str × Int × List zB) := z1S z2Q (.yJ text at_ out)
theorem z5V (text : Str) (at_ : Int) (out : List zB) : yJ text at_ out = z0x yJ text at_ out := wE z6s (.yJ text at_ out)
def z2S (text : Str) (at_ : Int) (out : List zB) : Option (Str × Int × List zB) :=
  yJ text at_ out
def z2X (uL : Str → Str → Int → (List zB) → Option (List zB × Int × Int)) (text text1 : Str) (at_ : Int) (out : List zB) : Option (List zB × Int × Int) :=
  if at_ < (List.length text : Int) then
    z3p text1 at_ out >>= fun q1 =>
    if q1.1 = 0 then
      z2S q1.2.1 q1.2.2.1 q1.2.2.2 >>= fun q2 =>
      uL text q2.1 q2.2.1 q2.2.2
    else
    some (([] : List zB), at_, q1.1)
  else
  z1z 5 0 [] at_ text1 at_ out >>= fun q3 =>
  some (q3.2.2, 0, 0)
inductive z5l where
  | uL (text text1 : Str) (at_ : Int) (out : List zB)
@[reducible] def z6G : z5l → Type
  | .uL _ _ _ _ => List zB × Int × Int
def z5b (g : Fam z6G) : Fam z6G
  | .uL text text1 at_ out => z2X (fun text text1 at_ out => g (z5l.uL text text1 at_ out)) text text1 at_ out
theorem z9A : ∀ i, Good (fun g => z5b g i)
  | .uL text text1 at_ out => by unfold z5b z2X; exact (.ite (.bind (.const _) fun _ => (.ite (.bind (.const _) fun _ => (.call _)) (.const _))) (.bind (.const _) fun _ => (.const _)))
def uL (text text1 : Str) (at_ : Int) (out : List zB) : Option (List zB × Int × Int) := z1S z5b (.uL text text1 at_ out)
theorem y5p (text text1 : Str) (at_ : Int) (out : List zB) : uL text text1 at_ out = z2X uL text text1 at_ out := wE z9A (.uL text text1 at_ out)
def z8e (text : Str) : Option (List zB × Int × Int) :=
  if (List.length text : Int) > 8192 then
    some (([] : List zB), 0, 3)
  else
  z2S text 0 [] >>= fun q1 =>
  uL text q1.1 q1.2.1 q1.2.2
def z5O (path : List Int) (v : zE) (size depth : Int) : Option (Int × Int) :=
  some (IntKind.wrap .i64 (size + 1), max depth (IntKind.wrap .i64 ((List.length path : Int) + 1)))
def z0P (zP : (List Int) → (List zE) → Int → Int → Int → Int → Option (Int × Int)) (t : zE) (path : List Int) (size depth : Int) : Option (Int × Int) :=
  z5O path t size depth >>= fun q1 =>
  zP path t.L (List.length t.L : Int) 0 q1.1 q1.2
def gC (yF : zE → (List Int) → Int → Int → Option (Int × Int)) (zP : (List Int) → (List zE) → Int → Int → Int → Int → Option (Int × Int)) (path : List Int) (v13 : List zE) (v14 v15 size depth : Int) : Option (Int × Int) :=
  if v15 < v14 then
    idx v13 v15 >>= fun x =>
    if (0 : Int) ≤ (List.length path : Int) then
    if Int.toNat (List.length path : Int) ≤ List.length path then
    if (0 : Int) ≤ (List.length path : Int) then
    if Int.toNat (List.length path : Int) = Int.toNat (List.length path : Int) then
    if 0 ≤ Int.toNat (List.length path : Int) then
    if z1i 8 (List.length (List.drop 0 (List.take (Int.toNat (List.length path : Int)) path)) + List.length [v15]) then
    yF x ((List.drop 0 (List.take (Int.toNat (List.length path : Int)) path)) ++ [v15]) size depth >>= fun q1 =>
    zP path v13 v14 (IntKind.wrap .i64 (v15 + 1)) q1.1 q1.2
    else none
    else none
    else none
    else none
    else none
    else none
  else
  some (size, depth)
inductive gH where
  | yF (t : zE) (path : List Int) (size depth : Int)
  | zP (path : List Int) (v13 : List zE) (v14 v15 size depth : Int)
@[reducible] def z3y : gH → Type
  | .yF _ _ _ _ => Int × Int
  | .zP _ _ _ _ _ _ => Int × Int
def z0O (g : Fam z3y) : Fam z3y
  | .yF t path size depth => z0P (fun path v13 v14 v15 size depth => g (gH.zP path v13 v14 v15 size depth)) t path size depth
  | .zP path v13 v14 v15 size depth => gC (fun t path size depth => g (gH.yF t path size depth)) (fun path v13 v14 v15 size depth => g (gH.zP path v13 v14 v15 size depth)) path v13 v14 v15 size depth
theorem z3I : ∀ i, Good (fun g => z0O g i)
  | .yF t path size depth => by unfold z0O z0P; exact (.bind (.const _) fun _ => (.call _))
  | .zP path v13 v14 v15 size depth => by unfold z0O gC; exact (.ite (.bind (.const _) fun _ => (.ite (.ite (.ite (.ite (.ite (.ite (.bind (.call _) fun _ => (.call _)) (.const _)) (.const _)) (.const _)) (.const _)) (.const _)) (.const _))) (.const _))
def yF (t : zE) (path : List Int) (size depth : Int) : Option (Int × Int) := z1S z0O (.yF t path size depth)
def zP (path : List Int) (v13 : List zE) (v14 v15 size depth : Int) : Option (Int × Int) := z1S z0O (.zP path v13 v14 v15 size depth)
theorem z2m (t : zE) (path : List Int) (size depth : Int) : yF t path size depth = z0P zP t path size depth := wE z3I (.yF t path size depth)
theorem jS (path : List Int) (v13 : List zE) (v14 v15 size depth : Int) : zP path v13 v14 v15 size depth = gC yF zP path v13 v14 v15 size depth := wE z3I (.zP path v13 v14 v15 size depth)
def z6C (t : zE) : Option (Int) :=
  yF t [] 0 0 >>= fun q1 =>
  some (q1.2)
def z4Q (t : zB) : Option (Int × Int) :=
  if t.K = 4 then
    if t.S = [124, 124] then
      some (1, 1)
    else
    if t.S = [38, 38] then
      some (2, 2)
    else
    if t.S = [61, 61] then
      some (3, 3)
    else
    if t.S = [33, 61] then
      some (4, 3)
    else
    if t.S = [60] then
      some (5, 3)
    else
    if t.S = [60, 61] then
      some (6, 3)
    else
    if t.S = [62] then
      some (7, 3)
    else
    if t.S = [62, 61] then
      some (8, 3)
    else
    if t.S = [43] then
      some (9, 4)
    else
    if t.S = [45] then
      some (10, 4)
    else
    if t.S = [42] then
      some (11, 5)
    else
    if t.S = [47] then
      some (12, 5)
    else
    if t.S = [37] then
      some (13, 5)
    else
    some (0, 0)
  else
  some (0, 0)
def yK (t : zE) (from_ : Int) (t1 : List zB) (at_ e : Int) : Option (zE) :=
  if e = 0 then
    idx t1 from_ >>= fun x =>
    idx t1 (IntKind.wrap .i64 (at_ - 1)) >>= fun x1 =>
    some ({ t with From := x.From, To := x1.To })
  else
  some (t)
def gO (t : List zB) (at_ e : Int) : Option (zB) :=
  if at_ < (List.length t : Int) then
    idx t at_ >>= fun x =>
    some (x)
  else
  some ((zB.mk 5 0 [] 0 0))
def uQ (s : Str) (t : List zB) (at_ e : Int) : Option (Bool) :=
  gO t at_ e >>= fun q1 =>
  if q1.K = 4 then
    some ((q1.S == s))
  else
  some (false)
def uP (t : List zB) (at_ e : Int) : Option (List zB × Int × Int) :=
  if e = 0 then
    some (t, at_, 6)
  else
  some (t, at_, e)
def wA (s : Str) (t : List zB) (at_ e : Int) : Option (List zB × Int × Int) :=
  if e = 0 then
    uQ s t at_ e >>= fun q1 =>
    if q1 = true then
      some (t, IntKind.wrap .i64 (at_ + 1), e)
    else
    uP t at_ e >>= fun q2 =>
    some (q2.1, q2.2.1, q2.2.2)
  else
  some (t, at_, e)
def z0J (t : List zB) (at_ e : Int) : Option (Str × List zB × Int × Int) :=
  if e = 0 then
    gO t at_ e >>= fun q1 =>
    if q1.K = 1 then
      some (q1.S, t, IntKind.wrap .i64 (at_ + 1), e)
    else
    uP t at_ e >>= fun q2 =>
    some ([], q2.1, q2.2.1, q2.2.2)
  else
  some ([], t, at_, e)
def z1I (zZ : Int → (List zB) → Int → Int → Option (zE × List zB × Int × Int)) (t : List zB) (at_ e : Int) : Option (zE × List zB × Int × Int) :=
  zZ 1 t at_ e >>= fun q1 =>
  some (q1.1, q1.2.1, q1.2.2.1, q1.2.2.2)
def z0p (zT : Int → Int → Int → zE → zE → (List zB) → Int → Int → Option (zE × List zB × Int × Int)) (yU : (List zB) → Int → Int → Option (zE × List zB × Int × Int)) (least : Int) (t : List zB) (at_ e : Int) : Option (zE × List zB × Int × Int) :=
  yU t at_ e >>= fun q1 =>
  zT least at_ 6 (zE.mk 0 0 [] [] 0 0) q1.1 q1.2.1 q1.2.2.1 q1.2.2.2
def uO (zZ : Int → (List zB) → Int → Int → Option (zE × List zB × Int × Int)) (zT : Int → Int → Int → zE → zE → (List zB) → Int → Int → Option (zE × List zB × Int × Int)) (least from_ most : Int) (o4 left : zE) (t : List zB) (at_ e : Int) : Option (zE × List zB × Int × Int) :=
  if e = 0 then
    gO t at_ e >>= fun q1 =>
    z4Q q1 >>= fun q2 =>
    if q2.2 < least then
      some (left, t, at_, e)
    else
    if q2.2 = 0 then
      some (left, t, at_, e)
    else
    if q2.2 > most then
      some (left, t, at_, e)
    else
    zZ (IntKind.wrap .i64 (q2.2 + 1)) t (IntKind.wrap .i64 (at_ + 1)) e >>= fun q3 =>
    yK (zE.mk 10 q2.1 [] [left, q3.1] 0 0) from_ q3.2.1 q3.2.2.1 q3.2.2.2 >>= fun q4 =>
    if q2.2 = 3 then
      zT least from_ 2 o4 q4 q3.2.1 q3.2.2.1 q3.2.2.2
    else
    zT least from_ q2.2 o4 q4 q3.2.1 q3.2.2.1 q3.2.2.2
  else
  some (left, t, at_, e)
def z0E (yU : (List zB) → Int → Int → Option (zE × List zB × Int × Int)) (vI : (List zB) → Int → Int → Option (zE × List zB × Int × Int)) (t : List zB) (at_ e : Int) : Option (zE × List zB × Int × Int) :=
  if e = 0 then
    uQ [45] t at_ e >>= fun q1 =>
    if q1 = true then
      if (1 : Int) = 0 then
        vI t at_ e >>= fun q2 =>
        some (q2.1, q2.2.1, q2.2.2.1, q2.2.2.2)
      else
      yU t (IntKind.wrap .i64 (at_ + 1)) e >>= fun q3 =>
      yK (zE.mk 11 1 [] [q3.1] 0 0) at_ q3.2.1 q3.2.2.1 q3.2.2.2 >>= fun q4 =>
      some (q4, q3.2.1, q3.2.2.1, q3.2.2.2)
    else
    uQ [33] t at_ e >>= fun q5 =>
    if q5 = true then
      if (2 : Int) = 0 then
        vI t at_ e >>= fun q6 =>
        some (q6.1, q6.2.1, q6.2.2.1, q6.2.2.2)
      else
      yU t (IntKind.wrap .i64 (at_ + 1)) e >>= fun q7 =>
      yK (zE.mk 11 2 [] [q7.1] 0 0) at_ q7.2.1 q7.2.2.1 q7.2.2.2 >>= fun q8 =>
      some (q8, q7.2.1, q7.2.2.1, q7.2.2.2)
    else
    if (0 : Int) = 0 then
      vI t at_ e >>= fun q9 =>
      some (q9.1, q9.2.1, q9.2.2.1, q9.2.2.2)
    else
    yU t (IntKind.wrap .i64 (at_ + 1)) e >>= fun q10 =>
    yK (zE.mk 11 0 [] [q10.1] 0 0) at_ q10.2.1 q10.2.2.1 q10.2.2.2 >>= fun q11 =>
    some (q11, q10.2.1, q10.2.2.1, q10.2.2.2)
  else
  some ((zE.mk 0 0 [] [] 0 0), t, at_, e)
def z1a (yA : Int → zE → zE → (List zB) → Int → Int → Option (zE × List zB × Int × Int)) (yC : (List zB) → Int → Int → Option (zE × List zB × Int × Int)) (t : List zB) (at_ e : Int) : Option (zE × List zB × Int × Int) :=
  yC t at_ e >>= fun q1 =>
  yA at_ (zE.mk 0 0 [] [] 0 0) q1.1 q1.2.1 q1.2.2.1 q1.2.2.2
def wS (zK : (List zB) → Int → Int → Option (zE × List zB × Int × Int)) (yA : Int → zE → zE → (List zB) → Int → Int → Option (zE × List zB × Int × Int)) (from_ : Int) (o2 x : zE) (t : List zB) (at_ e : Int) : Option (zE × List zB × Int × Int) :=
  if e = 0 then
    uQ [91] t at_ e >>= fun q1 =>
    if q1 = true then
      zK t (IntKind.wrap .i64 (at_ + 1)) e >>= fun q2 =>
      wA [93] q2.2.1 q2.2.2.1 q2.2.2.2 >>= fun q3 =>
      yK (zE.mk 12 0 [] [x, q2.1] 0 0) from_ q3.1 q3.2.1 q3.2.2 >>= fun q4 =>
      yA from_ o2 q4 q3.1 q3.2.1 q3.2.2
    else
    uQ [46] t at_ e >>= fun q5 =>
    if q5 = true then
      z0J t (IntKind.wrap .i64 (at_ + 1)) e >>= fun q6 =>
      yK (zE.mk 13 0 q6.1 [x] 0 0) from_ q6.2.1 q6.2.2.1 q6.2.2.2 >>= fun q7 =>
      yA from_ o2 q7 q6.2.1 q6.2.2.1 q6.2.2.2
    else
    some (x, t, at_, e)
  else
  some (x, t, at_, e)
def gF (zY : Bool → (List zB) → Int → Int → Option (List zE × List zB × Int × Int)) (wN : Str → Int → (List zB) → Int → Int → Option (zE × List zB × Int × Int)) (vN : Str → Int → (List zB) → Int → Int → Option (zE × List zB × Int × Int)) (t : List zB) (at_ e : Int) : Option (zE × List zB × Int × Int) :=
  if e = 0 then
    gO t at_ e >>= fun q1 =>
    if q1.K = 2 then
      yK (zE.mk 5 q1.N [] [] 0 0) at_ t (IntKind.wrap .i64 (at_ + 1)) e >>= fun q2 =>
      some (q2, t, IntKind.wrap .i64 (at_ + 1), e)
    else
    if q1.K = 1 then
      uQ [40] t (IntKind.wrap .i64 (at_ + 1)) e >>= fun q3 =>
      if q3 = true then
        zY true t (IntKind.wrap .i64 (at_ + 1)) e >>= fun q4 =>
        yK (zE.mk 16 0 q1.S q4.1 0 0) at_ q4.2.1 q4.2.2.1 q4.2.2.2 >>= fun q5 =>
        some (q5, q4.2.1, q4.2.2.1, q4.2.2.2)
      else
      yK (zE.mk 19 0 q1.S [] 0 0) at_ t (IntKind.wrap .i64 (at_ + 1)) e >>= fun q6 =>
      some (q6, t, IntKind.wrap .i64 (at_ + 1), e)
    else
    if q1.K = 3 then
      wN q1.S at_ t at_ e >>= fun q7 =>
      some (q7.1, q7.2.1, q7.2.2.1, q7.2.2.2)
    else
    if q1.K = 4 then
      vN q1.S at_ t at_ e >>= fun q8 =>
      some (q8.1, q8.2.1, q8.2.2.1, q8.2.2.2)
    else
    uP t at_ e >>= fun q9 =>
    some ((zE.mk 0 0 [] [] 0 0), q9.1, q9.2.1, q9.2.2)
  else
  some ((zE.mk 0 0 [] [] 0 0), t, at_, e)
def z0b (zM : (List zB) → Int → Int → Option (List zE × List zB × Int × Int)) (few : Bool) (t : List zB) (at_ e : Int) : Option (List zE × List zB × Int × Int) :=
  wA [40] t at_ e >>= fun q1 =>
  if q1.2.2 = 0 then
    if few = true then
      uQ [41] q1.1 q1.2.1 q1.2.2 >>= fun q2 =>
      if q2 = true then
        some (([] : List zE), q1.1, IntKind.wrap .i64 (q1.2.1 + 1), q1.2.2)
      else
      zM q1.1 q1.2.1 q1.2.2 >>= fun q3 =>
      wA [41] q3.2.1 q3.2.2.1 q3.2.2.2 >>= fun q4 =>
      some (q3.1, q4.1, q4.2.1, q4.2.2)
    else
    zM q1.1 q1.2.1 q1.2.2 >>= fun q5 =>
    wA [41] q5.2.1 q5.2.2.1 q5.2.2.2 >>= fun q6 =>
    some (q5.1, q6.1, q6.2.1, q6.2.2)
  else
  zM q1.1 q1.2.1 q1.2.2 >>= fun q7 =>
  wA [41] q7.2.1 q7.2.2.1 q7.2.2.2 >>= fun q8 =>
  some (q7.1, q8.1, q8.2.1, q8.2.2)
def jO (zY : Bool → (List zB) → Int → Int → Option (List zE × List zB × Int × Int)) (s : Str) (from_ : Int) (t : List zB) (at_ e : Int) : Option (zE × List zB × Int × Int) :=
  if s = [116, 114, 117, 101] then
    yK (zE.mk 6 1 [] [] 0 0) from_ t (IntKind.wrap .i64 (at_ + 1)) e >>= fun q1 =>
    some (q1, t, IntKind.wrap .i64 (at_ + 1), e)
  else
  if s = [102, 97, 108, 115, 101] then
    yK (zE.mk 6 0 [] [] 0 0) from_ t (IntKind.wrap .i64 (at_ + 1)) e >>= fun q2 =>
    some (q2, t, IntKind.wrap .i64 (at_ + 1), e)
  else
  if s = [114, 101, 97, 100] then
    yK (zE.mk 18 0 [] [] 0 0) from_ t (IntKind.wrap .i64 (at_ + 1)) e >>= fun q3 =>
    some (q3, t, IntKind.wrap .i64 (at_ + 1), e)
  else
  if s = [110, 101, 119] then
    z0J t (IntKind.wrap .i64 (at_ + 1)) e >>= fun q4 =>
    zY false q4.2.1 q4.2.2.1 q4.2.2.2 >>= fun q5 =>
    yK (zE.mk 15 0 q4.1 q5.1 0 0) from_ q5.2.1 q5.2.2.1 q5.2.2.2 >>= fun q6 =>
    some (q6, q5.2.1, q5.2.2.1, q5.2.2.2)
  else
  uP t (IntKind.wrap .i64 ((IntKind.wrap .i64 (at_ + 1)) - 1)) e >>= fun q7 =>
  some ((zE.mk 0 0 [] [] 0 0), q7.1, q7.2.1, q7.2.2)
def vY (zK : (List zB) → Int → Int → Option (zE × List zB × Int × Int)) (zY : Bool → (List zB) → Int → Int → Option (List zE × List zB × Int × Int)) (zM : (List zB) → Int → Int → Option (List zE × List zB × Int × Int)) (s : Str) (from_ : Int) (t : List zB) (at_ e : Int) : Option (zE × List zB × Int × Int) :=
  if s = [40] then
    zK t (IntKind.wrap .i64 (at_ + 1)) e >>= fun q1 =>
    wA [41] q1.2.1 q1.2.2.1 q1.2.2.2 >>= fun q2 =>
    some (q1.1, q2.1, q2.2.1, q2.2.2)
  else
  if s = [91] then
    zM t (IntKind.wrap .i64 (at_ + 1)) e >>= fun q3 =>
    wA [93] q3.2.1 q3.2.2.1 q3.2.2.2 >>= fun q4 =>
    yK (zE.mk 14 0 [] q3.1 0 0) from_ q4.1 q4.2.1 q4.2.2 >>= fun q5 =>
    some (q5, q4.1, q4.2.1, q4.2.2)
  else
  if s = [64] then
    z0J t (IntKind.wrap .i64 (at_ + 1)) e >>= fun q6 =>
    zY true q6.2.1 q6.2.2.1 q6.2.2.2 >>= fun q7 =>
    yK (zE.mk 17 0 q6.1 q7.1 0 0) from_ q7.2.1 q7.2.2.1 q7.2.2.2 >>= fun q8 =>
    some (q8, q7.2.1, q7.2.2.1, q7.2.2.2)
  else
  uP t (IntKind.wrap .i64 ((IntKind.wrap .i64 (at_ + 1)) - 1)) e >>= fun q9 =>
  some ((zE.mk 0 0 [] [] 0 0), q9.1, q9.2.1, q9.2.2)
def jG (zK : (List zB) → Int → Int → Option (zE × List zB × Int × Int)) (zJ : (List zE) → (List zB) → Int → Int → Option (List zE × List zB × Int × Int)) (t : List zB) (at_ e : Int) : Option (List zE × List zB × Int × Int) :=
  zK t at_ e >>= fun q1 =>
  zJ [q1.1] q1.2.1 q1.2.2.1 q1.2.2.2
def vW (zK : (List zB) → Int → Int → Option (zE × List zB × Int × Int)) (zJ : (List zE) → (List zB) → Int → Int → Option (List zE × List zB × Int × Int)) (out : List zE) (t : List zB) (at_ e : Int) : Option (List zE × List zB × Int × Int) :=
  if e = 0 then
    uQ [44] t at_ e >>= fun q1 =>
    if q1 = true then
      zK t (IntKind.wrap .i64 (at_ + 1)) e >>= fun q2 =>
      if z1i 72 (List.length out + List.length [q2.1]) then
      zJ (out ++ [q2.1]) q2.2.1 q2.2.2.1 q2.2.2.2
      else none
    else
    some (out, t, at_, e)
  else
  some (out, t, at_, e)
inductive zL where
  | zK (t : List zB) (at_ e : Int)
  | zZ (least : Int) (t : List zB) (at_ e : Int)
  | zT (least from_ most : Int) (o4 left : zE) (t : List zB) (at_ e : Int)
  | yU (t : List zB) (at_ e : Int)
  | vI (t : List zB) (at_ e : Int)
  | yA (from_ : Int) (o2 x : zE) (t : List zB) (at_ e : Int)
  | yC (t : List zB) (at_ e : Int)
  | zY (few : Bool) (t : List zB) (at_ e : Int)
  | wN (s : Str) (from_ : Int) (t : List zB) (at_ e : Int)
  | vN (s : Str) (from_ : Int) (t : List zB) (at_ e : Int)
  | zM (t : List zB) (at_ e : Int)
  | zJ (out : List zE) (t : List zB) (at_ e : Int)
@[reducible] def z4Y : zL → Type
  | .zK _ _ _ => zE × List zB × Int × Int
  | .zZ _ _ _ _ => zE × List zB × Int × Int
  | .zT _ _ _ _ _ _ _ _ => zE × List zB × Int × Int
  | .yU _ _ _ => zE × List zB × Int × Int
  | .vI _ _ _ => zE × List zB × Int × Int
  | .yA _ _ _ _ _ _ => zE × List zB × Int × Int
  | .yC _ _ _ => zE × List zB × Int × Int
  | .zY _ _ _ _ => List zE × List zB × Int × Int
  | .wN _ _ _ _ _ => zE × List zB × Int × Int
  | .vN _ _ _ _ _ => zE × List zB × Int × Int
  | .zM _ _ _ => List zE × List zB × Int × Int
  | .zJ _ _ _ _ => List zE × List zB × Int × Int
def yI (g : Fam z4Y) : Fam z4Y
  | .zK t at_ e => z1I (fun least t at_ e => g (zL.zZ least t at_ e)) t at_ e
  | .zZ least t at_ e => z0p (fun least from_ most o4 left t at_ e => g (zL.zT least from_ most o4 left t at_ e)) (fun t at_ e => g (zL.yU t at_ e)) least t at_ e
  | .zT least from_ most o4 left t at_ e => uO (fun least t at_ e => g (zL.zZ least t at_ e)) (fun least from_ most o4 left t at_ e => g (zL.zT least from_ most o4 left t at_ e)) least from_ most o4 left t at_ e
  | .yU t at_ e => z0E (fun t at_ e => g (zL.yU t at_ e)) (fun t at_ e => g (zL.vI t at_ e)) t at_ e
  | .vI t at_ e => z1a (fun from_ o2 x t at_ e => g (zL.yA from_ o2 x t at_ e)) (fun t at_ e => g (zL.yC t at_ e)) t at_ e
  | .yA from_ o2 x t at_ e => wS (fun t at_ e => g (zL.zK t at_ e)) (fun from_ o2 x t at_ e => g (zL.yA from_ o2 x t at_ e)) from_ o2 x t at_ e
  | .yC t at_ e => gF (fun few t at_ e => g (zL.zY few t at_ e)) (fun s from_ t at_ e => g (zL.wN s from_ t at_ e)) (fun s from_ t at_ e => g (zL.vN s from_ t at_ e)) t at_ e
  | .zY few t at_ e => z0b (fun t at_ e => g (zL.zM t at_ e)) few t at_ e
  | .wN s from_ t at_ e => jO (fun few t at_ e => g (zL.zY few t at_ e)) s from_ t at_ e
  | .vN s from_ t at_ e => vY (fun t at_ e => g (zL.zK t at_ e)) (fun few t at_ e => g (zL.zY few t at_ e)) (fun t at_ e => g (zL.zM t at_ e)) s from_ t at_ e
  | .zM t at_ e => jG (fun t at_ e => g (zL.zK t at_ e)) (fun out t at_ e => g (zL.zJ out t at_ e)) t at_ e
  | .zJ out t at_ e => vW (fun t at_ e => g (zL.zK t at_ e)) (fun out t at_ e => g (zL.zJ out t at_ e)) out t at_ e
theorem uN : ∀ i, Good (fun g => yI g i)
  | .zK t at_ e => by unfold yI z1I; exact (.bind (.call _) fun _ => (.const _))
  | .zZ least t at_ e => by unfold yI z0p; exact (.bind (.call _) fun _ => (.call _))
  | .zT least from_ most o4 left t at_ e => by unfold yI uO; exact (.ite (.bind (.const _) fun _ => (.bind (.const _) fun _ => (.ite (.const _) (.ite (.const _) (.ite (.const _) (.bind (.call _) fun _ => (.bind (.const _) fun _ => (.ite (.call _) (.call _))))))))) (.const _))
  | .yU t at_ e => by unfold yI z0E; exact (.ite (.bind (.const _) fun _ => (.ite (.ite (.bind (.call _) fun _ => (.const _)) (.bind (.call _) fun _ => (.bind (.const _) fun _ => (.const _)))) (.bind (.const _) fun _ => (.ite (.ite (.bind (.call _) fun _ => (.const _)) (.bind (.call _) fun _ => (.bind (.const _) fun _ => (.const _)))) (.ite (.bind (.call _) fun _ => (.const _)) (.bind (.call _) fun _ => (.bind (.const _) fun _ => (.const _)))))))) (.const _))
  | .vI t at_ e => by unfold yI z1a; exact (.bind (.call _) fun _ => (.call _))
  | .yA from_ o2 x t at_ e => by unfold yI wS; exact (.ite (.bind (.const _) fun _ => (.ite (.bind (.call _) fun _ => (.bind (.const _) fun _ => (.bind (.const _) fun _ => (.call _)))) (.bind (.const _) fun _ => (.ite (.bind (.const _) fun _ => (.bind (.const _) fun _ => (.call _))) (.const _))))) (.const _))
  | .yC t at_ e => by unfold yI gF; exact (.ite (.bind (.const _) fun _ => (.ite (.bind (.const _) fun _ => (.const _)) (.ite (.bind (.const _) fun _ => (.ite (.bind (.call _) fun _ => (.bind (.const _) fun _ => (.const _))) (.bind (.const _) fun _ => (.const _)))) (.ite (.bind (.call _) fun _ => (.const _)) (.ite (.bind (.call _) fun _ => (.const _)) (.bind (.const _) fun _ => (.const _))))))) (.const _))
  | .zY few t at_ e => by unfold yI z0b; exact (.bind (.const _) fun _ => (.ite (.ite (.bind (.const _) fun _ => (.ite (.const _) (.bind (.call _) fun _ => (.bind (.const _) fun _ => (.const _))))) (.bind (.call _) fun _ => (.bind (.const _) fun _ => (.const _)))) (.bind (.call _) fun _ => (.bind (.const _) fun _ => (.const _)))))
  | .wN s from_ t at_ e => by unfold yI jO; exact (.ite (.bind (.const _) fun _ => (.const _)) (.ite (.bind (.const _) fun _ => (.const _)) (.ite (.bind (.const _) fun _ => (.const _)) (.ite (.bind (.const _) fun _ => (.bind (.call _) fun _ => (.bind (.const _) fun _ => (.const _)))) (.bind (.const _) fun _ => (.const _))))))
  | .vN s from_ t at_ e => by unfold yI vY; exact (.ite (.bind (.call _) fun _ => (.bind (.const _) fun _ => (.const _))) (.ite (.bind (.call _) fun _ => (.bind (.const _) fun _ => (.bind (.const _) fun _ => (.const _)))) (.ite (.bind (.const _) fun _ => (.bind (.call _) fun _ => (.bind (.const _) fun _ => (.const _)))) (.bind (.const _) fun _ => (.const _)))))
  | .zM t at_ e => by unfold yI jG; exact (.bind (.call _) fun _ => (.call _))
  | .zJ out t at_ e => by unfold yI vW; exact (.ite (.bind (.const _) fun _ => (.ite (.bind (.call _) fun _ => (.ite (.call _) (.const _))) (.const _))) (.const _))
def zK (t : List zB) (at_ e : Int) : Option (zE × List zB × Int × Int) := z1S yI (.zK t at_ e)
def zZ (least : Int) (t : List zB) (at_ e : Int) : Option (zE × List zB × Int × Int) := z1S yI (.zZ least t at_ e)
def zT (least from_ most : Int) (o4 left : zE) (t : List zB) (at_ e : Int) : Option (zE × List zB × Int × Int) := z1S yI (.zT least from_ most o4 left t at_ e)
def yU (t : List zB) (at_ e : Int) : Option (zE × List zB × Int × Int) := z1S yI (.yU t at_ e)
def vI (t : List zB) (at_ e : Int) : Option (zE × List zB × Int × Int) := z1S yI (.vI t at_ e)
def yA (from_ : Int) (o2 x : zE) (t : List zB) (at_ e : Int) : Option (zE × List zB × Int × Int) := z1S yI (.yA from_ o2 x t at_ e)
def yC (t : List zB) (at_ e : Int) : Option (zE × List zB × Int × Int) := z1S yI (.yC t at_ e)
def zY (few : Bool) (t : List zB) (at_ e : Int) : Option (List zE × List zB × Int × Int) := z1S yI (.zY few t at_ e)
def wN (s : Str) (from_ : Int) (t : List zB) (at_ e : Int) : Option (zE × List zB × Int × Int) := z1S yI (.wN s from_ t at_ e)
def vN (s : Str) (from_ : Int) (t : List zB) (at_ e : Int) : Option (zE × List zB × Int × Int) := z1S yI (.vN s from_ t at_ e)
def zM (t : List zB) (at_ e : Int) : Option (List zE × List zB × Int × Int) := z1S yI (.zM t at_ e)
def zJ (out : List zE) (t : List zB) (at_ e : Int) : Option (List zE × List zB × Int × Int) := z1S yI (.zJ out t at_ e)
theorem z6N (t : List zB) (at_ e : Int) : zK t at_ e = z1I zZ t at_ e := wE uN (.zK t at_ e)
theorem z4b (least : Int) (t : List zB) (at_ e : Int) : zZ least t at_ e = z0p zT yU least t at_ e := wE uN (.zZ least t at_ e)
theorem z0u (least from_ most : Int) (o4 left : zE) (t : List zB) (at_ e : Int) : zT least from_ most o4 left t at_ e = uO zZ zT least from_ most o4 left t at_ e := wE uN (.zT least from_ most o4 left t at_ e)
theorem z3N (t : List zB) (at_ e : Int) : yU t at_ e = z0E yU vI t at_ e := wE uN (.yU t at_ e)
theorem z6O (t : List zB) (at_ e : Int) : vI t at_ e = z1a yA yC t at_ e := wE uN (.vI t at_ e)
theorem gX (from_ : Int) (o2 x : zE) (t : List zB) (at_ e : Int) : yA from_ o2 x t at_ e = wS zK yA from_ o2 x t at_ e := wE uN (.yA from_ o2 x t at_ e)
theorem z2e (t : List zB) (at_ e : Int) : yC t at_ e = gF zY wN vN t at_ e := wE uN (.yC t at_ e)
theorem z3e (few : Bool) (t : List zB) (at_ e : Int) : zY few t at_ e = z0b zM few t at_ e := wE uN (.zY few t at_ e)
theorem z1v (s : Str) (from_ : Int) (t : List zB) (at_ e : Int) : wN s from_ t at_ e = jO zY s from_ t at_ e := wE uN (.wN s from_ t at_ e)
theorem jC (s : Str) (from_ : Int) (t : List zB) (at_ e : Int) : vN s from_ t at_ e = vY zK zY zM s from_ t at_ e := wE uN (.vN s from_ t at_ e)
theorem z2U (t : List zB) (at_ e : Int) : zM t at_ e = jG zK zJ t at_ e := wE uN (.zM t at_ e)
theorem z0V (out : List zE) (t : List zB) (at_ e : Int) : zJ out t at_ e = vW zK zJ out t at_ e := wE uN (.zJ out t at_ e)
def z1q (t : List zB) (at_ : Int) : Option (zE × Int × Int) :=
  if at_ < 0 then
    some ((zE.mk 0 0 [] [] 0 0), 0, 13)
  else
  if at_ > (List.length t : Int) then
    some ((zE.mk 0 0 [] [] 0 0), 0, 13)
  else
  zK t at_ 0 >>= fun q1 =>
  if q1.2.2.2 = 0 then
    some (q1.1, q1.2.2.1, 0)
  else
  some ((zE.mk 0 0 [] [] 0 0), q1.2.2.1, q1.2.2.2)
def z1w (t : List zB) (at_ : Int) : Option (zE × Int × Int) :=
  z1q t at_ >>= fun q1 =>
  some (q1.1, q1.2.1, q1.2.2)
def jH (k : Int) (s : Str) (t : List zB) (at_ e K N : Int) (S : Str) (L : List zE) (From To : Int) : Option (Bool) :=
  idx t at_ >>= fun x =>
  if x.K = k then
    idx t at_ >>= fun x1 =>
    some ((x1.S == s))
  else
  some (false)
def vM (t : List zB) (at_ e K N : Int) (S : Str) (L : List zE) (From To : Int) : Option (zE × List zB × Int × Int × Int × Int × Str × List zE × Int × Int) :=
  if e = 0 then
    idx t at_ >>= fun x =>
    if x.K = 2 then
      if (0 : Int) ≤ (IntKind.wrap .i64 (at_ + 1)) then
      if Int.toNat (IntKind.wrap .i64 (at_ + 1)) ≤ List.length t then
      if (0 : Int) ≤ at_ then
      if Int.toNat at_ ≤ Int.toNat (IntKind.wrap .i64 (at_ + 1)) then
      z1w (List.drop (Int.toNat at_) (List.take (Int.toNat (IntKind.wrap .i64 (at_ + 1))) t)) 0 >>= fun q5 =>
      some (q5.1, t, IntKind.wrap .i64 (at_ + 1), e, K, N, S, L, From, To)
      else none
      else none
      else none
      else none
    else
    jH 3 [116, 114, 117, 101] t at_ e K N S L From To >>= fun q1 =>
    if q1 = true then
      if (0 : Int) ≤ (IntKind.wrap .i64 (at_ + 1)) then
      if Int.toNat (IntKind.wrap .i64 (at_ + 1)) ≤ List.length t then
      if (0 : Int) ≤ at_ then
      if Int.toNat at_ ≤ Int.toNat (IntKind.wrap .i64 (at_ + 1)) then
      z1w (List.drop (Int.toNat at_) (List.take (Int.toNat (IntKind.wrap .i64 (at_ + 1))) t)) 0 >>= fun q4 =>
      some (q4.1, t, IntKind.wrap .i64 (at_ + 1), e, K, N, S, L, From, To)
      else none
      else none
      else none
      else none
    else
    jH 3 [102, 97, 108, 115, 101] t at_ e K N S L From To >>= fun q2 =>
    if q2 = true then
      if (0 : Int) ≤ (IntKind.wrap .i64 (at_ + 1)) then
      if Int.toNat (IntKind.wrap .i64 (at_ + 1)) ≤ List.length t then
      if (0 : Int) ≤ at_ then
      if Int.toNat at_ ≤ Int.toNat (IntKind.wrap .i64 (at_ + 1)) then
      z1w (List.drop (Int.toNat at_) (List.take (Int.toNat (IntKind.wrap .i64 (at_ + 1))) t)) 0 >>= fun q3 =>
      some (q3.1, t, IntKind.wrap .i64 (at_ + 1), e, K, N, S, L, From, To)
      else none
      else none
      else none
      else none
    else
    some ((zE.mk 0 0 [] [] 0 0), t, at_, 6, K, N, S, L, From, To)
  else
  some ((zE.mk 0 0 [] [] 0 0), t, at_, e, K, N, S, L, From, To)
def vO (k n : Int) (s : Str) (from_ : Int) (parts : List zE) (t : List zB) (at_ e K N : Int) (S : Str) (L : List zE) (From To : Int) : Option (zE) :=
  if e = 0 then
    idx t from_ >>= fun x =>
    idx t (IntKind.wrap .i64 (at_ - 1)) >>= fun x1 =>
    some ((zE.mk k n s parts x.From x1.To))
  else
  some ((zE.mk 0 0 [] [] 0 0))
def wC (t : List zB) (at_ e K N : Int) (S : Str) (L : List zE) (From To : Int) : Option (Str × List zB × Int × Int × Int × Int × Str × List zE × Int × Int) :=
  if e = 0 then
    idx t at_ >>= fun x =>
    if x.K = 1 then
      idx t (IntKind.wrap .i64 ((IntKind.wrap .i64 (at_ + 1)) - 1)) >>= fun x1 =>
      some (x1.S, t, IntKind.wrap .i64 (at_ + 1), e, K, N, S, L, From, To)
    else
    some ([], t, at_, 6, K, N, S, L, From, To)
  else
  some ([], t, at_, e, K, N, S, L, From, To)
def z0s (k : Int) (s : Str) (t : List zB) (at_ e K N : Int) (S : Str) (L : List zE) (From To : Int) : Option (Bool × List zB × Int × Int × Int × Int × Str × List zE × Int × Int) :=
  if e = 0 then
    jH k s t at_ e K N S L From To >>= fun q1 =>
    if q1 = true then
      some (true, t, IntKind.wrap .i64 (at_ + 1), e, K, N, S, L, From, To)
    else
    some (false, t, at_, e, K, N, S, L, From, To)
  else
  some (false, t, at_, e, K, N, S, L, From, To)
def yE (k : Int) (s : Str) (t : List zB) (at_ e K N : Int) (S : Str) (L : List zE) (From To : Int) : Option (List zB × Int × Int × Int × Int × Str × List zE × Int × Int) :=
  if e = 0 then
    z0s k s t at_ e K N S L From To >>= fun q1 =>
    if q1.1 = true then
      some (q1.2.1, q1.2.2.1, q1.2.2.2.1, q1.2.2.2.2.1, q1.2.2.2.2.2.1, q1.2.2.2.2.2.2.1, q1.2.2.2.2.2.2.2.1, q1.2.2.2.2.2.2.2.2.1, q1.2.2.2.2.2.2.2.2.2)
    else
    some (q1.2.1, q1.2.2.1, 6, q1.2.2.2.2.1, q1.2.2.2.2.2.1, q1.2.2.2.2.2.2.1, q1.2.2.2.2.2.2.2.1, q1.2.2.2.2.2.2.2.2.1, q1.2.2.2.2.2.2.2.2.2)
  else
  some (t, at_, e, K, N, S, L, From, To)
def z1h (t : List zB) (at_ e K N : Int) (S : Str) (L : List zE) (From To : Int) : Option (zE × List zB × Int × Int × Int × Int × Str × List zE × Int × Int) :=
  wC t (IntKind.wrap .i64 (at_ + 1)) e K N S L From To >>= fun q1 =>
  yE 4 [61] q1.2.1 q1.2.2.1 q1.2.2.2.1 q1.2.2.2.2.1 q1.2.2.2.2.2.1 q1.2.2.2.2.2.2.1 q1.2.2.2.2.2.2.2.1 q1.2.2.2.2.2.2.2.2.1 q1.2.2.2.2.2.2.2.2.2 >>= fun q2 =>
  vM q2.1 q2.2.1 q2.2.2.1 q2.2.2.2.1 q2.2.2.2.2.1 q2.2.2.2.2.2.1 q2.2.2.2.2.2.2.1 q2.2.2.2.2.2.2.2.1 q2.2.2.2.2.2.2.2.2 >>= fun q3 =>
  yE 4 [59] q3.2.1 q3.2.2.1 q3.2.2.2.1 q3.2.2.2.2.1 q3.2.2.2.2.2.1 q3.2.2.2.2.2.2.1 q3.2.2.2.2.2.2.2.1 q3.2.2.2.2.2.2.2.2.1 q3.2.2.2.2.2.2.2.2.2 >>= fun q4 =>
  vO 31 0 q1.1 at_ [q3.1] q4.1 q4.2.1 q4.2.2.1 q4.2.2.2.1 q4.2.2.2.2.1 q4.2.2.2.2.2.1 q4.2.2.2.2.2.2.1 q4.2.2.2.2.2.2.2.1 q4.2.2.2.2.2.2.2.2 >>= fun q5 =>
  some (q5, q4.1, q4.2.1, q4.2.2.1, q4.2.2.2.1, q4.2.2.2.2.1, q4.2.2.2.2.2.1, q4.2.2.2.2.2.2.1, q4.2.2.2.2.2.2.2.1, q4.2.2.2.2.2.2.2.2)
def z1F (t : List zB) (at_ e : Int) : Option (zB) :=
  if at_ < (List.length t : Int) then
    idx t at_ >>= fun x =>
    some (x)
  else
  some ((zB.mk 5 0 [] 0 0))
def gG (k : Int) (s : Str) (t : List zB) (at_ e : Int) : Option (Bool) :=
  z1F t at_ e >>= fun q1 =>
  if q1.K = k then
    some ((q1.S == s))
  else
  some (false)
def vE (k : Int) (s : Str) (from_ : Int) (parts : List zE) (t : List zB) (at_ e : Int) : Option (zE) :=
  if e = 0 then
    idx t from_ >>= fun x =>
    idx t (IntKind.wrap .i64 (at_ - 1)) >>= fun x1 =>
    some ((zE.mk k 0 s parts x.From x1.To))
  else
  some ((zE.mk 0 0 [] [] 0 0))
def yB (k : Int) (s : Str) (t : List zB) (at_ e : Int) : Option (List zB × Int × Int) :=
  if e = 0 then
    gG k s t at_ e >>= fun q1 =>
    if q1 = true then
      some (t, IntKind.wrap .i64 (at_ + 1), e)
    else
    some (t, at_, 6)
  else
  some (t, at_, e)
def z1P (t : zB) : Option (Nat) :=
  if t.K = 4 then
    if t.S = [123] then
      some (75)
    else
    some (101)
  else
  if t.K = 3 then
    if t.S = [108, 101, 116] then
      some (102)
    else
    if t.S = [105, 102] then
      some (103)
    else
    if t.S = [119, 104, 105, 108, 101] then
      some (104)
    else
    if t.S = [102, 111, 114] then
      some (105)
    else
    if t.S = [112, 114, 105, 110, 116] then
      some (106)
    else
    if t.S = [114, 101, 116, 117, 114, 110] then
      some (107)
    else
    if t.S = [100, 111] then
      some (108)
    else
    some (101)
  else
  some (101)
def jN (t : List zB) (at_ e : Int) : Option (zE × List zB × Int × Int) :=
  if e = 0 then
    if at_ > (List.length t : Int) then
      some ((zE.mk 0 0 [] [] 0 0), t, at_, 6)
    else
    z1w t at_ >>= fun q1 =>
    some (q1.1, t, q1.2.1, q1.2.2)
  else
  some ((zE.mk 0 0 [] [] 0 0), t, at_, e)
def vF (t : List zB) (at_ e : Int) : Option (zE × List zB × Int × Int) :=
  jN t at_ e >>= fun q1 =>
  some (q1.1, q1.2.1, q1.2.2.1, q1.2.2.2)
def z0k (k : Int) (t : List zB) (at_ e : Int) : Option (zE × List zB × Int × Int) :=
  vF t (IntKind.wrap .i64 (at_ + 1)) e >>= fun q1 =>
  yB 4 [59] q1.2.1 q1.2.2.1 q1.2.2.2 >>= fun q2 =>
  vE k [] at_ [q1.1] q2.1 q2.2.1 q2.2.2 >>= fun q3 =>
  some (q3, q2.1, q2.2.1, q2.2.2)
def z3k (t : List zB) (at_ e : Int) : Option (zE × List zB × Int × Int) :=
  z0k 27 t at_ e >>= fun q1 =>
  some (q1.1, q1.2.1, q1.2.2.1, q1.2.2.2)
def z3n (t : List zB) (at_ e : Int) : Option (zE × List zB × Int × Int) :=
  z0k 28 t at_ e >>= fun q1 =>
  some (q1.1, q1.2.1, q1.2.2.1, q1.2.2.2)
def gP (t : List zB) (at_ e : Int) : Option (Str × List zB × Int × Int) :=
  if e = 0 then
    z1F t at_ e >>= fun q1 =>
    if q1.K = 1 then
      some (q1.S, t, IntKind.wrap .i64 (at_ + 1), e)
    else
    some ([], t, at_, 6)
  else
  some ([], t, at_, e)
def z0Z (yY : (List zB) → Int → Int → Option (zE × List zB × Int × Int)) (t : List zB) (at_ e : Int) : Option (zE × List zB × Int × Int) :=
  if e = 0 then
    gO t at_ e >>= fun q1 =>
    if q1.K = 3 then
      if q1.S = [105, 110, 116] then
        yK (zE.mk 1 0 [] [] 0 0) at_ t (IntKind.wrap .i64 (at_ + 1)) e >>= fun q2 =>
        some (q2, t, IntKind.wrap .i64 (at_ + 1), e)
      else
      if q1.S = [98, 111, 111, 108] then
        yK (zE.mk 2 0 [] [] 0 0) at_ t (IntKind.wrap .i64 (at_ + 1)) e >>= fun q3 =>
        some (q3, t, IntKind.wrap .i64 (at_ + 1), e)
      else
      uQ [91] t at_ e >>= fun q5 =>
      if q5 = true then
        gO t (IntKind.wrap .i64 (at_ + 1)) e >>= fun q6 =>
        if q6.K = 2 then
          wA [93] t (IntKind.wrap .i64 ((IntKind.wrap .i64 (at_ + 1)) + 1)) e >>= fun q8 =>
          yY q8.1 q8.2.1 q8.2.2 >>= fun q9 =>
          yK (zE.mk 3 q6.N [] [q9.1] 0 0) at_ q9.2.1 q9.2.2.1 q9.2.2.2 >>= fun q10 =>
          some (q10, q9.2.1, q9.2.2.1, q9.2.2.2)
        else
        uP t (IntKind.wrap .i64 (at_ + 1)) e >>= fun q7 =>
        some ((zE.mk 0 0 [] [] 0 0), q7.1, q7.2.1, q7.2.2)
      else
      uP t at_ e >>= fun q11 =>
      some ((zE.mk 0 0 [] [] 0 0), q11.1, q11.2.1, q11.2.2)
    else
    if q1.K = 1 then
      yK (zE.mk 4 0 q1.S [] 0 0) at_ t (IntKind.wrap .i64 (at_ + 1)) e >>= fun q29 =>
      some (q29, t, IntKind.wrap .i64 (at_ + 1), e)
    else
    uQ [91] t at_ e >>= fun q30 =>
    if q30 = true then
      gO t (IntKind.wrap .i64 (at_ + 1)) e >>= fun q31 =>
      if q31.K = 2 then
        wA [93] t (IntKind.wrap .i64 ((IntKind.wrap .i64 (at_ + 1)) + 1)) e >>= fun q33 =>
        yY q33.1 q33.2.1 q33.2.2 >>= fun q34 =>
        yK (zE.mk 3 q31.N [] [q34.1] 0 0) at_ q34.2.1 q34.2.2.1 q34.2.2.2 >>= fun q35 =>
        some (q35, q34.2.1, q34.2.2.1, q34.2.2.2)
      else
      uP t (IntKind.wrap .i64 (at_ + 1)) e >>= fun q32 =>
      some ((zE.mk 0 0 [] [] 0 0), q32.1, q32.2.1, q32.2.2)
    else
    uP t at_ e >>= fun q36 =>
    some ((zE.mk 0 0 [] [] 0 0), q36.1, q36.2.1, q36.2.2)
  else
  some ((zE.mk 0 0 [] [] 0 0), t, at_, e)
inductive z3s where
  | yY (t : List zB) (at_ e : Int)
@[reducible] def z4W : z3s → Type
  | .yY _ _ _ => zE × List zB × Int × Int
def z3v (g : Fam z4W) : Fam z4W
  | .yY t at_ e => z0Z (fun t at_ e => g (z3s.yY t at_ e)) t at_ e
theorem z7d : ∀ i, Good (fun g => z3v g i)
  | .yY t at_ e => by unfold z3v z0Z; exact (.ite (.bind (.const _) fun _ => (.ite (.ite (.bind (.const _) fun _ => (.const _)) (.ite (.bind (.const _) fun _ => (.const _)) (.bind (.const _) fun _ => (.ite (.bind (.const _) fun _ => (.ite (.bind (.const _) fun _ => (.bind (.call _) fun _ => (.bind (.const _) fun _ => (.const _)))) (.bind (.const _) fun _ => (.const _)))) (.bind (.const _) fun _ => (.const _)))))) (.ite (.bind (.const _) fun _ => (.const _)) (.bind (.const _) fun _ => (.ite (.bind (.const _) fun _ => (.ite (.bind (.const _) fun _ => (.bind (.call _) fun _ => (.bind (.const _) fun _ => (.const _)))) (.bind (.const _) fun _ => (.const _)))) (.bind (.const _) fun _ => (.const _))))))) (.const _))
def yY (t : List zB) (at_ e : Int) : Option (zE × List zB × Int × Int) := z1S z3v (.yY t at_ e)
theorem z4r (t : List zB) (at_ e : Int) : yY t at_ e = z0Z yY t at_ e := wE z7d (.yY t at_ e)
def gY (t : List zB) (at_ : Int) : Option (zE × Int × Int) :=
  if at_ < 0 then
    some ((zE.mk 0 0 [] [] 0 0), 0, 13)
  else
  if at_ > (List.length t : Int) then
    some ((zE.mk 0 0 [] [] 0 0), 0, 13)
  else
  yY t at_ 0 >>= fun q1 =>
  if q1.2.2.2 = 0 then
    some (q1.1, q1.2.2.1, 0)
  else
  some ((zE.mk 0 0 [] [] 0 0), q1.2.2.1, q1.2.2.2)
def z5c (t : List zB) (at_ : Int) : Option (zE × Int × Int) :=
  gY t at_ >>= fun q1 =>
  some (q1.1, q1.2.1, q1.2.2)
def wY (t : List zB) (at_ e : Int) : Option (zE × List zB × Int × Int) :=
  if e = 0 then
    if at_ > (List.length t : Int) then
      some ((zE.mk 0 0 [] [] 0 0), t, at_, 6)
    else
    z5c t at_ >>= fun q1 =>
    some (q1.1, t, q1.2.1, q1.2.2)
  else
  some ((zE.mk 0 0 [] [] 0 0), t, at_, e)
def z1g (t : List zB) (at_ e : Int) : Option (zE × List zB × Int × Int) :=
  gP t (IntKind.wrap .i64 (at_ + 1)) e >>= fun q1 =>
  if q1.2.2.2 = 0 then
    gG 4 [58] q1.2.1 q1.2.2.1 q1.2.2.2 >>= fun q2 =>
    if q2 = true then
      wY q1.2.1 (IntKind.wrap .i64 (q1.2.2.1 + 1)) q1.2.2.2 >>= fun q3 =>
      yB 4 [59] q3.2.1 q3.2.2.1 q3.2.2.2 >>= fun q4 =>
      vE 21 q1.1 at_ [q3.1] q4.1 q4.2.1 q4.2.2 >>= fun q5 =>
      some (q5, q4.1, q4.2.1, q4.2.2)
    else
    yB 4 [61] q1.2.1 q1.2.2.1 q1.2.2.2 >>= fun q6 =>
    vF q6.1 q6.2.1 q6.2.2 >>= fun q7 =>
    yB 4 [59] q7.2.1 q7.2.2.1 q7.2.2.2 >>= fun q8 =>
    vE 20 q1.1 at_ [q7.1] q8.1 q8.2.1 q8.2.2 >>= fun q9 =>
    some (q9, q8.1, q8.2.1, q8.2.2)
  else
  yB 4 [61] q1.2.1 q1.2.2.1 q1.2.2.2 >>= fun q10 =>
  vF q10.1 q10.2.1 q10.2.2 >>= fun q11 =>
  yB 4 [59] q11.2.1 q11.2.2.1 q11.2.2.2 >>= fun q12 =>
  vE 20 q1.1 at_ [q11.1] q12.1 q12.2.1 q12.2.2 >>= fun q13 =>
  some (q13, q12.1, q12.2.1, q12.2.2)
def z2b (t : List zB) (at_ e : Int) : Option (zE × List zB × Int × Int) :=
  vF t at_ e >>= fun q1 =>
  yB 4 [61] q1.2.1 q1.2.2.1 q1.2.2.2 >>= fun q2 =>
  vF q2.1 q2.2.1 q2.2.2 >>= fun q3 =>
  yB 4 [59] q3.2.1 q3.2.2.1 q3.2.2.2 >>= fun q4 =>
  vE 22 [] at_ [q1.1, q3.1] q4.1 q4.2.1 q4.2.2 >>= fun q5 =>
  some (q5, q4.1, q4.2.1, q4.2.2)
def z3i (t : List zB) (at_ e : Int) : Option (zE × List zB × Int × Int) :=
  z0k 26 t at_ e >>= fun q1 =>
  some (q1.1, q1.2.1, q1.2.2.1, q1.2.2.2)
def jR (zX : Int → (List zE) → zE → (List zB) → Int → Int → Option (zE × List zB × Int × Int)) (t : List zB) (at_ e : Int) : Option (zE × List zB × Int × Int) :=
  yB 4 [123] t at_ e >>= fun q1 =>
  zX at_ [] (zE.mk 0 0 [] [] 0 0) q1.1 q1.2.1 q1.2.2
def wZ (zX : Int → (List zE) → zE → (List zB) → Int → Int → Option (zE × List zB × Int × Int)) (yX : (List zB) → Int → Int → Option (zE × List zB × Int × Int)) (from_ : Int) (l : List zE) (o2 : zE) (t : List zB) (at_ e : Int) : Option (zE × List zB × Int × Int) :=
  if e = 0 then
    gG 4 [125] t at_ e >>= fun q1 =>
    if q1 = true then
      yB 4 [125] t at_ e >>= fun q3 =>
      vE 29 [] from_ l q3.1 q3.2.1 q3.2.2 >>= fun q4 =>
      some (q4, q3.1, q3.2.1, q3.2.2)
    else
    yX t at_ e >>= fun q2 =>
    if z1i 72 (List.length l + List.length [q2.1]) then
    zX from_ (l ++ [q2.1]) o2 q2.2.1 q2.2.2.1 q2.2.2.2
    else none
  else
  yB 4 [125] t at_ e >>= fun q5 =>
  vE 29 [] from_ l q5.1 q5.2.1 q5.2.2 >>= fun q6 =>
  some (q6, q5.1, q5.2.1, q5.2.2)
def z0a (zF : (List zB) → Int → Int → Option (zE × List zB × Int × Int)) (vU : (List zB) → Int → Int → Option (zE × List zB × Int × Int)) (vK : (List zB) → Int → Int → Option (zE × List zB × Int × Int)) (vJ : (List zB) → Int → Int → Option (zE × List zB × Int × Int)) (t : List zB) (at_ e : Int) : Option (zE × List zB × Int × Int) :=
  z1F t at_ e >>= fun q1 =>
  z1P q1 >>= fun q2 =>
  if q2 = 75 then
    zF t at_ e >>= fun q3 =>
    some (q3.1, q3.2.1, q3.2.2.1, q3.2.2.2)
  else if q2 = 101 then
    z2b t at_ e >>= fun q4 =>
    some (q4.1, q4.2.1, q4.2.2.1, q4.2.2.2)
  else if q2 = 102 then
    z1g t at_ e >>= fun q5 =>
    some (q5.1, q5.2.1, q5.2.2.1, q5.2.2.2)
  else if q2 = 103 then
    vU t at_ e >>= fun q6 =>
    some (q6.1, q6.2.1, q6.2.2.1, q6.2.2.2)
  else if q2 = 104 then
    vK t at_ e >>= fun q7 =>
    some (q7.1, q7.2.1, q7.2.2.1, q7.2.2.2)
  else if q2 = 105 then
    vJ t at_ e >>= fun q8 =>
    some (q8.1, q8.2.1, q8.2.2.1, q8.2.2.2)
  else if q2 = 106 then
    z3i t at_ e >>= fun q9 =>
    some (q9.1, q9.2.1, q9.2.2.1, q9.2.2.2)
  else if q2 = 107 then
    z3k t at_ e >>= fun q10 =>
    some (q10.1, q10.2.1, q10.2.2.1, q10.2.2.2)
  else if q2 = 108 then
    z3n t at_ e >>= fun q11 =>
    some (q11.1, q11.2.1, q11.2.2.1, q11.2.2.2)
  else none
def z0y (zF : (List zB) → Int → Int → Option (zE × List zB × Int × Int)) (t : List zB) (at_ e : Int) : Option (zE × List zB × Int × Int) :=
  vF t (IntKind.wrap .i64 (at_ + 1)) e >>= fun q1 =>
  zF q1.2.1 q1.2.2.1 q1.2.2.2 >>= fun q2 =>
  if q2.2.2.2 = 0 then
    gG 3 [101, 108, 115, 101] q2.2.1 q2.2.2.1 q2.2.2.2 >>= fun q3 =>
    if q3 = true then
      zF q2.2.1 (IntKind.wrap .i64 (q2.2.2.1 + 1)) q2.2.2.2 >>= fun q4 =>
      vE 23 [] at_ [q1.1, q2.1, q4.1] q4.2.1 q4.2.2.1 q4.2.2.2 >>= fun q5 =>
      some (q5, q4.2.1, q4.2.2.1, q4.2.2.2)
    else
    vE 23 [] at_ [q1.1, q2.1, (zE.mk 29 0 [] [] q2.1.To q2.1.To)] q2.2.1 q2.2.2.1 q2.2.2.2 >>= fun q6 =>
    some (q6, q2.2.1, q2.2.2.1, q2.2.2.2)
  else
  vE 23 [] at_ [q1.1, q2.1, (zE.mk 29 0 [] [] q2.1.To q2.1.To)] q2.2.1 q2.2.2.1 q2.2.2.2 >>= fun q7 =>
  some (q7, q2.2.1, q2.2.2.1, q2.2.2.2)
def z0n (zF : (List zB) → Int → Int → Option (zE × List zB × Int × Int)) (t : List zB) (at_ e : Int) : Option (zE × List zB × Int × Int) :=
  vF t (IntKind.wrap .i64 (at_ + 1)) e >>= fun q1 =>
  zF q1.2.1 q1.2.2.1 q1.2.2.2 >>= fun q2 =>
  vE 24 [] at_ [q1.1, q2.1] q2.2.1 q2.2.2.1 q2.2.2.2 >>= fun q3 =>
  some (q3, q2.2.1, q2.2.2.1, q2.2.2.2)
def z0m (zF : (List zB) → Int → Int → Option (zE × List zB × Int × Int)) (t : List zB) (at_ e : Int) : Option (zE × List zB × Int × Int) :=
  gP t (IntKind.wrap .i64 (at_ + 1)) e >>= fun q1 =>
  yB 4 [61] q1.2.1 q1.2.2.1 q1.2.2.2 >>= fun q2 =>
  vF q2.1 q2.2.1 q2.2.2 >>= fun q3 =>
  yB 3 [116, 111] q3.2.1 q3.2.2.1 q3.2.2.2 >>= fun q4 =>
  vF q4.1 q4.2.1 q4.2.2 >>= fun q5 =>
  zF q5.2.1 q5.2.2.1 q5.2.2.2 >>= fun q6 =>
  vE 25 q1.1 at_ [q3.1, q5.1, q6.1] q6.2.1 q6.2.2.1 q6.2.2.2 >>= fun q7 =>
  some (q7, q6.2.1, q6.2.2.1, q6.2.2.2)
inductive yR where
  | zF (t : List zB) (at_ e : Int)
  | zX (from_ : Int) (l : List zE) (o2 : zE) (t : List zB) (at_ e : Int)
  | yX (t : List zB) (at_ e : Int)
  | vU (t : List zB) (at_ e : Int)
  | vK (t : List zB) (at_ e : Int)
  | vJ (t : List zB) (at_ e : Int)
@[reducible] def z4C : yR → Type
  | .zF _ _ _ => zE × List zB × Int × Int
  | .zX _ _ _ _ _ _ => zE × List zB × Int × Int
  | .yX _ _ _ => zE × List zB × Int × Int
  | .vU _ _ _ => zE × List zB × Int × Int
  | .vK _ _ _ => zE × List zB × Int × Int
  | .vJ _ _ _ => zE × List zB × Int × Int
def wD (g : Fam z4C) : Fam z4C
  | .zF t at_ e => jR (fun from_ l o2 t at_ e => g (yR.zX from_ l o2 t at_ e)) t at_ e
  | .zX from_ l o2 t at_ e => wZ (fun from_ l o2 t at_ e => g (yR.zX from_ l o2 t at_ e)) (fun t at_ e => g (yR.yX t at_ e)) from_ l o2 t at_ e
  | .yX t at_ e => z0a (fun t at_ e => g (yR.zF t at_ e)) (fun t at_ e => g (yR.vU t at_ e)) (fun t at_ e => g (yR.vK t at_ e)) (fun t at_ e => g (yR.vJ t at_ e)) t at_ e
  | .vU t at_ e => z0y (fun t at_ e => g (yR.zF t at_ e)) t at_ e
  | .vK t at_ e => z0n (fun t at_ e => g (yR.zF t at_ e)) t at_ e
  | .vJ t at_ e => z0m (fun t at_ e => g (yR.zF t at_ e)) t at_ e
theorem z0q : ∀ i, Good (fun g => wD g i)
  | .zF t at_ e => by unfold wD jR; exact (.bind (.const _) fun _ => (.call _))
  | .zX from_ l o2 t at_ e => by unfold wD wZ; exact (.ite (.bind (.const _) fun _ => (.ite (.bind (.const _) fun _ => (.bind (.const _) fun _ => (.const _))) (.bind (.call _) fun _ => (.ite (.call _) (.const _))))) (.bind (.const _) fun _ => (.bind (.const _) fun _ => (.const _))))
  | .yX t at_ e => by unfold wD z0a; exact (.bind (.const _) fun _ => (.bind (.const _) fun _ => (.ite (.bind (.call _) fun _ => (.const _)) (.ite (.bind (.const _) fun _ => (.const _)) (.ite (.bind (.const _) fun _ => (.const _)) (.ite (.bind (.call _) fun _ => (.const _)) (.ite (.bind (.call _) fun _ => (.const _)) (.ite (.bind (.call _) fun _ => (.const _)) (.ite (.bind (.const _) fun _ => (.const _)) (.ite (.bind (.const _) fun _ => (.const _)) (.ite (.bind (.const _) fun _ => (.const _)) (.const _))))))))))))
  | .vU t at_ e => by unfold wD z0y; exact (.bind (.const _) fun _ => (.bind (.call _) fun _ => (.ite (.bind (.const _) fun _ => (.ite (.bind (.call _) fun _ => (.bind (.const _) fun _ => (.const _))) (.bind (.const _) fun _ => (.const _)))) (.bind (.const _) fun _ => (.const _)))))
  | .vK t at_ e => by unfold wD z0n; exact (.bind (.const _) fun _ => (.bind (.call _) fun _ => (.bind (.const _) fun _ => (.const _))))
  | .vJ t at_ e => by unfold wD z0m; exact (.bind (.const _) fun _ => (.bind (.const _) fun _ => (.bind (.const _) fun _ => (.bind (.const _) fun _ => (.bind (.const _) fun _ => (.bind (.call _) fun _ => (.bind (.const _) fun _ => (.const _))))))))
def zF (t : List zB) (at_ e : Int) : Option (zE × List zB × Int × Int) := z1S wD (.zF t at_ e)
def zX (from_ : Int) (l : List zE) (o2 : zE) (t : List zB) (at_ e : Int) : Option (zE × List zB × Int × Int) := z1S wD (.zX from_ l o2 t at_ e)
def yX (t : List zB) (at_ e : Int) : Option (zE × List zB × Int × Int) := z1S wD (.yX t at_ e)
def vU (t : List zB) (at_ e : Int) : Option (zE × List zB × Int × Int) := z1S wD (.vU t at_ e)
def vK (t : List zB) (at_ e : Int) : Option (zE × List zB × Int × Int) := z1S wD (.vK t at_ e)
def vJ (t : List zB) (at_ e : Int) : Option (zE × List zB × Int × Int) := z1S wD (.vJ t at_ e)
theorem z3Z (t : List zB) (at_ e : Int) : zF t at_ e = jR zX t at_ e := wE z0q (.zF t at_ e)
theorem z1T (from_ : Int) (l : List zE) (o2 : zE) (t : List zB) (at_ e : Int) : zX from_ l o2 t at_ e = wZ zX yX from_ l o2 t at_ e := wE z0q (.zX from_ l o2 t at_ e)
theorem z6J (t : List zB) (at_ e : Int) : yX t at_ e = z0a zF vU vK vJ t at_ e := wE z0q (.yX t at_ e)
theorem y1g (t : List zB) (at_ e : Int) : vU t at_ e = z0y zF t at_ e := wE z0q (.vU t at_ e)
theorem y0J (t : List zB) (at_ e : Int) : vK t at_ e = z0n zF t at_ e := wE z0q (.vK t at_ e)
theorem y0v (t : List zB) (at_ e : Int) : vJ t at_ e = z0m zF t at_ e := wE z0q (.vJ t at_ e)
def z1U (t : List zB) (at_ : Int) : Option (zE × Int × Int) :=
  if at_ < 0 then
    some ((zE.mk 0 0 [] [] 0 0), 0, 13)
  else
  if at_ > (List.length t : Int) then
    some ((zE.mk 0 0 [] [] 0 0), 0, 13)
  else
  zF t at_ 0 >>= fun q1 =>
  if q1.2.2.2 = 0 then
    some (q1.1, q1.2.2.1, 0)
  else
  some ((zE.mk 0 0 [] [] 0 0), q1.2.2.1, q1.2.2.2)
def z7I (t : List zB) (at_ : Int) : Option (zE × Int × Int) :=
  z1U t at_ >>= fun q1 =>
  some (q1.1, q1.2.1, q1.2.2)
def vQ (t : List zB) (at_ e K N : Int) (S : Str) (L : List zE) (From To : Int) : Option (zE × List zB × Int × Int × Int × Int × Str × List zE × Int × Int) :=
  if e = 0 then
    z7I t at_ >>= fun q1 =>
    some (q1.1, t, q1.2.1, q1.2.2, K, N, S, L, From, To)
  else
  some ((zE.mk 0 0 [] [] 0 0), t, at_, e, K, N, S, L, From, To)
def yL (t : List zB) (at_ e K N : Int) (S : Str) (L : List zE) (From To : Int) : Option (zE × List zB × Int × Int × Int × Int × Str × List zE × Int × Int) :=
  if e = 0 then
    z5c t at_ >>= fun q1 =>
    some (q1.1, t, q1.2.1, q1.2.2, K, N, S, L, From, To)
  else
  some ((zE.mk 0 0 [] [] 0 0), t, at_, e, K, N, S, L, From, To)
def z2R (t : List zB) (at_ e K N : Int) (S : Str) (L : List zE) (From To : Int) : Option (Bool × List zB × Int × Int × Int × Int × Str × List zE × Int × Int) :=
  z0s 4 [44] t at_ e K N S L From To >>= fun q1 =>
  some (q1.1, q1.2.1, q1.2.2.1, q1.2.2.2.1, q1.2.2.2.2.1, q1.2.2.2.2.2.1, q1.2.2.2.2.2.2.1, q1.2.2.2.2.2.2.2.1, q1.2.2.2.2.2.2.2.2.1, q1.2.2.2.2.2.2.2.2.2)
def uY (t : List zB) (at_ e K N : Int) (S : Str) (L : List zE) (From To : Int) : Option (zE × List zB × Int × Int × Int × Int × Str × List zE × Int × Int) :=
  wC t at_ e K N S L From To >>= fun q1 =>
  yE 4 [58] q1.2.1 q1.2.2.1 q1.2.2.2.1 q1.2.2.2.2.1 q1.2.2.2.2.2.1 q1.2.2.2.2.2.2.1 q1.2.2.2.2.2.2.2.1 q1.2.2.2.2.2.2.2.2.1 q1.2.2.2.2.2.2.2.2.2 >>= fun q2 =>
  yL q2.1 q2.2.1 q2.2.2.1 q2.2.2.2.1 q2.2.2.2.2.1 q2.2.2.2.2.2.1 q2.2.2.2.2.2.2.1 q2.2.2.2.2.2.2.2.1 q2.2.2.2.2.2.2.2.2 >>= fun q3 =>
  vO 34 0 q1.1 at_ [q3.1] q3.2.1 q3.2.2.1 q3.2.2.2.1 q3.2.2.2.2.1 q3.2.2.2.2.2.1 q3.2.2.2.2.2.2.1 q3.2.2.2.2.2.2.2.1 q3.2.2.2.2.2.2.2.2.1 q3.2.2.2.2.2.2.2.2.2 >>= fun q4 =>
  some (q4, q3.2.1, q3.2.2.1, q3.2.2.2.1, q3.2.2.2.2.1, q3.2.2.2.2.2.1, q3.2.2.2.2.2.2.1, q3.2.2.2.2.2.2.2.1, q3.2.2.2.2.2.2.2.2.1, q3.2.2.2.2.2.2.2.2.2)
def yO (zH : (List zE) → (List zB) → Int → Int → Int → Int → Str → (List zE) → Int → Int → Option (List zE × List zB × Int × Int × Int × Int × Str × List zE × Int × Int)) (out : List zE) (t : List zB) (at_ e K N : Int) (S : Str) (L : List zE) (From To : Int) : Option (List zE × List zB × Int × Int × Int × Int × Str × List zE × Int × Int) :=
  if e = 0 then
    z2R t at_ e K N S L From To >>= fun q1 =>
    if q1.1 = true then
      uY q1.2.1 q1.2.2.1 q1.2.2.2.1 q1.2.2.2.2.1 q1.2.2.2.2.2.1 q1.2.2.2.2.2.2.1 q1.2.2.2.2.2.2.2.1 q1.2.2.2.2.2.2.2.2.1 q1.2.2.2.2.2.2.2.2.2 >>= fun q2 =>
      if z1i 72 (List.length out + List.length [q2.1]) then
      zH (out ++ [q2.1]) q2.2.1 q2.2.2.1 q2.2.2.2.1 q2.2.2.2.2.1 q2.2.2.2.2.2.1 q2.2.2.2.2.2.2.1 q2.2.2.2.2.2.2.2.1 q2.2.2.2.2.2.2.2.2.1 q2.2.2.2.2.2.2.2.2.2
      else none
    else
    some (out, q1.2.1, q1.2.2.1, q1.2.2.2.1, q1.2.2.2.2.1, q1.2.2.2.2.2.1, q1.2.2.2.2.2.2.1, q1.2.2.2.2.2.2.2.1, q1.2.2.2.2.2.2.2.2.1, q1.2.2.2.2.2.2.2.2.2)
  else
  some (out, t, at_, e, K, N, S, L, From, To)
inductive uE where
  | zH (out : List zE) (t : List zB) (at_ e K N : Int) (S : Str) (L : List zE) (From To : Int)
@[reducible] def jV : uE → Type
  | .zH _ _ _ _ _ _ _ _ _ _ => List zE × List zB × Int × Int × Int × Int × Str × List zE × Int × Int
def uF (g : Fam jV) : Fam jV
  | .zH out t at_ e K N S L From To => yO (fun out t at_ e K N S L From To => g (uE.zH out t at_ e K N S L From To)) out t at_ e K N S L From To
theorem z0L : ∀ i, Good (fun g => uF g i)
  | .zH out t at_ e K N S L From To => by unfold uF yO; exact (.ite (.bind (.const _) fun _ => (.ite (.bind (.const _) fun _ => (.ite (.call _) (.const _))) (.const _))) (.const _))
def zH (out : List zE) (t : List zB) (at_ e K N : Int) (S : Str) (L : List zE) (From To : Int) : Option (List zE × List zB × Int × Int × Int × Int × Str × List zE × Int × Int) := z1S uF (.zH out t at_ e K N S L From To)
theorem jP (out : List zE) (t : List zB) (at_ e K N : Int) (S : Str) (L : List zE) (From To : Int) : zH out t at_ e K N S L From To = yO zH out t at_ e K N S L From To := wE z0L (.zH out t at_ e K N S L From To)
def vZ (t : List zB) (at_ e K N : Int) (S : Str) (L : List zE) (From To : Int) : Option (List zE × List zB × Int × Int × Int × Int × Str × List zE × Int × Int) :=
  uY t at_ e K N S L From To >>= fun q1 =>
  zH [q1.1] q1.2.1 q1.2.2.1 q1.2.2.2.1 q1.2.2.2.2.1 q1.2.2.2.2.2.1 q1.2.2.2.2.2.2.1 q1.2.2.2.2.2.2.2.1 q1.2.2.2.2.2.2.2.2.1 q1.2.2.2.2.2.2.2.2.2
def uK (t : List zB) (at_ e K N : Int) (S : Str) (L : List zE) (From To : Int) : Option (zE × List zB × Int × Int × Int × Int × Str × List zE × Int × Int) :=
  yE 4 [40] t at_ e K N S L From To >>= fun q1 =>
  z0s 4 [41] q1.1 q1.2.1 q1.2.2.1 q1.2.2.2.1 q1.2.2.2.2.1 q1.2.2.2.2.2.1 q1.2.2.2.2.2.2.1 q1.2.2.2.2.2.2.2.1 q1.2.2.2.2.2.2.2.2 >>= fun q2 =>
  if q2.1 = true then
    vO 35 0 [] at_ [] q2.2.1 q2.2.2.1 q2.2.2.2.1 q2.2.2.2.2.1 q2.2.2.2.2.2.1 q2.2.2.2.2.2.2.1 q2.2.2.2.2.2.2.2.1 q2.2.2.2.2.2.2.2.2.1 q2.2.2.2.2.2.2.2.2.2 >>= fun q3 =>
    some (q3, q2.2.1, q2.2.2.1, q2.2.2.2.1, q2.2.2.2.2.1, q2.2.2.2.2.2.1, q2.2.2.2.2.2.2.1, q2.2.2.2.2.2.2.2.1, q2.2.2.2.2.2.2.2.2.1, q2.2.2.2.2.2.2.2.2.2)
  else
  vZ q2.2.1 q2.2.2.1 q2.2.2.2.1 q2.2.2.2.2.1 q2.2.2.2.2.2.1 q2.2.2.2.2.2.2.1 q2.2.2.2.2.2.2.2.1 q2.2.2.2.2.2.2.2.2.1 q2.2.2.2.2.2.2.2.2.2 >>= fun q4 =>
  yE 4 [41] q4.2.1 q4.2.2.1 q4.2.2.2.1 q4.2.2.2.2.1 q4.2.2.2.2.2.1 q4.2.2.2.2.2.2.1 q4.2.2.2.2.2.2.2.1 q4.2.2.2.2.2.2.2.2.1 q4.2.2.2.2.2.2.2.2.2 >>= fun q5 =>
  vO 35 0 [] at_ q4.1 q5.1 q5.2.1 q5.2.2.1 q5.2.2.2.1 q5.2.2.2.2.1 q5.2.2.2.2.2.1 q5.2.2.2.2.2.2.1 q5.2.2.2.2.2.2.2.1 q5.2.2.2.2.2.2.2.2 >>= fun q6 =>
  some (q6, q5.1, q5.2.1, q5.2.2.1, q5.2.2.2.1, q5.2.2.2.2.1, q5.2.2.2.2.2.1, q5.2.2.2.2.2.2.1, q5.2.2.2.2.2.2.2.1, q5.2.2.2.2.2.2.2.2)
def gV (t : List zB) (at_ e K N : Int) (S : Str) (L : List zE) (From To : Int) : Option (zE × List zB × Int × Int × Int × Int × Str × List zE × Int × Int) :=
  z0s 3 [112, 117, 98] t at_ e K N S L From To >>= fun q1 =>
  if q1.1 = true then
    yE 3 [102, 110] q1.2.1 q1.2.2.1 q1.2.2.2.1 q1.2.2.2.2.1 q1.2.2.2.2.2.1 q1.2.2.2.2.2.2.1 q1.2.2.2.2.2.2.2.1 q1.2.2.2.2.2.2.2.2.1 q1.2.2.2.2.2.2.2.2.2 >>= fun q2 =>
    wC q2.1 q2.2.1 q2.2.2.1 q2.2.2.2.1 q2.2.2.2.2.1 q2.2.2.2.2.2.1 q2.2.2.2.2.2.2.1 q2.2.2.2.2.2.2.2.1 q2.2.2.2.2.2.2.2.2 >>= fun q3 =>
    uK q3.2.1 q3.2.2.1 q3.2.2.2.1 q3.2.2.2.2.1 q3.2.2.2.2.2.1 q3.2.2.2.2.2.2.1 q3.2.2.2.2.2.2.2.1 q3.2.2.2.2.2.2.2.2.1 q3.2.2.2.2.2.2.2.2.2 >>= fun q4 =>
    yE 4 [58] q4.2.1 q4.2.2.1 q4.2.2.2.1 q4.2.2.2.2.1 q4.2.2.2.2.2.1 q4.2.2.2.2.2.2.1 q4.2.2.2.2.2.2.2.1 q4.2.2.2.2.2.2.2.2.1 q4.2.2.2.2.2.2.2.2.2 >>= fun q5 =>
    yL q5.1 q5.2.1 q5.2.2.1 q5.2.2.2.1 q5.2.2.2.2.1 q5.2.2.2.2.2.1 q5.2.2.2.2.2.2.1 q5.2.2.2.2.2.2.2.1 q5.2.2.2.2.2.2.2.2 >>= fun q6 =>
    vQ q6.2.1 q6.2.2.1 q6.2.2.2.1 q6.2.2.2.2.1 q6.2.2.2.2.2.1 q6.2.2.2.2.2.2.1 q6.2.2.2.2.2.2.2.1 q6.2.2.2.2.2.2.2.2.1 q6.2.2.2.2.2.2.2.2.2 >>= fun q7 =>
    vO 33 1 q3.1 at_ [q4.1, q6.1, q7.1] q7.2.1 q7.2.2.1 q7.2.2.2.1 q7.2.2.2.2.1 q7.2.2.2.2.2.1 q7.2.2.2.2.2.2.1 q7.2.2.2.2.2.2.2.1 q7.2.2.2.2.2.2.2.2.1 q7.2.2.2.2.2.2.2.2.2 >>= fun q8 =>
    some (q8, q7.2.1, q7.2.2.1, q7.2.2.2.1, q7.2.2.2.2.1, q7.2.2.2.2.2.1, q7.2.2.2.2.2.2.1, q7.2.2.2.2.2.2.2.1, q7.2.2.2.2.2.2.2.2.1, q7.2.2.2.2.2.2.2.2.2)
  else
  yE 3 [102, 110] q1.2.1 q1.2.2.1 q1.2.2.2.1 q1.2.2.2.2.1 q1.2.2.2.2.2.1 q1.2.2.2.2.2.2.1 q1.2.2.2.2.2.2.2.1 q1.2.2.2.2.2.2.2.2.1 q1.2.2.2.2.2.2.2.2.2 >>= fun q9 =>
  wC q9.1 q9.2.1 q9.2.2.1 q9.2.2.2.1 q9.2.2.2.2.1 q9.2.2.2.2.2.1 q9.2.2.2.2.2.2.1 q9.2.2.2.2.2.2.2.1 q9.2.2.2.2.2.2.2.2 >>= fun q10 =>
  uK q10.2.1 q10.2.2.1 q10.2.2.2.1 q10.2.2.2.2.1 q10.2.2.2.2.2.1 q10.2.2.2.2.2.2.1 q10.2.2.2.2.2.2.2.1 q10.2.2.2.2.2.2.2.2.1 q10.2.2.2.2.2.2.2.2.2 >>= fun q11 =>
  yE 4 [58] q11.2.1 q11.2.2.1 q11.2.2.2.1 q11.2.2.2.2.1 q11.2.2.2.2.2.1 q11.2.2.2.2.2.2.1 q11.2.2.2.2.2.2.2.1 q11.2.2.2.2.2.2.2.2.1 q11.2.2.2.2.2.2.2.2.2 >>= fun q12 =>
  yL q12.1 q12.2.1 q12.2.2.1 q12.2.2.2.1 q12.2.2.2.2.1 q12.2.2.2.2.2.1 q12.2.2.2.2.2.2.1 q12.2.2.2.2.2.2.2.1 q12.2.2.2.2.2.2.2.2 >>= fun q13 =>
  vQ q13.2.1 q13.2.2.1 q13.2.2.2.1 q13.2.2.2.2.1 q13.2.2.2.2.2.1 q13.2.2.2.2.2.2.1 q13.2.2.2.2.2.2.2.1 q13.2.2.2.2.2.2.2.2.1 q13.2.2.2.2.2.2.2.2.2 >>= fun q14 =>
  vO 33 0 q10.1 at_ [q11.1, q13.1, q14.1] q14.2.1 q14.2.2.1 q14.2.2.2.1 q14.2.2.2.2.1 q14.2.2.2.2.2.1 q14.2.2.2.2.2.2.1 q14.2.2.2.2.2.2.2.1 q14.2.2.2.2.2.2.2.2.1 q14.2.2.2.2.2.2.2.2.2 >>= fun q15 =>
  some (q15, q14.2.1, q14.2.2.1, q14.2.2.2.1, q14.2.2.2.2.1, q14.2.2.2.2.2.1, q14.2.2.2.2.2.2.1, q14.2.2.2.2.2.2.2.1, q14.2.2.2.2.2.2.2.2.1, q14.2.2.2.2.2.2.2.2.2)
def z0d (t : List zB) (at_ e K N : Int) (S : Str) (L : List zE) (From To : Int) : Option (zE × List zB × Int × Int × Int × Int × Str × List zE × Int × Int) :=
  wC t (IntKind.wrap .i64 (at_ + 1)) e K N S L From To >>= fun q1 =>
  yE 4 [58] q1.2.1 q1.2.2.1 q1.2.2.2.1 q1.2.2.2.2.1 q1.2.2.2.2.2.1 q1.2.2.2.2.2.2.1 q1.2.2.2.2.2.2.2.1 q1.2.2.2.2.2.2.2.2.1 q1.2.2.2.2.2.2.2.2.2 >>= fun q2 =>
  yL q2.1 q2.2.1 q2.2.2.1 q2.2.2.2.1 q2.2.2.2.2.1 q2.2.2.2.2.2.1 q2.2.2.2.2.2.2.1 q2.2.2.2.2.2.2.2.1 q2.2.2.2.2.2.2.2.2 >>= fun q3 =>
  yE 4 [59] q3.2.1 q3.2.2.1 q3.2.2.2.1 q3.2.2.2.2.1 q3.2.2.2.2.2.1 q3.2.2.2.2.2.2.1 q3.2.2.2.2.2.2.2.1 q3.2.2.2.2.2.2.2.2.1 q3.2.2.2.2.2.2.2.2.2 >>= fun q4 =>
  vO 32 0 q1.1 at_ [q3.1] q4.1 q4.2.1 q4.2.2.1 q4.2.2.2.1 q4.2.2.2.2.1 q4.2.2.2.2.2.1 q4.2.2.2.2.2.2.1 q4.2.2.2.2.2.2.2.1 q4.2.2.2.2.2.2.2.2 >>= fun q5 =>
  some (q5, q4.1, q4.2.1, q4.2.2.1, q4.2.2.2.1, q4.2.2.2.2.1, q4.2.2.2.2.2.1, q4.2.2.2.2.2.2.1, q4.2.2.2.2.2.2.2.1, q4.2.2.2.2.2.2.2.2)
def gD (t : List zB) (at_ e K N : Int) (S : Str) (L : List zE) (From To : Int) : Option (zE × List zB × Int × Int × Int × Int × Str × List zE × Int × Int) :=
  uY t at_ e K N S L From To >>= fun q1 =>
  yE 4 [59] q1.2.1 q1.2.2.1 q1.2.2.2.1 q1.2.2.2.2.1 q1.2.2.2.2.2.1 q1.2.2.2.2.2.2.1 q1.2.2.2.2.2.2.2.1 q1.2.2.2.2.2.2.2.2.1 q1.2.2.2.2.2.2.2.2.2 >>= fun q2 =>
  some (q1.1, q2.1, q2.2.1, q2.2.2.1, q2.2.2.2.1, q2.2.2.2.2.1, q2.2.2.2.2.2.1, q2.2.2.2.2.2.2.1, q2.2.2.2.2.2.2.2.1, q2.2.2.2.2.2.2.2.2)
def z3l (t : List zB) (at_ e K N : Int) (S : Str) (L : List zE) (From To : Int) : Option (Bool) :=
  jH 4 [125] t at_ e K N S L From To >>= fun q1 =>
  some (!q1)
def yP (zG : (List zE) → (List zB) → Int → Int → Int → Int → Str → (List zE) → Int → Int → Option (List zE × List zB × Int × Int × Int × Int × Str × List zE × Int × Int)) (out : List zE) (t : List zB) (at_ e K N : Int) (S : Str) (L : List zE) (From To : Int) : Option (List zE × List zB × Int × Int × Int × Int × Str × List zE × Int × Int) :=
  if e = 0 then
    z3l t at_ e K N S L From To >>= fun q1 =>
    if q1 = true then
      gD t at_ e K N S L From To >>= fun q2 =>
      if z1i 72 (List.length out + List.length [q2.1]) then
      zG (out ++ [q2.1]) q2.2.1 q2.2.2.1 q2.2.2.2.1 q2.2.2.2.2.1 q2.2.2.2.2.2.1 q2.2.2.2.2.2.2.1 q2.2.2.2.2.2.2.2.1 q2.2.2.2.2.2.2.2.2.1 q2.2.2.2.2.2.2.2.2.2
      else none
    else
    some (out, t, at_, e, K, N, S, L, From, To)
  else
  some (out, t, at_, e, K, N, S, L, From, To)
inductive uH where
  | zG (out : List zE) (t : List zB) (at_ e K N : Int) (S : Str) (L : List zE) (From To : Int)
@[reducible] def jW : uH → Type
  | .zG _ _ _ _ _ _ _ _ _ _ => List zE × List zB × Int × Int × Int × Int × Str × List zE × Int × Int
def uG (g : Fam jW) : Fam jW
  | .zG out t at_ e K N S L From To => yP (fun out t at_ e K N S L From To => g (uH.zG out t at_ e K N S L From To)) out t at_ e K N S L From To
theorem z0K : ∀ i, Good (fun g => uG g i)
  | .zG out t at_ e K N S L From To => by unfold uG yP; exact (.ite (.bind (.const _) fun _ => (.ite (.bind (.const _) fun _ => (.ite (.call _) (.const _))) (.const _))) (.const _))
def zG (out : List zE) (t : List zB) (at_ e K N : Int) (S : Str) (L : List zE) (From To : Int) : Option (List zE × List zB × Int × Int × Int × Int × Str × List zE × Int × Int) := z1S uG (.zG out t at_ e K N S L From To)
theorem jQ (out : List zE) (t : List zB) (at_ e K N : Int) (S : Str) (L : List zE) (From To : Int) : zG out t at_ e K N S L From To = yP zG out t at_ e K N S L From To := wE z0K (.zG out t at_ e K N S L From To)
def uA (t : List zB) (at_ e K N : Int) (S : Str) (L : List zE) (From To : Int) : Option (List zE × List zB × Int × Int × Int × Int × Str × List zE × Int × Int) :=
  gD t at_ e K N S L From To >>= fun q1 =>
  zG [q1.1] q1.2.1 q1.2.2.1 q1.2.2.2.1 q1.2.2.2.2.1 q1.2.2.2.2.2.1 q1.2.2.2.2.2.2.1 q1.2.2.2.2.2.2.2.1 q1.2.2.2.2.2.2.2.2.1 q1.2.2.2.2.2.2.2.2.2
def z1b (t : List zB) (at_ e K N : Int) (S : Str) (L : List zE) (From To : Int) : Option (zE × List zB × Int × Int × Int × Int × Str × List zE × Int × Int) :=
  wC t (IntKind.wrap .i64 (at_ + 1)) e K N S L From To >>= fun q1 =>
  yE 4 [123] q1.2.1 q1.2.2.1 q1.2.2.2.1 q1.2.2.2.2.1 q1.2.2.2.2.2.1 q1.2.2.2.2.2.2.1 q1.2.2.2.2.2.2.2.1 q1.2.2.2.2.2.2.2.2.1 q1.2.2.2.2.2.2.2.2.2 >>= fun q2 =>
  uA q2.1 q2.2.1 q2.2.2.1 q2.2.2.2.1 q2.2.2.2.2.1 q2.2.2.2.2.2.1 q2.2.2.2.2.2.2.1 q2.2.2.2.2.2.2.2.1 q2.2.2.2.2.2.2.2.2 >>= fun q3 =>
  yE 4 [125] q3.2.1 q3.2.2.1 q3.2.2.2.1 q3.2.2.2.2.1 q3.2.2.2.2.2.1 q3.2.2.2.2.2.2.1 q3.2.2.2.2.2.2.2.1 q3.2.2.2.2.2.2.2.2.1 q3.2.2.2.2.2.2.2.2.2 >>= fun q4 =>
  vO 30 0 q1.1 at_ q3.1 q4.1 q4.2.1 q4.2.2.1 q4.2.2.2.1 q4.2.2.2.2.1 q4.2.2.2.2.2.1 q4.2.2.2.2.2.2.1 q4.2.2.2.2.2.2.2.1 q4.2.2.2.2.2.2.2.2 >>= fun q5 =>
  some (q5, q4.1, q4.2.1, q4.2.2.1, q4.2.2.2.1, q4.2.2.2.2.1, q4.2.2.2.2.2.1, q4.2.2.2.2.2.2.1, q4.2.2.2.2.2.2.2.1, q4.2.2.2.2.2.2.2.2)
def z0H (t : List zB) (at_ e K N : Int) (S : Str) (L : List zE) (From To : Int) : Option (zE × List zB × Int × Int × Int × Int × Str × List zE × Int × Int) :=
  jH 3 [114, 101, 99] t at_ e K N S L From To >>= fun q1 =>
  if q1 = true then
    z1b t at_ e K N S L From To >>= fun q2 =>
    some (q2.1, q2.2.1, q2.2.2.1, q2.2.2.2.1, q2.2.2.2.2.1, q2.2.2.2.2.2.1, q2.2.2.2.2.2.2.1, q2.2.2.2.2.2.2.2.1, q2.2.2.2.2.2.2.2.2.1, q2.2.2.2.2.2.2.2.2.2)
  else
  jH 3 [99, 111, 110, 115, 116] t at_ e K N S L From To >>= fun q3 =>
  if q3 = true then
    z1h t at_ e K N S L From To >>= fun q4 =>
    some (q4.1, q4.2.1, q4.2.2.1, q4.2.2.2.1, q4.2.2.2.2.1, q4.2.2.2.2.2.1, q4.2.2.2.2.2.2.1, q4.2.2.2.2.2.2.2.1, q4.2.2.2.2.2.2.2.2.1, q4.2.2.2.2.2.2.2.2.2)
  else
  jH 3 [118, 97, 114] t at_ e K N S L From To >>= fun q5 =>
  if q5 = true then
    z0d t at_ e K N S L From To >>= fun q6 =>
    some (q6.1, q6.2.1, q6.2.2.1, q6.2.2.2.1, q6.2.2.2.2.1, q6.2.2.2.2.2.1, q6.2.2.2.2.2.2.1, q6.2.2.2.2.2.2.2.1, q6.2.2.2.2.2.2.2.2.1, q6.2.2.2.2.2.2.2.2.2)
  else
  jH 3 [112, 117, 98] t at_ e K N S L From To >>= fun q7 =>
  if q7 = true then
    gV t at_ e K N S L From To >>= fun q8 =>
    some (q8.1, q8.2.1, q8.2.2.1, q8.2.2.2.1, q8.2.2.2.2.1, q8.2.2.2.2.2.1, q8.2.2.2.2.2.2.1, q8.2.2.2.2.2.2.2.1, q8.2.2.2.2.2.2.2.2.1, q8.2.2.2.2.2.2.2.2.2)
  else
  jH 3 [102, 110] t at_ e K N S L From To >>= fun q9 =>
  if q9 = true then
    gV t at_ e K N S L From To >>= fun q10 =>
    some (q10.1, q10.2.1, q10.2.2.1, q10.2.2.2.1, q10.2.2.2.2.1, q10.2.2.2.2.2.1, q10.2.2.2.2.2.2.1, q10.2.2.2.2.2.2.2.1, q10.2.2.2.2.2.2.2.2.1, q10.2.2.2.2.2.2.2.2.2)
  else
  some ((zE.mk 0 0 [] [] 0 0), t, at_, 6, K, N, S, L, From, To)
def z1Z (wP : zE → (List zB) → Int → Int → Int → Int → Str → (List zE) → Int → Int → Option (zE × Int × Int)) (o2 : zE) (t : List zB) (at_ e K N : Int) (S : Str) (L : List zE) (From To : Int) : Option (zE × Int × Int) :=
  idx t at_ >>= fun x =>
  if x.K = 5 then
    if (List.length L : Int) > 64 then
      some ((zE.mk 0 0 [] [] 0 0), 0, 11)
    else
    z6C (zE.mk K N S L From To) >>= fun q2 =>
    if q2 > 64 then
      some ((zE.mk 0 0 [] [] 0 0), 0, 7)
    else
    some ((zE.mk K N S L From To), 0, 0)
  else
  z0H t at_ e K N S L From To >>= fun q1 =>
  if q1.2.2.2.1 = 0 then
    if z1i 72 (List.length q1.2.2.2.2.2.2.2.1 + List.length [q1.1]) then
    wP o2 q1.2.1 q1.2.2.1 q1.2.2.2.1 q1.2.2.2.2.1 q1.2.2.2.2.2.1 q1.2.2.2.2.2.2.1 (q1.2.2.2.2.2.2.2.1 ++ [q1.1]) q1.2.2.2.2.2.2.2.2.1 q1.2.2.2.2.2.2.2.2.2
    else none
  else
  idx q1.2.1 q1.2.2.1 >>= fun x1 =>
  some ((zE.mk 0 0 [] [] 0 0), x1.From, q1.2.2.2.1)
inductive z5i where
  | wP (o2 : zE) (t : List zB) (at_ e K N : Int) (S : Str) (L : List zE) (From To : Int)
@[reducible] def z6Z : z5i → Type
  | .wP _ _ _ _ _ _ _ _ _ _ => zE × Int × Int
def z4M (g : Fam z6Z) : Fam z6Z
  | .wP o2 t at_ e K N S L From To => z1Z (fun o2 t at_ e K N S L From To => g (z5i.wP o2 t at_ e K N S L From To)) o2 t at_ e K N S L From To
theorem z9F : ∀ i, Good (fun g => z4M g i)
  | .wP o2 t at_ e K N S L From To => by unfold z4M z1Z; exact (.bind (.const _) fun _ => (.ite (.ite (.const _) (.bind (.const _) fun _ => (.ite (.const _) (.const _)))) (.bind (.const _) fun _ => (.ite (.ite (.call _) (.const _)) (.bind (.const _) fun _ => (.const _))))))
def wP (o2 : zE) (t : List zB) (at_ e K N : Int) (S : Str) (L : List zE) (From To : Int) : Option (zE × Int × Int) := z1S z4M (.wP o2 t at_ e K N S L From To)
theorem z6g (o2 : zE) (t : List zB) (at_ e K N : Int) (S : Str) (L : List zE) (From To : Int) : wP o2 t at_ e K N S L From To = z1Z wP o2 t at_ e K N S L From To := wE z9F (.wP o2 t at_ e K N S L From To)
def z5I (text : Str) : Option (zE × Int × Int) :=
  z8e text >>= fun q1 =>
  if q1.2.2 = 0 then
    wP (zE.mk 0 0 [] [] 0 0) q1.1 0 0 36 0 [] [] 0 (List.length text : Int)
  else
  some ((zE.mk 0 0 [] [] 0 0), q1.2.1, q1.2.2)
def z6D  : Option (Bool) :=
  z5I [118, 97, 114, 32, 97, 58, 32, 105, 110, 116, 59] >>= fun q1 =>
  if q1.2.2 = 0 then
    if q1.1.K = 36 then
      if (List.length q1.1.L : Int) = 1 then
        idx q1.1.L 0 >>= fun x =>
        some ((x.S == [97]))
      else
      some (false)
    else
    some (false)
  else
  some (false)
def z3U (wG : Int → zE → zE → Option (Bool)) (a b : zE) : Option (Bool) :=
  if a.K = b.K then
    if a.N = b.N then
      if a.S = b.S then
        if a.From = b.From then
          if a.To = b.To then
            if (List.length a.L : Int) = (List.length b.L : Int) then
              wG 0 a b
            else
            some (false)
          else
          some (false)
        else
        some (false)
      else
      some (false)
    else
    some (false)
  else
  some (false)
def z1K (gB : zE → zE → Option (Bool)) (wG : Int → zE → zE → Option (Bool)) (i : Int) (a b : zE) : Option (Bool) :=
  if i < (List.length a.L : Int) then
    idx a.L i >>= fun x =>
    idx b.L i >>= fun x1 =>
    gB x x1 >>= fun q1 =>
    if q1 = true then
      wG (IntKind.wrap .i64 (i + 1)) a b
    else
    some (false)
  else
  some (true)
inductive z2A where
  | gB (a b : zE)
  | wG (i : Int) (a b : zE)
@[reducible] def z8G : z2A → Type
  | .gB _ _ => Bool
  | .wG _ _ _ => Bool
def z3M (g : Fam z8G) : Fam z8G
  | .gB a b => z3U (fun i a b => g (z2A.wG i a b)) a b
  | .wG i a b => z1K (fun a b => g (z2A.gB a b)) (fun i a b => g (z2A.wG i a b)) i a b
theorem z8C : ∀ i, Good (fun g => z3M g i)
  | .gB a b => by unfold z3M z3U; exact (.ite (.ite (.ite (.ite (.ite (.ite (.call _) (.const _)) (.const _)) (.const _)) (.const _)) (.const _)) (.const _))
  | .wG i a b => by unfold z3M z1K; exact (.ite (.bind (.const _) fun _ => (.bind (.const _) fun _ => (.bind (.call _) fun _ => (.ite (.call _) (.const _))))) (.const _))
def gB (a b : zE) : Option (Bool) := z1S z3M (.gB a b)
def wG (i : Int) (a b : zE) : Option (Bool) := z1S z3M (.wG i a b)
theorem y7o (a b : zE) : gB a b = z3U wG a b := wE z8C (.gB a b)
theorem z7N (i : Int) (a b : zE) : wG i a b = z1K gB wG i a b := wE z8C (.wG i a b)
def z5E (text : Str) (at_ : Int) (s : Str) : Option (Bool) :=
  if (List.length s : Int) ≤ (IntKind.wrap .i64 ((List.length text : Int) - at_)) then
    if (0 : Int) ≤ (IntKind.wrap .i64 (at_ + (List.length s : Int))) then
    if Int.toNat (IntKind.wrap .i64 (at_ + (List.length s : Int))) ≤ List.length text then
    if (0 : Int) ≤ at_ then
    if Int.toNat at_ ≤ Int.toNat (IntKind.wrap .i64 (at_ + (List.length s : Int))) then
    some (((List.drop (Int.toNat at_) (List.take (Int.toNat (IntKind.wrap .i64 (at_ + (List.length s : Int)))) text)) == s))
    else none
    else none
    else none
    else none
  else
  some (false)
def z7K (c : Int) : Option (Bool) :=
  if c = 32 then
    some (true)
  else
  if c = 9 then
    some (true)
  else
  if c = 10 then
    some (true)
  else
  some ((c == 13))
def z2B (vX : Str → Int → Option (Int)) (uR : Str → Int → Option (Int)) (text : Str) (at_ : Int) : Option (Int) :=
  if at_ < (List.length text : Int) then
    idx text at_ >>= fun c =>
    z7K (Int.ofNat (UInt8.toNat c)) >>= fun q1 =>
    if q1 = true then
      vX text (IntKind.wrap .i64 (at_ + 1))
    else
    z5E text at_ [47, 47] >>= fun q2 =>
    if q2 = true then
      uR text at_
    else
    some (at_)
  else
  some (at_)
def z2D (vX : Str → Int → Option (Int)) (uR : Str → Int → Option (Int)) (text : Str) (at_ : Int) : Option (Int) :=
  if at_ < (List.length text : Int) then
    idx text at_ >>= fun c =>
    if Int.ofNat (UInt8.toNat c) = 10 then
      vX text at_
    else
    uR text (IntKind.wrap .i64 (at_ + 1))
  else
  vX text at_
inductive z0W where
  | vX (text : Str) (at_ : Int)
  | uR (text : Str) (at_ : Int)
@[reducible] def z7A : z0W → Type
  | .vX _ _ => Int
  | .uR _ _ => Int
def z3o (g : Fam z7A) : Fam z7A
  | .vX text at_ => z2B (fun text at_ => g (z0W.vX text at_)) (fun text at_ => g (z0W.uR text at_)) text at_
  | .uR text at_ => z2D (fun text at_ => g (z0W.vX text at_)) (fun text at_ => g (z0W.uR text at_)) text at_
theorem z7w : ∀ i, Good (fun g => z3o g i)
  | .vX text at_ => by unfold z3o z2B; exact (.ite (.bind (.const _) fun _ => (.bind (.const _) fun _ => (.ite (.call _) (.bind (.const _) fun _ => (.ite (.call _) (.const _)))))) (.const _))
  | .uR text at_ => by unfold z3o z2D; exact (.ite (.bind (.const _) fun _ => (.ite (.call _) (.call _))) (.call _))
def vX (text : Str) (at_ : Int) : Option (Int) := z1S z3o (.vX text at_)
def uR (text : Str) (at_ : Int) : Option (Int) := z1S z3o (.uR text at_)
theorem z9y (text : Str) (at_ : Int) : vX text at_ = z2B vX uR text at_ := wE z7w (.vX text at_)
theorem y0f (text : Str) (at_ : Int) : uR text at_ = z2D vX uR text at_ := wE z7w (.uR text at_)
def z7Q (text : Str) (at_ : Int) : Option (Int) :=
  vX text at_
def z5x (c : Int) : Option (Bool) :=
  if (48 : Int) ≤ c then
    some (decide (c ≤ 57))
  else
  some (false)
def z5J (c : Int) : Option (Bool) :=
  if (97 : Int) ≤ c then
    if c ≤ 122 then
      some (true)
    else
    if (65 : Int) ≤ c then
      if c ≤ 90 then
        some (true)
      else
      some ((c == 95))
    else
    some ((c == 95))
  else
  if (65 : Int) ≤ c then
    if c ≤ 90 then
      some (true)
    else
    some ((c == 95))
  else
  some ((c == 95))
def z1M (wH : Str → Int → Int → Option (Int × Bool)) (s : Str) (v i : Int) : Option (Int × Bool) :=
  if i < (List.length s : Int) then
    idx s i >>= fun c =>
    if 10 ≠ (0 : Int) then
    if v > (IntKind.wrap .i64 (Int.tdiv (IntKind.wrap .i64 (9223372036854775807 - (IntKind.wrap .i64 (IntKind.wrap .u8 ((Int.ofNat (UInt8.toNat c)) - 48))))) 10)) then
      some (0, false)
    else
    wH s (IntKind.wrap .i64 ((IntKind.wrap .i64 (v * 10)) + (IntKind.wrap .i64 (IntKind.wrap .u8 ((Int.ofNat (UInt8.toNat c)) - 48))))) (IntKind.wrap .i64 (i + 1))
    else none
  else
  some (v, true)
inductive z4o where
  | wH (s : Str) (v i : Int)
@[reducible] def z6f : z4o → Type
  | .wH _ _ _ => Int × Bool
def z4k (g : Fam z6f) : Fam z6f
  | .wH s v i => z1M (fun s v i => g (z4o.wH s v i)) s v i
theorem z8K : ∀ i, Good (fun g => z4k g i)
  | .wH s v i => by unfold z4k z1M; exact (.ite (.bind (.const _) fun _ => (.ite (.ite (.const _) (.call _)) (.const _))) (.const _))
def wH (s : Str) (v i : Int) : Option (Int × Bool) := z1S z4k (.wH s v i)
theorem z7W (s : Str) (v i : Int) : wH s v i = z1M wH s v i := wE z8K (.wH s v i)
def z4z (s : Str) : Option (Int × Bool) :=
  if (List.length s : Int) = 0 then
    some (0, false)
  else
  if (List.length s : Int) > 1 then
    idx s 0 >>= fun c =>
    if Int.ofNat (UInt8.toNat c) = 48 then
      some (0, false)
    else
    wH s 0 0
  else
  wH s 0 0
def z2C (jE : Str → Int → Int → zB → Option (zB × Int)) (text : Str) (at_ to_ : Int) (o4 : zB) : Option (zB × Int) :=
  if to_ < (List.length text : Int) then
    idx text to_ >>= fun c =>
    z5x (Int.ofNat (UInt8.toNat c)) >>= fun q1 =>
    if q1 = true then
      jE text at_ (IntKind.wrap .i64 (to_ + 1)) o4
    else
    if (0 : Int) ≤ to_ then
    if Int.toNat to_ ≤ List.length text then
    if (0 : Int) ≤ at_ then
    if Int.toNat at_ ≤ Int.toNat to_ then
    z4z (List.drop (Int.toNat at_) (List.take (Int.toNat to_) text)) >>= fun q2 =>
    if q2.2 = true then
      some ((zB.mk 2 q2.1 [] at_ to_), 0)
    else
    some ((zB.mk 0 0 [] 0 0), 5)
    else none
    else none
    else none
    else none
  else
  if (0 : Int) ≤ to_ then
  if Int.toNat to_ ≤ List.length text then
  if (0 : Int) ≤ at_ then
  if Int.toNat at_ ≤ Int.toNat to_ then
  z4z (List.drop (Int.toNat at_) (List.take (Int.toNat to_) text)) >>= fun q3 =>
  if q3.2 = true then
    some ((zB.mk 2 q3.1 [] at_ to_), 0)
  else
  some ((zB.mk 0 0 [] 0 0), 5)
  else none
  else none
  else none
  else none
inductive z5Q where
  | jE (text : Str) (at_ to_ : Int) (o4 : zB)
@[reducible] def z7u : z5Q → Type
  | .jE _ _ _ _ => zB × Int
def z5R (g : Fam z7u) : Fam z7u
  | .jE text at_ to_ o4 => z2C (fun text at_ to_ o4 => g (z5Q.jE text at_ to_ o4)) text at_ to_ o4
theorem y0U : ∀ i, Good (fun g => z5R g i)
  | .jE text at_ to_ o4 => by unfold z5R z2C; exact (.ite (.bind (.const _) fun _ => (.bind (.const _) fun _ => (.ite (.call _) (.ite (.ite (.ite (.ite (.bind (.const _) fun _ => (.ite (.const _) (.const _))) (.const _)) (.const _)) (.const _)) (.const _))))) (.ite (.ite (.ite (.ite (.bind (.const _) fun _ => (.ite (.const _) (.const _))) (.const _)) (.const _)) (.const _)) (.const _)))
def jE (text : Str) (at_ to_ : Int) (o4 : zB) : Option (zB × Int) := z1S z5R (.jE text at_ to_ o4)
theorem z9R (text : Str) (at_ to_ : Int) (o4 : zB) : jE text at_ to_ o4 = z2C jE text at_ to_ o4 := wE y0U (.jE text at_ to_ o4)
def z2E (jF : Str → Int → (List Str) → Int → zB → Option (zB × Int)) (text : Str) (at_ : Int) (all : List Str) (i : Int) (o4 : zB) : Option (zB × Int) :=
  if i < (List.length all : Int) then
    idx all i >>= fun x =>
    z5E text at_ x >>= fun q1 =>
    if q1 = true then
      idx all i >>= fun x1 =>
      idx all i >>= fun x2 =>
      some ((zB.mk 4 0 x1 at_ (IntKind.wrap .i64 (at_ + (List.length x2 : Int)))), 0)
    else
    jF text at_ all (IntKind.wrap .i64 (i + 1)) o4
  else
  some ((zB.mk 0 0 [] 0 0), 4)
inductive z5L where
  | jF (text : Str) (at_ : Int) (all : List Str) (i : Int) (o4 : zB)
@[reducible] def z7z : z5L → Type
  | .jF _ _ _ _ _ => zB × Int
def z5N (g : Fam z7z) : Fam z7z
  | .jF text at_ all i o4 => z2E (fun text at_ all i o4 => g (z5L.jF text at_ all i o4)) text at_ all i o4
theorem y0Z : ∀ i, Good (fun g => z5N g i)
  | .jF text at_ all i o4 => by unfold z5N z2E; exact (.ite (.bind (.const _) fun _ => (.bind (.const _) fun _ => (.ite (.bind (.const _) fun _ => (.bind (.const _) fun _ => (.const _))) (.call _)))) (.const _))
def jF (text : Str) (at_ : Int) (all : List Str) (i : Int) (o4 : zB) : Option (zB × Int) := z1S z5N (.jF text at_ all i o4)
theorem z9T (text : Str) (at_ : Int) (all : List Str) (i : Int) (o4 : zB) : jF text at_ all i o4 = z2E jF text at_ all i o4 := wE y0Z (.jF text at_ all i o4)
def z2f (uI : Str → (List Str) → Int → Option (Bool)) (s : Str) (all : List Str) (i : Int) : Option (Bool) :=
  if i < (List.length all : Int) then
    idx all i >>= fun x =>
    if x = s then
      some (true)
    else
    uI s all (IntKind.wrap .i64 (i + 1))
  else
  some (false)
inductive z4P where
  | uI (s : Str) (all : List Str) (i : Int)
@[reducible] def z6L : z4P → Type
  | .uI _ _ _ => Bool
def z5q (g : Fam z6L) : Fam z6L
  | .uI s all i => z2f (fun s all i => g (z4P.uI s all i)) s all i
theorem z9h : ∀ i, Good (fun g => z5q g i)
  | .uI s all i => by unfold z5q z2f; exact (.ite (.bind (.const _) fun _ => (.ite (.const _) (.call _))) (.const _))
def uI (s : Str) (all : List Str) (i : Int) : Option (Bool) := z1S z5q (.uI s all i)
theorem z8R (s : Str) (all : List Str) (i : Int) : uI s all i = z2f uI s all i := wE z9h (.uI s all i)
def z5A (s : Str) (all : List Str) : Option (Bool) :=
  uI s all 0
def z6A  : Option (List Str) :=
  some ([[114, 101, 99], [99, 111, 110, 115, 116], [118, 97, 114], [112, 117, 98], [102, 110], [105, 110, 116], [98, 111, 111, 108], [108, 101, 116], [105, 102], [101, 108, 115, 101], [119, 104, 105, 108, 101], [102, 111, 114], [116, 111], [112, 114, 105, 110, 116], [114, 101, 116, 117, 114, 110], [100, 111], [116, 114, 117, 101], [102, 97, 108, 115, 101], [114, 101, 97, 100], [110, 101, 119]])
def z3h (jL : Str → Int → Int → zB → Option (zB × Int)) (text : Str) (at_ to_ : Int) (o4 : zB) : Option (zB × Int) :=
  if to_ < (List.length text : Int) then
    idx text to_ >>= fun c =>
    z5J (Int.ofNat (UInt8.toNat c)) >>= fun q1 =>
    if q1 = true then
      jL text at_ (IntKind.wrap .i64 (to_ + 1)) o4
    else
    idx text to_ >>= fun c1 =>
    z5x (Int.ofNat (UInt8.toNat c1)) >>= fun q2 =>
    if q2 = true then
      jL text at_ (IntKind.wrap .i64 (to_ + 1)) o4
    else
    if (IntKind.wrap .i64 (to_ - at_)) > 16 then
      some ((zB.mk 0 0 [] 0 0), 3)
    else
    if (0 : Int) ≤ to_ then
    if Int.toNat to_ ≤ List.length text then
    if (0 : Int) ≤ at_ then
    if Int.toNat at_ ≤ Int.toNat to_ then
    z6A >>= fun q3 =>
    z5A (List.drop (Int.toNat at_) (List.take (Int.toNat to_) text)) q3 >>= fun q4 =>
    if q4 = true then
      some ((zB.mk 3 0 (List.drop (Int.toNat at_) (List.take (Int.toNat to_) text)) at_ to_), 0)
    else
    some ((zB.mk 1 0 (List.drop (Int.toNat at_) (List.take (Int.toNat to_) text)) at_ to_), 0)
    else none
    else none
    else none
    else none
  else
  if (IntKind.wrap .i64 (to_ - at_)) > 16 then
    some ((zB.mk 0 0 [] 0 0), 3)
  else
  if (0 : Int) ≤ to_ then
  if Int.toNat to_ ≤ List.length text then
  if (0 : Int) ≤ at_ then
  if Int.toNat at_ ≤ Int.toNat to_ then
  z6A >>= fun q5 =>
  z5A (List.drop (Int.toNat at_) (List.take (Int.toNat to_) text)) q5 >>= fun q6 =>
  if q6 = true then
    some ((zB.mk 3 0 (List.drop (Int.toNat at_) (List.take (Int.toNat to_) text)) at_ to_), 0)
  else
  some ((zB.mk 1 0 (List.drop (Int.toNat at_) (List.take (Int.toNat to_) text)) at_ to_), 0)
  else none
  else none
  else none
  else none
inductive z6z where
  | jL (text : Str) (at_ to_ : Int) (o4 : zB)
@[reducible] def z8o : z6z → Type
  | .jL _ _ _ _ => zB × Int
def z6v (g : Fam z8o) : Fam z8o
  | .jL text at_ to_ o4 => z3h (fun text at_ to_ o4 => g (z6z.jL text at_ to_ o4)) text at_ to_ o4
theorem y2q : ∀ i, Good (fun g => z6v g i)
  | .jL text at_ to_ o4 => by unfold z6v z3h; exact (.ite (.bind (.const _) fun _ => (.bind (.const _) fun _ => (.ite (.call _) (.bind (.const _) fun _ => (.bind (.const _) fun _ => (.ite (.call _) (.ite (.const _) (.ite (.ite (.ite (.ite (.bind (.const _) fun _ => (.bind (.const _) fun _ => (.ite (.const _) (.const _)))) (.const _)) (.const _)) (.const _)) (.const _))))))))) (.ite (.const _) (.ite (.ite (.ite (.ite (.bind (.const _) fun _ => (.bind (.const _) fun _ => (.ite (.const _) (.const _)))) (.const _)) (.const _)) (.const _)) (.const _))))
def jL (text : Str) (at_ to_ : Int) (o4 : zB) : Option (zB × Int) := z1S z6v (.jL text at_ to_ o4)
theorem y0W (text : Str) (at_ to_ : Int) (o4 : zB) : jL text at_ to_ o4 = z3h jL text at_ to_ o4 := wE y2q (.jL text at_ to_ o4)
def y0q  : Option (List Str) :=
  some ([[61, 61], [33, 61], [60, 61], [62, 61], [38, 38], [124, 124], [123], [125], [40], [41], [91], [93], [44], [59], [58], [46], [61], [60], [62], [43], [45], [42], [47], [37], [33], [64]])
def y3F (text : Str) (at_ : Int) : Option (zB × Int) :=
  idx text at_ >>= fun c =>
  z5J (Int.ofNat (UInt8.toNat c)) >>= fun q1 =>
  if q1 = true then
    jL text at_ at_ (zB.mk 0 0 [] 0 0)
  else
  z5x (Int.ofNat (UInt8.toNat c)) >>= fun q2 =>
  if q2 = true then
    jE text at_ at_ (zB.mk 0 0 [] 0 0)
  else
  y0q >>= fun q3 =>
  jF text at_ q3 0 (zB.mk 0 0 [] 0 0)
def z2s (wV : Str → (List zB) → Int → Option (List zB × Int × Int)) (text : Str) (out : List zB) (at_ : Int) : Option (List zB × Int × Int) :=
  if at_ < (List.length text : Int) then
    y3F text at_ >>= fun q1 =>
    if q1.2 = 0 then
      if z1i 48 (List.length out + List.length [q1.1]) then
      z7Q text q1.1.To >>= fun q2 =>
      wV text (out ++ [q1.1]) q2
      else none
    else
    some (([] : List zB), at_, q1.2)
  else
  if z1i 48 (List.length out + List.length [(zB.mk 5 0 [] (List.length text : Int) (List.length text : Int))]) then
  some (out ++ [(zB.mk 5 0 [] (List.length text : Int) (List.length text : Int))], 0, 0)
  else none
inductive z4q where
  | wV (text : Str) (out : List zB) (at_ : Int)
@[reducible] def z6m : z4q → Type
  | .wV _ _ _ => List zB × Int × Int
def z4j (g : Fam z6m) : Fam z6m
  | .wV text out at_ => z2s (fun text out at_ => g (z4q.wV text out at_)) text out at_
theorem z8L : ∀ i, Good (fun g => z4j g i)
  | .wV text out at_ => by unfold z4j z2s; exact (.ite (.bind (.const _) fun _ => (.ite (.ite (.bind (.const _) fun _ => (.call _)) (.const _)) (.const _))) (.ite (.const _) (.const _)))
def wV (text : Str) (out : List zB) (at_ : Int) : Option (List zB × Int × Int) := z1S z4j (.wV text out at_)
theorem y4o (text : Str) (out : List zB) (at_ : Int) : wV text out at_ = z2s wV text out at_ := wE z8L (.wV text out at_)
def z6R (text : Str) : Option (List zB × Int × Int) :=
  if (List.length text : Int) > 8192 then
    some (([] : List zB), 0, 3)
  else
  z7Q text 0 >>= fun q1 =>
  wV text ([] : List zB) q1
def z4D (wJ : Int → Int → zE → Option (Int)) (t : zE) : Option (Int) :=
  wJ 0 0 t
def z2h (z0l : zE → Option (Int)) (wJ : Int → Int → zE → Option (Int)) (most i : Int) (t : zE) : Option (Int) :=
  if i < (List.length t.L : Int) then
    idx t.L i >>= fun x =>
    z0l x >>= fun q1 =>
    if q1 > most then
      wJ q1 (IntKind.wrap .i64 (i + 1)) t
    else
    wJ most (IntKind.wrap .i64 (i + 1)) t
  else
  some (IntKind.wrap .i64 (most + 1))
inductive z3b where
  | z0l (t : zE)
  | wJ (most i : Int) (t : zE)
@[reducible] def z9z : z3b → Type
  | .z0l _ => Int
  | .wJ _ _ _ => Int
def z4G (g : Fam z9z) : Fam z9z
  | .z0l t => z4D (fun most i t => g (z3b.wJ most i t)) t
  | .wJ most i t => z2h (fun t => g (z3b.z0l t)) (fun most i t => g (z3b.wJ most i t)) most i t
theorem z9q : ∀ i, Good (fun g => z4G g i)
  | .z0l t => by unfold z4G z4D; exact (.call _)
  | .wJ most i t => by unfold z4G z2h; exact (.ite (.bind (.const _) fun _ => (.bind (.call _) fun _ => (.ite (.call _) (.call _)))) (.const _))
def z0l (t : zE) : Option (Int) := z1S z4G (.z0l t)
def wJ (most i : Int) (t : zE) : Option (Int) := z1S z4G (.wJ most i t)
theorem y8o (t : zE) : z0l t = z4D wJ t := wE z9q (.z0l t)
theorem z8S (most i : Int) (t : zE) : wJ most i t = z2h z0l wJ most i t := wE z9q (.wJ most i t)
def wW (at_ : Int) : Option (zI) :=
  some ((zI.mk (zE.mk 0 0 [] [] 0 0) at_ 6))
def yS (t : List zB) (from_ to_ k n : Int) (s : Str) (parts : List zE) : Option (zI) :=
  idx t from_ >>= fun x =>
  idx t (IntKind.wrap .i64 (to_ - 1)) >>= fun x1 =>
  some ((zI.mk (zE.mk k n s parts x.From x1.To) to_ 0))
def z0f (t : List zB) (at_ : Int) : Option (zB) :=
  if at_ < (List.length t : Int) then
    idx t at_ >>= fun x =>
    some (x)
  else
  some ((zB.mk 5 0 [] 0 0))
def yH (t : List zB) (at_ : Int) (s : Str) : Option (Bool) :=
  z0f t at_ >>= fun q1 =>
  if q1.K = 4 then
    z0f t at_ >>= fun q2 =>
    some ((q2.S == s))
  else
  some (false)
def uW (t : List zB) (at_ : Int) (s : Str) : Option (Bool) :=
  z0f t at_ >>= fun q1 =>
  if q1.K = 3 then
    z0f t at_ >>= fun q2 =>
    some ((q2.S == s))
  else
  some (false)
def z4x (jJ : (List zB) → Int → Option (zI)) (t : List zB) (at_ : Int) : Option (zI) :=
  uW t at_ [105, 110, 116] >>= fun q1 =>
  if q1 = true then
    yS t at_ (IntKind.wrap .i64 (at_ + 1)) 1 0 [] ([] : List zE) >>= fun q2 =>
    some (q2)
  else
  uW t at_ [98, 111, 111, 108] >>= fun q3 =>
  if q3 = true then
    yS t at_ (IntKind.wrap .i64 (at_ + 1)) 2 0 [] ([] : List zE) >>= fun q4 =>
    some (q4)
  else
  z0f t at_ >>= fun q5 =>
  if q5.K = 1 then
    z0f t at_ >>= fun q6 =>
    yS t at_ (IntKind.wrap .i64 (at_ + 1)) 4 0 q6.S ([] : List zE) >>= fun q7 =>
    some (q7)
  else
  yH t at_ [91] >>= fun q8 =>
  if q8 = true then
    z0f t (IntKind.wrap .i64 (at_ + 1)) >>= fun q10 =>
    if q10.K = 2 then
      yH t (IntKind.wrap .i64 (at_ + 2)) [93] >>= fun q12 =>
      if q12 = true then
        jJ t (IntKind.wrap .i64 (at_ + 3)) >>= fun q14 =>
        if q14.E = 0 then
          z0f t (IntKind.wrap .i64 (at_ + 1)) >>= fun q15 =>
          yS t at_ q14.At 3 q15.N [] [q14.T_] >>= fun q16 =>
          some (q16)
        else
        some (q14)
      else
      wW (IntKind.wrap .i64 (at_ + 2)) >>= fun q13 =>
      some (q13)
    else
    wW (IntKind.wrap .i64 (at_ + 1)) >>= fun q11 =>
    some (q11)
  else
  wW at_ >>= fun q9 =>
  some (q9)
inductive z8w where
  | jJ (t : List zB) (at_ : Int)
@[reducible] def y1t : z8w → Type
  | .jJ _ _ => zI
def z8t (g : Fam y1t) : Fam y1t
  | .jJ t at_ => z4x (fun t at_ => g (z8w.jJ t at_)) t at_
theorem y6n : ∀ i, Good (fun g => z8t g i)
  | .jJ t at_ => by unfold z8t z4x; exact (.bind (.const _) fun _ => (.ite (.bind (.const _) fun _ => (.const _)) (.bind (.const _) fun _ => (.ite (.bind (.const _) fun _ => (.const _)) (.bind (.const _) fun _ => (.ite (.bind (.const _) fun _ => (.bind (.const _) fun _ => (.const _))) (.bind (.const _) fun _ => (.ite (.bind (.const _) fun _ => (.ite (.bind (.const _) fun _ => (.ite (.bind (.call _) fun _ => (.ite (.bind (.const _) fun _ => (.bind (.const _) fun _ => (.const _))) (.const _))) (.bind (.const _) fun _ => (.const _)))) (.bind (.const _) fun _ => (.const _)))) (.bind (.const _) fun _ => (.const _))))))))))
def jJ (t : List zB) (at_ : Int) : Option (zI) := z1S z8t (.jJ t at_)
theorem y4E (t : List zB) (at_ : Int) : jJ t at_ = z4x jJ t at_ := wE y6n (.jJ t at_)
def z3K (t : List zB) (at_ : Int) : Option (zI) :=
  z0f t at_ >>= fun q1 =>
  if q1.K = 1 then
    yH t (IntKind.wrap .i64 (at_ + 1)) [58] >>= fun q3 =>
    if q3 = true then
      jJ t (IntKind.wrap .i64 (at_ + 2)) >>= fun q5 =>
      if q5.E = 0 then
        idx t at_ >>= fun x =>
        yS t at_ q5.At 34 0 x.S [q5.T_] >>= fun q6 =>
        some (q6)
      else
      some (q5)
    else
    wW (IntKind.wrap .i64 (at_ + 1)) >>= fun q4 =>
    some (q4)
  else
  wW at_ >>= fun q2 =>
  some (q2)
def z1O (vT : (List zB) → Int → (List zE) → Option (List zE × Int × Int)) (t : List zB) (at_ : Int) (out : List zE) : Option (List zE × Int × Int) :=
  if (List.length out : Int) = 0 then
    z3K t at_ >>= fun q1 =>
    if q1.E = 0 then
      yH t q1.At [59] >>= fun q2 =>
      if q2 = true then
        if z1i 72 (List.length out + List.length [q1.T_]) then
        vT t (IntKind.wrap .i64 (q1.At + 1)) (out ++ [q1.T_])
        else none
      else
      some (out, q1.At, 6)
    else
    some (out, q1.At, q1.E)
  else
  yH t at_ [125] >>= fun q3 =>
  if q3 = true then
    some (out, IntKind.wrap .i64 (at_ + 1), 0)
  else
  z3K t at_ >>= fun q4 =>
  if q4.E = 0 then
    yH t q4.At [59] >>= fun q5 =>
    if q5 = true then
      if z1i 72 (List.length out + List.length [q4.T_]) then
      vT t (IntKind.wrap .i64 (q4.At + 1)) (out ++ [q4.T_])
      else none
    else
    some (out, q4.At, 6)
  else
  some (out, q4.At, q4.E)
inductive z4i where
  | vT (t : List zB) (at_ : Int) (out : List zE)
@[reducible] def z6j : z4i → Type
  | .vT _ _ _ => List zE × Int × Int
def z4n (g : Fam z6j) : Fam z6j
  | .vT t at_ out => z1O (fun t at_ out => g (z4i.vT t at_ out)) t at_ out
theorem z8I : ∀ i, Good (fun g => z4n g i)
  | .vT t at_ out => by unfold z4n z1O; exact (.ite (.bind (.const _) fun _ => (.ite (.bind (.const _) fun _ => (.ite (.ite (.call _) (.const _)) (.const _))) (.const _))) (.bind (.const _) fun _ => (.ite (.const _) (.bind (.const _) fun _ => (.ite (.bind (.const _) fun _ => (.ite (.ite (.call _) (.const _)) (.const _))) (.const _))))))
def vT (t : List zB) (at_ : Int) (out : List zE) : Option (List zE × Int × Int) := z1S z4n (.vT t at_ out)
theorem z7V (t : List zB) (at_ : Int) (out : List zE) : vT t at_ out = z1O vT t at_ out := wE z8I (.vT t at_ out)
def z6S (t : List zB) (at_ : Int) : Option (List zE × Int × Int) :=
  vT t at_ ([] : List zE)
def z9V (t : List zB) (at_ : Int) : Option (Int × List zN) :=
  uW t at_ [108, 101, 116] >>= fun q1 =>
  if q1 = true then
    z0f t (IntKind.wrap .i64 (at_ + 1)) >>= fun q2 =>
    if q2.K = 1 then
      yH t (IntKind.wrap .i64 (at_ + 2)) [58] >>= fun q3 =>
      if q3 = true then
        some (21, [(zN.mk [119, 111, 114, 100] [108, 101, 116]), (zN.mk [110, 97, 109, 101] []), (zN.mk [115, 105, 103, 110] [58]), (zN.mk [116, 121, 112, 101] []), (zN.mk [115, 105, 103, 110] [59])])
      else
      some (20, [(zN.mk [119, 111, 114, 100] [108, 101, 116]), (zN.mk [110, 97, 109, 101] []), (zN.mk [115, 105, 103, 110] [61]), (zN.mk [101, 120, 112, 114] []), (zN.mk [115, 105, 103, 110] [59])])
    else
    some (20, [(zN.mk [119, 111, 114, 100] [108, 101, 116]), (zN.mk [110, 97, 109, 101] []), (zN.mk [115, 105, 103, 110] [61]), (zN.mk [101, 120, 112, 114] []), (zN.mk [115, 105, 103, 110] [59])])
  else
  uW t at_ [105, 102] >>= fun q4 =>
  if q4 = true then
    some (23, [(zN.mk [119, 111, 114, 100] [105, 102]), (zN.mk [101, 120, 112, 114] []), (zN.mk [98, 108, 111, 99, 107] []), (zN.mk [101, 108, 115, 101] [])])
  else
  uW t at_ [119, 104, 105, 108, 101] >>= fun q5 =>
  if q5 = true then
    some (24, [(zN.mk [119, 111, 114, 100] [119, 104, 105, 108, 101]), (zN.mk [101, 120, 112, 114] []), (zN.mk [98, 108, 111, 99, 107] [])])
  else
  uW t at_ [102, 111, 114] >>= fun q6 =>
  if q6 = true then
    some (25, [(zN.mk [119, 111, 114, 100] [102, 111, 114]), (zN.mk [110, 97, 109, 101] []), (zN.mk [115, 105, 103, 110] [61]), (zN.mk [101, 120, 112, 114] []), (zN.mk [119, 111, 114, 100] [116, 111]), (zN.mk [101, 120, 112, 114] []), (zN.mk [98, 108, 111, 99, 107] [])])
  else
  uW t at_ [112, 114, 105, 110, 116] >>= fun q7 =>
  if q7 = true then
    some (26, [(zN.mk [119, 111, 114, 100] [112, 114, 105, 110, 116]), (zN.mk [101, 120, 112, 114] []), (zN.mk [115, 105, 103, 110] [59])])
  else
  uW t at_ [114, 101, 116, 117, 114, 110] >>= fun q8 =>
  if q8 = true then
    some (27, [(zN.mk [119, 111, 114, 100] [114, 101, 116, 117, 114, 110]), (zN.mk [101, 120, 112, 114] []), (zN.mk [115, 105, 103, 110] [59])])
  else
  uW t at_ [100, 111] >>= fun q9 =>
  if q9 = true then
    some (28, [(zN.mk [119, 111, 114, 100] [100, 111]), (zN.mk [101, 120, 112, 114] []), (zN.mk [115, 105, 103, 110] [59])])
  else
  some (22, [(zN.mk [101, 120, 112, 114] []), (zN.mk [115, 105, 103, 110] [61]), (zN.mk [101, 120, 112, 114] []), (zN.mk [115, 105, 103, 110] [59])])
def z3A (gS : (List zB) → Int → (List Str) → (List Int) → Int → Option (Int)) (t : List zB) (at_ : Int) (signs : List Str) (ops : List Int) (i : Int) : Option (Int) :=
  if i < (List.length signs : Int) then
    idx signs i >>= fun x =>
    yH t at_ x >>= fun q1 =>
    if q1 = true then
      idx ops i >>= fun x1 =>
      some (x1)
    else
    gS t at_ signs ops (IntKind.wrap .i64 (i + 1))
  else
  some (0)
inductive z7j where
  | gS (t : List zB) (at_ : Int) (signs : List Str) (ops : List Int) (i : Int)
@[reducible] def z9x : z7j → Type
  | .gS _ _ _ _ _ => Int
def z7h (g : Fam z9x) : Fam z9x
  | .gS t at_ signs ops i => z3A (fun t at_ signs ops i => g (z7j.gS t at_ signs ops i)) t at_ signs ops i
theorem y4t : ∀ i, Good (fun g => z7h g i)
  | .gS t at_ signs ops i => by unfold z7h z3A; exact (.ite (.bind (.const _) fun _ => (.bind (.const _) fun _ => (.ite (.bind (.const _) fun _ => (.const _)) (.call _)))) (.const _))
def gS (t : List zB) (at_ : Int) (signs : List Str) (ops : List Int) (i : Int) : Option (Int) := z1S z7h (.gS t at_ signs ops i)
theorem y2B (t : List zB) (at_ : Int) (signs : List Str) (ops : List Int) (i : Int) : gS t at_ signs ops i = z3A gS t at_ signs ops i := wE y4t (.gS t at_ signs ops i)
def y5A (level : Int) : Option (List Str × List Int) :=
  if level = 1 then
    some ([[124, 124]], [1])
  else
  if level = 2 then
    some ([[38, 38]], [2])
  else
  if level = 3 then
    some ([[61, 61], [33, 61], [60], [60, 61], [62], [62, 61]], [3, 4, 5, 6, 7, 8])
  else
  if level = 4 then
    some ([[43], [45]], [9, 10])
  else
  some ([[42], [47], [37]], [11, 12, 13])
def y5W (t : List zB) (at_ level : Int) : Option (Int) :=
  y5A level >>= fun q1 =>
  gS t at_ q1.1 q1.2 0
def z3x (vS : (List zB) → Int → Option (zI)) (jA : (List zB) → Int → Option (zI)) (t : List zB) (at_ : Int) : Option (zI) :=
  z0f t at_ >>= fun q1 =>
  if q1.K = 2 then
    yS t at_ (IntKind.wrap .i64 (at_ + 1)) 5 q1.N [] ([] : List zE) >>= fun q2 =>
    some (q2)
  else
  uW t at_ [116, 114, 117, 101] >>= fun q3 =>
  if q3 = true then
    yS t at_ (IntKind.wrap .i64 (at_ + 1)) 6 1 [] ([] : List zE) >>= fun q4 =>
    some (q4)
  else
  uW t at_ [102, 97, 108, 115, 101] >>= fun q5 =>
  if q5 = true then
    yS t at_ (IntKind.wrap .i64 (at_ + 1)) 6 0 [] ([] : List zE) >>= fun q6 =>
    some (q6)
  else
  uW t at_ [114, 101, 97, 100] >>= fun q7 =>
  if q7 = true then
    yS t at_ (IntKind.wrap .i64 (at_ + 1)) 18 0 [] ([] : List zE) >>= fun q8 =>
    some (q8)
  else
  if q1.K = 1 then
    yH t (IntKind.wrap .i64 (at_ + 1)) [40] >>= fun q9 =>
    if q9 = true then
      yH t at_ [40] >>= fun q11 =>
      if q11 = true then
        vS t (IntKind.wrap .i64 (at_ + 1)) >>= fun q12 =>
        if q12.E = 0 then
          yH t q12.At [41] >>= fun q13 =>
          if q13 = true then
            some ({ q12 with At := IntKind.wrap .i64 (q12.At + 1) })
          else
          wW q12.At >>= fun q14 =>
          some (q14)
        else
        some (q12)
      else
      jA t at_ >>= fun q15 =>
      some (q15)
    else
    yS t at_ (IntKind.wrap .i64 (at_ + 1)) 19 0 q1.S ([] : List zE) >>= fun q10 =>
    some (q10)
  else
  yH t at_ [40] >>= fun q16 =>
  if q16 = true then
    vS t (IntKind.wrap .i64 (at_ + 1)) >>= fun q17 =>
    if q17.E = 0 then
      yH t q17.At [41] >>= fun q18 =>
      if q18 = true then
        some ({ q17 with At := IntKind.wrap .i64 (q17.At + 1) })
      else
      wW q17.At >>= fun q19 =>
      some (q19)
    else
    some (q17)
  else
  jA t at_ >>= fun q20 =>
  some (q20)
def z5w (vV : (List zB) → Int → Int → Option (zI)) (t : List zB) (at_ : Int) : Option (zI) :=
  vV t at_ 1 >>= fun q1 =>
  some (q1)
def z0G (wK : (List zB) → Int → Bool → Str → Str → Option (List zE × Int × Int)) (t : List zB) (at_ : Int) : Option (zI) :=
  z0f t at_ >>= fun q1 =>
  if q1.K = 1 then
    z0f t at_ >>= fun q2 =>
    wK t (IntKind.wrap .i64 (at_ + 1)) true [40] [41] >>= fun q3 =>
    if q3.2.2 = 0 then
      yS t at_ q3.2.1 16 0 q2.S q3.1 >>= fun q4 =>
      some (q4)
    else
    some ((zI.mk (zE.mk 0 0 [] [] 0 0) q3.2.1 q3.2.2))
  else
  yH t at_ [91] >>= fun q5 =>
  if q5 = true then
    wK t at_ false [91] [93] >>= fun q6 =>
    if q6.2.2 = 0 then
      yS t at_ q6.2.1 14 0 [] q6.1 >>= fun q7 =>
      some (q7)
    else
    some ((zI.mk (zE.mk 0 0 [] [] 0 0) q6.2.1 q6.2.2))
  else
  yH t at_ [64] >>= fun q8 =>
  if q8 = true then
    z0f t (IntKind.wrap .i64 (at_ + 1)) >>= fun q9 =>
    if q9.K = 1 then
      z0f t (IntKind.wrap .i64 (at_ + 1)) >>= fun q11 =>
      uW t at_ [110, 101, 119] >>= fun q12 =>
      if q12 = true then
        wK t (IntKind.wrap .i64 (at_ + 2)) false [40] [41] >>= fun q13 =>
        if q13.2.2 = 0 then
          yS t at_ q13.2.1 15 0 q11.S q13.1 >>= fun q14 =>
          some (q14)
        else
        some ((zI.mk (zE.mk 0 0 [] [] 0 0) q13.2.1 q13.2.2))
      else
      wK t (IntKind.wrap .i64 (at_ + 2)) true [40] [41] >>= fun q15 =>
      if q15.2.2 = 0 then
        yS t at_ q15.2.1 17 0 q11.S q15.1 >>= fun q16 =>
        some (q16)
      else
      some ((zI.mk (zE.mk 0 0 [] [] 0 0) q15.2.1 q15.2.2))
    else
    wW (IntKind.wrap .i64 (at_ + 1)) >>= fun q10 =>
    some (q10)
  else
  uW t at_ [110, 101, 119] >>= fun q17 =>
  if q17 = true then
    z0f t (IntKind.wrap .i64 (at_ + 1)) >>= fun q18 =>
    if q18.K = 1 then
      z0f t (IntKind.wrap .i64 (at_ + 1)) >>= fun q20 =>
      uW t at_ [110, 101, 119] >>= fun q21 =>
      if q21 = true then
        wK t (IntKind.wrap .i64 (at_ + 2)) false [40] [41] >>= fun q22 =>
        if q22.2.2 = 0 then
          yS t at_ q22.2.1 15 0 q20.S q22.1 >>= fun q23 =>
          some (q23)
        else
        some ((zI.mk (zE.mk 0 0 [] [] 0 0) q22.2.1 q22.2.2))
      else
      wK t (IntKind.wrap .i64 (at_ + 2)) true [40] [41] >>= fun q24 =>
      if q24.2.2 = 0 then
        yS t at_ q24.2.1 17 0 q20.S q24.1 >>= fun q25 =>
        some (q25)
      else
      some ((zI.mk (zE.mk 0 0 [] [] 0 0) q24.2.1 q24.2.2))
    else
    wW (IntKind.wrap .i64 (at_ + 1)) >>= fun q19 =>
    some (q19)
  else
  wW at_ >>= fun q26 =>
  some (q26)
def z2x (vV : (List zB) → Int → Int → Option (zI)) (wI : (List zB) → Int → Int → Int → zI → zI → Option (zI)) (z1t : (List zB) → Int → Option (zI)) (t : List zB) (at_ level : Int) : Option (zI) :=
  if level = 6 then
    z1t t at_ >>= fun q1 =>
    some (q1)
  else
  vV t at_ (IntKind.wrap .i64 (level + 1)) >>= fun q2 =>
  wI t at_ level 0 (zI.mk (zE.mk 0 0 [] [] 0 0) 0 0) q2
def z0X (vV : (List zB) → Int → Int → Option (zI)) (wI : (List zB) → Int → Int → Int → zI → zI → Option (zI)) (t : List zB) (at_ level times : Int) (o6 left : zI) : Option (zI) :=
  if left.E = 0 then
    y5W t left.At level >>= fun q1 =>
    if q1 = 0 then
      some (left)
    else
    if level = 3 then
      if times = 1 then
        some (left)
      else
      vV t (IntKind.wrap .i64 (left.At + 1)) (IntKind.wrap .i64 (level + 1)) >>= fun q2 =>
      if q2.E = 0 then
        yS t at_ q2.At 10 q1 [] [left.T_, q2.T_] >>= fun q3 =>
        wI t at_ level (IntKind.wrap .i64 (times + 1)) o6 q3
      else
      some (q2)
    else
    vV t (IntKind.wrap .i64 (left.At + 1)) (IntKind.wrap .i64 (level + 1)) >>= fun q4 =>
    if q4.E = 0 then
      yS t at_ q4.At 10 q1 [] [left.T_, q4.T_] >>= fun q5 =>
      wI t at_ level (IntKind.wrap .i64 (times + 1)) o6 q5
    else
    some (q4)
  else
  some (left)
def z2z (z1r : (List zB) → Int → Option (List zE × Int × Int)) (t : List zB) (open_ : Int) (few : Bool) (first last : Str) : Option (List zE × Int × Int) :=
  yH t open_ first >>= fun q1 =>
  if q1 = true then
    if few = true then
      yH t (IntKind.wrap .i64 (open_ + 1)) last >>= fun q2 =>
      if q2 = true then
        some (([] : List zE), IntKind.wrap .i64 (open_ + 2), 0)
      else
      z1r t (IntKind.wrap .i64 (open_ + 1)) >>= fun q3 =>
      if q3.2.2 = 0 then
        yH t q3.2.1 last >>= fun q4 =>
        if q4 = true then
          some (q3.1, IntKind.wrap .i64 (q3.2.1 + 1), 0)
        else
        some (q3.1, q3.2.1, 6)
      else
      some (q3.1, q3.2.1, q3.2.2)
    else
    z1r t (IntKind.wrap .i64 (open_ + 1)) >>= fun q5 =>
    if q5.2.2 = 0 then
      yH t q5.2.1 last >>= fun q6 =>
      if q6 = true then
        some (q5.1, IntKind.wrap .i64 (q5.2.1 + 1), 0)
      else
      some (q5.1, q5.2.1, 6)
    else
    some (q5.1, q5.2.1, q5.2.2)
  else
  some (([] : List zE), open_, 6)
def z5W (z1t : (List zB) → Int → Option (zI)) (z0v : (List zB) → Int → Option (zI)) (t : List zB) (at_ : Int) : Option (zI) :=
  yH t at_ [45] >>= fun q1 =>
  if q1 = true then
    yH t at_ [33] >>= fun q2 =>
    if q2 = true then
      if (2 : Int) = 0 then
        z0v t at_ >>= fun q3 =>
        some (q3)
      else
      z1t t (IntKind.wrap .i64 (at_ + 1)) >>= fun q4 =>
      if q4.E = 0 then
        yS t at_ q4.At 11 2 [] [q4.T_] >>= fun q5 =>
        some (q5)
      else
      some (q4)
    else
    if (1 : Int) = 0 then
      z0v t at_ >>= fun q6 =>
      some (q6)
    else
    z1t t (IntKind.wrap .i64 (at_ + 1)) >>= fun q7 =>
    if q7.E = 0 then
      yS t at_ q7.At 11 1 [] [q7.T_] >>= fun q8 =>
      some (q8)
    else
    some (q7)
  else
  yH t at_ [33] >>= fun q9 =>
  if q9 = true then
    if (2 : Int) = 0 then
      z0v t at_ >>= fun q10 =>
      some (q10)
    else
    z1t t (IntKind.wrap .i64 (at_ + 1)) >>= fun q11 =>
    if q11.E = 0 then
      yS t at_ q11.At 11 2 [] [q11.T_] >>= fun q12 =>
      some (q12)
    else
    some (q11)
  else
  if (0 : Int) = 0 then
    z0v t at_ >>= fun q13 =>
    some (q13)
  else
  z1t t (IntKind.wrap .i64 (at_ + 1)) >>= fun q14 =>
  if q14.E = 0 then
    yS t at_ q14.At 11 0 [] [q14.T_] >>= fun q15 =>
    some (q15)
  else
  some (q14)
def z6I (wT : (List zB) → Int → (List zE) → Option (List zE × Int × Int)) (t : List zB) (at_ : Int) : Option (List zE × Int × Int) :=
  wT t at_ ([] : List zE)
def z1X (vS : (List zB) → Int → Option (zI)) (wT : (List zB) → Int → (List zE) → Option (List zE × Int × Int)) (t : List zB) (at_ : Int) (out : List zE) : Option (List zE × Int × Int) :=
  vS t at_ >>= fun q1 =>
  if q1.E = 0 then
    if z1i 72 (List.length out + List.length [q1.T_]) then
    yH t q1.At [44] >>= fun q2 =>
    if q2 = true then
      wT t (IntKind.wrap .i64 (q1.At + 1)) (out ++ [q1.T_])
    else
    some (out ++ [q1.T_], q1.At, 0)
    else none
  else
  some (out, q1.At, q1.E)
def z4v (vP : (List zB) → Int → Option (zI)) (wR : (List zB) → Int → zI → zI → Option (zI)) (t : List zB) (at_ : Int) : Option (zI) :=
  vP t at_ >>= fun q1 =>
  wR t at_ (zI.mk (zE.mk 0 0 [] [] 0 0) 0 0) q1
def z0r (vS : (List zB) → Int → Option (zI)) (wR : (List zB) → Int → zI → zI → Option (zI)) (t : List zB) (at_ : Int) (o4 x : zI) : Option (zI) :=
  if x.E = 0 then
    yH t x.At [91] >>= fun q1 =>
    if q1 = true then
      vS t (IntKind.wrap .i64 (x.At + 1)) >>= fun q2 =>
      if q2.E = 0 then
        yH t q2.At [93] >>= fun q3 =>
        if q3 = true then
          yS t at_ (IntKind.wrap .i64 (q2.At + 1)) 12 0 [] [x.T_, q2.T_] >>= fun q5 =>
          wR t at_ o4 q5
        else
        wW q2.At >>= fun q4 =>
        some (q4)
      else
      some (q2)
    else
    yH t x.At [46] >>= fun q6 =>
    if q6 = true then
      z0f t (IntKind.wrap .i64 (x.At + 1)) >>= fun q7 =>
      if q7.K = 1 then
        yS t at_ (IntKind.wrap .i64 (x.At + 2)) 13 0 q7.S [x.T_] >>= fun q9 =>
        wR t at_ o4 q9
      else
      wW (IntKind.wrap .i64 (x.At + 1)) >>= fun q8 =>
      some (q8)
    else
    some (x)
  else
  some (x)
inductive yW where
  | vP (t : List zB) (at_ : Int)
  | vS (t : List zB) (at_ : Int)
  | jA (t : List zB) (at_ : Int)
  | vV (t : List zB) (at_ level : Int)
  | wI (t : List zB) (at_ level times : Int) (o6 left : zI)
  | wK (t : List zB) (open_ : Int) (few : Bool) (first last : Str)
  | z1t (t : List zB) (at_ : Int)
  | z1r (t : List zB) (at_ : Int)
  | wT (t : List zB) (at_ : Int) (out : List zE)
  | z0v (t : List zB) (at_ : Int)
  | wR (t : List zB) (at_ : Int) (o4 x : zI)
@[reducible] def y1L : yW → Type
  | .vP _ _ => zI
  | .vS _ _ => zI
  | .jA _ _ => zI
  | .vV _ _ _ => zI
  | .wI _ _ _ _ _ _ => zI
  | .wK _ _ _ _ _ => List zE × Int × Int
  | .z1t _ _ => zI
  | .z1r _ _ => List zE × Int × Int
  | .wT _ _ _ => List zE × Int × Int
  | .z0v _ _ => zI
  | .wR _ _ _ _ => zI
def uU (g : Fam y1L) : Fam y1L
  | .vP t at_ => z3x (fun t at_ => g (yW.vS t at_)) (fun t at_ => g (yW.jA t at_)) t at_
  | .vS t at_ => z5w (fun t at_ level => g (yW.vV t at_ level)) t at_
  | .jA t at_ => z0G (fun t open_ few first last => g (yW.wK t open_ few first last)) t at_
  | .vV t at_ level => z2x (fun t at_ level => g (yW.vV t at_ level)) (fun t at_ level times o6 left => g (yW.wI t at_ level times o6 left)) (fun t at_ => g (yW.z1t t at_)) t at_ level
  | .wI t at_ level times o6 left => z0X (fun t at_ level => g (yW.vV t at_ level)) (fun t at_ level times o6 left => g (yW.wI t at_ level times o6 left)) t at_ level times o6 left
  | .wK t open_ few first last => z2z (fun t at_ => g (yW.z1r t at_)) t open_ few first last
  | .z1t t at_ => z5W (fun t at_ => g (yW.z1t t at_)) (fun t at_ => g (yW.z0v t at_)) t at_
  | .z1r t at_ => z6I (fun t at_ out => g (yW.wT t at_ out)) t at_
  | .wT t at_ out => z1X (fun t at_ => g (yW.vS t at_)) (fun t at_ out => g (yW.wT t at_ out)) t at_ out
  | .z0v t at_ => z4v (fun t at_ => g (yW.vP t at_)) (fun t at_ o4 x => g (yW.wR t at_ o4 x)) t at_
  | .wR t at_ o4 x => z0r (fun t at_ => g (yW.vS t at_)) (fun t at_ o4 x => g (yW.wR t at_ o4 x)) t at_ o4 x
theorem z1L : ∀ i, Good (fun g => uU g i)
  | .vP t at_ => by unfold uU z3x; exact (.bind (.const _) fun _ => (.ite (.bind (.const _) fun _ => (.const _)) (.bind (.const _) fun _ => (.ite (.bind (.const _) fun _ => (.const _)) (.bind (.const _) fun _ => (.ite (.bind (.const _) fun _ => (.const _)) (.bind (.const _) fun _ => (.ite (.bind (.const _) fun _ => (.const _)) (.ite (.bind (.const _) fun _ => (.ite (.bind (.const _) fun _ => (.ite (.bind (.call _) fun _ => (.ite (.bind (.const _) fun _ => (.ite (.const _) (.bind (.const _) fun _ => (.const _)))) (.const _))) (.bind (.call _) fun _ => (.const _)))) (.bind (.const _) fun _ => (.const _)))) (.bind (.const _) fun _ => (.ite (.bind (.call _) fun _ => (.ite (.bind (.const _) fun _ => (.ite (.const _) (.bind (.const _) fun _ => (.const _)))) (.const _))) (.bind (.call _) fun _ => (.const _)))))))))))))
  | .vS t at_ => by unfold uU z5w; exact (.bind (.call _) fun _ => (.const _))
  | .jA t at_ => by unfold uU z0G; exact (.bind (.const _) fun _ => (.ite (.bind (.const _) fun _ => (.bind (.call _) fun _ => (.ite (.bind (.const _) fun _ => (.const _)) (.const _)))) (.bind (.const _) fun _ => (.ite (.bind (.call _) fun _ => (.ite (.bind (.const _) fun _ => (.const _)) (.const _))) (.bind (.const _) fun _ => (.ite (.bind (.const _) fun _ => (.ite (.bind (.const _) fun _ => (.bind (.const _) fun _ => (.ite (.bind (.call _) fun _ => (.ite (.bind (.const _) fun _ => (.const _)) (.const _))) (.bind (.call _) fun _ => (.ite (.bind (.const _) fun _ => (.const _)) (.const _)))))) (.bind (.const _) fun _ => (.const _)))) (.bind (.const _) fun _ => (.ite (.bind (.const _) fun _ => (.ite (.bind (.const _) fun _ => (.bind (.const _) fun _ => (.ite (.bind (.call _) fun _ => (.ite (.bind (.const _) fun _ => (.const _)) (.const _))) (.bind (.call _) fun _ => (.ite (.bind (.const _) fun _ => (.const _)) (.const _)))))) (.bind (.const _) fun _ => (.const _)))) (.bind (.const _) fun _ => (.const _))))))))))
  | .vV t at_ level => by unfold uU z2x; exact (.ite (.bind (.call _) fun _ => (.const _)) (.bind (.call _) fun _ => (.call _)))
  | .wI t at_ level times o6 left => by unfold uU z0X; exact (.ite (.bind (.const _) fun _ => (.ite (.const _) (.ite (.ite (.const _) (.bind (.call _) fun _ => (.ite (.bind (.const _) fun _ => (.call _)) (.const _)))) (.bind (.call _) fun _ => (.ite (.bind (.const _) fun _ => (.call _)) (.const _)))))) (.const _))
  | .wK t open_ few first last => by unfold uU z2z; exact (.bind (.const _) fun _ => (.ite (.ite (.bind (.const _) fun _ => (.ite (.const _) (.bind (.call _) fun _ => (.ite (.bind (.const _) fun _ => (.ite (.const _) (.const _))) (.const _))))) (.bind (.call _) fun _ => (.ite (.bind (.const _) fun _ => (.ite (.const _) (.const _))) (.const _)))) (.const _)))
  | .z1t t at_ => by unfold uU z5W; exact (.bind (.const _) fun _ => (.ite (.bind (.const _) fun _ => (.ite (.ite (.bind (.call _) fun _ => (.const _)) (.bind (.call _) fun _ => (.ite (.bind (.const _) fun _ => (.const _)) (.const _)))) (.ite (.bind (.call _) fun _ => (.const _)) (.bind (.call _) fun _ => (.ite (.bind (.const _) fun _ => (.const _)) (.const _)))))) (.bind (.const _) fun _ => (.ite (.ite (.bind (.call _) fun _ => (.const _)) (.bind (.call _) fun _ => (.ite (.bind (.const _) fun _ => (.const _)) (.const _)))) (.ite (.bind (.call _) fun _ => (.const _)) (.bind (.call _) fun _ => (.ite (.bind (.const _) fun _ => (.const _)) (.const _))))))))
  | .z1r t at_ => by unfold uU z6I; exact (.call _)
  | .wT t at_ out => by unfold uU z1X; exact (.bind (.call _) fun _ => (.ite (.ite (.bind (.const _) fun _ => (.ite (.call _) (.const _))) (.const _)) (.const _)))
  | .z0v t at_ => by unfold uU z4v; exact (.bind (.call _) fun _ => (.call _))
  | .wR t at_ o4 x => by unfold uU z0r; exact (.ite (.bind (.const _) fun _ => (.ite (.bind (.call _) fun _ => (.ite (.bind (.const _) fun _ => (.ite (.bind (.const _) fun _ => (.call _)) (.bind (.const _) fun _ => (.const _)))) (.const _))) (.bind (.const _) fun _ => (.ite (.bind (.const _) fun _ => (.ite (.bind (.const _) fun _ => (.call _)) (.bind (.const _) fun _ => (.const _)))) (.const _))))) (.const _))
def vP (t : List zB) (at_ : Int) : Option (zI) := z1S uU (.vP t at_)
def vS (t : List zB) (at_ : Int) : Option (zI) := z1S uU (.vS t at_)
def jA (t : List zB) (at_ : Int) : Option (zI) := z1S uU (.jA t at_)
def vV (t : List zB) (at_ level : Int) : Option (zI) := z1S uU (.vV t at_ level)
def wI (t : List zB) (at_ level times : Int) (o6 left : zI) : Option (zI) := z1S uU (.wI t at_ level times o6 left)
def wK (t : List zB) (open_ : Int) (few : Bool) (first last : Str) : Option (List zE × Int × Int) := z1S uU (.wK t open_ few first last)
def z1t (t : List zB) (at_ : Int) : Option (zI) := z1S uU (.z1t t at_)
def z1r (t : List zB) (at_ : Int) : Option (List zE × Int × Int) := z1S uU (.z1r t at_)
def wT (t : List zB) (at_ : Int) (out : List zE) : Option (List zE × Int × Int) := z1S uU (.wT t at_ out)
def z0v (t : List zB) (at_ : Int) : Option (zI) := z1S uU (.z0v t at_)
def wR (t : List zB) (at_ : Int) (o4 x : zI) : Option (zI) := z1S uU (.wR t at_ o4 x)
theorem z9l (t : List zB) (at_ : Int) : vP t at_ = z3x vS jA t at_ := wE z1L (.vP t at_)
theorem v0p (t : List zB) (at_ : Int) : vS t at_ = z5w vV t at_ := wE z1L (.vS t at_)
theorem z2G (t : List zB) (at_ : Int) : jA t at_ = z0G wK t at_ := wE z1L (.jA t at_)
theorem z6u (t : List zB) (at_ level : Int) : vV t at_ level = z2x vV wI z1t t at_ level := wE z1L (.vV t at_ level)
theorem z4m (t : List zB) (at_ level times : Int) (o6 left : zI) : wI t at_ level times o6 left = z0X vV wI t at_ level times o6 left := wE z1L (.wI t at_ level times o6 left)
theorem z7t (t : List zB) (open_ : Int) (few : Bool) (first last : Str) : wK t open_ few first last = z2z z1r t open_ few first last := wE z1L (.wK t open_ few first last)
theorem y3W (t : List zB) (at_ : Int) : z1t t at_ = z5W z1t z0v t at_ := wE z1L (.z1t t at_)
theorem y9Z (t : List zB) (at_ : Int) : z1r t at_ = z6I wT t at_ := wE z1L (.z1r t at_)
theorem z6M (t : List zB) (at_ : Int) (out : List zE) : wT t at_ out = z1X vS wT t at_ out := wE z1L (.wT t at_ out)
theorem y4v (t : List zB) (at_ : Int) : z0v t at_ = z4v vP wR t at_ := wE z1L (.z0v t at_)
theorem z2d (t : List zB) (at_ : Int) (o4 x : zI) : wR t at_ o4 x = z0r vS wR t at_ o4 x := wE z1L (.wR t at_ o4 x)
def z3H (wX : (List zB) → Int → (List zE) → Int → zI → Option (zI)) (t : List zB) (at_ : Int) : Option (zI) :=
  yH t at_ [123] >>= fun q1 =>
  if q1 = true then
    wX t at_ ([] : List zE) (IntKind.wrap .i64 (at_ + 1)) (zI.mk (zE.mk 0 0 [] [] 0 0) 0 0)
  else
  wW at_ >>= fun q2 =>
  some (q2)
def z1B (wX : (List zB) → Int → (List zE) → Int → zI → Option (zI)) (z0R : (List zB) → Int → Option (zI)) (t : List zB) (at_ : Int) (parts : List zE) (to_ : Int) (o4 : zI) : Option (zI) :=
  yH t to_ [125] >>= fun q1 =>
  if q1 = true then
    yS t at_ (IntKind.wrap .i64 (to_ + 1)) 29 0 [] parts >>= fun q3 =>
    some (q3)
  else
  z0R t to_ >>= fun q2 =>
  if q2.E = 0 then
    if z1i 72 (List.length parts + List.length [q2.T_]) then
    wX t at_ (parts ++ [q2.T_]) q2.At o4
    else none
  else
  some (q2)
def z4t (vH : (List zB) → Int → Option (zI)) (yQ : (List zB) → Int → Int → (List zN) → (List zE) → Str → Int → Int → zI → Option (zI)) (t : List zB) (at_ : Int) : Option (zI) :=
  yH t at_ [123] >>= fun q1 =>
  if q1 = true then
    vH t at_ >>= fun q2 =>
    some (q2)
  else
  z9V t at_ >>= fun q3 =>
  yQ t at_ q3.1 q3.2 ([] : List zE) [] at_ 0 (zI.mk (zE.mk 0 0 [] [] 0 0) 0 0)
def z0B (yQ : (List zB) → Int → Int → (List zN) → (List zE) → Str → Int → Int → zI → Option (zI)) (z0D : (List zB) → Int → Str → Option (zI)) (t : List zB) (at_ kind : Int) (form : List zN) (parts : List zE) (name : Str) (to_ i : Int) (o4 : zI) : Option (zI) :=
  if i < (List.length form : Int) then
    idx form i >>= fun x =>
    if x.What = [119, 111, 114, 100] then
      idx form i >>= fun x1 =>
      uW t to_ x1.S >>= fun q1 =>
      if q1 = true then
        yQ t at_ kind form parts name (IntKind.wrap .i64 (to_ + 1)) (IntKind.wrap .i64 (i + 1)) o4
      else
      wW to_ >>= fun q2 =>
      some (q2)
    else
    if x.What = [115, 105, 103, 110] then
      idx form i >>= fun x6 =>
      yH t to_ x6.S >>= fun q11 =>
      if q11 = true then
        yQ t at_ kind form parts name (IntKind.wrap .i64 (to_ + 1)) (IntKind.wrap .i64 (i + 1)) o4
      else
      wW to_ >>= fun q12 =>
      some (q12)
    else
    if x.What = [110, 97, 109, 101] then
      z0f t to_ >>= fun q13 =>
      if q13.K = 1 then
        idx t to_ >>= fun x7 =>
        yQ t at_ kind form parts x7.S (IntKind.wrap .i64 (to_ + 1)) (IntKind.wrap .i64 (i + 1)) o4
      else
      wW to_ >>= fun q14 =>
      some (q14)
    else
    if x.What = [101, 108, 115, 101] then
      uW t to_ [101, 108, 115, 101] >>= fun q15 =>
      if q15 = true then
        z0D t (IntKind.wrap .i64 (to_ + 1)) x.What >>= fun q16 =>
        if q16.E = 0 then
          if z1i 72 (List.length parts + List.length [q16.T_]) then
          yQ t at_ kind form (parts ++ [q16.T_]) name q16.At (IntKind.wrap .i64 (i + 1)) o4
          else none
        else
        some (q16)
      else
      idx t (IntKind.wrap .i64 (to_ - 1)) >>= fun x8 =>
      if z1i 72 (List.length parts + List.length [(zE.mk 29 0 [] [] x8.To x8.To)]) then
      yQ t at_ kind form (parts ++ [(zE.mk 29 0 [] [] x8.To x8.To)]) name to_ (IntKind.wrap .i64 (i + 1)) o4
      else none
    else
    z0D t to_ x.What >>= fun q19 =>
    if q19.E = 0 then
      if z1i 72 (List.length parts + List.length [q19.T_]) then
      yQ t at_ kind form (parts ++ [q19.T_]) name q19.At (IntKind.wrap .i64 (i + 1)) o4
      else none
    else
    some (q19)
  else
  yS t at_ to_ kind 0 name parts >>= fun q20 =>
  some (q20)
def z3w (vH : (List zB) → Int → Option (zI)) (t : List zB) (at_ : Int) (what : Str) : Option (zI) :=
  if what = [101, 120, 112, 114] then
    vS t at_ >>= fun q1 =>
    some (q1)
  else
  if what = [116, 121, 112, 101] then
    jJ t at_ >>= fun q2 =>
    some (q2)
  else
  vH t at_ >>= fun q3 =>
  some (q3)
inductive jY where
  | vH (t : List zB) (at_ : Int)
  | wX (t : List zB) (at_ : Int) (parts : List zE) (to_ : Int) (o4 : zI)
  | z0R (t : List zB) (at_ : Int)
  | yQ (t : List zB) (at_ kind : Int) (form : List zN) (parts : List zE) (name : Str) (to_ i : Int) (o4 : zI)
  | z0D (t : List zB) (at_ : Int) (what : Str)
@[reducible] def z9P : jY → Type
  | .vH _ _ => zI
  | .wX _ _ _ _ _ => zI
  | .z0R _ _ => zI
  | .yQ _ _ _ _ _ _ _ _ _ => zI
  | .z0D _ _ _ => zI
def z1m (g : Fam z9P) : Fam z9P
  | .vH t at_ => z3H (fun t at_ parts to_ o4 => g (jY.wX t at_ parts to_ o4)) t at_
  | .wX t at_ parts to_ o4 => z1B (fun t at_ parts to_ o4 => g (jY.wX t at_ parts to_ o4)) (fun t at_ => g (jY.z0R t at_)) t at_ parts to_ o4
  | .z0R t at_ => z4t (fun t at_ => g (jY.vH t at_)) (fun t at_ kind form parts name to_ i o4 => g (jY.yQ t at_ kind form parts name to_ i o4)) t at_
  | .yQ t at_ kind form parts name to_ i o4 => z0B (fun t at_ kind form parts name to_ i o4 => g (jY.yQ t at_ kind form parts name to_ i o4)) (fun t at_ what => g (jY.z0D t at_ what)) t at_ kind form parts name to_ i o4
  | .z0D t at_ what => z3w (fun t at_ => g (jY.vH t at_)) t at_ what
theorem z4I : ∀ i, Good (fun g => z1m g i)
  | .vH t at_ => by unfold z1m z3H; exact (.bind (.const _) fun _ => (.ite (.call _) (.bind (.const _) fun _ => (.const _))))
  | .wX t at_ parts to_ o4 => by unfold z1m z1B; exact (.bind (.const _) fun _ => (.ite (.bind (.const _) fun _ => (.const _)) (.bind (.call _) fun _ => (.ite (.ite (.call _) (.const _)) (.const _)))))
  | .z0R t at_ => by unfold z1m z4t; exact (.bind (.const _) fun _ => (.ite (.bind (.call _) fun _ => (.const _)) (.bind (.const _) fun _ => (.call _))))
  | .yQ t at_ kind form parts name to_ i o4 => by unfold z1m z0B; exact (.ite (.bind (.const _) fun _ => (.ite (.bind (.const _) fun _ => (.bind (.const _) fun _ => (.ite (.call _) (.bind (.const _) fun _ => (.const _))))) (.ite (.bind (.const _) fun _ => (.bind (.const _) fun _ => (.ite (.call _) (.bind (.const _) fun _ => (.const _))))) (.ite (.bind (.const _) fun _ => (.ite (.bind (.const _) fun _ => (.call _)) (.bind (.const _) fun _ => (.const _)))) (.ite (.bind (.const _) fun _ => (.ite (.bind (.call _) fun _ => (.ite (.ite (.call _) (.const _)) (.const _))) (.bind (.const _) fun _ => (.ite (.call _) (.const _))))) (.bind (.call _) fun _ => (.ite (.ite (.call _) (.const _)) (.const _)))))))) (.bind (.const _) fun _ => (.const _)))
  | .z0D t at_ what => by unfold z1m z3w; exact (.ite (.bind (.const _) fun _ => (.const _)) (.ite (.bind (.const _) fun _ => (.const _)) (.bind (.call _) fun _ => (.const _))))
def vH (t : List zB) (at_ : Int) : Option (zI) := z1S z1m (.vH t at_)
def wX (t : List zB) (at_ : Int) (parts : List zE) (to_ : Int) (o4 : zI) : Option (zI) := z1S z1m (.wX t at_ parts to_ o4)
def z0R (t : List zB) (at_ : Int) : Option (zI) := z1S z1m (.z0R t at_)
def yQ (t : List zB) (at_ kind : Int) (form : List zN) (parts : List zE) (name : Str) (to_ i : Int) (o4 : zI) : Option (zI) := z1S z1m (.yQ t at_ kind form parts name to_ i o4)
def z0D (t : List zB) (at_ : Int) (what : Str) : Option (zI) := z1S z1m (.z0D t at_ what)
theorem y2D (t : List zB) (at_ : Int) : vH t at_ = z3H wX t at_ := wE z4I (.vH t at_)
theorem z6k (t : List zB) (at_ : Int) (parts : List zE) (to_ : Int) (o4 : zI) : wX t at_ parts to_ o4 = z1B wX z0R t at_ parts to_ o4 := wE z4I (.wX t at_ parts to_ o4)
theorem y4s (t : List zB) (at_ : Int) : z0R t at_ = z4t vH yQ t at_ := wE z4I (.z0R t at_)
theorem z2Y (t : List zB) (at_ kind : Int) (form : List zN) (parts : List zE) (name : Str) (to_ i : Int) (o4 : zI) : yQ t at_ kind form parts name to_ i o4 = z0B yQ z0D t at_ kind form parts name to_ i o4 := wE z4I (.yQ t at_ kind form parts name to_ i o4)
theorem z9I (t : List zB) (at_ : Int) (what : Str) : z0D t at_ what = z3w vH t at_ what := wE z4I (.z0D t at_ what)
def z1j (wF : (List zB) → Int → (List zE) → Int → Bool → zI → Option (zI)) (t : List zB) (at_ : Int) (out : List zE) (to_ : Int) (more : Bool) (o4 : zI) : Option (zI) :=
  if more = true then
    z3K t to_ >>= fun q1 =>
    if q1.E = 0 then
      if z1i 72 (List.length out + List.length [q1.T_]) then
      yH t q1.At [44] >>= fun q2 =>
      if q2 = true then
        wF t at_ (out ++ [q1.T_]) (IntKind.wrap .i64 (q1.At + 1)) q2 o4
      else
      wF t at_ (out ++ [q1.T_]) q1.At q2 o4
      else none
    else
    some (q1)
  else
  yH t to_ [41] >>= fun q3 =>
  if q3 = true then
    yS t at_ (IntKind.wrap .i64 (to_ + 1)) 35 0 [] out >>= fun q5 =>
    some (q5)
  else
  wW to_ >>= fun q4 =>
  some (q4)
inductive z4p where
  | wF (t : List zB) (at_ : Int) (out : List zE) (to_ : Int) (more : Bool) (o4 : zI)
@[reducible] def z6i : z4p → Type
  | .wF _ _ _ _ _ _ => zI
def z4l (g : Fam z6i) : Fam z6i
  | .wF t at_ out to_ more o4 => z1j (fun t at_ out to_ more o4 => g (z4p.wF t at_ out to_ more o4)) t at_ out to_ more o4
theorem z8P : ∀ i, Good (fun g => z4l g i)
  | .wF t at_ out to_ more o4 => by unfold z4l z1j; exact (.ite (.bind (.const _) fun _ => (.ite (.ite (.bind (.const _) fun _ => (.ite (.call _) (.call _))) (.const _)) (.const _))) (.bind (.const _) fun _ => (.ite (.bind (.const _) fun _ => (.const _)) (.bind (.const _) fun _ => (.const _)))))
def wF (t : List zB) (at_ : Int) (out : List zE) (to_ : Int) (more : Bool) (o4 : zI) : Option (zI) := z1S z4l (.wF t at_ out to_ more o4)
theorem z5F (t : List zB) (at_ : Int) (out : List zE) (to_ : Int) (more : Bool) (o4 : zI) : wF t at_ out to_ more o4 = z1j wF t at_ out to_ more o4 := wE z8P (.wF t at_ out to_ more o4)
def z6E (t : List zB) (at_ : Int) : Option (zI) :=
  yH t at_ [40] >>= fun q1 =>
  if q1 = true then
    yH t (IntKind.wrap .i64 (at_ + 1)) [41] >>= fun q3 =>
    if q3 = true then
      yS t at_ (IntKind.wrap .i64 ((IntKind.wrap .i64 (at_ + 1)) + 1)) 35 0 [] ([] : List zE) >>= fun q4 =>
      some (q4)
    else
    wF t at_ ([] : List zE) (IntKind.wrap .i64 (at_ + 1)) true (zI.mk (zE.mk 0 0 [] [] 0 0) 0 0)
  else
  wW at_ >>= fun q2 =>
  some (q2)
def y4h (t : List zB) (first at_ pub : Int) : Option (zI) :=
  uW t at_ [102, 110] >>= fun q1 =>
  if q1 = true then
    z0f t (IntKind.wrap .i64 (at_ + 1)) >>= fun q3 =>
    if q3.K = 1 then
      z6E t (IntKind.wrap .i64 (at_ + 2)) >>= fun q5 =>
      if q5.E = 0 then
        yH t q5.At [58] >>= fun q6 =>
        if q6 = true then
          jJ t (IntKind.wrap .i64 (q5.At + 1)) >>= fun q8 =>
          if q8.E = 0 then
            vH t q8.At >>= fun q9 =>
            if q9.E = 0 then
              idx t (IntKind.wrap .i64 (at_ + 1)) >>= fun x =>
              yS t first q9.At 33 pub x.S [q5.T_, q8.T_, q9.T_] >>= fun q10 =>
              some (q10)
            else
            some (q9)
          else
          some (q8)
        else
        wW q5.At >>= fun q7 =>
        some (q7)
      else
      some (q5)
    else
    wW (IntKind.wrap .i64 (at_ + 1)) >>= fun q4 =>
    some (q4)
  else
  wW at_ >>= fun q2 =>
  some (q2)
def z4H (t : List zB) (at_ : Int) : Option (zI) :=
  z0f t (IntKind.wrap .i64 (at_ + 1)) >>= fun q1 =>
  if q1.K = 1 then
    uW t at_ [99, 111, 110, 115, 116] >>= fun q3 =>
    if q3 = true then
      yH t (IntKind.wrap .i64 (at_ + 2)) [61] >>= fun q4 =>
      if q4 = true then
        if (31 : Int) = 32 then
          jJ t (IntKind.wrap .i64 (at_ + 3)) >>= fun q6 =>
          if q6.E = 0 then
            yH t q6.At [59] >>= fun q7 =>
            if q7 = true then
              idx t (IntKind.wrap .i64 (at_ + 1)) >>= fun x =>
              yS t at_ (IntKind.wrap .i64 (q6.At + 1)) 31 0 x.S [q6.T_] >>= fun q9 =>
              some (q9)
            else
            wW q6.At >>= fun q8 =>
            some (q8)
          else
          some (q6)
        else
        z0f t (IntKind.wrap .i64 (at_ + 3)) >>= fun q10 =>
        if q10.K = 2 then
          vP t (IntKind.wrap .i64 (at_ + 3)) >>= fun q11 =>
          if q11.E = 0 then
            yH t q11.At [59] >>= fun q12 =>
            if q12 = true then
              idx t (IntKind.wrap .i64 (at_ + 1)) >>= fun x1 =>
              yS t at_ (IntKind.wrap .i64 (q11.At + 1)) 31 0 x1.S [q11.T_] >>= fun q14 =>
              some (q14)
            else
            wW q11.At >>= fun q13 =>
            some (q13)
          else
          some (q11)
        else
        uW t (IntKind.wrap .i64 (at_ + 3)) [116, 114, 117, 101] >>= fun q15 =>
        if q15 = true then
          vP t (IntKind.wrap .i64 (at_ + 3)) >>= fun q16 =>
          if q16.E = 0 then
            yH t q16.At [59] >>= fun q17 =>
            if q17 = true then
              idx t (IntKind.wrap .i64 (at_ + 1)) >>= fun x2 =>
              yS t at_ (IntKind.wrap .i64 (q16.At + 1)) 31 0 x2.S [q16.T_] >>= fun q19 =>
              some (q19)
            else
            wW q16.At >>= fun q18 =>
            some (q18)
          else
          some (q16)
        else
        uW t (IntKind.wrap .i64 (at_ + 3)) [102, 97, 108, 115, 101] >>= fun q20 =>
        if q20 = true then
          vP t (IntKind.wrap .i64 (at_ + 3)) >>= fun q21 =>
          if q21.E = 0 then
            yH t q21.At [59] >>= fun q22 =>
            if q22 = true then
              idx t (IntKind.wrap .i64 (at_ + 1)) >>= fun x3 =>
              yS t at_ (IntKind.wrap .i64 (q21.At + 1)) 31 0 x3.S [q21.T_] >>= fun q24 =>
              some (q24)
            else
            wW q21.At >>= fun q23 =>
            some (q23)
          else
          some (q21)
        else
        wW (IntKind.wrap .i64 (at_ + 3)) >>= fun q25 =>
        if q25.E = 0 then
          yH t q25.At [59] >>= fun q26 =>
          if q26 = true then
            idx t (IntKind.wrap .i64 (at_ + 1)) >>= fun x4 =>
            yS t at_ (IntKind.wrap .i64 (q25.At + 1)) 31 0 x4.S [q25.T_] >>= fun q28 =>
            some (q28)
          else
          wW q25.At >>= fun q27 =>
          some (q27)
        else
        some (q25)
      else
      wW (IntKind.wrap .i64 (at_ + 2)) >>= fun q5 =>
      some (q5)
    else
    yH t (IntKind.wrap .i64 (at_ + 2)) [58] >>= fun q29 =>
    if q29 = true then
      if (32 : Int) = 32 then
        jJ t (IntKind.wrap .i64 (at_ + 3)) >>= fun q31 =>
        if q31.E = 0 then
          yH t q31.At [59] >>= fun q32 =>
          if q32 = true then
            idx t (IntKind.wrap .i64 (at_ + 1)) >>= fun x5 =>
            yS t at_ (IntKind.wrap .i64 (q31.At + 1)) 32 0 x5.S [q31.T_] >>= fun q34 =>
            some (q34)
          else
          wW q31.At >>= fun q33 =>
          some (q33)
        else
        some (q31)
      else
      z0f t (IntKind.wrap .i64 (at_ + 3)) >>= fun q35 =>
      if q35.K = 2 then
        vP t (IntKind.wrap .i64 (at_ + 3)) >>= fun q36 =>
        if q36.E = 0 then
          yH t q36.At [59] >>= fun q37 =>
          if q37 = true then
            idx t (IntKind.wrap .i64 (at_ + 1)) >>= fun x6 =>
            yS t at_ (IntKind.wrap .i64 (q36.At + 1)) 32 0 x6.S [q36.T_] >>= fun q39 =>
            some (q39)
          else
          wW q36.At >>= fun q38 =>
          some (q38)
        else
        some (q36)
      else
      uW t (IntKind.wrap .i64 (at_ + 3)) [116, 114, 117, 101] >>= fun q40 =>
      if q40 = true then
        vP t (IntKind.wrap .i64 (at_ + 3)) >>= fun q41 =>
        if q41.E = 0 then
          yH t q41.At [59] >>= fun q42 =>
          if q42 = true then
            idx t (IntKind.wrap .i64 (at_ + 1)) >>= fun x7 =>
            yS t at_ (IntKind.wrap .i64 (q41.At + 1)) 32 0 x7.S [q41.T_] >>= fun q44 =>
            some (q44)
          else
          wW q41.At >>= fun q43 =>
          some (q43)
        else
        some (q41)
      else
      uW t (IntKind.wrap .i64 (at_ + 3)) [102, 97, 108, 115, 101] >>= fun q45 =>
      if q45 = true then
        vP t (IntKind.wrap .i64 (at_ + 3)) >>= fun q46 =>
        if q46.E = 0 then
          yH t q46.At [59] >>= fun q47 =>
          if q47 = true then
            idx t (IntKind.wrap .i64 (at_ + 1)) >>= fun x8 =>
            yS t at_ (IntKind.wrap .i64 (q46.At + 1)) 32 0 x8.S [q46.T_] >>= fun q49 =>
            some (q49)
          else
          wW q46.At >>= fun q48 =>
          some (q48)
        else
        some (q46)
      else
      wW (IntKind.wrap .i64 (at_ + 3)) >>= fun q50 =>
      if q50.E = 0 then
        yH t q50.At [59] >>= fun q51 =>
        if q51 = true then
          idx t (IntKind.wrap .i64 (at_ + 1)) >>= fun x9 =>
          yS t at_ (IntKind.wrap .i64 (q50.At + 1)) 32 0 x9.S [q50.T_] >>= fun q53 =>
          some (q53)
        else
        wW q50.At >>= fun q52 =>
        some (q52)
      else
      some (q50)
    else
    wW (IntKind.wrap .i64 (at_ + 2)) >>= fun q30 =>
    some (q30)
  else
  wW (IntKind.wrap .i64 (at_ + 1)) >>= fun q2 =>
  some (q2)
def z9J (t : List zB) (at_ : Int) : Option (zI) :=
  uW t at_ [99, 111, 110, 115, 116] >>= fun q1 =>
  if q1 = true then
    z4H t at_ >>= fun q2 =>
    some (q2)
  else
  uW t at_ [118, 97, 114] >>= fun q3 =>
  if q3 = true then
    z4H t at_ >>= fun q4 =>
    some (q4)
  else
  uW t at_ [112, 117, 98] >>= fun q5 =>
  if q5 = true then
    y4h t at_ (IntKind.wrap .i64 (at_ + 1)) 1 >>= fun q6 =>
    some (q6)
  else
  uW t at_ [102, 110] >>= fun q7 =>
  if q7 = true then
    y4h t at_ at_ 0 >>= fun q8 =>
    some (q8)
  else
  uW t at_ [114, 101, 99] >>= fun q9 =>
  if q9 = true then
    z0f t (IntKind.wrap .i64 (at_ + 1)) >>= fun q11 =>
    if q11.K = 1 then
      yH t (IntKind.wrap .i64 (at_ + 2)) [123] >>= fun q13 =>
      if q13 = true then
        z6S t (IntKind.wrap .i64 (at_ + 3)) >>= fun q15 =>
        if q15.2.2 = 0 then
          idx t (IntKind.wrap .i64 (at_ + 1)) >>= fun x =>
          yS t at_ q15.2.1 30 0 x.S q15.1 >>= fun q16 =>
          some (q16)
        else
        some ((zI.mk (zE.mk 0 0 [] [] 0 0) q15.2.1 q15.2.2))
      else
      wW (IntKind.wrap .i64 (at_ + 2)) >>= fun q14 =>
      some (q14)
    else
    wW (IntKind.wrap .i64 (at_ + 1)) >>= fun q12 =>
    some (q12)
  else
  wW at_ >>= fun q10 =>
  some (q10)
def z2Z (uC : Str → (List zB) → (List zE) → Int → zE → Option (zE × Int × Int)) (text : Str) (t : List zB) (out : List zE) (i : Int) (o2 : zE) : Option (zE × Int × Int) :=
  if i < (IntKind.wrap .i64 ((List.length t : Int) - 1)) then
    z9J t i >>= fun q1 =>
    if q1.E = 0 then
      if z1i 72 (List.length out + List.length [q1.T_]) then
      uC text t (out ++ [q1.T_]) q1.At o2
      else none
    else
    idx t q1.At >>= fun x =>
    some ((zE.mk 0 0 [] [] 0 0), x.From, q1.E)
  else
  if (List.length out : Int) > 64 then
    some ((zE.mk 0 0 [] [] 0 0), 0, 11)
  else
  z0l (zE.mk 36 0 [] out 0 (List.length text : Int)) >>= fun q2 =>
  if q2 > 64 then
    some ((zE.mk 0 0 [] [] 0 0), 0, 7)
  else
  some ((zE.mk 36 0 [] out 0 (List.length text : Int)), 0, 0)
inductive z4O where
  | uC (text : Str) (t : List zB) (out : List zE) (i : Int) (o2 : zE)
@[reducible] def z6Q : z4O → Type
  | .uC _ _ _ _ _ => zE × Int × Int
def z5k (g : Fam z6Q) : Fam z6Q
  | .uC text t out i o2 => z2Z (fun text t out i o2 => g (z4O.uC text t out i o2)) text t out i o2
theorem z9a : ∀ i, Good (fun g => z5k g i)
  | .uC text t out i o2 => by unfold z5k z2Z; exact (.ite (.bind (.const _) fun _ => (.ite (.ite (.call _) (.const _)) (.bind (.const _) fun _ => (.const _)))) (.ite (.const _) (.bind (.const _) fun _ => (.ite (.const _) (.const _)))))
def uC (text : Str) (t : List zB) (out : List zE) (i : Int) (o2 : zE) : Option (zE × Int × Int) := z1S z5k (.uC text t out i o2)
theorem y5k (text : Str) (t : List zB) (out : List zE) (i : Int) (o2 : zE) : uC text t out i o2 = z2Z uC text t out i o2 := wE z9a (.uC text t out i o2)
def z8i (text : Str) : Option (zE × Int × Int) :=
  z6R text >>= fun q1 =>
  if q1.2.2 = 0 then
    uC text q1.1 ([] : List zE) 0 (zE.mk 0 0 [] [] 0 0)
  else
  some ((zE.mk 0 0 [] [] 0 0), q1.2.1, q1.2.2)
def z5P (text : Str) : Option (Bool) :=
  if (List.length text : Int) > 2000 then
    z6D >>= fun q1 =>
    some (q1)
  else
  z5I text >>= fun q2 =>
  z8i text >>= fun q3 =>
  if q2.2.2 = q3.2.2 then
    if q2.2.1 = q3.2.1 then
      gB q2.1 q3.1 >>= fun q4 =>
      if q4 = true then
        z6D >>= fun q5 =>
        some (q5)
      else
      some (false)
    else
    some (false)
  else
  some (false)
end
end Go.Proofs.YtelddjedpmfclaaGreat.M

