import Derived.Test.YtelddjedpmfclaaTy
namespace Go.Proofs.Ytelddjedpmfclaa.M
open Go Nt
set_option linter.unusedVariables false
noncomputable section
def z0e (c : Int) (text : Str) (at_ : Int) (out : List zB) : Option (Bool) :=
  if c ≥ 48 then
    some (decide (c ≤ 57))
  else
  some (false)
def z0p (c : Int) (text : Str) (at_ : Int) (out : List zB) : Option (Bool) :=
  if c ≥ 97 then
    if c ≤ 122 then
      some (true)
    else
    if c ≥ 65 then
      if c ≤ 90 then
        some (true)
      else
      some ((c == 95))
    else
    some ((c == 95))
  else
  if c ≥ 65 then
    if c ≤ 90 then
      some (true)
    else
    some ((c == 95))
  else
  some ((c == 95))
def z0r (k n : Int) (s : Str) (from_ : Int) (text : Str) (at_ : Int) (out : List zB) : Option (Str × Int × List zB) :=
  if z2N 48 (List.length out + List.length [(zB.mk k n s from_ at_)]) then
  some (text, at_, out ++ [(zB.mk k n s from_ at_)])
  else none
def jC (yA : Int → Str → Int → Int → Int → Str → Int → (List zB) → Option (Int × Str × Int × List zB)) (from_ : Int) (s : Str) (v v29 v30 : Int) (text : Str) (at_ : Int) (out : List zB) : Option (Int × Str × Int × List zB) :=
  if v30 < v29 then
    idx s v30 >>= fun c =>
    yA from_ s (IntKind.wrap .u64 ((IntKind.wrap .u64 (v * 10)) + (IntKind.wrap .u64 (IntKind.wrap .u8 ((Int.ofNat (UInt8.toNat c)) - 48))))) v29 (IntKind.wrap .i64 (v30 + 1)) text at_ out
  else
  if v > 9223372036854775807 then
    some (5, text, at_, out)
  else
  z0r 2 (IntKind.wrap .i64 v) [] from_ text at_ out >>= fun q1 =>
  some (0, q1.1, q1.2.1, q1.2.2)
inductive z0O where
  | yA (from_ : Int) (s : Str) (v v29 v30 : Int) (text : Str) (at_ : Int) (out : List zB)
@[reducible] def z1P : z0O → Type
  | .yA _ _ _ _ _ _ _ _ => Int × Str × Int × List zB
def z0N (g : Fam z1P) : Fam z1P
  | .yA from_ s v v29 v30 text at_ out => jC (fun from_ s v v29 v30 text at_ out => g (z0O.yA from_ s v v29 v30 text at_ out)) from_ s v v29 v30 text at_ out
theorem z3C : ∀ i, Good (fun g => z0N g i)
  | .yA from_ s v v29 v30 text at_ out => by unfold z0N jC; exact (.ite (.bind (.const _) fun _ => (.call _)) (.ite (.const _) (.bind (.const _) fun _ => (.const _))))
def yA (from_ : Int) (s : Str) (v v29 v30 : Int) (text : Str) (at_ : Int) (out : List zB) : Option (Int × Str × Int × List zB) := z2Z z0N (.yA from_ s v v29 v30 text at_ out)
theorem z3w (from_ : Int) (s : Str) (v v29 v30 : Int) (text : Str) (at_ : Int) (out : List zB) : yA from_ s v v29 v30 text at_ out = jC yA from_ s v v29 v30 text at_ out := jP z3C (.yA from_ s v v29 v30 text at_ out)
def vL (zM : Int → Str → Int → (List zB) → Option (Str × Str × Int × List zB)) (from_ : Int) (text : Str) (at_ : Int) (out : List zB) : Option (Str × Str × Int × List zB) :=
  if at_ < (List.length text : Int) then
    idx text at_ >>= fun c =>
    z0e (Int.ofNat (UInt8.toNat c)) text at_ out >>= fun q1 =>
    if q1 = true then
      zM from_ text (IntKind.wrap .i64 (at_ + 1)) out
    else
    if (0 : Int) ≤ at_ then
    if Int.toNat at_ ≤ List.length text then
    if (0 : Int) ≤ from_ then
    if Int.toNat from_ ≤ Int.toNat at_ then
    some (List.drop (Int.toNat from_) (List.take (Int.toNat at_) text), text, at_, out)
    else none
    else none
    else none
    else none
  else
  if (0 : Int) ≤ at_ then
  if Int.toNat at_ ≤ List.length text then
  if (0 : Int) ≤ from_ then
  if Int.toNat from_ ≤ Int.toNat at_ then
  some (List.drop (Int.toNat from_) (List.take (Int.toNat at_) text), text, at_, out)
  else none
  else none
  else none
  else none
inductive uY where
  | zM (from_ : Int) (text : Str) (at_ : Int) (out : List zB)
@[reducible] def gX : uY → Type
  | .zM _ _ _ _ => Str × Str × Int × List zB
def uX (g : Fam gX) : Fam gX
  | .zM from_ text at_ out => vL (fun from_ text at_ out => g (uY.zM from_ text at_ out)) from_ text at_ out
theorem z0Q : ∀ i, Good (fun g => uX g i)
  | .zM from_ text at_ out => by unfold uX vL; exact (.ite (.bind (.const _) fun _ => (.bind (.const _) fun _ => (.ite (.call _) (.ite (.ite (.ite (.ite (.const _) (.const _)) (.const _)) (.const _)) (.const _))))) (.ite (.ite (.ite (.ite (.const _) (.const _)) (.const _)) (.const _)) (.const _)))
def zM (from_ : Int) (text : Str) (at_ : Int) (out : List zB) : Option (Str × Str × Int × List zB) := z2Z uX (.zM from_ text at_ out)
theorem z0J (from_ : Int) (text : Str) (at_ : Int) (out : List zB) : zM from_ text at_ out = vL zM from_ text at_ out := jP z0Q (.zM from_ text at_ out)
def gO (text : Str) (at_ : Int) (out : List zB) : Option (Str × Str × Int × List zB) :=
  zM at_ text at_ out
def z2l (text : Str) (at_ : Int) (out : List zB) : Option (Int × Str × Int × List zB) :=
  gO text at_ out >>= fun q1 =>
  if (List.length q1.1 : Int) > 19 then
    some (5, q1.2.1, q1.2.2.1, q1.2.2.2)
  else
  if (List.length q1.1 : Int) > 1 then
    idx q1.1 0 >>= fun c =>
    if Int.ofNat (UInt8.toNat c) = 48 then
      some (5, q1.2.1, q1.2.2.1, q1.2.2.2)
    else
    yA at_ q1.1 0 (List.length q1.1 : Int) 0 q1.2.1 q1.2.2.1 q1.2.2.2
  else
  yA at_ q1.1 0 (List.length q1.1 : Int) 0 q1.2.1 q1.2.2.1 q1.2.2.2
def z0I (k : Int) (text : Str) (at_ : Int) (out : List zB) : Option (Int) :=
  if (IntKind.wrap .i64 (at_ + k)) < (List.length text : Int) then
    idx text (IntKind.wrap .i64 (at_ + k)) >>= fun c =>
    some (Int.ofNat (UInt8.toNat c))
  else
  some (0)
def z5y (s : Str) : Option (Bool) :=
  if s = [114, 101, 99] then
    some (true)
  else
  if s = [99, 111, 110, 115, 116] then
    some (true)
  else
  if s = [118, 97, 114] then
    some (true)
  else
  if s = [112, 117, 98] then
    some (true)
  else
  if s = [102, 110] then
    some (true)
  else
  if s = [105, 110, 116] then
    some (true)
  else
  if s = [98, 111, 111, 108] then
    some (true)
  else
  if s = [108, 101, 116] then
    some (true)
  else
  if s = [105, 102] then
    some (true)
  else
  if s = [101, 108, 115, 101] then
    some (true)
  else
  if s = [119, 104, 105, 108, 101] then
    some (true)
  else
  if s = [102, 111, 114] then
    some (true)
  else
  if s = [116, 111] then
    some (true)
  else
  if s = [112, 114, 105, 110, 116] then
    some (true)
  else
  if s = [114, 101, 116, 117, 114, 110] then
    some (true)
  else
  if s = [100, 111] then
    some (true)
  else
  if s = [116, 114, 117, 101] then
    some (true)
  else
  if s = [102, 97, 108, 115, 101] then
    some (true)
  else
  if s = [114, 101, 97, 100] then
    some (true)
  else
  if s = [110, 101, 119] then
    some (true)
  else
  some (false)
def z1v (c : Int) (text : Str) (at_ : Int) (out : List zB) : Option (Bool) :=
  z0p c text at_ out >>= fun q1 =>
  if q1 = true then
    some (true)
  else
  z0e c text at_ out >>= fun q2 =>
  some (q2)
def vQ (zP : Int → Str → Int → (List zB) → Option (Str × Str × Int × List zB)) (from_ : Int) (text : Str) (at_ : Int) (out : List zB) : Option (Str × Str × Int × List zB) :=
  if at_ < (List.length text : Int) then
    idx text at_ >>= fun c =>
    z1v (Int.ofNat (UInt8.toNat c)) text at_ out >>= fun q1 =>
    if q1 = true then
      zP from_ text (IntKind.wrap .i64 (at_ + 1)) out
    else
    if (0 : Int) ≤ at_ then
    if Int.toNat at_ ≤ List.length text then
    if (0 : Int) ≤ from_ then
    if Int.toNat from_ ≤ Int.toNat at_ then
    some (List.drop (Int.toNat from_) (List.take (Int.toNat at_) text), text, at_, out)
    else none
    else none
    else none
    else none
  else
  if (0 : Int) ≤ at_ then
  if Int.toNat at_ ≤ List.length text then
  if (0 : Int) ≤ from_ then
  if Int.toNat from_ ≤ Int.toNat at_ then
  some (List.drop (Int.toNat from_) (List.take (Int.toNat at_) text), text, at_, out)
  else none
  else none
  else none
  else none
inductive jG where
  | zP (from_ : Int) (text : Str) (at_ : Int) (out : List zB)
@[reducible] def z0b : jG → Type
  | .zP _ _ _ _ => Str × Str × Int × List zB
def jE (g : Fam z0b) : Fam z0b
  | .zP from_ text at_ out => vQ (fun from_ text at_ out => g (jG.zP from_ text at_ out)) from_ text at_ out
theorem z0Z : ∀ i, Good (fun g => jE g i)
  | .zP from_ text at_ out => by unfold jE vQ; exact (.ite (.bind (.const _) fun _ => (.bind (.const _) fun _ => (.ite (.call _) (.ite (.ite (.ite (.ite (.const _) (.const _)) (.const _)) (.const _)) (.const _))))) (.ite (.ite (.ite (.ite (.const _) (.const _)) (.const _)) (.const _)) (.const _)))
def zP (from_ : Int) (text : Str) (at_ : Int) (out : List zB) : Option (Str × Str × Int × List zB) := z2Z jE (.zP from_ text at_ out)
theorem z0T (from_ : Int) (text : Str) (at_ : Int) (out : List zB) : zP from_ text at_ out = vQ zP from_ text at_ out := jP z0Z (.zP from_ text at_ out)
def gW (text : Str) (at_ : Int) (out : List zB) : Option (Str × Str × Int × List zB) :=
  zP at_ text at_ out
def z3x (text : Str) (at_ : Int) (out : List zB) : Option (Int × Str × Int × List zB) :=
  gW text at_ out >>= fun q1 =>
  if (List.length q1.1 : Int) > 16 then
    some (3, q1.2.1, q1.2.2.1, q1.2.2.2)
  else
  z5y q1.1 >>= fun q2 =>
  if q2 = true then
    z0r 3 0 q1.1 at_ q1.2.1 q1.2.2.1 q1.2.2.2 >>= fun q3 =>
    some (0, q3.1, q3.2.1, q3.2.2)
  else
  z0r 1 0 q1.1 at_ q1.2.1 q1.2.2.1 q1.2.2.2 >>= fun q4 =>
  some (0, q4.1, q4.2.1, q4.2.2)
def z5z (c d : Int) : Option (Int) :=
  if c = 61 then
    if d = 61 then
      some (2)
    else
    some (1)
  else
  if c = 33 then
    if d = 61 then
      some (2)
    else
    some (1)
  else
  if c = 60 then
    if d = 61 then
      some (2)
    else
    some (1)
  else
  if c = 62 then
    if d = 61 then
      some (2)
    else
    some (1)
  else
  if c = 38 then
    if d = c then
      some (2)
    else
    some (0)
  else
  if c = 124 then
    if d = c then
      some (2)
    else
    some (0)
  else
  if c = 123 then
    some (1)
  else
  if c = 125 then
    some (1)
  else
  if c = 40 then
    some (1)
  else
  if c = 41 then
    some (1)
  else
  if c = 91 then
    some (1)
  else
  if c = 93 then
    some (1)
  else
  if c = 44 then
    some (1)
  else
  if c = 59 then
    some (1)
  else
  if c = 58 then
    some (1)
  else
  if c = 46 then
    some (1)
  else
  if c = 43 then
    some (1)
  else
  if c = 45 then
    some (1)
  else
  if c = 42 then
    some (1)
  else
  if c = 47 then
    some (1)
  else
  if c = 37 then
    some (1)
  else
  if c = 64 then
    some (1)
  else
  some (0)
def z1O (text : Str) (at_ : Int) (out : List zB) : Option (Int × Str × Int × List zB) :=
  idx text at_ >>= fun c =>
  z0p (Int.ofNat (UInt8.toNat c)) text at_ out >>= fun q1 =>
  if q1 = true then
    z3x text at_ out >>= fun q2 =>
    some (q2.1, q2.2.1, q2.2.2.1, q2.2.2.2)
  else
  z0e (Int.ofNat (UInt8.toNat c)) text at_ out >>= fun q3 =>
  if q3 = true then
    z2l text at_ out >>= fun q4 =>
    some (q4.1, q4.2.1, q4.2.2.1, q4.2.2.2)
  else
  z0I 1 text at_ out >>= fun q5 =>
  z5z (Int.ofNat (UInt8.toNat c)) q5 >>= fun q6 =>
  if q6 = 0 then
    some (4, text, at_, out)
  else
  if (0 : Int) ≤ (IntKind.wrap .i64 (at_ + q6)) then
  if Int.toNat (IntKind.wrap .i64 (at_ + q6)) ≤ List.length text then
  if (0 : Int) ≤ at_ then
  if Int.toNat at_ ≤ Int.toNat (IntKind.wrap .i64 (at_ + q6)) then
  z0r 4 0 (List.drop (Int.toNat at_) (List.take (Int.toNat (IntKind.wrap .i64 (at_ + q6))) text)) at_ text (IntKind.wrap .i64 (at_ + q6)) out >>= fun q7 =>
  some (0, q7.1, q7.2.1, q7.2.2)
  else none
  else none
  else none
  else none
def z1u (c : Int) (text : Str) (at_ : Int) (out : List zB) : Option (Bool) :=
  some (!(c == 10))
def vP (zO : Int → Str → Int → (List zB) → Option (Str × Str × Int × List zB)) (from_ : Int) (text : Str) (at_ : Int) (out : List zB) : Option (Str × Str × Int × List zB) :=
  if at_ < (List.length text : Int) then
    idx text at_ >>= fun c =>
    z1u (Int.ofNat (UInt8.toNat c)) text at_ out >>= fun q1 =>
    if q1 = true then
      zO from_ text (IntKind.wrap .i64 (at_ + 1)) out
    else
    if (0 : Int) ≤ at_ then
    if Int.toNat at_ ≤ List.length text then
    if (0 : Int) ≤ from_ then
    if Int.toNat from_ ≤ Int.toNat at_ then
    some (List.drop (Int.toNat from_) (List.take (Int.toNat at_) text), text, at_, out)
    else none
    else none
    else none
    else none
  else
  if (0 : Int) ≤ at_ then
  if Int.toNat at_ ≤ List.length text then
  if (0 : Int) ≤ from_ then
  if Int.toNat from_ ≤ Int.toNat at_ then
  some (List.drop (Int.toNat from_) (List.take (Int.toNat at_) text), text, at_, out)
  else none
  else none
  else none
  else none
inductive jF where
  | zO (from_ : Int) (text : Str) (at_ : Int) (out : List zB)
@[reducible] def z0a : jF → Type
  | .zO _ _ _ _ => Str × Str × Int × List zB
def jD (g : Fam z0a) : Fam z0a
  | .zO from_ text at_ out => vP (fun from_ text at_ out => g (jF.zO from_ text at_ out)) from_ text at_ out
theorem z0Y : ∀ i, Good (fun g => jD g i)
  | .zO from_ text at_ out => by unfold jD vP; exact (.ite (.bind (.const _) fun _ => (.bind (.const _) fun _ => (.ite (.call _) (.ite (.ite (.ite (.ite (.const _) (.const _)) (.const _)) (.const _)) (.const _))))) (.ite (.ite (.ite (.ite (.const _) (.const _)) (.const _)) (.const _)) (.const _)))
def zO (from_ : Int) (text : Str) (at_ : Int) (out : List zB) : Option (Str × Str × Int × List zB) := z2Z jD (.zO from_ text at_ out)
theorem z0S (from_ : Int) (text : Str) (at_ : Int) (out : List zB) : zO from_ text at_ out = vP zO from_ text at_ out := jP z0Y (.zO from_ text at_ out)
def gV (text : Str) (at_ : Int) (out : List zB) : Option (Str × Str × Int × List zB) :=
  zO at_ text at_ out
def gE (yC : Str → Int → (List zB) → Option (Str × Int × List zB)) (text : Str) (at_ : Int) (out : List zB) : Option (Str × Int × List zB) :=
  if at_ < (List.length text : Int) then
    idx text at_ >>= fun c =>
    if Int.ofNat (UInt8.toNat c) = 32 then
      yC text (IntKind.wrap .i64 (at_ + 1)) out
    else
    if Int.ofNat (UInt8.toNat c) = 9 then
      yC text (IntKind.wrap .i64 (at_ + 1)) out
    else
    if Int.ofNat (UInt8.toNat c) = 10 then
      yC text (IntKind.wrap .i64 (at_ + 1)) out
    else
    if Int.ofNat (UInt8.toNat c) = 13 then
      yC text (IntKind.wrap .i64 (at_ + 1)) out
    else
    if Int.ofNat (UInt8.toNat c) = 47 then
      z0I 1 text at_ out >>= fun q1 =>
      if q1 = 47 then
        gV text at_ out >>= fun q2 =>
        yC q2.2.1 q2.2.2.1 q2.2.2.2
      else
      some (text, at_, out)
    else
    some (text, at_, out)
  else
  some (text, at_, out)
inductive z1q where
  | yC (text : Str) (at_ : Int) (out : List zB)
@[reducible] def z2t : z1q → Type
  | .yC _ _ _ => Str × Int × List zB
def z1o (g : Fam z2t) : Fam z2t
  | .yC text at_ out => gE (fun text at_ out => g (z1q.yC text at_ out)) text at_ out
theorem z4k : ∀ i, Good (fun g => z1o g i)
  | .yC text at_ out => by unfold z1o gE; exact (.ite (.bind (.const _) fun _ => (.ite (.call _) (.ite (.call _) (.ite (.call _) (.ite (.call _) (.ite (.bind (.const _) fun _ => (.ite (.bind (.const _) fun _ => (.call _)) (.const _))) (.const _))))))) (.const _))
def yC (text : Str) (at_ : Int) (out : List zB) : Option (Str × Int × List zB) := z2Z z1o (.yC text at_ out)
theorem z4a (text : Str) (at_ : Int) (out : List zB) : yC text at_ out = gE yC text at_ out := jP z4k (.yC text at_ out)
def z1w (text : Str) (at_ : Int) (out : List zB) : Option (Str × Int × List zB) :=
  yC text at_ out
def z1t (wG : Str → Str → Int → (List zB) → Option (List zB × Int × Int)) (text text1 : Str) (at_ : Int) (out : List zB) : Option (List zB × Int × Int) :=
  if at_ < (List.length text : Int) then
    z1O text1 at_ out >>= fun q1 =>
    if q1.1 = 0 then
      z1w q1.2.1 q1.2.2.1 q1.2.2.2 >>= fun q2 =>
      wG text q2.1 q2.2.1 q2.2.2
    else
    some (([] : List zB), at_, q1.1)
  else
  z0r 5 0 [] at_ text1 at_ out >>= fun q3 =>
  some (q3.2.2, 0, 0)
inductive z3e where
  | wG (text text1 : Str) (at_ : Int) (out : List zB)
@[reducible] def z4x : z3e → Type
  | .wG _ _ _ _ => List zB × Int × Int
def z3a (g : Fam z4x) : Fam z4x
  | .wG text text1 at_ out => z1t (fun text text1 at_ out => g (z3e.wG text text1 at_ out)) text text1 at_ out
theorem z6i : ∀ i, Good (fun g => z3a g i)
  | .wG text text1 at_ out => by unfold z3a z1t; exact (.ite (.bind (.const _) fun _ => (.ite (.bind (.const _) fun _ => (.call _)) (.const _))) (.bind (.const _) fun _ => (.const _)))
def wG (text text1 : Str) (at_ : Int) (out : List zB) : Option (List zB × Int × Int) := z2Z z3a (.wG text text1 at_ out)
theorem y1g (text text1 : Str) (at_ : Int) (out : List zB) : wG text text1 at_ out = z1t wG text text1 at_ out := jP z6i (.wG text text1 at_ out)
def z5x (text : Str) : Option (List zB × Int × Int) :=
  if (List.length text : Int) > 8192 then
    some (([] : List zB), 0, 3)
  else
  z1w text 0 [] >>= fun q1 =>
  wG text q1.1 q1.2.1 q1.2.2
def z2B (path : List Int) (v : zD) (size depth : Int) : Option (Int × Int) :=
  some (IntKind.wrap .i64 (size + 1), max depth (IntKind.wrap .i64 ((List.length path : Int) + 1)))
def jU (zN : (List Int) → (List zD) → Int → Int → Int → Int → Option (Int × Int)) (t : zD) (path : List Int) (size depth : Int) : Option (Int × Int) :=
  z2B path t size depth >>= fun q1 =>
  zN path t.L (List.length t.L : Int) 0 q1.1 q1.2
def wI (zX : zD → (List Int) → Int → Int → Option (Int × Int)) (zN : (List Int) → (List zD) → Int → Int → Int → Int → Option (Int × Int)) (path : List Int) (v13 : List zD) (v14 v15 size depth : Int) : Option (Int × Int) :=
  if v15 < v14 then
    idx v13 v15 >>= fun x =>
    if (0 : Int) ≤ (List.length path : Int) then
    if Int.toNat (List.length path : Int) ≤ List.length path then
    if (0 : Int) ≤ (List.length path : Int) then
    if Int.toNat (List.length path : Int) = Int.toNat (List.length path : Int) then
    if 0 ≤ Int.toNat (List.length path : Int) then
    if z2N 8 (List.length (List.drop 0 (List.take (Int.toNat (List.length path : Int)) path)) + List.length [v15]) then
    zX x ((List.drop 0 (List.take (Int.toNat (List.length path : Int)) path)) ++ [v15]) size depth >>= fun q1 =>
    zN path v13 v14 (IntKind.wrap .i64 (v15 + 1)) q1.1 q1.2
    else none
    else none
    else none
    else none
    else none
    else none
  else
  some (size, depth)
inductive uQ where
  | zX (t : zD) (path : List Int) (size depth : Int)
  | zN (path : List Int) (v13 : List zD) (v14 v15 size depth : Int)
@[reducible] def z1X : uQ → Type
  | .zX _ _ _ _ => Int × Int
  | .zN _ _ _ _ _ _ => Int × Int
def gU (g : Fam z1X) : Fam z1X
  | .zX t path size depth => jU (fun path v13 v14 v15 size depth => g (uQ.zN path v13 v14 v15 size depth)) t path size depth
  | .zN path v13 v14 v15 size depth => wI (fun t path size depth => g (uQ.zX t path size depth)) (fun path v13 v14 v15 size depth => g (uQ.zN path v13 v14 v15 size depth)) path v13 v14 v15 size depth
theorem z1W : ∀ i, Good (fun g => gU g i)
  | .zX t path size depth => by unfold gU jU; exact (.bind (.const _) fun _ => (.call _))
  | .zN path v13 v14 v15 size depth => by unfold gU wI; exact (.ite (.bind (.const _) fun _ => (.ite (.ite (.ite (.ite (.ite (.ite (.bind (.call _) fun _ => (.call _)) (.const _)) (.const _)) (.const _)) (.const _)) (.const _)) (.const _))) (.const _))
def zX (t : zD) (path : List Int) (size depth : Int) : Option (Int × Int) := z2Z gU (.zX t path size depth)
def zN (path : List Int) (v13 : List zD) (v14 v15 size depth : Int) : Option (Int × Int) := z2Z gU (.zN path v13 v14 v15 size depth)
theorem z0k (t : zD) (path : List Int) (size depth : Int) : zX t path size depth = jU zN t path size depth := jP z1W (.zX t path size depth)
theorem vY (path : List Int) (v13 : List zD) (v14 v15 size depth : Int) : zN path v13 v14 v15 size depth = wI zX zN path v13 v14 v15 size depth := jP z1W (.zN path v13 v14 v15 size depth)
def z2U (t : zD) : Option (Int) :=
  zX t [] 0 0 >>= fun q1 =>
  some (q1.2)
def z3t (t : zB) : Option (Int × Int) :=
  if t.K = 4 then
    if t.S = [124, 124] then
      some (1, 1)
    else
    if t.S = [38, 38] then
      some (2, 2)
    else
    if t.S = [61, 61] then
      some (3, 3)
    else
    if t.S = [33, 61] then
      some (4, 3)
    else
    if t.S = [60] then
      some (5, 3)
    else
    if t.S = [60, 61] then
      some (6, 3)
    else
    if t.S = [62] then
      some (7, 3)
    else
    if t.S = [62, 61] then
      some (8, 3)
    else
    if t.S = [43] then
      some (9, 4)
    else
    if t.S = [45] then
      some (10, 4)
    else
    if t.S = [42] then
      some (11, 5)
    else
    if t.S = [47] then
      some (12, 5)
    else
    if t.S = [37] then
      some (13, 5)
    else
    some (0, 0)
  else
  some (0, 0)
def yD (t : zD) (from_ : Int) (t1 : List zB) (at_ e : Int) : Option (zD) :=
  if e = 0 then
    idx t1 from_ >>= fun x =>
    idx t1 (IntKind.wrap .i64 (at_ - 1)) >>= fun x1 =>
    some ({ t with From := x.From, To := x1.To })
  else
  some (t)
def uV (t : List zB) (at_ e : Int) : Option (zB) :=
  if at_ < (List.length t : Int) then
    idx t at_ >>= fun x =>
    some (x)
  else
  some ((zB.mk 5 0 [] 0 0))
def wM (s : Str) (t : List zB) (at_ e : Int) : Option (Bool) :=
  uV t at_ e >>= fun q1 =>
  if q1.K = 4 then
    some ((q1.S == s))
  else
  some (false)
def wL (t : List zB) (at_ e : Int) : Option (List zB × Int × Int) :=
  if e = 0 then
    some (t, at_, 6)
  else
  some (t, at_, e)
def vI (s : Str) (t : List zB) (at_ e : Int) : Option (List zB × Int × Int) :=
  if e = 0 then
    wM s t at_ e >>= fun q1 =>
    if q1 = true then
      some (t, IntKind.wrap .i64 (at_ + 1), e)
    else
    wL t at_ e >>= fun q2 =>
    some (q2.1, q2.2.1, q2.2.2)
  else
  some (t, at_, e)
def gM (t : List zB) (at_ e : Int) : Option (Str × List zB × Int × Int) :=
  if e = 0 then
    uV t at_ e >>= fun q1 =>
    if q1.K = 1 then
      some (q1.S, t, IntKind.wrap .i64 (at_ + 1), e)
    else
    wL t at_ e >>= fun q2 =>
    some ([], q2.1, q2.2.1, q2.2.2)
  else
  some ([], t, at_, e)
def z0A (zV : Int → (List zB) → Int → Int → Option (zD × List zB × Int × Int)) (t : List zB) (at_ e : Int) : Option (zD × List zB × Int × Int) :=
  zV 1 t at_ e >>= fun q1 =>
  some (q1.1, q1.2.1, q1.2.2.1, q1.2.2.2)
def jO (zR : Int → Int → Int → zD → zD → (List zB) → Int → Int → Option (zD × List zB × Int × Int)) (yM : (List zB) → Int → Int → Option (zD × List zB × Int × Int)) (least : Int) (t : List zB) (at_ e : Int) : Option (zD × List zB × Int × Int) :=
  yM t at_ e >>= fun q1 =>
  zR least at_ 6 (zD.mk 0 0 [] [] 0 0) q1.1 q1.2.1 q1.2.2.1 q1.2.2.2
def wK (zV : Int → (List zB) → Int → Int → Option (zD × List zB × Int × Int)) (zR : Int → Int → Int → zD → zD → (List zB) → Int → Int → Option (zD × List zB × Int × Int)) (least from_ most : Int) (o4 left : zD) (t : List zB) (at_ e : Int) : Option (zD × List zB × Int × Int) :=
  if e = 0 then
    uV t at_ e >>= fun q1 =>
    z3t q1 >>= fun q2 =>
    if q2.2 < least then
      some (left, t, at_, e)
    else
    if q2.2 = 0 then
      some (left, t, at_, e)
    else
    if q2.2 > most then
      some (left, t, at_, e)
    else
    zV (IntKind.wrap .i64 (q2.2 + 1)) t (IntKind.wrap .i64 (at_ + 1)) e >>= fun q3 =>
    yD (zD.mk 10 q2.1 [] [left, q3.1] 0 0) from_ q3.2.1 q3.2.2.1 q3.2.2.2 >>= fun q4 =>
    if q2.2 = 3 then
      zR least from_ 2 o4 q4 q3.2.1 q3.2.2.1 q3.2.2.2
    else
    zR least from_ q2.2 o4 q4 q3.2.1 q3.2.2.1 q3.2.2.2
  else
  some (left, t, at_, e)
def gN (yM : (List zB) → Int → Int → Option (zD × List zB × Int × Int)) (yW : (List zB) → Int → Int → Option (zD × List zB × Int × Int)) (t : List zB) (at_ e : Int) : Option (zD × List zB × Int × Int) :=
  if e = 0 then
    wM [45] t at_ e >>= fun q1 =>
    if q1 = true then
      if (1 : Int) = 0 then
        yW t at_ e >>= fun q2 =>
        some (q2.1, q2.2.1, q2.2.2.1, q2.2.2.2)
      else
      yM t (IntKind.wrap .i64 (at_ + 1)) e >>= fun q3 =>
      yD (zD.mk 11 1 [] [q3.1] 0 0) at_ q3.2.1 q3.2.2.1 q3.2.2.2 >>= fun q4 =>
      some (q4, q3.2.1, q3.2.2.1, q3.2.2.2)
    else
    wM [33] t at_ e >>= fun q5 =>
    if q5 = true then
      if (2 : Int) = 0 then
        yW t at_ e >>= fun q6 =>
        some (q6.1, q6.2.1, q6.2.2.1, q6.2.2.2)
      else
      yM t (IntKind.wrap .i64 (at_ + 1)) e >>= fun q7 =>
      yD (zD.mk 11 2 [] [q7.1] 0 0) at_ q7.2.1 q7.2.2.1 q7.2.2.2 >>= fun q8 =>
      some (q8, q7.2.1, q7.2.2.1, q7.2.2.2)
    else
    if (0 : Int) = 0 then
      yW t at_ e >>= fun q9 =>
      some (q9.1, q9.2.1, q9.2.2.1, q9.2.2.2)
    else
    yM t (IntKind.wrap .i64 (at_ + 1)) e >>= fun q10 =>
    yD (zD.mk 11 0 [] [q10.1] 0 0) at_ q10.2.1 q10.2.2.1 q10.2.2.2 >>= fun q11 =>
    some (q11, q10.2.1, q10.2.2.1, q10.2.2.2)
  else
  some ((zD.mk 0 0 [] [] 0 0), t, at_, e)
def z0d (zW : Int → zD → zD → (List zB) → Int → Int → Option (zD × List zB × Int × Int)) (zY : (List zB) → Int → Int → Option (zD × List zB × Int × Int)) (t : List zB) (at_ e : Int) : Option (zD × List zB × Int × Int) :=
  zY t at_ e >>= fun q1 =>
  zW at_ (zD.mk 0 0 [] [] 0 0) q1.1 q1.2.1 q1.2.2.1 q1.2.2.2
def vR (zJ : (List zB) → Int → Int → Option (zD × List zB × Int × Int)) (zW : Int → zD → zD → (List zB) → Int → Int → Option (zD × List zB × Int × Int)) (from_ : Int) (o2 x : zD) (t : List zB) (at_ e : Int) : Option (zD × List zB × Int × Int) :=
  if e = 0 then
    wM [91] t at_ e >>= fun q1 =>
    if q1 = true then
      zJ t (IntKind.wrap .i64 (at_ + 1)) e >>= fun q2 =>
      vI [93] q2.2.1 q2.2.2.1 q2.2.2.2 >>= fun q3 =>
      yD (zD.mk 12 0 [] [x, q2.1] 0 0) from_ q3.1 q3.2.1 q3.2.2 >>= fun q4 =>
      zW from_ o2 q4 q3.1 q3.2.1 q3.2.2
    else
    wM [46] t at_ e >>= fun q5 =>
    if q5 = true then
      gM t (IntKind.wrap .i64 (at_ + 1)) e >>= fun q6 =>
      yD (zD.mk 13 0 q6.1 [x] 0 0) from_ q6.2.1 q6.2.2.1 q6.2.2.2 >>= fun q7 =>
      zW from_ o2 q7 q6.2.1 q6.2.2.1 q6.2.2.2
    else
    some (x, t, at_, e)
  else
  some (x, t, at_, e)
def uL (zT : Bool → (List zB) → Int → Int → Option (List zD × List zB × Int × Int)) (vN : Str → Int → (List zB) → Int → Int → Option (zD × List zB × Int × Int)) (vA : Str → Int → (List zB) → Int → Int → Option (zD × List zB × Int × Int)) (t : List zB) (at_ e : Int) : Option (zD × List zB × Int × Int) :=
  if e = 0 then
    uV t at_ e >>= fun q1 =>
    if q1.K = 2 then
      yD (zD.mk 5 q1.N [] [] 0 0) at_ t (IntKind.wrap .i64 (at_ + 1)) e >>= fun q2 =>
      some (q2, t, IntKind.wrap .i64 (at_ + 1), e)
    else
    if q1.K = 1 then
      wM [40] t (IntKind.wrap .i64 (at_ + 1)) e >>= fun q3 =>
      if q3 = true then
        zT true t (IntKind.wrap .i64 (at_ + 1)) e >>= fun q4 =>
        yD (zD.mk 16 0 q1.S q4.1 0 0) at_ q4.2.1 q4.2.2.1 q4.2.2.2 >>= fun q5 =>
        some (q5, q4.2.1, q4.2.2.1, q4.2.2.2)
      else
      yD (zD.mk 19 0 q1.S [] 0 0) at_ t (IntKind.wrap .i64 (at_ + 1)) e >>= fun q6 =>
      some (q6, t, IntKind.wrap .i64 (at_ + 1), e)
    else
    if q1.K = 3 then
      vN q1.S at_ t at_ e >>= fun q7 =>
      some (q7.1, q7.2.1, q7.2.2.1, q7.2.2.2)
    else
    if q1.K = 4 then
      vA q1.S at_ t at_ e >>= fun q8 =>
      some (q8.1, q8.2.1, q8.2.2.1, q8.2.2.2)
    else
    wL t at_ e >>= fun q9 =>
    some ((zD.mk 0 0 [] [] 0 0), q9.1, q9.2.1, q9.2.2)
  else
  some ((zD.mk 0 0 [] [] 0 0), t, at_, e)
def jK (zL : (List zB) → Int → Int → Option (List zD × List zB × Int × Int)) (few : Bool) (t : List zB) (at_ e : Int) : Option (List zD × List zB × Int × Int) :=
  vI [40] t at_ e >>= fun q1 =>
  if q1.2.2 = 0 then
    if few = true then
      wM [41] q1.1 q1.2.1 q1.2.2 >>= fun q2 =>
      if q2 = true then
        some (([] : List zD), q1.1, IntKind.wrap .i64 (q1.2.1 + 1), q1.2.2)
      else
      zL q1.1 q1.2.1 q1.2.2 >>= fun q3 =>
      vI [41] q3.2.1 q3.2.2.1 q3.2.2.2 >>= fun q4 =>
      some (q3.1, q4.1, q4.2.1, q4.2.2)
    else
    zL q1.1 q1.2.1 q1.2.2 >>= fun q5 =>
    vI [41] q5.2.1 q5.2.2.1 q5.2.2.2 >>= fun q6 =>
    some (q5.1, q6.1, q6.2.1, q6.2.2)
  else
  zL q1.1 q1.2.1 q1.2.2 >>= fun q7 =>
  vI [41] q7.2.1 q7.2.2.1 q7.2.2.2 >>= fun q8 =>
  some (q7.1, q8.1, q8.2.1, q8.2.2)
def wY (zT : Bool → (List zB) → Int → Int → Option (List zD × List zB × Int × Int)) (s : Str) (from_ : Int) (t : List zB) (at_ e : Int) : Option (zD × List zB × Int × Int) :=
  if s = [116, 114, 117, 101] then
    yD (zD.mk 6 1 [] [] 0 0) from_ t (IntKind.wrap .i64 (at_ + 1)) e >>= fun q1 =>
    some (q1, t, IntKind.wrap .i64 (at_ + 1), e)
  else
  if s = [102, 97, 108, 115, 101] then
    yD (zD.mk 6 0 [] [] 0 0) from_ t (IntKind.wrap .i64 (at_ + 1)) e >>= fun q2 =>
    some (q2, t, IntKind.wrap .i64 (at_ + 1), e)
  else
  if s = [114, 101, 97, 100] then
    yD (zD.mk 18 0 [] [] 0 0) from_ t (IntKind.wrap .i64 (at_ + 1)) e >>= fun q3 =>
    some (q3, t, IntKind.wrap .i64 (at_ + 1), e)
  else
  if s = [110, 101, 119] then
    gM t (IntKind.wrap .i64 (at_ + 1)) e >>= fun q4 =>
    zT false q4.2.1 q4.2.2.1 q4.2.2.2 >>= fun q5 =>
    yD (zD.mk 15 0 q4.1 q5.1 0 0) from_ q5.2.1 q5.2.2.1 q5.2.2.2 >>= fun q6 =>
    some (q6, q5.2.1, q5.2.2.1, q5.2.2.2)
  else
  wL t (IntKind.wrap .i64 ((IntKind.wrap .i64 (at_ + 1)) - 1)) e >>= fun q7 =>
  some ((zD.mk 0 0 [] [] 0 0), q7.1, q7.2.1, q7.2.2)
def vG (zJ : (List zB) → Int → Int → Option (zD × List zB × Int × Int)) (zT : Bool → (List zB) → Int → Int → Option (List zD × List zB × Int × Int)) (zL : (List zB) → Int → Int → Option (List zD × List zB × Int × Int)) (s : Str) (from_ : Int) (t : List zB) (at_ e : Int) : Option (zD × List zB × Int × Int) :=
  if s = [40] then
    zJ t (IntKind.wrap .i64 (at_ + 1)) e >>= fun q1 =>
    vI [41] q1.2.1 q1.2.2.1 q1.2.2.2 >>= fun q2 =>
    some (q1.1, q2.1, q2.2.1, q2.2.2)
  else
  if s = [91] then
    zL t (IntKind.wrap .i64 (at_ + 1)) e >>= fun q3 =>
    vI [93] q3.2.1 q3.2.2.1 q3.2.2.2 >>= fun q4 =>
    yD (zD.mk 14 0 [] q3.1 0 0) from_ q4.1 q4.2.1 q4.2.2 >>= fun q5 =>
    some (q5, q4.1, q4.2.1, q4.2.2)
  else
  if s = [64] then
    gM t (IntKind.wrap .i64 (at_ + 1)) e >>= fun q6 =>
    zT true q6.2.1 q6.2.2.1 q6.2.2.2 >>= fun q7 =>
    yD (zD.mk 17 0 q6.1 q7.1 0 0) from_ q7.2.1 q7.2.2.1 q7.2.2.2 >>= fun q8 =>
    some (q8, q7.2.1, q7.2.2.1, q7.2.2.2)
  else
  wL t (IntKind.wrap .i64 ((IntKind.wrap .i64 (at_ + 1)) - 1)) e >>= fun q9 =>
  some ((zD.mk 0 0 [] [] 0 0), q9.1, q9.2.1, q9.2.2)
def wU (zJ : (List zB) → Int → Int → Option (zD × List zB × Int × Int)) (zH : (List zD) → (List zB) → Int → Int → Option (List zD × List zB × Int × Int)) (t : List zB) (at_ e : Int) : Option (List zD × List zB × Int × Int) :=
  zJ t at_ e >>= fun q1 =>
  zH [q1.1] q1.2.1 q1.2.2.1 q1.2.2.2
def vH (zJ : (List zB) → Int → Int → Option (zD × List zB × Int × Int)) (zH : (List zD) → (List zB) → Int → Int → Option (List zD × List zB × Int × Int)) (out : List zD) (t : List zB) (at_ e : Int) : Option (List zD × List zB × Int × Int) :=
  if e = 0 then
    wM [44] t at_ e >>= fun q1 =>
    if q1 = true then
      zJ t (IntKind.wrap .i64 (at_ + 1)) e >>= fun q2 =>
      if z2N 72 (List.length out + List.length [q2.1]) then
      zH (out ++ [q2.1]) q2.2.1 q2.2.2.1 q2.2.2.2
      else none
    else
    some (out, t, at_, e)
  else
  some (out, t, at_, e)
inductive zK where
  | zJ (t : List zB) (at_ e : Int)
  | zV (least : Int) (t : List zB) (at_ e : Int)
  | zR (least from_ most : Int) (o4 left : zD) (t : List zB) (at_ e : Int)
  | yM (t : List zB) (at_ e : Int)
  | yW (t : List zB) (at_ e : Int)
  | zW (from_ : Int) (o2 x : zD) (t : List zB) (at_ e : Int)
  | zY (t : List zB) (at_ e : Int)
  | zT (few : Bool) (t : List zB) (at_ e : Int)
  | vN (s : Str) (from_ : Int) (t : List zB) (at_ e : Int)
  | vA (s : Str) (from_ : Int) (t : List zB) (at_ e : Int)
  | zL (t : List zB) (at_ e : Int)
  | zH (out : List zD) (t : List zB) (at_ e : Int)
@[reducible] def z3h : zK → Type
  | .zJ _ _ _ => zD × List zB × Int × Int
  | .zV _ _ _ _ => zD × List zB × Int × Int
  | .zR _ _ _ _ _ _ _ _ => zD × List zB × Int × Int
  | .yM _ _ _ => zD × List zB × Int × Int
  | .yW _ _ _ => zD × List zB × Int × Int
  | .zW _ _ _ _ _ _ => zD × List zB × Int × Int
  | .zY _ _ _ => zD × List zB × Int × Int
  | .zT _ _ _ _ => List zD × List zB × Int × Int
  | .vN _ _ _ _ _ => zD × List zB × Int × Int
  | .vA _ _ _ _ _ => zD × List zB × Int × Int
  | .zL _ _ _ => List zD × List zB × Int × Int
  | .zH _ _ _ _ => List zD × List zB × Int × Int
def yB (g : Fam z3h) : Fam z3h
  | .zJ t at_ e => z0A (fun least t at_ e => g (zK.zV least t at_ e)) t at_ e
  | .zV least t at_ e => jO (fun least from_ most o4 left t at_ e => g (zK.zR least from_ most o4 left t at_ e)) (fun t at_ e => g (zK.yM t at_ e)) least t at_ e
  | .zR least from_ most o4 left t at_ e => wK (fun least t at_ e => g (zK.zV least t at_ e)) (fun least from_ most o4 left t at_ e => g (zK.zR least from_ most o4 left t at_ e)) least from_ most o4 left t at_ e
  | .yM t at_ e => gN (fun t at_ e => g (zK.yM t at_ e)) (fun t at_ e => g (zK.yW t at_ e)) t at_ e
  | .yW t at_ e => z0d (fun from_ o2 x t at_ e => g (zK.zW from_ o2 x t at_ e)) (fun t at_ e => g (zK.zY t at_ e)) t at_ e
  | .zW from_ o2 x t at_ e => vR (fun t at_ e => g (zK.zJ t at_ e)) (fun from_ o2 x t at_ e => g (zK.zW from_ o2 x t at_ e)) from_ o2 x t at_ e
  | .zY t at_ e => uL (fun few t at_ e => g (zK.zT few t at_ e)) (fun s from_ t at_ e => g (zK.vN s from_ t at_ e)) (fun s from_ t at_ e => g (zK.vA s from_ t at_ e)) t at_ e
  | .zT few t at_ e => jK (fun t at_ e => g (zK.zL t at_ e)) few t at_ e
  | .vN s from_ t at_ e => wY (fun few t at_ e => g (zK.zT few t at_ e)) s from_ t at_ e
  | .vA s from_ t at_ e => vG (fun t at_ e => g (zK.zJ t at_ e)) (fun few t at_ e => g (zK.zT few t at_ e)) (fun t at_ e => g (zK.zL t at_ e)) s from_ t at_ e
  | .zL t at_ e => wU (fun t at_ e => g (zK.zJ t at_ e)) (fun out t at_ e => g (zK.zH out t at_ e)) t at_ e
  | .zH out t at_ e => vH (fun t at_ e => g (zK.zJ t at_ e)) (fun out t at_ e => g (zK.zH out t at_ e)) out t at_ e
theorem wE : ∀ i, Good (fun g => yB g i)
  | .zJ t at_ e => by unfold yB z0A; exact (.bind (.call _) fun _ => (.const _))
  | .zV least t at_ e => by unfold yB jO; exact (.bind (.call _) fun _ => (.call _))
  | .zR least from_ most o4 left t at_ e => by unfold yB wK; exact (.ite (.bind (.const _) fun _ => (.bind (.const _) fun _ => (.ite (.const _) (.ite (.const _) (.ite (.const _) (.bind (.call _) fun _ => (.bind (.const _) fun _ => (.ite (.call _) (.call _))))))))) (.const _))
  | .yM t at_ e => by unfold yB gN; exact (.ite (.bind (.const _) fun _ => (.ite (.ite (.bind (.call _) fun _ => (.const _)) (.bind (.call _) fun _ => (.bind (.const _) fun _ => (.const _)))) (.bind (.const _) fun _ => (.ite (.ite (.bind (.call _) fun _ => (.const _)) (.bind (.call _) fun _ => (.bind (.const _) fun _ => (.const _)))) (.ite (.bind (.call _) fun _ => (.const _)) (.bind (.call _) fun _ => (.bind (.const _) fun _ => (.const _)))))))) (.const _))
  | .yW t at_ e => by unfold yB z0d; exact (.bind (.call _) fun _ => (.call _))
  | .zW from_ o2 x t at_ e => by unfold yB vR; exact (.ite (.bind (.const _) fun _ => (.ite (.bind (.call _) fun _ => (.bind (.const _) fun _ => (.bind (.const _) fun _ => (.call _)))) (.bind (.const _) fun _ => (.ite (.bind (.const _) fun _ => (.bind (.const _) fun _ => (.call _))) (.const _))))) (.const _))
  | .zY t at_ e => by unfold yB uL; exact (.ite (.bind (.const _) fun _ => (.ite (.bind (.const _) fun _ => (.const _)) (.ite (.bind (.const _) fun _ => (.ite (.bind (.call _) fun _ => (.bind (.const _) fun _ => (.const _))) (.bind (.const _) fun _ => (.const _)))) (.ite (.bind (.call _) fun _ => (.const _)) (.ite (.bind (.call _) fun _ => (.const _)) (.bind (.const _) fun _ => (.const _))))))) (.const _))
  | .zT few t at_ e => by unfold yB jK; exact (.bind (.const _) fun _ => (.ite (.ite (.bind (.const _) fun _ => (.ite (.const _) (.bind (.call _) fun _ => (.bind (.const _) fun _ => (.const _))))) (.bind (.call _) fun _ => (.bind (.const _) fun _ => (.const _)))) (.bind (.call _) fun _ => (.bind (.const _) fun _ => (.const _)))))
  | .vN s from_ t at_ e => by unfold yB wY; exact (.ite (.bind (.const _) fun _ => (.const _)) (.ite (.bind (.const _) fun _ => (.const _)) (.ite (.bind (.const _) fun _ => (.const _)) (.ite (.bind (.const _) fun _ => (.bind (.call _) fun _ => (.bind (.const _) fun _ => (.const _)))) (.bind (.const _) fun _ => (.const _))))))
  | .vA s from_ t at_ e => by unfold yB vG; exact (.ite (.bind (.call _) fun _ => (.bind (.const _) fun _ => (.const _))) (.ite (.bind (.call _) fun _ => (.bind (.const _) fun _ => (.bind (.const _) fun _ => (.const _)))) (.ite (.bind (.const _) fun _ => (.bind (.call _) fun _ => (.bind (.const _) fun _ => (.const _)))) (.bind (.const _) fun _ => (.const _)))))
  | .zL t at_ e => by unfold yB wU; exact (.bind (.call _) fun _ => (.call _))
  | .zH out t at_ e => by unfold yB vH; exact (.ite (.bind (.const _) fun _ => (.ite (.bind (.call _) fun _ => (.ite (.call _) (.const _))) (.const _))) (.const _))
def zJ (t : List zB) (at_ e : Int) : Option (zD × List zB × Int × Int) := z2Z yB (.zJ t at_ e)
def zV (least : Int) (t : List zB) (at_ e : Int) : Option (zD × List zB × Int × Int) := z2Z yB (.zV least t at_ e)
def zR (least from_ most : Int) (o4 left : zD) (t : List zB) (at_ e : Int) : Option (zD × List zB × Int × Int) := z2Z yB (.zR least from_ most o4 left t at_ e)
def yM (t : List zB) (at_ e : Int) : Option (zD × List zB × Int × Int) := z2Z yB (.yM t at_ e)
def yW (t : List zB) (at_ e : Int) : Option (zD × List zB × Int × Int) := z2Z yB (.yW t at_ e)
def zW (from_ : Int) (o2 x : zD) (t : List zB) (at_ e : Int) : Option (zD × List zB × Int × Int) := z2Z yB (.zW from_ o2 x t at_ e)
def zY (t : List zB) (at_ e : Int) : Option (zD × List zB × Int × Int) := z2Z yB (.zY t at_ e)
def zT (few : Bool) (t : List zB) (at_ e : Int) : Option (List zD × List zB × Int × Int) := z2Z yB (.zT few t at_ e)
def vN (s : Str) (from_ : Int) (t : List zB) (at_ e : Int) : Option (zD × List zB × Int × Int) := z2Z yB (.vN s from_ t at_ e)
def vA (s : Str) (from_ : Int) (t : List zB) (at_ e : Int) : Option (zD × List zB × Int × Int) := z2Z yB (.vA s from_ t at_ e)
def zL (t : List zB) (at_ e : Int) : Option (List zD × List zB × Int × Int) := z2Z yB (.zL t at_ e)
def zH (out : List zD) (t : List zB) (at_ e : Int) : Option (List zD × List zB × Int × Int) := z2Z yB (.zH out t at_ e)
theorem z4E (t : List zB) (at_ e : Int) : zJ t at_ e = z0A zV t at_ e := jP wE (.zJ t at_ e)
theorem z2w (least : Int) (t : List zB) (at_ e : Int) : zV least t at_ e = jO zR yM least t at_ e := jP wE (.zV least t at_ e)
theorem jZ (least from_ most : Int) (o4 left : zD) (t : List zB) (at_ e : Int) : zR least from_ most o4 left t at_ e = wK zV zR least from_ most o4 left t at_ e := jP wE (.zR least from_ most o4 left t at_ e)
theorem z2j (t : List zB) (at_ e : Int) : yM t at_ e = gN yM yW t at_ e := jP wE (.yM t at_ e)
theorem z4F (t : List zB) (at_ e : Int) : yW t at_ e = z0d zW zY t at_ e := jP wE (.yW t at_ e)
theorem jA (from_ : Int) (o2 x : zD) (t : List zB) (at_ e : Int) : zW from_ o2 x t at_ e = vR zJ zW from_ o2 x t at_ e := jP wE (.zW from_ o2 x t at_ e)
theorem z0H (t : List zB) (at_ e : Int) : zY t at_ e = uL zT vN vA t at_ e := jP wE (.zY t at_ e)
theorem z1H (few : Bool) (t : List zB) (at_ e : Int) : zT few t at_ e = jK zL few t at_ e := jP wE (.zT few t at_ e)
theorem z0o (s : Str) (from_ : Int) (t : List zB) (at_ e : Int) : vN s from_ t at_ e = wY zT s from_ t at_ e := jP wE (.vN s from_ t at_ e)
theorem wS (s : Str) (from_ : Int) (t : List zB) (at_ e : Int) : vA s from_ t at_ e = vG zJ zT zL s from_ t at_ e := jP wE (.vA s from_ t at_ e)
theorem z1s (t : List zB) (at_ e : Int) : zL t at_ e = wU zJ zH t at_ e := jP wE (.zL t at_ e)
theorem gY (out : List zD) (t : List zB) (at_ e : Int) : zH out t at_ e = vH zJ zH out t at_ e := jP wE (.zH out t at_ e)
def z0j (t : List zB) (at_ : Int) : Option (zD × Int × Int) :=
  if at_ < 0 then
    some ((zD.mk 0 0 [] [] 0 0), 0, 13)
  else
  if at_ > (List.length t : Int) then
    some ((zD.mk 0 0 [] [] 0 0), 0, 13)
  else
  zJ t at_ 0 >>= fun q1 =>
  if q1.2.2.2 = 0 then
    some (q1.1, q1.2.2.1, 0)
  else
  some ((zD.mk 0 0 [] [] 0 0), q1.2.2.1, q1.2.2.2)
def z0n (t : List zB) (at_ : Int) : Option (zD × Int × Int) :=
  z0j t at_ >>= fun q1 =>
  some (q1.1, q1.2.1, q1.2.2)
def wW (k : Int) (s : Str) (t : List zB) (at_ e K N : Int) (S : Str) (L : List zD) (From To : Int) : Option (Bool) :=
  idx t at_ >>= fun x =>
  if x.K = k then
    idx t at_ >>= fun x1 =>
    some ((x1.S == s))
  else
  some (false)
def vC (t : List zB) (at_ e K N : Int) (S : Str) (L : List zD) (From To : Int) : Option (zD × List zB × Int × Int × Int × Int × Str × List zD × Int × Int) :=
  if e = 0 then
    idx t at_ >>= fun x =>
    if x.K = 2 then
      if (0 : Int) ≤ (IntKind.wrap .i64 (at_ + 1)) then
      if Int.toNat (IntKind.wrap .i64 (at_ + 1)) ≤ List.length t then
      if (0 : Int) ≤ at_ then
      if Int.toNat at_ ≤ Int.toNat (IntKind.wrap .i64 (at_ + 1)) then
      z0n (List.drop (Int.toNat at_) (List.take (Int.toNat (IntKind.wrap .i64 (at_ + 1))) t)) 0 >>= fun q5 =>
      some (q5.1, t, IntKind.wrap .i64 (at_ + 1), e, K, N, S, L, From, To)
      else none
      else none
      else none
      else none
    else
    wW 3 [116, 114, 117, 101] t at_ e K N S L From To >>= fun q1 =>
    if q1 = true then
      if (0 : Int) ≤ (IntKind.wrap .i64 (at_ + 1)) then
      if Int.toNat (IntKind.wrap .i64 (at_ + 1)) ≤ List.length t then
      if (0 : Int) ≤ at_ then
      if Int.toNat at_ ≤ Int.toNat (IntKind.wrap .i64 (at_ + 1)) then
      z0n (List.drop (Int.toNat at_) (List.take (Int.toNat (IntKind.wrap .i64 (at_ + 1))) t)) 0 >>= fun q4 =>
      some (q4.1, t, IntKind.wrap .i64 (at_ + 1), e, K, N, S, L, From, To)
      else none
      else none
      else none
      else none
    else
    wW 3 [102, 97, 108, 115, 101] t at_ e K N S L From To >>= fun q2 =>
    if q2 = true then
      if (0 : Int) ≤ (IntKind.wrap .i64 (at_ + 1)) then
      if Int.toNat (IntKind.wrap .i64 (at_ + 1)) ≤ List.length t then
      if (0 : Int) ≤ at_ then
      if Int.toNat at_ ≤ Int.toNat (IntKind.wrap .i64 (at_ + 1)) then
      z0n (List.drop (Int.toNat at_) (List.take (Int.toNat (IntKind.wrap .i64 (at_ + 1))) t)) 0 >>= fun q3 =>
      some (q3.1, t, IntKind.wrap .i64 (at_ + 1), e, K, N, S, L, From, To)
      else none
      else none
      else none
      else none
    else
    some ((zD.mk 0 0 [] [] 0 0), t, at_, 6, K, N, S, L, From, To)
  else
  some ((zD.mk 0 0 [] [] 0 0), t, at_, e, K, N, S, L, From, To)
def yH (k n : Int) (s : Str) (from_ : Int) (parts : List zD) (t : List zB) (at_ e K N : Int) (S : Str) (L : List zD) (From To : Int) : Option (zD) :=
  if e = 0 then
    idx t from_ >>= fun x =>
    idx t (IntKind.wrap .i64 (at_ - 1)) >>= fun x1 =>
    some ((zD.mk k n s parts x.From x1.To))
  else
  some ((zD.mk 0 0 [] [] 0 0))
def vO (t : List zB) (at_ e K N : Int) (S : Str) (L : List zD) (From To : Int) : Option (Str × List zB × Int × Int × Int × Int × Str × List zD × Int × Int) :=
  if e = 0 then
    idx t at_ >>= fun x =>
    if x.K = 1 then
      idx t (IntKind.wrap .i64 ((IntKind.wrap .i64 (at_ + 1)) - 1)) >>= fun x1 =>
      some (x1.S, t, IntKind.wrap .i64 (at_ + 1), e, K, N, S, L, From, To)
    else
    some ([], t, at_, 6, K, N, S, L, From, To)
  else
  some ([], t, at_, e, K, N, S, L, From, To)
def jX (k : Int) (s : Str) (t : List zB) (at_ e K N : Int) (S : Str) (L : List zD) (From To : Int) : Option (Bool × List zB × Int × Int × Int × Int × Str × List zD × Int × Int) :=
  if e = 0 then
    wW k s t at_ e K N S L From To >>= fun q1 =>
    if q1 = true then
      some (true, t, IntKind.wrap .i64 (at_ + 1), e, K, N, S, L, From, To)
    else
    some (false, t, at_, e, K, N, S, L, From, To)
  else
  some (false, t, at_, e, K, N, S, L, From, To)
def yK (k : Int) (s : Str) (t : List zB) (at_ e K N : Int) (S : Str) (L : List zD) (From To : Int) : Option (List zB × Int × Int × Int × Int × Str × List zD × Int × Int) :=
  if e = 0 then
    jX k s t at_ e K N S L From To >>= fun q1 =>
    if q1.1 = true then
      some (q1.2.1, q1.2.2.1, q1.2.2.2.1, q1.2.2.2.2.1, q1.2.2.2.2.2.1, q1.2.2.2.2.2.2.1, q1.2.2.2.2.2.2.2.1, q1.2.2.2.2.2.2.2.2.1, q1.2.2.2.2.2.2.2.2.2)
    else
    some (q1.2.1, q1.2.2.1, 6, q1.2.2.2.2.1, q1.2.2.2.2.2.1, q1.2.2.2.2.2.2.1, q1.2.2.2.2.2.2.2.1, q1.2.2.2.2.2.2.2.2.1, q1.2.2.2.2.2.2.2.2.2)
  else
  some (t, at_, e, K, N, S, L, From, To)
def gH (t : List zB) (at_ e K N : Int) (S : Str) (L : List zD) (From To : Int) : Option (zD × List zB × Int × Int × Int × Int × Str × List zD × Int × Int) :=
  vO t (IntKind.wrap .i64 (at_ + 1)) e K N S L From To >>= fun q1 =>
  yK 4 [61] q1.2.1 q1.2.2.1 q1.2.2.2.1 q1.2.2.2.2.1 q1.2.2.2.2.2.1 q1.2.2.2.2.2.2.1 q1.2.2.2.2.2.2.2.1 q1.2.2.2.2.2.2.2.2.1 q1.2.2.2.2.2.2.2.2.2 >>= fun q2 =>
  vC q2.1 q2.2.1 q2.2.2.1 q2.2.2.2.1 q2.2.2.2.2.1 q2.2.2.2.2.2.1 q2.2.2.2.2.2.2.1 q2.2.2.2.2.2.2.2.1 q2.2.2.2.2.2.2.2.2 >>= fun q3 =>
  yK 4 [59] q3.2.1 q3.2.2.1 q3.2.2.2.1 q3.2.2.2.2.1 q3.2.2.2.2.2.1 q3.2.2.2.2.2.2.1 q3.2.2.2.2.2.2.2.1 q3.2.2.2.2.2.2.2.2.1 q3.2.2.2.2.2.2.2.2.2 >>= fun q4 =>
  yH 31 0 q1.1 at_ [q3.1] q4.1 q4.2.1 q4.2.2.1 q4.2.2.2.1 q4.2.2.2.2.1 q4.2.2.2.2.2.1 q4.2.2.2.2.2.2.1 q4.2.2.2.2.2.2.2.1 q4.2.2.2.2.2.2.2.2 >>= fun q5 =>
  some (q5, q4.1, q4.2.1, q4.2.2.1, q4.2.2.2.1, q4.2.2.2.2.1, q4.2.2.2.2.2.1, q4.2.2.2.2.2.2.1, q4.2.2.2.2.2.2.2.1, q4.2.2.2.2.2.2.2.2)
def z0x (t : List zB) (at_ e : Int) : Option (zB) :=
  if at_ < (List.length t : Int) then
    idx t at_ >>= fun x =>
    some (x)
  else
  some ((zB.mk 5 0 [] 0 0))
def uM (k : Int) (s : Str) (t : List zB) (at_ e : Int) : Option (Bool) :=
  z0x t at_ e >>= fun q1 =>
  if q1.K = k then
    some ((q1.S == s))
  else
  some (false)
def yU (k : Int) (s : Str) (from_ : Int) (parts : List zD) (t : List zB) (at_ e : Int) : Option (zD) :=
  if e = 0 then
    idx t from_ >>= fun x =>
    idx t (IntKind.wrap .i64 (at_ - 1)) >>= fun x1 =>
    some ((zD.mk k 0 s parts x.From x1.To))
  else
  some ((zD.mk 0 0 [] [] 0 0))
def zZ (k : Int) (s : Str) (t : List zB) (at_ e : Int) : Option (List zB × Int × Int) :=
  if e = 0 then
    uM k s t at_ e >>= fun q1 =>
    if q1 = true then
      some (t, IntKind.wrap .i64 (at_ + 1), e)
    else
    some (t, at_, 6)
  else
  some (t, at_, e)
def z0D (t : zB) : Option (Nat) :=
  if t.K = 4 then
    if t.S = [123] then
      some (51)
    else
    some (67)
  else
  if t.K = 3 then
    if t.S = [108, 101, 116] then
      some (68)
    else
    if t.S = [105, 102] then
      some (69)
    else
    if t.S = [119, 104, 105, 108, 101] then
      some (70)
    else
    if t.S = [102, 111, 114] then
      some (71)
    else
    if t.S = [112, 114, 105, 110, 116] then
      some (72)
    else
    if t.S = [114, 101, 116, 117, 114, 110] then
      some (73)
    else
    if t.S = [100, 111] then
      some (74)
    else
    some (67)
  else
  some (67)
def wZ (t : List zB) (at_ e : Int) : Option (zD × List zB × Int × Int) :=
  if e = 0 then
    if at_ > (List.length t : Int) then
      some ((zD.mk 0 0 [] [] 0 0), t, at_, 6)
    else
    z0n t at_ >>= fun q1 =>
    some (q1.1, t, q1.2.1, q1.2.2)
  else
  some ((zD.mk 0 0 [] [] 0 0), t, at_, e)
def yT (t : List zB) (at_ e : Int) : Option (zD × List zB × Int × Int) :=
  wZ t at_ e >>= fun q1 =>
  some (q1.1, q1.2.1, q1.2.2.1, q1.2.2.2)
def jL (k : Int) (t : List zB) (at_ e : Int) : Option (zD × List zB × Int × Int) :=
  yT t (IntKind.wrap .i64 (at_ + 1)) e >>= fun q1 =>
  zZ 4 [59] q1.2.1 q1.2.2.1 q1.2.2.2 >>= fun q2 =>
  yU k [] at_ [q1.1] q2.1 q2.2.1 q2.2.2 >>= fun q3 =>
  some (q3, q2.1, q2.2.1, q2.2.2)
def z1J (t : List zB) (at_ e : Int) : Option (zD × List zB × Int × Int) :=
  jL 27 t at_ e >>= fun q1 =>
  some (q1.1, q1.2.1, q1.2.2.1, q1.2.2.2)
def z1K (t : List zB) (at_ e : Int) : Option (zD × List zB × Int × Int) :=
  jL 28 t at_ e >>= fun q1 =>
  some (q1.1, q1.2.1, q1.2.2.1, q1.2.2.2)
def uW (t : List zB) (at_ e : Int) : Option (Str × List zB × Int × Int) :=
  if e = 0 then
    z0x t at_ e >>= fun q1 =>
    if q1.K = 1 then
      some (q1.S, t, IntKind.wrap .i64 (at_ + 1), e)
    else
    some ([], t, at_, 6)
  else
  some ([], t, at_, e)
def z0c (yN : (List zB) → Int → Int → Option (zD × List zB × Int × Int)) (t : List zB) (at_ e : Int) : Option (zD × List zB × Int × Int) :=
  if e = 0 then
    uV t at_ e >>= fun q1 =>
    if q1.K = 3 then
      if q1.S = [105, 110, 116] then
        yD (zD.mk 1 0 [] [] 0 0) at_ t (IntKind.wrap .i64 (at_ + 1)) e >>= fun q2 =>
        some (q2, t, IntKind.wrap .i64 (at_ + 1), e)
      else
      if q1.S = [98, 111, 111, 108] then
        yD (zD.mk 2 0 [] [] 0 0) at_ t (IntKind.wrap .i64 (at_ + 1)) e >>= fun q3 =>
        some (q3, t, IntKind.wrap .i64 (at_ + 1), e)
      else
      wM [91] t at_ e >>= fun q5 =>
      if q5 = true then
        uV t (IntKind.wrap .i64 (at_ + 1)) e >>= fun q6 =>
        if q6.K = 2 then
          vI [93] t (IntKind.wrap .i64 ((IntKind.wrap .i64 (at_ + 1)) + 1)) e >>= fun q8 =>
          yN q8.1 q8.2.1 q8.2.2 >>= fun q9 =>
          yD (zD.mk 3 q6.N [] [q9.1] 0 0) at_ q9.2.1 q9.2.2.1 q9.2.2.2 >>= fun q10 =>
          some (q10, q9.2.1, q9.2.2.1, q9.2.2.2)
        else
        wL t (IntKind.wrap .i64 (at_ + 1)) e >>= fun q7 =>
        some ((zD.mk 0 0 [] [] 0 0), q7.1, q7.2.1, q7.2.2)
      else
      wL t at_ e >>= fun q11 =>
      some ((zD.mk 0 0 [] [] 0 0), q11.1, q11.2.1, q11.2.2)
    else
    if q1.K = 1 then
      yD (zD.mk 4 0 q1.S [] 0 0) at_ t (IntKind.wrap .i64 (at_ + 1)) e >>= fun q29 =>
      some (q29, t, IntKind.wrap .i64 (at_ + 1), e)
    else
    wM [91] t at_ e >>= fun q30 =>
    if q30 = true then
      uV t (IntKind.wrap .i64 (at_ + 1)) e >>= fun q31 =>
      if q31.K = 2 then
        vI [93] t (IntKind.wrap .i64 ((IntKind.wrap .i64 (at_ + 1)) + 1)) e >>= fun q33 =>
        yN q33.1 q33.2.1 q33.2.2 >>= fun q34 =>
        yD (zD.mk 3 q31.N [] [q34.1] 0 0) at_ q34.2.1 q34.2.2.1 q34.2.2.2 >>= fun q35 =>
        some (q35, q34.2.1, q34.2.2.1, q34.2.2.2)
      else
      wL t (IntKind.wrap .i64 (at_ + 1)) e >>= fun q32 =>
      some ((zD.mk 0 0 [] [] 0 0), q32.1, q32.2.1, q32.2.2)
    else
    wL t at_ e >>= fun q36 =>
    some ((zD.mk 0 0 [] [] 0 0), q36.1, q36.2.1, q36.2.2)
  else
  some ((zD.mk 0 0 [] [] 0 0), t, at_, e)
inductive z1R where
  | yN (t : List zB) (at_ e : Int)
@[reducible] def z3i : z1R → Type
  | .yN _ _ _ => zD × List zB × Int × Int
def z1Q (g : Fam z3i) : Fam z3i
  | .yN t at_ e => z0c (fun t at_ e => g (z1R.yN t at_ e)) t at_ e
theorem z4L : ∀ i, Good (fun g => z1Q g i)
  | .yN t at_ e => by unfold z1Q z0c; exact (.ite (.bind (.const _) fun _ => (.ite (.ite (.bind (.const _) fun _ => (.const _)) (.ite (.bind (.const _) fun _ => (.const _)) (.bind (.const _) fun _ => (.ite (.bind (.const _) fun _ => (.ite (.bind (.const _) fun _ => (.bind (.call _) fun _ => (.bind (.const _) fun _ => (.const _)))) (.bind (.const _) fun _ => (.const _)))) (.bind (.const _) fun _ => (.const _)))))) (.ite (.bind (.const _) fun _ => (.const _)) (.bind (.const _) fun _ => (.ite (.bind (.const _) fun _ => (.ite (.bind (.const _) fun _ => (.bind (.call _) fun _ => (.bind (.const _) fun _ => (.const _)))) (.bind (.const _) fun _ => (.const _)))) (.bind (.const _) fun _ => (.const _))))))) (.const _))
def yN (t : List zB) (at_ e : Int) : Option (zD × List zB × Int × Int) := z2Z z1Q (.yN t at_ e)
theorem z2K (t : List zB) (at_ e : Int) : yN t at_ e = z0c yN t at_ e := jP z4L (.yN t at_ e)
def jB (t : List zB) (at_ : Int) : Option (zD × Int × Int) :=
  if at_ < 0 then
    some ((zD.mk 0 0 [] [] 0 0), 0, 13)
  else
  if at_ > (List.length t : Int) then
    some ((zD.mk 0 0 [] [] 0 0), 0, 13)
  else
  yN t at_ 0 >>= fun q1 =>
  if q1.2.2.2 = 0 then
    some (q1.1, q1.2.2.1, 0)
  else
  some ((zD.mk 0 0 [] [] 0 0), q1.2.2.1, q1.2.2.2)
def z3s (t : List zB) (at_ : Int) : Option (zD × Int × Int) :=
  jB t at_ >>= fun q1 =>
  some (q1.1, q1.2.1, q1.2.2)
def vU (t : List zB) (at_ e : Int) : Option (zD × List zB × Int × Int) :=
  if e = 0 then
    if at_ > (List.length t : Int) then
      some ((zD.mk 0 0 [] [] 0 0), t, at_, 6)
    else
    z3s t at_ >>= fun q1 =>
    some (q1.1, t, q1.2.1, q1.2.2)
  else
  some ((zD.mk 0 0 [] [] 0 0), t, at_, e)
def z0f (t : List zB) (at_ e : Int) : Option (zD × List zB × Int × Int) :=
  uW t (IntKind.wrap .i64 (at_ + 1)) e >>= fun q1 =>
  if q1.2.2.2 = 0 then
    uM 4 [58] q1.2.1 q1.2.2.1 q1.2.2.2 >>= fun q2 =>
    if q2 = true then
      vU q1.2.1 (IntKind.wrap .i64 (q1.2.2.1 + 1)) q1.2.2.2 >>= fun q3 =>
      zZ 4 [59] q3.2.1 q3.2.2.1 q3.2.2.2 >>= fun q4 =>
      yU 21 q1.1 at_ [q3.1] q4.1 q4.2.1 q4.2.2 >>= fun q5 =>
      some (q5, q4.1, q4.2.1, q4.2.2)
    else
    zZ 4 [61] q1.2.1 q1.2.2.1 q1.2.2.2 >>= fun q6 =>
    yT q6.1 q6.2.1 q6.2.2 >>= fun q7 =>
    zZ 4 [59] q7.2.1 q7.2.2.1 q7.2.2.2 >>= fun q8 =>
    yU 20 q1.1 at_ [q7.1] q8.1 q8.2.1 q8.2.2 >>= fun q9 =>
    some (q9, q8.1, q8.2.1, q8.2.2)
  else
  zZ 4 [61] q1.2.1 q1.2.2.1 q1.2.2.2 >>= fun q10 =>
  yT q10.1 q10.2.1 q10.2.2 >>= fun q11 =>
  zZ 4 [59] q11.2.1 q11.2.2.1 q11.2.2.2 >>= fun q12 =>
  yU 20 q1.1 at_ [q11.1] q12.1 q12.2.1 q12.2.2 >>= fun q13 =>
  some (q13, q12.1, q12.2.1, q12.2.2)
def z0M (t : List zB) (at_ e : Int) : Option (zD × List zB × Int × Int) :=
  yT t at_ e >>= fun q1 =>
  zZ 4 [61] q1.2.1 q1.2.2.1 q1.2.2.2 >>= fun q2 =>
  yT q2.1 q2.2.1 q2.2.2 >>= fun q3 =>
  zZ 4 [59] q3.2.1 q3.2.2.1 q3.2.2.2 >>= fun q4 =>
  yU 22 [] at_ [q1.1, q3.1] q4.1 q4.2.1 q4.2.2 >>= fun q5 =>
  some (q5, q4.1, q4.2.1, q4.2.2)
def z1L (t : List zB) (at_ e : Int) : Option (zD × List zB × Int × Int) :=
  jL 26 t at_ e >>= fun q1 =>
  some (q1.1, q1.2.1, q1.2.2.1, q1.2.2.2)
def uA (zS : Int → (List zD) → zD → (List zB) → Int → Int → Option (zD × List zB × Int × Int)) (t : List zB) (at_ e : Int) : Option (zD × List zB × Int × Int) :=
  zZ 4 [123] t at_ e >>= fun q1 =>
  zS at_ [] (zD.mk 0 0 [] [] 0 0) q1.1 q1.2.1 q1.2.2
def vT (zS : Int → (List zD) → zD → (List zB) → Int → Int → Option (zD × List zB × Int × Int)) (yO : (List zB) → Int → Int → Option (zD × List zB × Int × Int)) (from_ : Int) (l : List zD) (o2 : zD) (t : List zB) (at_ e : Int) : Option (zD × List zB × Int × Int) :=
  if e = 0 then
    uM 4 [125] t at_ e >>= fun q1 =>
    if q1 = true then
      zZ 4 [125] t at_ e >>= fun q3 =>
      yU 29 [] from_ l q3.1 q3.2.1 q3.2.2 >>= fun q4 =>
      some (q4, q3.1, q3.2.1, q3.2.2)
    else
    yO t at_ e >>= fun q2 =>
    if z2N 72 (List.length l + List.length [q2.1]) then
    zS from_ (l ++ [q2.1]) o2 q2.2.1 q2.2.2.1 q2.2.2.2
    else none
  else
  zZ 4 [125] t at_ e >>= fun q5 =>
  yU 29 [] from_ l q5.1 q5.2.1 q5.2.2 >>= fun q6 =>
  some (q6, q5.1, q5.2.1, q5.2.2)
def jM (zG : (List zB) → Int → Int → Option (zD × List zB × Int × Int)) (vF : (List zB) → Int → Int → Option (zD × List zB × Int × Int)) (yY : (List zB) → Int → Int → Option (zD × List zB × Int × Int)) (yX : (List zB) → Int → Int → Option (zD × List zB × Int × Int)) (t : List zB) (at_ e : Int) : Option (zD × List zB × Int × Int) :=
  z0x t at_ e >>= fun q1 =>
  z0D q1 >>= fun q2 =>
  if q2 = 51 then
    zG t at_ e >>= fun q3 =>
    some (q3.1, q3.2.1, q3.2.2.1, q3.2.2.2)
  else if q2 = 67 then
    z0M t at_ e >>= fun q4 =>
    some (q4.1, q4.2.1, q4.2.2.1, q4.2.2.2)
  else if q2 = 68 then
    z0f t at_ e >>= fun q5 =>
    some (q5.1, q5.2.1, q5.2.2.1, q5.2.2.2)
  else if q2 = 69 then
    vF t at_ e >>= fun q6 =>
    some (q6.1, q6.2.1, q6.2.2.1, q6.2.2.2)
  else if q2 = 70 then
    yY t at_ e >>= fun q7 =>
    some (q7.1, q7.2.1, q7.2.2.1, q7.2.2.2)
  else if q2 = 71 then
    yX t at_ e >>= fun q8 =>
    some (q8.1, q8.2.1, q8.2.2.1, q8.2.2.2)
  else if q2 = 72 then
    z1L t at_ e >>= fun q9 =>
    some (q9.1, q9.2.1, q9.2.2.1, q9.2.2.2)
  else if q2 = 73 then
    z1J t at_ e >>= fun q10 =>
    some (q10.1, q10.2.1, q10.2.2.1, q10.2.2.2)
  else if q2 = 74 then
    z1K t at_ e >>= fun q11 =>
    some (q11.1, q11.2.1, q11.2.2.1, q11.2.2.2)
  else none
def gG (zG : (List zB) → Int → Int → Option (zD × List zB × Int × Int)) (t : List zB) (at_ e : Int) : Option (zD × List zB × Int × Int) :=
  yT t (IntKind.wrap .i64 (at_ + 1)) e >>= fun q1 =>
  zG q1.2.1 q1.2.2.1 q1.2.2.2 >>= fun q2 =>
  if q2.2.2.2 = 0 then
    uM 3 [101, 108, 115, 101] q2.2.1 q2.2.2.1 q2.2.2.2 >>= fun q3 =>
    if q3 = true then
      zG q2.2.1 (IntKind.wrap .i64 (q2.2.2.1 + 1)) q2.2.2.2 >>= fun q4 =>
      yU 23 [] at_ [q1.1, q2.1, q4.1] q4.2.1 q4.2.2.1 q4.2.2.2 >>= fun q5 =>
      some (q5, q4.2.1, q4.2.2.1, q4.2.2.2)
    else
    yU 23 [] at_ [q1.1, q2.1, (zD.mk 29 0 [] [] q2.1.To q2.1.To)] q2.2.1 q2.2.2.1 q2.2.2.2 >>= fun q6 =>
    some (q6, q2.2.1, q2.2.2.1, q2.2.2.2)
  else
  yU 23 [] at_ [q1.1, q2.1, (zD.mk 29 0 [] [] q2.1.To q2.1.To)] q2.2.1 q2.2.2.1 q2.2.2.2 >>= fun q7 =>
  some (q7, q2.2.1, q2.2.2.1, q2.2.2.2)
def jT (zG : (List zB) → Int → Int → Option (zD × List zB × Int × Int)) (t : List zB) (at_ e : Int) : Option (zD × List zB × Int × Int) :=
  yT t (IntKind.wrap .i64 (at_ + 1)) e >>= fun q1 =>
  zG q1.2.1 q1.2.2.1 q1.2.2.2 >>= fun q2 =>
  yU 24 [] at_ [q1.1, q2.1] q2.2.1 q2.2.2.1 q2.2.2.2 >>= fun q3 =>
  some (q3, q2.2.1, q2.2.2.1, q2.2.2.2)
def jS (zG : (List zB) → Int → Int → Option (zD × List zB × Int × Int)) (t : List zB) (at_ e : Int) : Option (zD × List zB × Int × Int) :=
  uW t (IntKind.wrap .i64 (at_ + 1)) e >>= fun q1 =>
  zZ 4 [61] q1.2.1 q1.2.2.1 q1.2.2.2 >>= fun q2 =>
  yT q2.1 q2.2.1 q2.2.2 >>= fun q3 =>
  zZ 3 [116, 111] q3.2.1 q3.2.2.1 q3.2.2.2 >>= fun q4 =>
  yT q4.1 q4.2.1 q4.2.2 >>= fun q5 =>
  zG q5.2.1 q5.2.2.1 q5.2.2.2 >>= fun q6 =>
  yU 25 q1.1 at_ [q3.1, q5.1, q6.1] q6.2.1 q6.2.2.1 q6.2.2.2 >>= fun q7 =>
  some (q7, q6.2.1, q6.2.2.1, q6.2.2.2)
inductive yG where
  | zG (t : List zB) (at_ e : Int)
  | zS (from_ : Int) (l : List zD) (o2 : zD) (t : List zB) (at_ e : Int)
  | yO (t : List zB) (at_ e : Int)
  | vF (t : List zB) (at_ e : Int)
  | yY (t : List zB) (at_ e : Int)
  | yX (t : List zB) (at_ e : Int)
@[reducible] def z2F : yG → Type
  | .zG _ _ _ => zD × List zB × Int × Int
  | .zS _ _ _ _ _ _ => zD × List zB × Int × Int
  | .yO _ _ _ => zD × List zB × Int × Int
  | .vF _ _ _ => zD × List zB × Int × Int
  | .yY _ _ _ => zD × List zB × Int × Int
  | .yX _ _ _ => zD × List zB × Int × Int
def vJ (g : Fam z2F) : Fam z2F
  | .zG t at_ e => uA (fun from_ l o2 t at_ e => g (yG.zS from_ l o2 t at_ e)) t at_ e
  | .zS from_ l o2 t at_ e => vT (fun from_ l o2 t at_ e => g (yG.zS from_ l o2 t at_ e)) (fun t at_ e => g (yG.yO t at_ e)) from_ l o2 t at_ e
  | .yO t at_ e => jM (fun t at_ e => g (yG.zG t at_ e)) (fun t at_ e => g (yG.vF t at_ e)) (fun t at_ e => g (yG.yY t at_ e)) (fun t at_ e => g (yG.yX t at_ e)) t at_ e
  | .vF t at_ e => gG (fun t at_ e => g (yG.zG t at_ e)) t at_ e
  | .yY t at_ e => jT (fun t at_ e => g (yG.zG t at_ e)) t at_ e
  | .yX t at_ e => jS (fun t at_ e => g (yG.zG t at_ e)) t at_ e
theorem jN : ∀ i, Good (fun g => vJ g i)
  | .zG t at_ e => by unfold vJ uA; exact (.bind (.const _) fun _ => (.call _))
  | .zS from_ l o2 t at_ e => by unfold vJ vT; exact (.ite (.bind (.const _) fun _ => (.ite (.bind (.const _) fun _ => (.bind (.const _) fun _ => (.const _))) (.bind (.call _) fun _ => (.ite (.call _) (.const _))))) (.bind (.const _) fun _ => (.bind (.const _) fun _ => (.const _))))
  | .yO t at_ e => by unfold vJ jM; exact (.bind (.const _) fun _ => (.bind (.const _) fun _ => (.ite (.bind (.call _) fun _ => (.const _)) (.ite (.bind (.const _) fun _ => (.const _)) (.ite (.bind (.const _) fun _ => (.const _)) (.ite (.bind (.call _) fun _ => (.const _)) (.ite (.bind (.call _) fun _ => (.const _)) (.ite (.bind (.call _) fun _ => (.const _)) (.ite (.bind (.const _) fun _ => (.const _)) (.ite (.bind (.const _) fun _ => (.const _)) (.ite (.bind (.const _) fun _ => (.const _)) (.const _))))))))))))
  | .vF t at_ e => by unfold vJ gG; exact (.bind (.const _) fun _ => (.bind (.call _) fun _ => (.ite (.bind (.const _) fun _ => (.ite (.bind (.call _) fun _ => (.bind (.const _) fun _ => (.const _))) (.bind (.const _) fun _ => (.const _)))) (.bind (.const _) fun _ => (.const _)))))
  | .yY t at_ e => by unfold vJ jT; exact (.bind (.const _) fun _ => (.bind (.call _) fun _ => (.bind (.const _) fun _ => (.const _))))
  | .yX t at_ e => by unfold vJ jS; exact (.bind (.const _) fun _ => (.bind (.const _) fun _ => (.bind (.const _) fun _ => (.bind (.const _) fun _ => (.bind (.const _) fun _ => (.bind (.call _) fun _ => (.bind (.const _) fun _ => (.const _))))))))
def zG (t : List zB) (at_ e : Int) : Option (zD × List zB × Int × Int) := z2Z vJ (.zG t at_ e)
def zS (from_ : Int) (l : List zD) (o2 : zD) (t : List zB) (at_ e : Int) : Option (zD × List zB × Int × Int) := z2Z vJ (.zS from_ l o2 t at_ e)
def yO (t : List zB) (at_ e : Int) : Option (zD × List zB × Int × Int) := z2Z vJ (.yO t at_ e)
def vF (t : List zB) (at_ e : Int) : Option (zD × List zB × Int × Int) := z2Z vJ (.vF t at_ e)
def yY (t : List zB) (at_ e : Int) : Option (zD × List zB × Int × Int) := z2Z vJ (.yY t at_ e)
def yX (t : List zB) (at_ e : Int) : Option (zD × List zB × Int × Int) := z2Z vJ (.yX t at_ e)
theorem z2x (t : List zB) (at_ e : Int) : zG t at_ e = uA zS t at_ e := jP jN (.zG t at_ e)
theorem z0E (from_ : Int) (l : List zD) (o2 : zD) (t : List zB) (at_ e : Int) : zS from_ l o2 t at_ e = vT zS yO from_ l o2 t at_ e := jP jN (.zS from_ l o2 t at_ e)
theorem z4H (t : List zB) (at_ e : Int) : yO t at_ e = jM zG vF yY yX t at_ e := jP jN (.yO t at_ e)
theorem z8e (t : List zB) (at_ e : Int) : vF t at_ e = gG zG t at_ e := jP jN (.vF t at_ e)
theorem z7y (t : List zB) (at_ e : Int) : yY t at_ e = jT zG t at_ e := jP jN (.yY t at_ e)
theorem z7x (t : List zB) (at_ e : Int) : yX t at_ e = jS zG t at_ e := jP jN (.yX t at_ e)
def z0F (t : List zB) (at_ : Int) : Option (zD × Int × Int) :=
  if at_ < 0 then
    some ((zD.mk 0 0 [] [] 0 0), 0, 13)
  else
  if at_ > (List.length t : Int) then
    some ((zD.mk 0 0 [] [] 0 0), 0, 13)
  else
  zG t at_ 0 >>= fun q1 =>
  if q1.2.2.2 = 0 then
    some (q1.1, q1.2.2.1, 0)
  else
  some ((zD.mk 0 0 [] [] 0 0), q1.2.2.1, q1.2.2.2)
def z5F (t : List zB) (at_ : Int) : Option (zD × Int × Int) :=
  z0F t at_ >>= fun q1 =>
  some (q1.1, q1.2.1, q1.2.2)
def vD (t : List zB) (at_ e K N : Int) (S : Str) (L : List zD) (From To : Int) : Option (zD × List zB × Int × Int × Int × Int × Str × List zD × Int × Int) :=
  if e = 0 then
    z5F t at_ >>= fun q1 =>
    some (q1.1, t, q1.2.1, q1.2.2, K, N, S, L, From, To)
  else
  some ((zD.mk 0 0 [] [] 0 0), t, at_, e, K, N, S, L, From, To)
def yL (t : List zB) (at_ e K N : Int) (S : Str) (L : List zD) (From To : Int) : Option (zD × List zB × Int × Int × Int × Int × Str × List zD × Int × Int) :=
  if e = 0 then
    z3s t at_ >>= fun q1 =>
    some (q1.1, t, q1.2.1, q1.2.2, K, N, S, L, From, To)
  else
  some ((zD.mk 0 0 [] [] 0 0), t, at_, e, K, N, S, L, From, To)
def z1A (t : List zB) (at_ e K N : Int) (S : Str) (L : List zD) (From To : Int) : Option (Bool × List zB × Int × Int × Int × Int × Str × List zD × Int × Int) :=
  jX 4 [44] t at_ e K N S L From To >>= fun q1 =>
  some (q1.1, q1.2.1, q1.2.2.1, q1.2.2.2.1, q1.2.2.2.2.1, q1.2.2.2.2.2.1, q1.2.2.2.2.2.2.1, q1.2.2.2.2.2.2.2.1, q1.2.2.2.2.2.2.2.2.1, q1.2.2.2.2.2.2.2.2.2)
def jW (t : List zB) (at_ e K N : Int) (S : Str) (L : List zD) (From To : Int) : Option (zD × List zB × Int × Int × Int × Int × Str × List zD × Int × Int) :=
  vO t at_ e K N S L From To >>= fun q1 =>
  yK 4 [58] q1.2.1 q1.2.2.1 q1.2.2.2.1 q1.2.2.2.2.1 q1.2.2.2.2.2.1 q1.2.2.2.2.2.2.1 q1.2.2.2.2.2.2.2.1 q1.2.2.2.2.2.2.2.2.1 q1.2.2.2.2.2.2.2.2.2 >>= fun q2 =>
  yL q2.1 q2.2.1 q2.2.2.1 q2.2.2.2.1 q2.2.2.2.2.1 q2.2.2.2.2.2.1 q2.2.2.2.2.2.2.1 q2.2.2.2.2.2.2.2.1 q2.2.2.2.2.2.2.2.2 >>= fun q3 =>
  yH 34 0 q1.1 at_ [q3.1] q3.2.1 q3.2.2.1 q3.2.2.2.1 q3.2.2.2.2.1 q3.2.2.2.2.2.1 q3.2.2.2.2.2.2.1 q3.2.2.2.2.2.2.2.1 q3.2.2.2.2.2.2.2.2.1 q3.2.2.2.2.2.2.2.2.2 >>= fun q4 =>
  some (q4, q3.2.1, q3.2.2.1, q3.2.2.2.1, q3.2.2.2.2.1, q3.2.2.2.2.2.1, q3.2.2.2.2.2.2.1, q3.2.2.2.2.2.2.2.1, q3.2.2.2.2.2.2.2.2.1, q3.2.2.2.2.2.2.2.2.2)
def yF (zF : (List zD) → (List zB) → Int → Int → Int → Int → Str → (List zD) → Int → Int → Option (List zD × List zB × Int × Int × Int × Int × Str × List zD × Int × Int)) (out : List zD) (t : List zB) (at_ e K N : Int) (S : Str) (L : List zD) (From To : Int) : Option (List zD × List zB × Int × Int × Int × Int × Str × List zD × Int × Int) :=
  if e = 0 then
    z1A t at_ e K N S L From To >>= fun q1 =>
    if q1.1 = true then
      jW q1.2.1 q1.2.2.1 q1.2.2.2.1 q1.2.2.2.2.1 q1.2.2.2.2.2.1 q1.2.2.2.2.2.2.1 q1.2.2.2.2.2.2.2.1 q1.2.2.2.2.2.2.2.2.1 q1.2.2.2.2.2.2.2.2.2 >>= fun q2 =>
      if z2N 72 (List.length out + List.length [q2.1]) then
      zF (out ++ [q2.1]) q2.2.1 q2.2.2.1 q2.2.2.2.1 q2.2.2.2.2.1 q2.2.2.2.2.2.1 q2.2.2.2.2.2.2.1 q2.2.2.2.2.2.2.2.1 q2.2.2.2.2.2.2.2.2.1 q2.2.2.2.2.2.2.2.2.2
      else none
    else
    some (out, q1.2.1, q1.2.2.1, q1.2.2.2.1, q1.2.2.2.2.1, q1.2.2.2.2.2.1, q1.2.2.2.2.2.2.1, q1.2.2.2.2.2.2.2.1, q1.2.2.2.2.2.2.2.2.1, q1.2.2.2.2.2.2.2.2.2)
  else
  some (out, t, at_, e, K, N, S, L, From, To)
inductive wD where
  | zF (out : List zD) (t : List zB) (at_ e K N : Int) (S : Str) (L : List zD) (From To : Int)
@[reducible] def uH : wD → Type
  | .zF _ _ _ _ _ _ _ _ _ _ => List zD × List zB × Int × Int × Int × Int × Str × List zD × Int × Int
def wB (g : Fam uH) : Fam uH
  | .zF out t at_ e K N S L From To => yF (fun out t at_ e K N S L From To => g (wD.zF out t at_ e K N S L From To)) out t at_ e K N S L From To
theorem gR : ∀ i, Good (fun g => wB g i)
  | .zF out t at_ e K N S L From To => by unfold wB yF; exact (.ite (.bind (.const _) fun _ => (.ite (.bind (.const _) fun _ => (.ite (.call _) (.const _))) (.const _))) (.const _))
def zF (out : List zD) (t : List zB) (at_ e K N : Int) (S : Str) (L : List zD) (From To : Int) : Option (List zD × List zB × Int × Int × Int × Int × Str × List zD × Int × Int) := z2Z wB (.zF out t at_ e K N S L From To)
theorem uC (out : List zD) (t : List zB) (at_ e K N : Int) (S : Str) (L : List zD) (From To : Int) : zF out t at_ e K N S L From To = yF zF out t at_ e K N S L From To := jP gR (.zF out t at_ e K N S L From To)
def vW (t : List zB) (at_ e K N : Int) (S : Str) (L : List zD) (From To : Int) : Option (List zD × List zB × Int × Int × Int × Int × Str × List zD × Int × Int) :=
  jW t at_ e K N S L From To >>= fun q1 =>
  zF [q1.1] q1.2.1 q1.2.2.1 q1.2.2.2.1 q1.2.2.2.2.1 q1.2.2.2.2.2.1 q1.2.2.2.2.2.2.1 q1.2.2.2.2.2.2.2.1 q1.2.2.2.2.2.2.2.2.1 q1.2.2.2.2.2.2.2.2.2
def wJ (t : List zB) (at_ e K N : Int) (S : Str) (L : List zD) (From To : Int) : Option (zD × List zB × Int × Int × Int × Int × Str × List zD × Int × Int) :=
  yK 4 [40] t at_ e K N S L From To >>= fun q1 =>
  jX 4 [41] q1.1 q1.2.1 q1.2.2.1 q1.2.2.2.1 q1.2.2.2.2.1 q1.2.2.2.2.2.1 q1.2.2.2.2.2.2.1 q1.2.2.2.2.2.2.2.1 q1.2.2.2.2.2.2.2.2 >>= fun q2 =>
  if q2.1 = true then
    yH 35 0 [] at_ [] q2.2.1 q2.2.2.1 q2.2.2.2.1 q2.2.2.2.2.1 q2.2.2.2.2.2.1 q2.2.2.2.2.2.2.1 q2.2.2.2.2.2.2.2.1 q2.2.2.2.2.2.2.2.2.1 q2.2.2.2.2.2.2.2.2.2 >>= fun q3 =>
    some (q3, q2.2.1, q2.2.2.1, q2.2.2.2.1, q2.2.2.2.2.1, q2.2.2.2.2.2.1, q2.2.2.2.2.2.2.1, q2.2.2.2.2.2.2.2.1, q2.2.2.2.2.2.2.2.2.1, q2.2.2.2.2.2.2.2.2.2)
  else
  vW q2.2.1 q2.2.2.1 q2.2.2.2.1 q2.2.2.2.2.1 q2.2.2.2.2.2.1 q2.2.2.2.2.2.2.1 q2.2.2.2.2.2.2.2.1 q2.2.2.2.2.2.2.2.2.1 q2.2.2.2.2.2.2.2.2.2 >>= fun q4 =>
  yK 4 [41] q4.2.1 q4.2.2.1 q4.2.2.2.1 q4.2.2.2.2.1 q4.2.2.2.2.2.1 q4.2.2.2.2.2.2.1 q4.2.2.2.2.2.2.2.1 q4.2.2.2.2.2.2.2.2.1 q4.2.2.2.2.2.2.2.2.2 >>= fun q5 =>
  yH 35 0 [] at_ q4.1 q5.1 q5.2.1 q5.2.2.1 q5.2.2.2.1 q5.2.2.2.2.1 q5.2.2.2.2.2.1 q5.2.2.2.2.2.2.1 q5.2.2.2.2.2.2.2.1 q5.2.2.2.2.2.2.2.2 >>= fun q6 =>
  some (q6, q5.1, q5.2.1, q5.2.2.1, q5.2.2.2.1, q5.2.2.2.2.1, q5.2.2.2.2.2.1, q5.2.2.2.2.2.2.1, q5.2.2.2.2.2.2.2.1, q5.2.2.2.2.2.2.2.2)
def uI (t : List zB) (at_ e K N : Int) (S : Str) (L : List zD) (From To : Int) : Option (zD × List zB × Int × Int × Int × Int × Str × List zD × Int × Int) :=
  jX 3 [112, 117, 98] t at_ e K N S L From To >>= fun q1 =>
  if q1.1 = true then
    yK 3 [102, 110] q1.2.1 q1.2.2.1 q1.2.2.2.1 q1.2.2.2.2.1 q1.2.2.2.2.2.1 q1.2.2.2.2.2.2.1 q1.2.2.2.2.2.2.2.1 q1.2.2.2.2.2.2.2.2.1 q1.2.2.2.2.2.2.2.2.2 >>= fun q2 =>
    vO q2.1 q2.2.1 q2.2.2.1 q2.2.2.2.1 q2.2.2.2.2.1 q2.2.2.2.2.2.1 q2.2.2.2.2.2.2.1 q2.2.2.2.2.2.2.2.1 q2.2.2.2.2.2.2.2.2 >>= fun q3 =>
    wJ q3.2.1 q3.2.2.1 q3.2.2.2.1 q3.2.2.2.2.1 q3.2.2.2.2.2.1 q3.2.2.2.2.2.2.1 q3.2.2.2.2.2.2.2.1 q3.2.2.2.2.2.2.2.2.1 q3.2.2.2.2.2.2.2.2.2 >>= fun q4 =>
    yK 4 [58] q4.2.1 q4.2.2.1 q4.2.2.2.1 q4.2.2.2.2.1 q4.2.2.2.2.2.1 q4.2.2.2.2.2.2.1 q4.2.2.2.2.2.2.2.1 q4.2.2.2.2.2.2.2.2.1 q4.2.2.2.2.2.2.2.2.2 >>= fun q5 =>
    yL q5.1 q5.2.1 q5.2.2.1 q5.2.2.2.1 q5.2.2.2.2.1 q5.2.2.2.2.2.1 q5.2.2.2.2.2.2.1 q5.2.2.2.2.2.2.2.1 q5.2.2.2.2.2.2.2.2 >>= fun q6 =>
    vD q6.2.1 q6.2.2.1 q6.2.2.2.1 q6.2.2.2.2.1 q6.2.2.2.2.2.1 q6.2.2.2.2.2.2.1 q6.2.2.2.2.2.2.2.1 q6.2.2.2.2.2.2.2.2.1 q6.2.2.2.2.2.2.2.2.2 >>= fun q7 =>
    yH 33 1 q3.1 at_ [q4.1, q6.1, q7.1] q7.2.1 q7.2.2.1 q7.2.2.2.1 q7.2.2.2.2.1 q7.2.2.2.2.2.1 q7.2.2.2.2.2.2.1 q7.2.2.2.2.2.2.2.1 q7.2.2.2.2.2.2.2.2.1 q7.2.2.2.2.2.2.2.2.2 >>= fun q8 =>
    some (q8, q7.2.1, q7.2.2.1, q7.2.2.2.1, q7.2.2.2.2.1, q7.2.2.2.2.2.1, q7.2.2.2.2.2.2.1, q7.2.2.2.2.2.2.2.1, q7.2.2.2.2.2.2.2.2.1, q7.2.2.2.2.2.2.2.2.2)
  else
  yK 3 [102, 110] q1.2.1 q1.2.2.1 q1.2.2.2.1 q1.2.2.2.2.1 q1.2.2.2.2.2.1 q1.2.2.2.2.2.2.1 q1.2.2.2.2.2.2.2.1 q1.2.2.2.2.2.2.2.2.1 q1.2.2.2.2.2.2.2.2.2 >>= fun q9 =>
  vO q9.1 q9.2.1 q9.2.2.1 q9.2.2.2.1 q9.2.2.2.2.1 q9.2.2.2.2.2.1 q9.2.2.2.2.2.2.1 q9.2.2.2.2.2.2.2.1 q9.2.2.2.2.2.2.2.2 >>= fun q10 =>
  wJ q10.2.1 q10.2.2.1 q10.2.2.2.1 q10.2.2.2.2.1 q10.2.2.2.2.2.1 q10.2.2.2.2.2.2.1 q10.2.2.2.2.2.2.2.1 q10.2.2.2.2.2.2.2.2.1 q10.2.2.2.2.2.2.2.2.2 >>= fun q11 =>
  yK 4 [58] q11.2.1 q11.2.2.1 q11.2.2.2.1 q11.2.2.2.2.1 q11.2.2.2.2.2.1 q11.2.2.2.2.2.2.1 q11.2.2.2.2.2.2.2.1 q11.2.2.2.2.2.2.2.2.1 q11.2.2.2.2.2.2.2.2.2 >>= fun q12 =>
  yL q12.1 q12.2.1 q12.2.2.1 q12.2.2.2.1 q12.2.2.2.2.1 q12.2.2.2.2.2.1 q12.2.2.2.2.2.2.1 q12.2.2.2.2.2.2.2.1 q12.2.2.2.2.2.2.2.2 >>= fun q13 =>
  vD q13.2.1 q13.2.2.1 q13.2.2.2.1 q13.2.2.2.2.1 q13.2.2.2.2.2.1 q13.2.2.2.2.2.2.1 q13.2.2.2.2.2.2.2.1 q13.2.2.2.2.2.2.2.2.1 q13.2.2.2.2.2.2.2.2.2 >>= fun q14 =>
  yH 33 0 q10.1 at_ [q11.1, q13.1, q14.1] q14.2.1 q14.2.2.1 q14.2.2.2.1 q14.2.2.2.2.1 q14.2.2.2.2.2.1 q14.2.2.2.2.2.2.1 q14.2.2.2.2.2.2.2.1 q14.2.2.2.2.2.2.2.2.1 q14.2.2.2.2.2.2.2.2.2 >>= fun q15 =>
  some (q15, q14.2.1, q14.2.2.1, q14.2.2.2.1, q14.2.2.2.2.1, q14.2.2.2.2.2.1, q14.2.2.2.2.2.2.1, q14.2.2.2.2.2.2.2.1, q14.2.2.2.2.2.2.2.2.1, q14.2.2.2.2.2.2.2.2.2)
def uN (t : List zB) (at_ e K N : Int) (S : Str) (L : List zD) (From To : Int) : Option (zD × List zB × Int × Int × Int × Int × Str × List zD × Int × Int) :=
  vO t (IntKind.wrap .i64 (at_ + 1)) e K N S L From To >>= fun q1 =>
  yK 4 [58] q1.2.1 q1.2.2.1 q1.2.2.2.1 q1.2.2.2.2.1 q1.2.2.2.2.2.1 q1.2.2.2.2.2.2.1 q1.2.2.2.2.2.2.2.1 q1.2.2.2.2.2.2.2.2.1 q1.2.2.2.2.2.2.2.2.2 >>= fun q2 =>
  yL q2.1 q2.2.1 q2.2.2.1 q2.2.2.2.1 q2.2.2.2.2.1 q2.2.2.2.2.2.1 q2.2.2.2.2.2.2.1 q2.2.2.2.2.2.2.2.1 q2.2.2.2.2.2.2.2.2 >>= fun q3 =>
  yK 4 [59] q3.2.1 q3.2.2.1 q3.2.2.2.1 q3.2.2.2.2.1 q3.2.2.2.2.2.1 q3.2.2.2.2.2.2.1 q3.2.2.2.2.2.2.2.1 q3.2.2.2.2.2.2.2.2.1 q3.2.2.2.2.2.2.2.2.2 >>= fun q4 =>
  yH 32 0 q1.1 at_ [q3.1] q4.1 q4.2.1 q4.2.2.1 q4.2.2.2.1 q4.2.2.2.2.1 q4.2.2.2.2.2.1 q4.2.2.2.2.2.2.1 q4.2.2.2.2.2.2.2.1 q4.2.2.2.2.2.2.2.2 >>= fun q5 =>
  some (q5, q4.1, q4.2.1, q4.2.2.1, q4.2.2.2.1, q4.2.2.2.2.1, q4.2.2.2.2.2.1, q4.2.2.2.2.2.2.1, q4.2.2.2.2.2.2.2.1, q4.2.2.2.2.2.2.2.2)
def gB (t : List zB) (at_ e K N : Int) (S : Str) (L : List zD) (From To : Int) : Option (zD × List zB × Int × Int × Int × Int × Str × List zD × Int × Int) :=
  jW t at_ e K N S L From To >>= fun q1 =>
  yK 4 [59] q1.2.1 q1.2.2.1 q1.2.2.2.1 q1.2.2.2.2.1 q1.2.2.2.2.2.1 q1.2.2.2.2.2.2.1 q1.2.2.2.2.2.2.2.1 q1.2.2.2.2.2.2.2.2.1 q1.2.2.2.2.2.2.2.2.2 >>= fun q2 =>
  some (q1.1, q2.1, q2.2.1, q2.2.2.1, q2.2.2.2.1, q2.2.2.2.2.1, q2.2.2.2.2.2.1, q2.2.2.2.2.2.2.1, q2.2.2.2.2.2.2.2.1, q2.2.2.2.2.2.2.2.2)
def z1M (t : List zB) (at_ e K N : Int) (S : Str) (L : List zD) (From To : Int) : Option (Bool) :=
  wW 4 [125] t at_ e K N S L From To >>= fun q1 =>
  some (!q1)
def yE (zE : (List zD) → (List zB) → Int → Int → Int → Int → Str → (List zD) → Int → Int → Option (List zD × List zB × Int × Int × Int × Int × Str × List zD × Int × Int)) (out : List zD) (t : List zB) (at_ e K N : Int) (S : Str) (L : List zD) (From To : Int) : Option (List zD × List zB × Int × Int × Int × Int × Str × List zD × Int × Int) :=
  if e = 0 then
    z1M t at_ e K N S L From To >>= fun q1 =>
    if q1 = true then
      gB t at_ e K N S L From To >>= fun q2 =>
      if z2N 72 (List.length out + List.length [q2.1]) then
      zE (out ++ [q2.1]) q2.2.1 q2.2.2.1 q2.2.2.2.1 q2.2.2.2.2.1 q2.2.2.2.2.2.1 q2.2.2.2.2.2.2.1 q2.2.2.2.2.2.2.2.1 q2.2.2.2.2.2.2.2.2.1 q2.2.2.2.2.2.2.2.2.2
      else none
    else
    some (out, t, at_, e, K, N, S, L, From, To)
  else
  some (out, t, at_, e, K, N, S, L, From, To)
inductive wC where
  | zE (out : List zD) (t : List zB) (at_ e K N : Int) (S : Str) (L : List zD) (From To : Int)
@[reducible] def uG : wC → Type
  | .zE _ _ _ _ _ _ _ _ _ _ => List zD × List zB × Int × Int × Int × Int × Str × List zD × Int × Int
def wA (g : Fam uG) : Fam uG
  | .zE out t at_ e K N S L From To => yE (fun out t at_ e K N S L From To => g (wC.zE out t at_ e K N S L From To)) out t at_ e K N S L From To
theorem gQ : ∀ i, Good (fun g => wA g i)
  | .zE out t at_ e K N S L From To => by unfold wA yE; exact (.ite (.bind (.const _) fun _ => (.ite (.bind (.const _) fun _ => (.ite (.call _) (.const _))) (.const _))) (.const _))
def zE (out : List zD) (t : List zB) (at_ e K N : Int) (S : Str) (L : List zD) (From To : Int) : Option (List zD × List zB × Int × Int × Int × Int × Str × List zD × Int × Int) := z2Z wA (.zE out t at_ e K N S L From To)
theorem uB (out : List zD) (t : List zB) (at_ e K N : Int) (S : Str) (L : List zD) (From To : Int) : zE out t at_ e K N S L From To = yE zE out t at_ e K N S L From To := jP gQ (.zE out t at_ e K N S L From To)
def vV (t : List zB) (at_ e K N : Int) (S : Str) (L : List zD) (From To : Int) : Option (List zD × List zB × Int × Int × Int × Int × Str × List zD × Int × Int) :=
  gB t at_ e K N S L From To >>= fun q1 =>
  zE [q1.1] q1.2.1 q1.2.2.1 q1.2.2.2.1 q1.2.2.2.2.1 q1.2.2.2.2.2.1 q1.2.2.2.2.2.2.1 q1.2.2.2.2.2.2.2.1 q1.2.2.2.2.2.2.2.2.1 q1.2.2.2.2.2.2.2.2.2
def gI (t : List zB) (at_ e K N : Int) (S : Str) (L : List zD) (From To : Int) : Option (zD × List zB × Int × Int × Int × Int × Str × List zD × Int × Int) :=
  vO t (IntKind.wrap .i64 (at_ + 1)) e K N S L From To >>= fun q1 =>
  yK 4 [123] q1.2.1 q1.2.2.1 q1.2.2.2.1 q1.2.2.2.2.1 q1.2.2.2.2.2.1 q1.2.2.2.2.2.2.1 q1.2.2.2.2.2.2.2.1 q1.2.2.2.2.2.2.2.2.1 q1.2.2.2.2.2.2.2.2.2 >>= fun q2 =>
  vV q2.1 q2.2.1 q2.2.2.1 q2.2.2.2.1 q2.2.2.2.2.1 q2.2.2.2.2.2.1 q2.2.2.2.2.2.2.1 q2.2.2.2.2.2.2.2.1 q2.2.2.2.2.2.2.2.2 >>= fun q3 =>
  yK 4 [125] q3.2.1 q3.2.2.1 q3.2.2.2.1 q3.2.2.2.2.1 q3.2.2.2.2.2.1 q3.2.2.2.2.2.2.1 q3.2.2.2.2.2.2.2.1 q3.2.2.2.2.2.2.2.2.1 q3.2.2.2.2.2.2.2.2.2 >>= fun q4 =>
  yH 30 0 q1.1 at_ q3.1 q4.1 q4.2.1 q4.2.2.1 q4.2.2.2.1 q4.2.2.2.2.1 q4.2.2.2.2.2.1 q4.2.2.2.2.2.2.1 q4.2.2.2.2.2.2.2.1 q4.2.2.2.2.2.2.2.2 >>= fun q5 =>
  some (q5, q4.1, q4.2.1, q4.2.2.1, q4.2.2.2.1, q4.2.2.2.2.1, q4.2.2.2.2.2.1, q4.2.2.2.2.2.2.1, q4.2.2.2.2.2.2.2.1, q4.2.2.2.2.2.2.2.2)
def jV (t : List zB) (at_ e K N : Int) (S : Str) (L : List zD) (From To : Int) : Option (zD × List zB × Int × Int × Int × Int × Str × List zD × Int × Int) :=
  wW 3 [114, 101, 99] t at_ e K N S L From To >>= fun q1 =>
  if q1 = true then
    gI t at_ e K N S L From To >>= fun q2 =>
    some (q2.1, q2.2.1, q2.2.2.1, q2.2.2.2.1, q2.2.2.2.2.1, q2.2.2.2.2.2.1, q2.2.2.2.2.2.2.1, q2.2.2.2.2.2.2.2.1, q2.2.2.2.2.2.2.2.2.1, q2.2.2.2.2.2.2.2.2.2)
  else
  wW 3 [99, 111, 110, 115, 116] t at_ e K N S L From To >>= fun q3 =>
  if q3 = true then
    gH t at_ e K N S L From To >>= fun q4 =>
    some (q4.1, q4.2.1, q4.2.2.1, q4.2.2.2.1, q4.2.2.2.2.1, q4.2.2.2.2.2.1, q4.2.2.2.2.2.2.1, q4.2.2.2.2.2.2.2.1, q4.2.2.2.2.2.2.2.2.1, q4.2.2.2.2.2.2.2.2.2)
  else
  wW 3 [118, 97, 114] t at_ e K N S L From To >>= fun q5 =>
  if q5 = true then
    uN t at_ e K N S L From To >>= fun q6 =>
    some (q6.1, q6.2.1, q6.2.2.1, q6.2.2.2.1, q6.2.2.2.2.1, q6.2.2.2.2.2.1, q6.2.2.2.2.2.2.1, q6.2.2.2.2.2.2.2.1, q6.2.2.2.2.2.2.2.2.1, q6.2.2.2.2.2.2.2.2.2)
  else
  wW 3 [112, 117, 98] t at_ e K N S L From To >>= fun q7 =>
  if q7 = true then
    uI t at_ e K N S L From To >>= fun q8 =>
    some (q8.1, q8.2.1, q8.2.2.1, q8.2.2.2.1, q8.2.2.2.2.1, q8.2.2.2.2.2.1, q8.2.2.2.2.2.2.1, q8.2.2.2.2.2.2.2.1, q8.2.2.2.2.2.2.2.2.1, q8.2.2.2.2.2.2.2.2.2)
  else
  wW 3 [102, 110] t at_ e K N S L From To >>= fun q9 =>
  if q9 = true then
    uI t at_ e K N S L From To >>= fun q10 =>
    some (q10.1, q10.2.1, q10.2.2.1, q10.2.2.2.1, q10.2.2.2.2.1, q10.2.2.2.2.2.1, q10.2.2.2.2.2.2.1, q10.2.2.2.2.2.2.2.1, q10.2.2.2.2.2.2.2.2.1, q10.2.2.2.2.2.2.2.2.2)
  else
  some ((zD.mk 0 0 [] [] 0 0), t, at_, 6, K, N, S, L, From, To)
def gJ (yZ : zD → (List zB) → Int → Int → Int → Int → Str → (List zD) → Int → Int → Option (zD × Int × Int)) (o2 : zD) (t : List zB) (at_ e K N : Int) (S : Str) (L : List zD) (From To : Int) : Option (zD × Int × Int) :=
  idx t at_ >>= fun x =>
  if x.K = 5 then
    if (List.length L : Int) > 64 then
      some ((zD.mk 0 0 [] [] 0 0), 0, 11)
    else
    z2U (zD.mk K N S L From To) >>= fun q2 =>
    if q2 > 64 then
      some ((zD.mk 0 0 [] [] 0 0), 0, 7)
    else
    some ((zD.mk K N S L From To), 0, 0)
  else
  jV t at_ e K N S L From To >>= fun q1 =>
  if q1.2.2.2.1 = 0 then
    if z2N 72 (List.length q1.2.2.2.2.2.2.2.1 + List.length [q1.1]) then
    yZ o2 q1.2.1 q1.2.2.1 q1.2.2.2.1 q1.2.2.2.2.1 q1.2.2.2.2.2.1 q1.2.2.2.2.2.2.1 (q1.2.2.2.2.2.2.2.1 ++ [q1.1]) q1.2.2.2.2.2.2.2.2.1 q1.2.2.2.2.2.2.2.2.2
    else none
  else
  idx q1.2.1 q1.2.2.1 >>= fun x1 =>
  some ((zD.mk 0 0 [] [] 0 0), x1.From, q1.2.2.2.1)
inductive z3f where
  | yZ (o2 : zD) (t : List zB) (at_ e K N : Int) (S : Str) (L : List zD) (From To : Int)
@[reducible] def z4y : z3f → Type
  | .yZ _ _ _ _ _ _ _ _ _ _ => zD × Int × Int
def z3b (g : Fam z4y) : Fam z4y
  | .yZ o2 t at_ e K N S L From To => gJ (fun o2 t at_ e K N S L From To => g (z3f.yZ o2 t at_ e K N S L From To)) o2 t at_ e K N S L From To
theorem z6k : ∀ i, Good (fun g => z3b g i)
  | .yZ o2 t at_ e K N S L From To => by unfold z3b gJ; exact (.bind (.const _) fun _ => (.ite (.ite (.const _) (.bind (.const _) fun _ => (.ite (.const _) (.const _)))) (.bind (.const _) fun _ => (.ite (.ite (.call _) (.const _)) (.bind (.const _) fun _ => (.const _))))))
def yZ (o2 : zD) (t : List zB) (at_ e K N : Int) (S : Str) (L : List zD) (From To : Int) : Option (zD × Int × Int) := z2Z z3b (.yZ o2 t at_ e K N S L From To)
theorem z0X (o2 : zD) (t : List zB) (at_ e K N : Int) (S : Str) (L : List zD) (From To : Int) : yZ o2 t at_ e K N S L From To = gJ yZ o2 t at_ e K N S L From To := jP z6k (.yZ o2 t at_ e K N S L From To)
def z1z (text : Str) : Option (zD × Int × Int) :=
  z5x text >>= fun q1 =>
  if q1.2.2 = 0 then
    yZ (zD.mk 0 0 [] [] 0 0) q1.1 0 0 36 0 [] [] 0 (List.length text : Int)
  else
  some ((zD.mk 0 0 [] [] 0 0), q1.2.1, q1.2.2)
def z1N  : Option (Bool) :=
  z1z [118, 97, 114, 32, 97, 58, 32, 105, 110, 116, 59] >>= fun q1 =>
  if q1.2.2 = 0 then
    if q1.1.K = 36 then
      if (List.length q1.1.L : Int) = 1 then
        idx q1.1.L 0 >>= fun x =>
        some ((x.S == [97]))
      else
      some (false)
    else
    some (false)
  else
  some (false)
def z2o (vK : Int → zD → zD → Option (Bool)) (a b : zD) : Option (Bool) :=
  if a.K = b.K then
    if a.N = b.N then
      if a.S = b.S then
        if a.From = b.From then
          if a.To = b.To then
            if (List.length a.L : Int) = (List.length b.L : Int) then
              vK 0 a b
            else
            some (false)
          else
          some (false)
        else
        some (false)
      else
      some (false)
    else
    some (false)
  else
  some (false)
def z0B (wO : zD → zD → Option (Bool)) (vK : Int → zD → zD → Option (Bool)) (i : Int) (a b : zD) : Option (Bool) :=
  if i < (List.length a.L : Int) then
    idx a.L i >>= fun x =>
    idx b.L i >>= fun x1 =>
    wO x x1 >>= fun q1 =>
    if q1 = true then
      vK (IntKind.wrap .i64 (i + 1)) a b
    else
    some (false)
  else
  some (true)
inductive z1a where
  | wO (a b : zD)
  | vK (i : Int) (a b : zD)
@[reducible] def z5N : z1a → Type
  | .wO _ _ => Bool
  | .vK _ _ _ => Bool
def z2i (g : Fam z5N) : Fam z5N
  | .wO a b => z2o (fun i a b => g (z1a.vK i a b)) a b
  | .vK i a b => z0B (fun a b => g (z1a.wO a b)) (fun i a b => g (z1a.vK i a b)) i a b
theorem z5M : ∀ i, Good (fun g => z2i g i)
  | .wO a b => by unfold z2i z2o; exact (.ite (.ite (.ite (.ite (.ite (.ite (.call _) (.const _)) (.const _)) (.const _)) (.const _)) (.const _)) (.const _))
  | .vK i a b => by unfold z2i z0B; exact (.ite (.bind (.const _) fun _ => (.bind (.const _) fun _ => (.bind (.call _) fun _ => (.ite (.call _) (.const _))))) (.const _))
def wO (a b : zD) : Option (Bool) := z2Z z2i (.wO a b)
def vK (i : Int) (a b : zD) : Option (Bool) := z2Z z2i (.vK i a b)
theorem y2L (a b : zD) : wO a b = z2o vK a b := jP z5M (.wO a b)
theorem z5C (i : Int) (a b : zD) : vK i a b = z0B wO vK i a b := jP z5M (.vK i a b)
def z2T (vS : Int → (List zD) → Int → zD → zD → Option (zD)) (t : zD) (by_ : Int) : Option (zD) :=
  vS by_ ([] : List zD) 0 t (zD.mk 0 0 [] [] 0 0)
def z0K (uR : zD → Int → Option (zD)) (vS : Int → (List zD) → Int → zD → zD → Option (zD)) (by_ : Int) (out : List zD) (i : Int) (t o4 : zD) : Option (zD) :=
  if i < (List.length t.L : Int) then
    idx t.L i >>= fun x =>
    uR x by_ >>= fun q1 =>
    if z2N 72 (List.length out + List.length [q1]) then
    vS by_ (out ++ [q1]) (IntKind.wrap .i64 (i + 1)) t o4
    else none
  else
  some ((zD.mk t.K t.N t.S out (IntKind.wrap .i64 (t.From + by_)) (IntKind.wrap .i64 (t.To + by_))))
inductive z1C where
  | uR (t : zD) (by_ : Int)
  | vS (by_ : Int) (out : List zD) (i : Int) (t o4 : zD)
@[reducible] def z6o : z1C → Type
  | .uR _ _ => zD
  | .vS _ _ _ _ _ => zD
def z2O (g : Fam z6o) : Fam z6o
  | .uR t by_ => z2T (fun by_ out i t o4 => g (z1C.vS by_ out i t o4)) t by_
  | .vS by_ out i t o4 => z0K (fun t by_ => g (z1C.uR t by_)) (fun by_ out i t o4 => g (z1C.vS by_ out i t o4)) by_ out i t o4
theorem z6j : ∀ i, Good (fun g => z2O g i)
  | .uR t by_ => by unfold z2O z2T; exact (.call _)
  | .vS by_ out i t o4 => by unfold z2O z0K; exact (.ite (.bind (.const _) fun _ => (.bind (.call _) fun _ => (.ite (.call _) (.const _)))) (.const _))
def uR (t : zD) (by_ : Int) : Option (zD) := z2Z z2O (.uR t by_)
def vS (by_ : Int) (out : List zD) (i : Int) (t o4 : zD) : Option (zD) := z2Z z2O (.vS by_ out i t o4)
theorem y3O (t : zD) (by_ : Int) : uR t by_ = z2T vS t by_ := jP z6j (.uR t by_)
theorem z6b (by_ : Int) (out : List zD) (i : Int) (t o4 : zD) : vS by_ out i t o4 = z0K uR vS by_ out i t o4 := jP z6j (.vS by_ out i t o4)
def gD (yI : Str → Int → zD → zD → zD → Option (Bool)) (a : Str) (i : Int) (x y z : zD) : Option (Bool) :=
  if i < (List.length z.L : Int) then
    if i < (List.length x.L : Int) then
      idx z.L i >>= fun x1 =>
      idx x.L i >>= fun x2 =>
      wO x1 x2 >>= fun q1 =>
      if q1 = true then
        if i ≥ (List.length x.L : Int) then
          idx z.L i >>= fun x3 =>
          idx y.L (IntKind.wrap .i64 (i - (List.length x.L : Int))) >>= fun x4 =>
          uR x4 (IntKind.wrap .i64 ((List.length a : Int) + 1)) >>= fun q2 =>
          wO x3 q2 >>= fun q3 =>
          if q3 = true then
            yI a (IntKind.wrap .i64 (i + 1)) x y z
          else
          some (false)
        else
        yI a (IntKind.wrap .i64 (i + 1)) x y z
      else
      some (false)
    else
    if i ≥ (List.length x.L : Int) then
      idx z.L i >>= fun x5 =>
      idx y.L (IntKind.wrap .i64 (i - (List.length x.L : Int))) >>= fun x6 =>
      uR x6 (IntKind.wrap .i64 ((List.length a : Int) + 1)) >>= fun q4 =>
      wO x5 q4 >>= fun q5 =>
      if q5 = true then
        yI a (IntKind.wrap .i64 (i + 1)) x y z
      else
      some (false)
    else
    yI a (IntKind.wrap .i64 (i + 1)) x y z
  else
  z1N >>= fun q6 =>
  some (q6)
inductive z1p where
  | yI (a : Str) (i : Int) (x y z : zD)
@[reducible] def z2s : z1p → Type
  | .yI _ _ _ _ _ => Bool
def z1n (g : Fam z2s) : Fam z2s
  | .yI a i x y z => gD (fun a i x y z => g (z1p.yI a i x y z)) a i x y z
theorem z4j : ∀ i, Good (fun g => z1n g i)
  | .yI a i x y z => by unfold z1n gD; exact (.ite (.ite (.bind (.const _) fun _ => (.bind (.const _) fun _ => (.bind (.const _) fun _ => (.ite (.ite (.bind (.const _) fun _ => (.bind (.const _) fun _ => (.bind (.const _) fun _ => (.bind (.const _) fun _ => (.ite (.call _) (.const _)))))) (.call _)) (.const _))))) (.ite (.bind (.const _) fun _ => (.bind (.const _) fun _ => (.bind (.const _) fun _ => (.bind (.const _) fun _ => (.ite (.call _) (.const _)))))) (.call _))) (.bind (.const _) fun _ => (.const _)))
def yI (a : Str) (i : Int) (x y z : zD) : Option (Bool) := z2Z z1n (.yI a i x y z)
theorem z3Z (a : Str) (i : Int) (x y z : zD) : yI a i x y z = gD yI a i x y z := jP z4j (.yI a i x y z)
def z3O (a b : Str) : Option (Bool) :=
  if (List.length a : Int) > 1000 then
    z1N >>= fun q1 =>
    some (q1)
  else
  if (List.length b : Int) > 1000 then
    z1N >>= fun q2 =>
    some (q2)
  else
  z1z a >>= fun q3 =>
  z1z b >>= fun q4 =>
  if q3.2.2 = 0 then
    if q4.2.2 = 0 then
      if (IntKind.wrap .i64 ((List.length q3.1.L : Int) + (List.length q4.1.L : Int))) > 64 then
        z1N >>= fun q7 =>
        some (q7)
      else
      if List.length a + List.length ([10] : List UInt8) ≤ 9223372036854775807 then
      if List.length (a ++ [10]) + List.length b ≤ 9223372036854775807 then
      z1z ((a ++ [10]) ++ b) >>= fun q8 =>
      if q8.2.2 = 0 then
        if (List.length q8.1.L : Int) = IntKind.wrap .i64 ((List.length q3.1.L : Int) + (List.length q4.1.L : Int)) then
          if q8.1.To = (List.length ((a ++ [10]) ++ b) : Int) then
            yI a 0 q3.1 q4.1 q8.1
          else
          some (false)
        else
        some (false)
      else
      some (false)
      else none
      else none
    else
    z1N >>= fun q6 =>
    some (q6)
  else
  z1N >>= fun q5 =>
  some (q5)
def y3N (gZ : Int → Int → zD → Option (Bool)) (t : zD) : Option (Bool) :=
  gZ t.From 0 t
def y1i (z2M : zD → Option (Bool)) (gZ : Int → Int → zD → Option (Bool)) (at_ i : Int) (t : zD) : Option (Bool) :=
  if i < (List.length t.L : Int) then
    idx t.L i >>= fun x =>
    if x.From < at_ then
      some (false)
    else
    idx t.L i >>= fun x1 =>
    if x1.To > t.To then
      some (false)
    else
    idx t.L i >>= fun x2 =>
    idx t.L i >>= fun x3 =>
    if x2.To < x3.From then
      some (false)
    else
    idx t.L i >>= fun x4 =>
    z2M x4 >>= fun q1 =>
    if q1 = true then
      idx t.L i >>= fun x5 =>
      gZ x5.To (IntKind.wrap .i64 (i + 1)) t
    else
    some (false)
  else
  some (true)
inductive z4q where
  | z2M (t : zD)
  | gZ (at_ i : Int) (t : zD)
@[reducible] def z8k : z4q → Type
  | .z2M _ => Bool
  | .gZ _ _ _ => Bool
def z8g (g : Fam z8k) : Fam z8k
  | .z2M t => y3N (fun at_ i t => g (z4q.gZ at_ i t)) t
  | .gZ at_ i t => y1i (fun t => g (z4q.z2M t)) (fun at_ i t => g (z4q.gZ at_ i t)) at_ i t
def z2M (t : zD) : Option (Bool) := z2Z z8g (.z2M t)
def gZ (at_ i : Int) (t : zD) : Option (Bool) := z2Z z8g (.gZ at_ i t)
end
end Go.Proofs.Ytelddjedpmfclaa.M

