/- Of each function of the program: the predicate that its translated code denotes, printed by wip/gen.py and checked by the kernel. Conditions: none. -/
import Derived.Test.YtplfoedgekdjgaaDoorGf0
import Derived.Test.YtplfoedgekdjgaaDoorGf1
import Derived.Test.YtplfoedgekdjgaaDoorGf2
import Derived.Test.YtplfoedgekdjgaaDoorGf3
