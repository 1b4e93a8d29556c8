/- Whether a text may be a label's name: the program's and the document's answer. -/
import Derived.Test.YtakfnojiaakfpaaGreatDoorNameL
import Derived.Test.YtakfnojiaakfpaaGreatDoorNameR
